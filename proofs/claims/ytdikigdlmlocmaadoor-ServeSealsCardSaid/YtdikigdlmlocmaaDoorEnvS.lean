/- The errors that a member's hold can answer, out of a row's list of variables. -/
import Derived.Test.YtdikigdlmlocmaaDoorEnv
import Derived.Test.YtdikigdlmlocmaaDoorSvC
namespace Go.Proofs.YtdikigdlmlocmaaDoor
open Go.RowKit

def errRow (i : Nat) : String × DataW Unit := ((errTexts[i]?.getD ("", [])).1, sent (errText i))
theorem errs_of_laid {W : World} {l : List (String × DataW Unit)} (hsub : ∀ i, i = 1 ∨ i = 3 ∨ i = 5 ∨ i = 6 ∨ i = 9 → errRow i ∈ l) (h : laidMetH Tryd.prog l W) : ∃ E, ErrS W E := by
  have one : ∀ i, (i = 1 ∨ i = 3 ∨ i = 5 ∨ i = 6 ∨ i = 9) → ∃ a, ErrIs W (errGlob.getD i 0) (errText i) a := fun i hi => by
    have hok := List.all_eq_true.1 errGlob_ok i (List.mem_range.2 (by omega))
    simp only [Bool.and_eq_true, beq_iff_eq] at hok
    exact err_of_laid h (n := (errTexts[i]?.getD ("", [])).1) (hsub i hi) hok.1 hok.2
  refine ⟨fun i => if hi : i = 1 ∨ i = 3 ∨ i = 5 ∨ i = 6 ∨ i = 9 then Classical.choose (one i hi) else default, ?_⟩
  have sp : ∀ i (hi : i = 1 ∨ i = 3 ∨ i = 5 ∨ i = 6 ∨ i = 9), ErrIs W (errGlob.getD i 0) (errText i) (if hi : i = 1 ∨ i = 3 ∨ i = 5 ∨ i = 6 ∨ i = 9 then Classical.choose (one i hi) else default) := fun i hi => by
    rw [dif_pos hi]; exact Classical.choose_spec (one i hi)
  exact ⟨⟨(sp 1 (by decide)).cell, (sp 3 (by decide)).cell, (sp 5 (by decide)).cell, (sp 6 (by decide)).cell, (sp 9 (by decide)).cell⟩, fun k hk => (sp k hk).block, fun i hi => (sp i (by omega)).ne' (sp 9 (by decide)) (errText_ne i (by omega) 9 (by decide) (by omega))⟩
end Go.Proofs.YtdikigdlmlocmaaDoor
