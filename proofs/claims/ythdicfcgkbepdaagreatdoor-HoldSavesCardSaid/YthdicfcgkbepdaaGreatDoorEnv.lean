/- From a row's whole list of variables to the world that a walk wants: the twelve errors and the handle of the type error. -/
import Derived.Test.YthdicfcgkbepdaaGreatDoorCode
namespace Go.Proofs.YthdicfcgkbepdaaGreatDoor
open Go.RowKit

theorem et_global : Tryz.prog.globalNamed "errors.errorType" = some 12 := by kernel_rfl
theorem et_rt : (Tryz.prog.cutTypes.find? (·.1 == "internal/reflectlite.rtype")).map (·.2) = some 151 := by kernel_rfl
theorem et_oneRow : ((List.range Tryz.prog.types.size).filter fun t => Tryz.prog.rowNamed t [101, 114, 114, 111, 114]) = [25] := by kernel_rfl
theorem et_handle : typeHandle Tryz.prog 25 = .pointer (some ⟨19, 25, none⟩) := by kernel_rfl

def errT : DataW Unit := .iface "internal/reflectlite.rtype" (.agg [.ptr (.lit (.string [101, 114, 114, 111, 114]))])
theorem handle_of_laid {l : List (String × DataW Unit)} {W : World} (h : laidMetH Tryz.prog l W) (hm : ("errors.errorType", errT) ∈ l) :
    W.cell? ⟨12, 0, none⟩ = some (.iface 151 (.agg #[.pointer (some ⟨19, 25, none⟩)])) := by
  have hf : ("errors.errorType", errT) ∈ l.filter fun x => x.2.handleName?.isSome := List.mem_filter.2 ⟨hm, rfl⟩
  unfold laidMetH at h
  generalize (l.filter fun x => x.2.handleName?.isSome) = fl at h hf
  match fl, h, hf with
  | x :: xs, h, hf =>
    obtain ⟨name, u, ty, e1, e2, e3, e4, e5⟩ := h.2 _ hf
    have en : name = [101, 114, 114, 111, 114] := (Option.some.inj e1).symm
    subst en
    obtain rfl := Option.some.inj (et_rt.symm.trans e2)
    have hm : ty ∈ (List.range Tryz.prog.types.size).filter fun t => Tryz.prog.rowNamed t [101, 114, 114, 111, 114] := List.mem_filter.2 ⟨List.mem_range.2 e3, e4⟩
    rw [et_oneRow] at hm
    obtain rfl := List.mem_singleton.1 hm
    rw [et_handle] at e5
    simpa using World.var?_cell et_global e5 0

/-- the texts of the errors, in the order of their numbers. -/
def errTexts : List (String × List UInt8) := [
  ("shardkeep/api.ErrText", [115, 104, 97, 114, 100, 107, 101, 101, 112, 58, 32, 116, 101, 120, 116]),
  ("shardkeep/api.ErrBound", [115, 104, 97, 114, 100, 107, 101, 101, 112, 58, 32, 98, 111, 117, 110, 100]),
  ("shardkeep/api.ErrShape", [115, 104, 97, 114, 100, 107, 101, 101, 112, 58, 32, 115, 104, 97, 112, 101]),
  ("shardkeep/api.ErrName", [115, 104, 97, 114, 100, 107, 101, 101, 112, 58, 32, 110, 97, 109, 101]),
  ("shardkeep/api.ErrNone", [115, 104, 97, 114, 100, 107, 101, 101, 112, 58, 32, 110, 111, 110, 101]),
  ("shardkeep/api.ErrExist", [115, 104, 97, 114, 100, 107, 101, 101, 112, 58, 32, 101, 120, 105, 115, 116]),
  ("shardkeep/api.ErrFull", [115, 104, 97, 114, 100, 107, 101, 101, 112, 58, 32, 102, 117, 108, 108]),
  ("shardkeep/api.ErrFew", [115, 104, 97, 114, 100, 107, 101, 101, 112, 58, 32, 102, 101, 119]),
  ("shardkeep/api.ErrSum", [115, 104, 97, 114, 100, 107, 101, 101, 112, 58, 32, 115, 117, 109]),
  ("shardkeep/api.ErrOld", [115, 104, 97, 114, 100, 107, 101, 101, 112, 58, 32, 111, 108, 100]),
  ("shardkeep/api.ErrHeld", [115, 104, 97, 114, 100, 107, 101, 101, 112, 58, 32, 104, 101, 108, 100]),
  ("shardkeep/api.ErrZero", [115, 104, 97, 114, 100, 107, 101, 101, 112, 58, 32, 122, 101, 114, 111])]
def errText (i : Nat) : List UInt8 := (errTexts[i]?.getD ("", [])).2
def errGlob : List Nat := [0, 3, 7, 2, 8, 4, 5, 9, 6, 1, 10, 11]
theorem errText_ne : ∀ i, i < 12 → ∀ j, j < 12 → i ≠ j → errText i ≠ errText j := by decide
theorem errGlob_ok : (List.range 12).all (fun i => Tryz.prog.globalNamed (errTexts[i]?.getD ("", [])).1 == some (errGlob.getD i 0) && (Tryz.prog.globals[errGlob.getD i 0]?).map (·.type) == some 25) = true := by kernel_rfl
/-- the list as a row gives it. -/
def fullLaid : List (String × DataW Unit) := ("errors.errorType", errT) :: errTexts.map fun x => (x.1, sent x.2)

theorem env_of_drop {W : World} {l : List (String × DataW Unit)} (k : Nat) (hk : l.drop k = fullLaid) (h : laidMetH Tryz.prog l W) : ∃ E, ErrEnv W E := by
  have hsub : ∀ x ∈ fullLaid, x ∈ l := fun x hx => List.mem_of_mem_drop (by rw [hk]; exact hx)
  have one : ∀ i, i < 12 → ∃ a, ErrIs W (errGlob.getD i 0) (errText i) a := fun i hi => by
    have hok := List.all_eq_true.1 errGlob_ok i (List.mem_range.2 hi)
    simp only [Bool.and_eq_true, beq_iff_eq] at hok
    refine err_of_laid h (n := (errTexts[i]?.getD ("", [])).1) ?_ hok.1 hok.2
    refine hsub _ (List.mem_cons_of_mem _ (List.mem_map.2 ⟨errTexts[i]?.getD ("", []), ?_, rfl⟩))
    have hl : i < errTexts.length := hi
    rw [List.getElem?_eq_getElem hl]
    exact List.getElem_mem hl
  refine ⟨fun i => if hi : i < 12 then Classical.choose (one i hi) else default, ?_⟩
  have sp : ∀ i (hi : i < 12), ErrIs W (errGlob.getD i 0) (errText i) (if hi : i < 12 then Classical.choose (one i hi) else default) := fun i hi => by
    rw [dif_pos hi]; exact Classical.choose_spec (one i hi)
  exact ⟨(sp 0 (by decide)).cell, (sp 1 (by decide)).cell, (sp 2 (by decide)).cell, (sp 3 (by decide)).cell, (sp 4 (by decide)).cell, (sp 5 (by decide)).cell, (sp 6 (by decide)).cell, (sp 7 (by decide)).cell, (sp 8 (by decide)).cell, (sp 9 (by decide)).cell, (sp 10 (by decide)).cell, (sp 11 (by decide)).cell,
    handle_of_laid h (hsub _ (List.mem_cons_self)), fun k hk => (sp k hk).block, fun i j hi hj hij => (sp i hi).ne' (sp j hj) (errText_ne i hi j hj hij)⟩
theorem env_of_laid {W : World} (h : laidMetH Tryz.prog fullLaid W) : ∃ E, ErrEnv W E := env_of_drop 0 rfl h
end Go.Proofs.YthdicfcgkbepdaaGreatDoor
