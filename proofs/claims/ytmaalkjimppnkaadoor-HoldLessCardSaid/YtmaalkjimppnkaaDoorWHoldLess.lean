/- The walk of the law HoldLess. -/
import Derived.Test.YtmaalkjimppnkaaDoorHlF
import Derived.Test.YtmaalkjimppnkaaDoorCfg
import Derived.Test.YtmaalkjimppnkaaDoorEnv
import Derived.Lib.QuietBelow
import Derived.BigQuiet
namespace Go.Proofs.YtmaalkjimppnkaaDoor.holdLess
open Go.RowKit Go.BigFrame

theorem errs_of_laid {W : World} (h : laidMetH Tryd.prog Rows.holdLessRow.laid W) : ∃ E, ErrHx W E := by
  obtain ⟨a1, h1⟩ := err_of_laid h (n := "shardkeep/api.ErrBound") (g := 6) (text := errText 1) (List.mem_cons_self) (by kernel_rfl) (by kernel_rfl)
  obtain ⟨a3, h3⟩ := err_of_laid h (n := "shardkeep/api.ErrName") (g := 3) (text := errText 3) (List.mem_cons_of_mem _ List.mem_cons_self) (by kernel_rfl) (by kernel_rfl)
  obtain ⟨a5, h5⟩ := err_of_laid h (n := "shardkeep/api.ErrExist") (g := 7) (text := errText 5) (List.mem_cons_of_mem _ (List.mem_cons_of_mem _ List.mem_cons_self)) (by kernel_rfl) (by kernel_rfl)
  obtain ⟨a6, h6⟩ := err_of_laid h (n := "shardkeep/api.ErrFull") (g := 1) (text := errText 6) (List.mem_cons_of_mem _ (List.mem_cons_of_mem _ (List.mem_cons_of_mem _ List.mem_cons_self))) (by kernel_rfl) (by kernel_rfl)
  obtain ⟨a9, h9⟩ := err_of_laid h (n := "shardkeep/api.ErrOld") (g := 4) (text := errText 9) (List.mem_cons_of_mem _ (List.mem_cons_of_mem _ (List.mem_cons_of_mem _ (List.mem_cons_of_mem _ List.mem_cons_self)))) (by kernel_rfl) (by kernel_rfl)
  exact ⟨fun i => if i = 1 then a1 else if i = 3 then a3 else if i = 5 then a5 else if i = 6 then a6 else a9, ⟨h1.cell, h3.cell, h5.cell, h6.cell, h9.cell⟩⟩
set_option maxRecDepth 100000 in
set_option maxHeartbeats 16000000 in
theorem walk (n1 w1 n2 w2 : Int) (w : World) (_h1 : TagIn n1 w1) (_h2 : TagIn n2 w2) (hL : laidMetH Tryd.prog Rows.holdLessRow.laid w) :
    Calls Tryd.prog 4 #[.agg #[.int .i64 n1, .int .i64 w1], .agg #[.int .i64 n2, .int .i64 w2]] w fun e w' => e = .returned (.bool true) ∧ Below w.heap.size w w' := by
  have hB : Below w.heap.size w ((w.alloc (.cells #[.int .i64 n1, .int .i64 w1] 38)).alloc (.cells #[.int .i64 n2, .int .i64 w2] 38)) := ((Below.refl _ w).alloc (Nat.le_refl _) _).alloc (by simp) _
  obtain ⟨E, hE⟩ := errs_of_laid hL
  have hh := Lib.hid (holds_walk ((w.alloc (.cells #[.int .i64 n1, .int .i64 w1] 38)).alloc (.cells #[.int .i64 n2, .int .i64 w2] 38)) E (hE.below hB (Nat.le_refl _)))
  have HB := Lib.hid hB
  have x0 : ((w.alloc (.cells #[.int .i64 n1, .int .i64 w1] 38)).alloc (.cells #[.int .i64 n2, .int .i64 w2] 38)).cell? ⟨w.heap.size, 0, none⟩ = some (.int .i64 n1) := by simp
  have x1 : ((w.alloc (.cells #[.int .i64 n1, .int .i64 w1] 38)).alloc (.cells #[.int .i64 n2, .int .i64 w2] 38)).cell? ⟨w.heap.size, 1, none⟩ = some (.int .i64 w1) := by simp
  have y0 : ((w.alloc (.cells #[.int .i64 n1, .int .i64 w1] 38)).alloc (.cells #[.int .i64 n2, .int .i64 w2] 38)).cell? ⟨w.heap.size + 1, 0, none⟩ = some (.int .i64 n2) := by simp
  have y1 : ((w.alloc (.cells #[.int .i64 n1, .int .i64 w1] 38)).alloc (.cells #[.int .i64 n2, .int .i64 w2] 38)).cell? ⟨w.heap.size + 1, 1, none⟩ = some (.int .i64 w2) := by simp
  have HX := Lib.hid (And.intro x0 (And.intro x1 (And.intro y0 y1)))
  clear hB x0 x1 y0 y1 hL hE
  go_enter Tryd.func4, Tryd.ntmps4
  go_wp2_with fail
  refine hh.out.mono ?_
  rintro e w3 ⟨rfl, hb3⟩
  have c0 := (hb3.cell (lt_of_cell HX.out.1)).trans HX.out.1
  have c1 := (hb3.cell (lt_of_cell HX.out.2.1)).trans HX.out.2.1
  have d0 := (hb3.cell (lt_of_cell HX.out.2.2.1)).trans HX.out.2.2.1
  have d1 := (hb3.cell (lt_of_cell HX.out.2.2.2)).trans HX.out.2.2.2
  have H3 := Lib.hid (HB.out.trans (hb3.mono HB.out.size))
  clear hb3
  go_wp2
  obtain ⟨b, hb⟩ : ∃ b, w.heap.size = b := ⟨_, rfl⟩
  rw [hb] at c0 c1 d0 d1 ⊢
  have Hb := Lib.hid hb
  clear hb
  have k0 := cell_regrown c0
  have k1 := cell_regrown c1
  have k2 := cell_regrown d0
  have k3 := cell_regrown d1
  by_cases hab : n1 = n2 ∧ w1 = w2
  case' pos =>
    obtain ⟨rfl, rfl⟩ := hab
    have L1 : ∀ d os, Calls Tryd.prog 20 #[.agg #[.int .i64 n1, .int .i64 w1], .agg #[.int .i64 n1, .int .i64 w1]] (Go.Sort.grow (redrawn w3 d) os) fun e w'' => e = .returned (.bool false) ∧ ∃ p : Regrown, w'' = Go.Sort.grow (redrawn w3 p.d) p.os := fun d os => Calls.regrown_of (by
      have h := less_walk n1 w1 n1 w1 (Go.Sort.grow (redrawn w3 d) os)
      rw [show tagLt n1 w1 n1 w1 = false from decide_eq_false (by omega)] at h
      exact h)
    have L2 : ∀ d os, Calls Tryd.prog 21 #[.agg #[.int .i64 n1, .int .i64 w1], .agg #[.int .i64 n1, .int .i64 w1]] (Go.Sort.grow (redrawn w3 d) os) fun e w'' => e = .returned (.bool false) ∧ ∃ p : Regrown, w'' = Go.Sort.grow (redrawn w3 p.d) p.os := fun d os => Calls.regrown_of (by
      have h := rless_walk n1 w1 n1 w1 (Go.Sort.grow (redrawn w3 d) os)
      rw [show tagLt n1 w1 n1 w1 = false from decide_eq_false (by omega)] at h
      exact h)
    refine wp_region_quiet_below (by kernel_rfl) (by kernel_rfl) ?_
    repeat (go_big_quiet_step (first | exact L1 _ _ | exact L2 _ _))
  case' neg =>
    have hcs : ((n1 == n2) = false ∧ tagLt n1 w1 n2 w2 = true ∧ tagLt n2 w2 n1 w1 = false) ∨ ((n1 == n2) = false ∧ tagLt n1 w1 n2 w2 = false ∧ tagLt n2 w2 n1 w1 = true) ∨
        (n1 = n2 ∧ (w1 == w2) = false ∧ tagLt n1 w1 n2 w2 = true ∧ tagLt n2 w2 n1 w1 = false) ∨ (n1 = n2 ∧ (w1 == w2) = false ∧ tagLt n1 w1 n2 w2 = false ∧ tagLt n2 w2 n1 w1 = true) := by
      unfold tagLt
      by_cases h0 : n1 = n2
      · by_cases h : n1 < n2 ∨ (n1 = n2 ∧ w1 < w2)
        · exact .inr (.inr (.inl ⟨h0, beq_eq_false_iff_ne.2 (by omega), decide_eq_true h, decide_eq_false (by omega)⟩))
        · exact .inr (.inr (.inr ⟨h0, beq_eq_false_iff_ne.2 (by omega), decide_eq_false h, decide_eq_true (by omega)⟩))
      · by_cases h : n1 < n2 ∨ (n1 = n2 ∧ w1 < w2)
        · exact .inl ⟨beq_eq_false_iff_ne.2 h0, decide_eq_true h, decide_eq_false (by omega)⟩
        · exact .inr (.inl ⟨beq_eq_false_iff_ne.2 h0, decide_eq_false h, decide_eq_true (by omega)⟩)
    have LS : ∀ d os, Calls Tryd.prog 20 #[.agg #[.int .i64 n1, .int .i64 w1], .agg #[.int .i64 n1, .int .i64 w1]] (Go.Sort.grow (redrawn w3 d) os) fun e w'' => e = .returned (.bool false) ∧ ∃ p : Regrown, w'' = Go.Sort.grow (redrawn w3 p.d) p.os := fun d os => Calls.regrown_of (by
      have h := less_walk n1 w1 n1 w1 (Go.Sort.grow (redrawn w3 d) os)
      rw [show tagLt n1 w1 n1 w1 = false from decide_eq_false (by omega)] at h
      exact h)
    have LA := fun d os => Calls.regrown_of (less_walk n1 w1 n2 w2 (Go.Sort.grow (redrawn w3 d) os))
    have LM := fun d os => Calls.regrown_of (rless_walk n1 w1 n2 w2 (Go.Sort.grow (redrawn w3 d) os))
    have LB := fun d os => Calls.regrown_of (less_walk n2 w2 n1 w1 (Go.Sort.grow (redrawn w3 d) os))
    rcases hcs with ⟨e1, h1, h2⟩ | ⟨e1, h1, h2⟩ | ⟨rfl, e1, h1, h2⟩ | ⟨rfl, e1, h1, h2⟩
  case' neg.inl =>
    rw [h1] at LA LM
    rw [h2] at LB
    clear hab h1 h2
    refine wp_region_quiet_below (by kernel_rfl) (by kernel_rfl) ?_
    repeat (go_big_quiet_step (first | exact LA _ _ | exact LM _ _ | exact LS _ _ | exact LB _ _))
  case' neg.inr.inl =>
    rw [h1] at LA LM
    rw [h2] at LB
    clear hab h1 h2
    refine wp_region_quiet_below (by kernel_rfl) (by kernel_rfl) ?_
    repeat (go_big_quiet_step (first | exact LA _ _ | exact LM _ _ | exact LS _ _ | exact LB _ _))
  case' neg.inr.inr.inl =>
    rw [h1] at LA LM
    rw [h2] at LB
    clear hab h1 h2
    refine wp_region_quiet_below (by kernel_rfl) (by kernel_rfl) ?_
    repeat (go_big_quiet_step (first | exact LA _ _ | exact LM _ _ | exact LS _ _ | exact LB _ _))
  case' neg.inr.inr.inr =>
    rw [h1] at LA LM
    rw [h2] at LB
    clear hab h1 h2
    refine wp_region_quiet_below (by kernel_rfl) (by kernel_rfl) ?_
    repeat (go_big_quiet_step (first | exact LA _ _ | exact LM _ _ | exact LS _ _ | exact LB _ _))
  all_goals
    refine wpQuiet_nil ?_
    intro _ hw'
    obtain ⟨⟨dq, osq⟩, hw''⟩ := hw'
    subst hw''
    go_wp2
    go_ret
    exact ⟨rfl, H3.out.trans ((below_regrown w3 dq osq).mono H3.out.size)⟩
end Go.Proofs.YtmaalkjimppnkaaDoor.holdLess
