/- The walks of shardkeeplaw2's faulted and coded. -/
import Derived.Test.YtpjbecmedidfgaaGreatDoorFlt
namespace Go.Proofs.YtpjbecmedidfgaaGreatDoor
open Go.RowKit

set_option maxRecDepth 100000 in
set_option maxHeartbeats 1000000 in
theorem faulted2_walk (E : Nat → Addr) (f g : Nat × Int) (v : Value) (r : Bool) (w : World) (hE : ErrEnv w E) (h : FltV w E f v) (hr : r = decide (f.1 = g.1 ∧ (f.1 = 0 ∨ f.2 = g.2))) :
    Calls Tryz.prog 26 #[v, .agg #[.int .i64 (g.1 : Nat), .int .i64 g.2]] w fun e w' => e = .returned (.bool r) ∧ Below w.heap.size w w' := by
  obtain ⟨c, at'⟩ := f
  obtain ⟨d, bt⟩ := g
  simp only at hr
  have hB0 : Below w.heap.size w (w.alloc (.cells #[.int .i64 (d : Nat), .int .i64 bt] 66)) := (Below.refl _ w).alloc (Nat.le_refl _) _
  have Hc := Lib.hid (code_flt (hE.below hB0 (Nat.le_refl _)) (h.below hB0 (Nat.le_refl _)))
  have Hb := Lib.hid hB0
  have z0 : (w.alloc (.cells #[.int .i64 (d : Nat), .int .i64 bt] 66)).cell? ⟨w.heap.size, 0, none⟩ = some (.int .i64 (d : Nat)) := by simp
  have z1 : (w.alloc (.cells #[.int .i64 (d : Nat), .int .i64 bt] 66)).cell? ⟨w.heap.size, 1, none⟩ = some (.int .i64 bt) := by simp
  have hz : w.heap.size < (w.alloc (.cells #[.int .i64 (d : Nat), .int .i64 bt] 66)).heap.size := by simp
  have Hz := Lib.hid (And.intro z0 (And.intro z1 hz))
  clear hE h hB0 z0 z1 hz
  have hcs : (c ≠ d ∧ r = false) ∨ (c = d ∧ c = 0 ∧ r = true) ∨ (c = d ∧ c ≠ 0 ∧ at' = bt ∧ r = true) ∨ (c = d ∧ c ≠ 0 ∧ at' ≠ bt ∧ r = false) := by
    rw [hr]
    by_cases h1 : c = d
    · by_cases h2 : c = 0
      · exact .inr (.inl ⟨h1, h2, decide_eq_true ⟨h1, .inl h2⟩⟩)
      · by_cases h3 : at' = bt
        · exact .inr (.inr (.inl ⟨h1, h2, h3, decide_eq_true ⟨h1, .inr h3⟩⟩))
        · exact .inr (.inr (.inr ⟨h1, h2, h3, decide_eq_false (fun ⟨_, h⟩ => h.elim h2 h3)⟩))
    · exact .inl ⟨h1, decide_eq_false (fun ⟨h, _⟩ => h1 h)⟩
  clear hr
  rcases hcs with ⟨h1, rfl⟩ | ⟨rfl, rfl, rfl⟩ | ⟨rfl, h2, rfl, rfl⟩ | ⟨rfl, h2, h3, rfl⟩
  case' inl =>
    have e1 : ((c : Int) == (d : Int)) = false := beq_eq_false_iff_ne.2 (by omega)
    have e1b : decide (c = d) = false := by simpa using h1
    have e1c : (c == d) = false := by simpa using h1
  case' inr.inr.inl =>
    have e2 : ((c : Int) == 0) = false := beq_eq_false_iff_ne.2 (by omega)
    have e2b : (c == 0) = false := by simpa using h2
  case' inr.inr.inr =>
    have e2 : ((c : Int) == 0) = false := beq_eq_false_iff_ne.2 (by omega)
    have e2b : (c == 0) = false := by simpa using h2
    have e3 : (at' == bt) = false := by simpa using h3
  all_goals
    try clear h1
    try clear h2
    try clear h3
    go_enter Tryz.func26, Tryz.ntmps26
    go_wp2_with fail
    refine Hc.out.mono ?_
    rintro e w1 ⟨rfl, hb1⟩
    have k0 := (hb1.cell (p := ⟨w.heap.size, 0, none⟩) Hz.out.2.2).trans Hz.out.1
    have k1 := (hb1.cell (p := ⟨w.heap.size, 1, none⟩) Hz.out.2.2).trans Hz.out.2.1
    have HB := Lib.hid (Hb.out.trans (hb1.mono Hb.out.size))
    clear hb1
    go_wp2
    go_ret
    exact ⟨rfl, HB.out⟩
set_option maxHeartbeats 1000000 in
theorem coded2_nil (c : Int) (w : World) :
    Calls Tryz.prog 9 #[.nilIface, .int .i64 c] w fun e w' => e = .returned (.bool (decide (c = 0))) ∧ w = w' := by
  by_cases hc : c = 0
  · subst hc
    go_enter Tryz.func9, Tryz.ntmps9
    go_wp2_with fail
    refine (code_nil _).mono ?_
    rintro e w' ⟨rfl, rfl⟩
    go_wp2
    go_ret
    exact ⟨rfl, rfl⟩
  · have h0 : ((0 : Int) == c) = false := by simp; omega
    go_enter Tryz.func9, Tryz.ntmps9
    go_wp2_with fail
    refine (code_nil _).mono ?_
    rintro e w' ⟨rfl, rfl⟩
    go_wp2
    go_ret
    exact ⟨by simp [hc], rfl⟩
set_option maxHeartbeats 1000000 in
theorem coded2_err (E : Nat → Addr) (i : Nat) (hi : i < 12) (c : Int) (w : World) (hE : ErrEnv w E) :
    Calls Tryz.prog 9 #[errV (E i), .int .i64 c] w fun e w' => e = .returned (.bool (decide (c = (i : Int) + 1))) ∧ Below w.heap.size w w' := by
  have HE := Lib.hid hE; clear hE
  by_cases hc : c = (i : Int) + 1
  · subst hc
    go_enter Tryz.func9, Tryz.ntmps9
    go_wp2_with fail
    refine (code_err E i hi _ HE.out).mono ?_
    rintro e w' ⟨rfl, hb⟩
    go_wp2
    go_ret
    exact ⟨by simp, hb⟩
  · have h0 : ((i : Int) + 1 == c) = false := by simp; omega
    go_enter Tryz.func9, Tryz.ntmps9
    go_wp2_with fail
    refine (code_err E i hi _ HE.out).mono ?_
    rintro e w' ⟨rfl, hb⟩
    go_wp2
    go_ret
    exact ⟨by simp [hc], hb⟩
end Go.Proofs.YtpjbecmedidfgaaGreatDoor
