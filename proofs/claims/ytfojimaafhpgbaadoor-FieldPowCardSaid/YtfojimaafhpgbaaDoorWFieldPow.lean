/- The walk of the law FieldPow. -/
import Derived.Test.YtfojimaafhpgbaaDoorRef
import Derived.Test.YtfojimaafhpgbaaDoorEnv
namespace Go.Proofs.YtfojimaafhpgbaaDoor.fieldPow
open Go.RowKit

theorem below_drewN (w : World) (n : Nat) : Below w.heap.size w (w.drewN n) := ⟨rfl, rfl, rfl, Nat.le_refl _, fun _ _ => rfl⟩

set_option maxHeartbeats 1000000 in
theorem walk_ok (a : Nat) (n : Int) (w : World) (ha : a < 256) (hb : ¬ (a = 0 ∧ n < 0)) (h1 : -9223372036854775808 ≤ n) (h2 : n ≤ 9223372036854775807) :
    Calls Tryd.prog 9 #[.int .u8 a, .int .i64 n] w fun e w' => e = .returned (.bool true) ∧ w = w' := by
  have hp := Lib.hid (pow_any a n w ha hb h1 h2)
  have hr := rpow_walk a n w ha h1 h2
  have ev : rpowV a n = powZ a n := by unfold rpowV; rw [if_neg hb]
  have ee : rpowE a n = 0 := by unfold rpowE; rw [if_neg hb]; split <;> rfl
  rw [ev, ee] at hr
  have Hr := Lib.hid hr; clear hr ev ee
  generalize powZ a n = v at hp Hr
  clear hb
  go_enter Tryd.func9, Tryd.ntmps9
  go_wp2_with fail
  refine (double_walk _).mono ?_
  rintro e w' ⟨rfl, rfl⟩
  go_wp2_with fail
  refine hp.out.mono ?_
  rintro e w' ⟨rfl, rfl⟩
  go_wp2_with fail
  refine Hr.out.mono ?_
  rintro e w' ⟨rfl, rfl⟩
  go_wp2_with fail
  refine (coded_nil 0 _).mono ?_
  rintro e w' ⟨rfl, rfl⟩
  go_wp2
  go_ret
  exact ⟨rfl, rfl⟩

set_option maxHeartbeats 1000000 in
theorem walk_bad (n : Int) (w : World) (E : Nat → Addr) (hE : ErrEnv w E) (hn : n < 0) (h1 : -9223372036854775808 ≤ n) (h2 : n ≤ 9223372036854775807) :
    Calls Tryd.prog 9 #[.int .u8 0, .int .i64 n] w fun e w' => e = .returned (.bool true) ∧ Below w.heap.size w w' := by
  have hp := Lib.hid (pow_bad_walk n w (errV (E 11)) hn hE.c11)
  have hr := fun w => rpow_walk 0 n w (by decide) h1 h2
  have ev : rpowV 0 n = 0 := by unfold rpowV; rw [if_pos ⟨rfl, hn⟩]
  have ee : rpowE 0 n = 12 := by unfold rpowE; rw [if_neg (by omega), if_pos ⟨rfl, hn⟩]
  rw [ev, ee] at hr
  have Hr := Lib.hid hr; clear hr ev ee
  have HE := Lib.hid hE; clear hE
  go_enter Tryd.func9, Tryd.ntmps9
  go_wp2_with fail
  refine (double_walk _).mono ?_
  rintro e w' ⟨rfl, rfl⟩
  go_wp2_with fail
  refine hp.out.mono ?_
  rintro e w' ⟨rfl, nq, rfl⟩
  go_wp2_with fail
  refine (Hr.out _).mono ?_
  rintro e w' ⟨rfl, rfl⟩
  go_wp2_with fail
  refine (coded_err E 11 (by decide) 12 _ (HE.out.below (below_drewN w nq) (Nat.le_refl _))).mono ?_
  rintro e w' ⟨rfl, hb⟩
  go_wp2
  go_ret
  exact ⟨rfl, (below_drewN w nq).trans hb⟩

theorem walk (a n : Int) (w : World) (w0 : (Lit.int .u8 a).wf = true) (w1 : (Lit.int .i64 n).wf = true) (hL : laidMetH Tryd.prog Rows.fieldPowRow.laid w) :
    Calls Tryd.prog 9 #[.int .u8 a, .int .i64 n] w fun e w' => e = .returned (.bool true) ∧ Below w.heap.size w w' := by
  obtain ⟨E, hE⟩ := env_of_laid hL
  obtain ⟨b1, b2⟩ := bounds_u8 w0
  obtain ⟨a, rfl⟩ := Int.eq_ofNat_of_zero_le b1
  obtain ⟨h1, h2⟩ := bounds_i64 w1
  by_cases hb : a = 0 ∧ n < 0
  · obtain ⟨rfl, hn⟩ := hb
    exact walk_bad n w E hE hn h1 h2
  · exact (walk_ok a n w (by omega) hb h1 h2).mono fun e w' ⟨he, hw⟩ => ⟨he, hw ▸ Below.refl _ _⟩
end Go.Proofs.YtfojimaafhpgbaaDoor.fieldPow
