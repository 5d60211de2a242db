/- The walk of the law FieldMul. -/
import Derived.Test.YtfojimaafhpgbaaDoorRef
import Derived.Test.YtfojimaafhpgbaaDoorEnv
namespace Go.Proofs.YtfojimaafhpgbaaDoor.fieldMul
open Go.RowKit

theorem below_drewN (w : World) (n : Nat) : Below w.heap.size w (w.drewN n) := ⟨rfl, rfl, rfl, Nat.le_refl _, fun _ _ => rfl⟩

set_option maxHeartbeats 1000000 in
theorem walk_ok (a b : Nat) (w : World) (ha : a < 256) (hb : b < 256) (h0 : b ≠ 0) :
    Calls Tryd.prog 10 #[.int .u8 a, .int .u8 b] w fun e w' => e = .returned (.bool true) ∧ w = w' := by
  have hd := Lib.hid (div_walk a b w ha hb h0)
  have hi := Lib.hid (inv_walk b w hb h0)
  have hri := Lib.hid (rinv_walk b w hb h0)
  have hm := Lib.hid (mul_walk a b w ha hb)
  have hrm := Lib.hid (rmul_walk a b w ha hb)
  have had := Lib.hid (add_walk a b w ha hb)
  have hrm2 := Lib.hid (rmul_walk a (Gf.inv b) w ha (Gf.inv_lt hb))
  have hx := u8_xor_nat a b ha hb
  have hb0 : ((b : Int) == 0) = false := by simpa using h0
  generalize Gf.inv b = j at hd hi hri hrm2
  generalize Gf.mul a j = q at hd hrm2
  generalize Gf.mul a b = p at hm hrm
  clear h0
  go_enter Tryd.func10, Tryd.ntmps10
  go_wp2_with fail
  refine (double_walk _).mono ?_
  rintro e w' ⟨rfl, rfl⟩
  go_wp2_with fail
  refine hd.out.mono ?_
  rintro e w' ⟨rfl, rfl⟩
  go_wp2_with fail
  refine hi.out.mono ?_
  rintro e w' ⟨rfl, rfl⟩
  go_wp2_with fail
  refine hri.out.mono ?_
  rintro e w' ⟨rfl, rfl⟩
  go_wp2_with fail
  refine hm.out.mono ?_
  rintro e w' ⟨rfl, rfl⟩
  go_wp2_with fail
  refine hrm.out.mono ?_
  rintro e w' ⟨rfl, rfl⟩
  go_wp2_with fail
  refine had.out.mono ?_
  rintro e w' ⟨rfl, rfl⟩
  go_wp2_with fail
  refine hrm2.out.mono ?_
  rintro e w' ⟨rfl, rfl⟩
  go_wp2
  go_ret
  exact ⟨rfl, rfl⟩

set_option maxHeartbeats 1000000 in
theorem walk_zero (a : Nat) (w : World) (E : Nat → Addr) (hE : ErrEnv w E) (ha : a < 256) :
    Calls Tryd.prog 10 #[.int .u8 a, .int .u8 0] w fun e w' => e = .returned (.bool true) ∧ Below w.heap.size w w' := by
  have hd := Lib.hid (div_bad_walk a w (E 11) hE.c11)
  have HE := Lib.hid hE; clear hE
  have hm := fun w => mul_walk a 0 w ha (by decide)
  rw [Gf.mul_zero] at hm
  have Hm := Lib.hid hm; clear hm
  go_enter Tryd.func10, Tryd.ntmps10
  go_wp2_with fail
  refine (double_walk _).mono ?_
  rintro e w' ⟨rfl, rfl⟩
  go_wp2_with fail
  refine hd.out.mono ?_
  rintro e w' ⟨rfl, nq, rfl⟩
  have hE1 := HE.out.below (below_drewN w nq) (Nat.le_refl _)
  have H1 := Lib.hid hE1; clear hE1
  go_wp2_with fail
  refine (inv_bad_walk _ (errV (E 11)) H1.out.c11).mono ?_
  rintro e w' ⟨rfl, nq2, rfl⟩
  have hE2 := H1.out.below (below_drewN (w.drewN nq) nq2) (Nat.le_refl _)
  have hB2 : Below w.heap.size w ((w.drewN nq).drewN nq2) := (below_drewN w nq).trans (below_drewN (w.drewN nq) nq2)
  obtain ⟨w2, hw2⟩ : ∃ w2, (w.drewN nq).drewN nq2 = w2 := ⟨_, rfl⟩
  rw [hw2] at hE2 hB2 ⊢
  clear hw2
  have H2 := Lib.hid hE2; clear hE2
  go_wp2_with fail
  refine (coded_err E 11 (by decide) 12 _ H2.out).mono ?_
  rintro e w3 ⟨rfl, hb3⟩
  have H3 := Lib.hid (H2.out.below hb3 (Nat.le_refl _))
  have hB3 := hB2.trans (hb3.mono hB2.size)
  have e12 : decide ((12 : Int) = ((11 : Nat) : Int) + 1) = true := rfl
  rw [e12]
  go_wp2_with fail
  refine (coded_err E 11 (by decide) 12 _ H3.out).mono ?_
  rintro e w4 ⟨rfl, hb4⟩
  have hB4 := hB3.trans (hb4.mono hB3.size)
  rw [e12]
  go_wp2_with fail
  refine (Hm.out _).mono ?_
  rintro e w' ⟨rfl, rfl⟩
  go_wp2
  go_ret
  exact ⟨rfl, hB4⟩

theorem walk (a b : Int) (w : World) (w0 : (Lit.int .u8 a).wf = true) (w1 : (Lit.int .u8 b).wf = true) (hL : laidMetH Tryd.prog Rows.fieldMulRow.laid w) :
    Calls Tryd.prog 10 #[.int .u8 a, .int .u8 b] w fun e w' => e = .returned (.bool true) ∧ Below w.heap.size w w' := by
  obtain ⟨E, hE⟩ := env_of_laid hL
  obtain ⟨b1, b2⟩ := bounds_u8 w0
  obtain ⟨a, rfl⟩ := Int.eq_ofNat_of_zero_le b1
  obtain ⟨b3, b4⟩ := bounds_u8 w1
  obtain ⟨b, rfl⟩ := Int.eq_ofNat_of_zero_le b3
  by_cases h0 : b = 0
  · subst h0
    exact walk_zero a w E hE (by omega)
  · exact (walk_ok a b w (by omega) (by omega) h0).mono fun e w' ⟨he, hw⟩ => ⟨he, hw ▸ Below.refl _ _⟩
end Go.Proofs.YtfojimaafhpgbaaDoor.fieldMul
