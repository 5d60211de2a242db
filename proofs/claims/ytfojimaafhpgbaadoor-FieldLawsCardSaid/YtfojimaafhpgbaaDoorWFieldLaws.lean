/- The walk of the law FieldLaws. -/
import Derived.Test.YtfojimaafhpgbaaDoorCode
import Derived.Test.YtfojimaafhpgbaaDoorEnv
namespace Go.Proofs.YtfojimaafhpgbaaDoor.fieldLaws
open Go.RowKit

theorem below_drewN (w : World) (n : Nat) : Below w.heap.size w (w.drewN n) := ⟨rfl, rfl, rfl, Nat.le_refl _, fun _ _ => rfl⟩

set_option maxHeartbeats 2000000 in
theorem walk_ok (a b c : Nat) (w : World) (ha : a < 256) (hb : b < 256) (hc : c < 256) (h0 : b ≠ 0) :
    Calls Tryd.prog 11 #[.int .u8 a, .int .u8 b, .int .u8 c] w fun e w' => e = .returned (.bool true) ∧ w = w' := by
  have hbc := Gf.xor_lt hb hc
  have hab := Gf.mul_lt b ha
  have hac := Gf.mul_lt c ha
  have h1 := Lib.hid (add_walk b c w hb hc)
  have h2 := mul_walk a (b ^^^ c) w ha hbc
  rw [Gf.mul_xor_right] at h2
  have H2 := Lib.hid h2; clear h2
  have h3 := Lib.hid (mul_walk a b w ha hb)
  have h4 := Lib.hid (mul_walk a c w ha hc)
  have h5 := Lib.hid (add_walk (Gf.mul a b) (Gf.mul a c) w hab hac)
  have h6 := mul_walk b a w hb ha
  rw [Gf.mul_comm hb ha] at h6
  have H6 := Lib.hid h6; clear h6
  have h7 := Lib.hid (mul_walk b c w hb hc)
  have h8 := Lib.hid (mul_walk a (Gf.mul b c) w ha (Gf.mul_lt c hb))
  have h9 := mul_walk (Gf.mul a b) c w hab hc
  rw [Gf.mul_assoc c ha hb hc] at h9
  have H9 := Lib.hid h9; clear h9
  have h10 := mul_walk a 1 w ha (by decide)
  rw [Gf.mul_one a ha] at h10
  have H10 := Lib.hid h10; clear h10
  have h11 := Lib.hid (div_walk a b w ha hb h0)
  have h12 := mul_walk (Gf.mul a (Gf.inv b)) b w (Gf.mul_lt _ ha) hb
  rw [Gf.mul_assoc b ha (Gf.inv_lt hb) hb, Gf.inv_mul hb h0, Gf.mul_one a ha] at h12
  have H12 := Lib.hid h12; clear h12
  have hb0 : ((b : Int) == 0) = false := by simpa using h0
  clear h0 hbc hab hac
  generalize Gf.mul a (Gf.inv b) = q at h11 H12
  generalize Gf.mul a (Gf.mul b c) = r at h8 H9
  generalize Gf.mul b c = s at h7 h8
  generalize Gf.mul a b ^^^ Gf.mul a c = t at H2 h5
  generalize Gf.mul a b = u at h3 h5 H6 H9
  generalize Gf.mul a c = v at h4 h5
  generalize b ^^^ c = x at h1 H2
  go_enter Tryd.func11, Tryd.ntmps11
  go_wp2_with fail
  refine (double_walk _).mono ?_
  rintro e w' ⟨rfl, rfl⟩
  go_wp2_with fail
  refine h1.out.mono ?_
  rintro e w' ⟨rfl, rfl⟩
  go_wp2_with fail
  refine H2.out.mono ?_
  rintro e w' ⟨rfl, rfl⟩
  go_wp2_with fail
  refine h3.out.mono ?_
  rintro e w' ⟨rfl, rfl⟩
  go_wp2_with fail
  refine h4.out.mono ?_
  rintro e w' ⟨rfl, rfl⟩
  go_wp2_with fail
  refine h5.out.mono ?_
  rintro e w' ⟨rfl, rfl⟩
  go_wp2_with fail
  refine h3.out.mono ?_
  rintro e w' ⟨rfl, rfl⟩
  go_wp2_with fail
  refine H6.out.mono ?_
  rintro e w' ⟨rfl, rfl⟩
  go_wp2_with fail
  refine h7.out.mono ?_
  rintro e w' ⟨rfl, rfl⟩
  go_wp2_with fail
  refine h8.out.mono ?_
  rintro e w' ⟨rfl, rfl⟩
  go_wp2_with fail
  refine h3.out.mono ?_
  rintro e w' ⟨rfl, rfl⟩
  go_wp2_with fail
  refine H9.out.mono ?_
  rintro e w' ⟨rfl, rfl⟩
  go_wp2_with fail
  refine H10.out.mono ?_
  rintro e w' ⟨rfl, rfl⟩
  go_wp2_with fail
  refine h11.out.mono ?_
  rintro e w' ⟨rfl, rfl⟩
  go_wp2_with fail
  refine H12.out.mono ?_
  rintro e w' ⟨rfl, rfl⟩
  go_wp2
  go_ret
  exact ⟨rfl, rfl⟩

set_option maxHeartbeats 2000000 in
theorem walk_zero (a c : Nat) (w : World) (E : Nat → Addr) (hE : ErrEnv w E) (ha : a < 256) (hc : c < 256) :
    Calls Tryd.prog 11 #[.int .u8 a, .int .u8 0, .int .u8 c] w fun e w' => e = .returned (.bool true) ∧ Below w.heap.size w w' := by
  have hac := Gf.mul_lt c ha
  have h1 := add_walk 0 c w (by decide) hc
  rw [Nat.zero_xor] at h1
  have H1 := Lib.hid h1; clear h1
  have h4 := Lib.hid (mul_walk a c w ha hc)
  have h3 := mul_walk a 0 w ha (by decide)
  rw [Gf.mul_zero] at h3
  have H3 := Lib.hid h3; clear h3
  have h5 := add_walk 0 (Gf.mul a c) w (by decide) hac
  rw [Nat.zero_xor] at h5
  have H5 := Lib.hid h5; clear h5
  have h6 := mul_walk 0 a w (by decide) ha
  rw [Gf.zero_mul] at h6
  have H6 := Lib.hid h6; clear h6
  have h7 := mul_walk 0 c w (by decide) hc
  rw [Gf.zero_mul] at h7
  have H7 := Lib.hid h7; clear h7
  have h10 := mul_walk a 1 w ha (by decide)
  rw [Gf.mul_one a ha] at h10
  have H10 := Lib.hid h10; clear h10
  have hd := Lib.hid (div_bad_walk a w (E 11) hE.c11)
  have HE := Lib.hid hE; clear hE
  clear hac
  generalize Gf.mul a c = v at h4 H5
  go_enter Tryd.func11, Tryd.ntmps11
  go_wp2_with fail
  refine (double_walk _).mono ?_
  rintro e w' ⟨rfl, rfl⟩
  go_wp2_with fail
  refine H1.out.mono ?_
  rintro e w' ⟨rfl, rfl⟩
  go_wp2_with fail
  refine h4.out.mono ?_
  rintro e w' ⟨rfl, rfl⟩
  go_wp2_with fail
  refine H3.out.mono ?_
  rintro e w' ⟨rfl, rfl⟩
  go_wp2_with fail
  refine h4.out.mono ?_
  rintro e w' ⟨rfl, rfl⟩
  go_wp2_with fail
  refine H5.out.mono ?_
  rintro e w' ⟨rfl, rfl⟩
  go_wp2_with fail
  refine H3.out.mono ?_
  rintro e w' ⟨rfl, rfl⟩
  go_wp2_with fail
  refine H6.out.mono ?_
  rintro e w' ⟨rfl, rfl⟩
  go_wp2_with fail
  refine H7.out.mono ?_
  rintro e w' ⟨rfl, rfl⟩
  go_wp2_with fail
  refine H3.out.mono ?_
  rintro e w' ⟨rfl, rfl⟩
  go_wp2_with fail
  refine H3.out.mono ?_
  rintro e w' ⟨rfl, rfl⟩
  go_wp2_with fail
  refine H7.out.mono ?_
  rintro e w' ⟨rfl, rfl⟩
  go_wp2_with fail
  refine H10.out.mono ?_
  rintro e w' ⟨rfl, rfl⟩
  go_wp2_with fail
  refine hd.out.mono ?_
  rintro e w' ⟨rfl, nq, rfl⟩
  go_wp2_with fail
  refine (coded_err E 11 (by decide) 12 _ (HE.out.below (below_drewN w nq) (Nat.le_refl _))).mono ?_
  rintro e w' ⟨rfl, hb⟩
  go_wp2
  go_ret
  exact ⟨rfl, (below_drewN w nq).trans hb⟩

theorem walk (a b c : Int) (w : World) (w0 : (Lit.int .u8 a).wf = true) (w1 : (Lit.int .u8 b).wf = true) (w2 : (Lit.int .u8 c).wf = true) (hL : laidMetH Tryd.prog Rows.fieldLawsRow.laid w) :
    Calls Tryd.prog 11 #[.int .u8 a, .int .u8 b, .int .u8 c] w fun e w' => e = .returned (.bool true) ∧ Below w.heap.size w w' := by
  obtain ⟨E, hE⟩ := env_of_laid hL
  obtain ⟨b1, b2⟩ := bounds_u8 w0
  obtain ⟨a, rfl⟩ := Int.eq_ofNat_of_zero_le b1
  obtain ⟨b3, b4⟩ := bounds_u8 w1
  obtain ⟨b, rfl⟩ := Int.eq_ofNat_of_zero_le b3
  obtain ⟨b5, b6⟩ := bounds_u8 w2
  obtain ⟨c, rfl⟩ := Int.eq_ofNat_of_zero_le b5
  by_cases h0 : b = 0
  · subst h0
    exact walk_zero a c w E hE (by omega) (by omega)
  · exact (walk_ok a b c w (by omega) (by omega) (by omega) h0).mono fun e w' ⟨he, hw⟩ => ⟨he, hw ▸ Below.refl _ _⟩
end Go.Proofs.YtfojimaafhpgbaaDoor.fieldLaws
