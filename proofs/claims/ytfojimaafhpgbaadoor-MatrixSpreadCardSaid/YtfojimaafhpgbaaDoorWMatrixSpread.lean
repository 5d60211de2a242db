/- The walk of the law MatrixSpread. -/
import Derived.Test.YtfojimaafhpgbaaDoorMatN
import Derived.Test.YtfojimaafhpgbaaDoorEnv
namespace Go.Proofs.YtfojimaafhpgbaaDoor.matrixSpread
open Go.RowKit

set_option maxHeartbeats 2000000 in
theorem walk_bad (n k : Int) (w : World) (E : Nat → Addr) (hE : ErrEnv w E) (h : ¬ (1 ≤ k ∧ k ≤ n ∧ n ≤ 12)) :
    Calls Tryd.prog 16 #[.int .i64 n, .int .i64 k] w fun e w' => e = .returned (.bool true) ∧ Below w.heap.size w w' := by
  have HU := Lib.hid (unit_walk w E hE.ez)
  have HE := Lib.hid hE
  have H := Lib.hid h
  have e2 : decide ((2 : Int) = ((1 : Nat) : Int) + 1) = true := rfl
  have es : isSpreadB n k = false := decide_eq_false h
  have Es := Lib.hid es
  clear hE h es
  go_enter Tryd.func16, Tryd.ntmps16
  go_wp2_with fail
  refine HU.out.mono ?_
  rintro e w1 ⟨rfl, hb1⟩
  have H1 := Lib.hid hb1
  clear hb1
  go_wp2_with fail
  refine (powers_bad n k w1 _ ((HE.out.below H1.out (Nat.le_refl _)).c1) H.out).mono ?_
  rintro e w2 ⟨rfl, q, hq⟩
  have H2 : Hid (Below w.heap.size w w2) := Lib.hid (by rw [hq]; exact H1.out.trans (same_below' _ q))
  clear hq
  go_wp2_with fail
  refine (spread_bad n k w2 (E 1) ((HE.out.below H2.out (Nat.le_refl _)).c1) H.out).mono ?_
  rintro e w3 ⟨rfl, q, hq⟩
  have H3 : Hid (Below w.heap.size w w3) := Lib.hid (by rw [hq]; exact H2.out.trans (same_below' _ q))
  clear hq
  go_wp2_with fail
  refine (isspread_walk n k w3).mono ?_
  rintro e w' ⟨rfl, rfl⟩
  rw [Es.out]
  go_wp2_with fail
  refine (coded_err E 1 (by decide) 2 w3 (HE.out.below H3.out (Nat.le_refl _))).mono ?_
  rintro e w4 ⟨rfl, hb4⟩
  rw [e2]
  have H4 := Lib.hid (H3.out.trans (hb4.mono H3.out.size))
  clear hb4
  go_wp2_with fail
  refine (coded_err E 1 (by decide) 2 w4 (HE.out.below H4.out (Nat.le_refl _))).mono ?_
  rintro e w5 ⟨rfl, hb5⟩
  rw [e2]
  have H5 := Lib.hid (H4.out.trans (hb5.mono H4.out.size))
  clear hb5
  go_wp2
  go_ret
  exact ⟨rfl, H5.out⟩

set_option maxRecDepth 100000 in
set_option maxHeartbeats 4000000 in
theorem walk_ok (n k : Nat) (w : World) (E : Nat → Addr) (hE : ErrEnv w E) (hk : 1 ≤ k) (hkn : k ≤ n) (hn : n ≤ 12) :
    Calls Tryd.prog 16 #[.int .i64 n, .int .i64 k] w fun e w' => e = .returned (.bool true) ∧ Below w.heap.size w w' := by
  have HU := Lib.hid (unit_walk w E hE.ez)
  have HE := Lib.hid hE
  have es : isSpreadB n k = true := decide_eq_true (by omega)
  have Es := Lib.hid es
  clear hE es
  go_enter Tryd.func16, Tryd.ntmps16
  go_wp2_with fail
  refine HU.out.mono ?_
  rintro e w1 ⟨rfl, hb1⟩
  have H1 := Lib.hid hb1
  clear hb1
  go_wp2_with fail
  refine (powers_walk n k w1 hk hkn hn).mono ?_
  rintro e w2 ⟨⟨v2, bs2, cp2, rfl, hm2⟩, hb2⟩
  obtain ⟨g2, c2, hve, _, _, hV2⟩ := hm2.mat (by omega)
  rw [hve]
  have H2 := Lib.hid (H1.out.trans (hb2.mono H1.out.size))
  have HV2 := Lib.hid (hV2.read (by omega) (by omega))
  clear hve hV2 hm2 hb2
  go_wp2_with fail
  refine (spread_walk n k w2 E (HE.out.below H2.out (Nat.le_refl _)).ez hk hkn hn).mono ?_
  rintro e w3 ⟨⟨v3, bs3, cp3, rfl, hm3⟩, hb3⟩
  obtain ⟨g3, c3, hve, _, _, hV3⟩ := hm3.mat (by omega)
  rw [hve]
  have H3 := Lib.hid (H2.out.trans (hb3.mono H2.out.size))
  have HV3 := Lib.hid (And.intro (hV3.read (by omega) (by omega)) ((HV2.out.below hb3).mono hb3.size))
  clear hve hV3 hm3 hb3 HV2
  go_wp2_with fail
  refine (isspread_walk n k w3).mono ?_
  rintro e w' ⟨rfl, rfl⟩
  rw [Es.out]
  go_wp2_with fail
  refine (rspread_walk n k w3 hk hkn hn).mono ?_
  rintro e w4 ⟨⟨v4, bs4, cp4, rfl, hm4⟩, hb4⟩
  obtain ⟨g4, c4, hve, _, _, hV4⟩ := hm4.mat (by omega)
  rw [hve]
  have H4 := Lib.hid (H3.out.trans (hb4.mono H3.out.size))
  have HV4 := Lib.hid (And.intro (hV4.read (by omega) (by omega)) (And.intro ((HV3.out.1.below hb4).mono hb4.size) ((HV3.out.2.below hb4).mono hb4.size)))
  clear hve hV4 hm4 hb4 HV3
  go_wp2_with fail
  refine (same_walk w4.heap.size g3 0 n k c3 g4 0 c4 bs3 (fun _ => 0) cp3 bs4 (fun _ => 0) cp4 _ _ w4 (by omega) HV4.out.2.1 HV4.out.1 (Mx.by_spr k) (Mx.by_spr k) (fun _ _ _ _ => rfl)).mono ?_
  rintro e w5 ⟨rfl, q, hq⟩
  have H5 : Hid (Below w.heap.size w w5) := Lib.hid (by rw [hq]; exact H4.out.trans (same_below' _ q))
  have HV5 : Hid (MatR w4.heap.size w5 g2 0 n k bs2 (fun _ => 0) cp2 Mx.vanderM) := Lib.hid (by rw [hq]; exact HV4.out.2.2.below (same_below' _ q))
  clear hq HV4
  go_wp2
  go_loop [10] (fun vi => ∃ i : Nat, i ≤ n ∧ vi = .int .i64 i) (fun i => n - (intOf i).toNat)
  case atStart => exact ⟨0, by omega, rfl⟩
  case round =>
    obtain ⟨i, hi, rfl⟩ := hrel
    have hi2 : i < n ∨ i = n := by omega
    rcases hi2 with hlt | rfl
    · have hlt2 : (i : Int) < n := by omega
      have h1 := HV5.out.head i hlt
      rw [Nat.zero_add] at h1
      go_wp2
      go_loop [11] (fun vj => ∃ j : Nat, j ≤ k ∧ vj = .int .i64 j) (fun j => k - (intOf j).toNat)
      case atStart => exact ⟨0, by omega, rfl⟩
      case round =>
        obtain ⟨j, hj, rfl⟩ := hrel
        have hj2 : j < k ∨ j = k := by omega
        rcases hj2 with hjl | rfl
        · have hjl2 : (j : Int) < k := by omega
          have h2 := HV5.out.cell i hlt j hjl
          rw [Nat.zero_add] at h2
          have hmod : (i : Int) % 256 = i := by omega
          have hp := rpow_walk i j w5 (by omega) (by omega) (by omega)
          have e1 : rpowV i j = Mx.vanderM i j := by
            unfold rpowV Mx.vanderM
            rw [if_neg (by omega), powZ_nat (by omega), Nat.mod_eq_of_lt (by omega)]
          rw [e1] at hp
          obtain ⟨x, hx⟩ : ∃ x, Mx.vanderM i j = x := ⟨_, rfl⟩
          obtain ⟨y, hy⟩ : ∃ y, rpowE i j = y := ⟨_, rfl⟩
          rw [hx, hy] at hp
          rw [hx] at h2
          have Hp := Lib.hid hp
          clear hp e1 hx hy
          go_wp2_with fail
          refine Hp.out.mono ?_
          rintro e w' ⟨rfl, rfl⟩
          go_wp2
          go_round
          case rel => exact ⟨j + 1, by omega, by go_num⟩
          case measure => simp [intOf]; omega
        · go_wp2
          go_round
          case rel => exact ⟨i + 1, by omega, by go_num⟩
          case measure => simp [intOf]; omega
    · go_wp2
      go_ret
      exact ⟨rfl, H5.out⟩

theorem walk (n k : Int) (w : World) (w0 : (Lit.int .i64 n).wf = true) (w1 : (Lit.int .i64 k).wf = true) (hL : laidMetH Tryd.prog Rows.matrixSpreadRow.laid w) :
    Calls Tryd.prog 16 #[.int .i64 n, .int .i64 k] w fun e w' => e = .returned (.bool true) ∧ Below w.heap.size w w' := by
  obtain ⟨E, hE⟩ := env_of_laid hL
  by_cases h : 1 ≤ k ∧ k ≤ n ∧ n ≤ 12
  · obtain ⟨k, rfl⟩ := Int.eq_ofNat_of_zero_le (show 0 ≤ k by omega)
    obtain ⟨n, rfl⟩ := Int.eq_ofNat_of_zero_le (show 0 ≤ n by omega)
    exact walk_ok n k w E hE (by omega) (by omega) (by omega)
  · exact walk_bad n k w E hE h
end Go.Proofs.YtfojimaafhpgbaaDoor.matrixSpread
