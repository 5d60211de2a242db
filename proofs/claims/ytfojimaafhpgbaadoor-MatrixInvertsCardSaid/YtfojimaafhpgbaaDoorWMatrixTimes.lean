/- The walk of the law MatrixTimes. -/
import Derived.Test.YtfojimaafhpgbaaDoorMatN
import Derived.Test.YtfojimaafhpgbaaDoorEnv
namespace Go.Proofs.YtfojimaafhpgbaaDoor
open Go.RowKit

/-- the law's own copy: a slice that reads as the rows. -/
theorem own_rows (n₀ : Nat) (a : Option Addr) (cap : Nat) (L : List (List Nat)) (w : World) (hn₀ : n₀ ≤ w.heap.size) (hw : ¬ WideM L) (hr : RowsAt n₀ w a L) :
    Calls Tryd.prog 52 #[.slice a L.length cap] w fun e w' => (∃ b c, e = .returned (.slice b L.length c) ∧ RowsAt w'.heap.size w' b L) ∧ Below w.heap.size w w' := by
  refine (own_walk n₀ a cap L w hn₀ hw hr).mono ?_
  rintro e w' ⟨⟨v, A, C, rfl, h⟩, hb⟩
  obtain ⟨b, c, hv, _, _, hR⟩ := h.rows
  exact ⟨⟨b, c, by rw [hv], hR⟩, hb⟩
namespace matrixTimes

set_option maxHeartbeats 1000000 in
theorem walk_wide (aa ab : Option Addr) (ca cb : Nat) (LA LB : List (List Nat)) (w : World) (E : Nat → Addr) (hE : ErrEnv w E) (lA : LA.length ≤ maxLen) (lB : LB.length ≤ maxLen) (hA : RowsAt w.heap.size w aa LA) (hB : RowsAt w.heap.size w ab LB) (h : WideM LA ∨ WideM LB) :
    Calls Tryd.prog 14 #[.slice aa LA.length ca, .slice ab LB.length cb] w fun e w' => e = .returned (.bool true) ∧ Below w.heap.size w w' := by
  have HU := Lib.hid (unit_walk w E hE.ez)
  have HA := Lib.hid hA
  have HB := Lib.hid hB
  have H := Lib.hid h
  clear hE hA hB h
  go_enter Tryd.func14, Tryd.ntmps14
  go_wp2_with fail
  refine HU.out.mono ?_
  rintro e w1 ⟨rfl, hb1⟩
  have H1 := Lib.hid hb1
  clear hb1
  go_wp2_with fail
  refine (wide_walk _ aa ca LA w1 lA (HA.out.below H1.out)).mono ?_
  rintro e w' ⟨h1 | h1, rfl⟩
  · obtain ⟨_, rfl⟩ := h1
    go_wp2
    go_ret
    exact ⟨rfl, H1.out⟩
  · obtain ⟨hn, rfl⟩ := h1
    have hw : WideM LB := H.out.resolve_left hn
    have Hw := Lib.hid hw
    clear hn hw
    go_wp2_with fail
    refine (wide_walk _ ab cb LB w1 lB (HB.out.below H1.out)).mono ?_
    rintro e w' ⟨h1 | h1, rfl⟩
    · obtain ⟨_, rfl⟩ := h1
      go_wp2
      go_ret
      exact ⟨rfl, H1.out⟩
    · exact absurd Hw.out h1.1

/-- the way ahead of the products. -/
theorem wide_no (n₀ : Nat) (a : Option Addr) (cap : Nat) (L : List (List Nat)) (w : World) (hl : L.length ≤ maxLen) (hr : RowsAt n₀ w a L) (hw : ¬ WideM L) :
    Calls Tryd.prog 51 #[.slice a L.length cap] w fun e w' => e = .returned (.bool false) ∧ w = w' := by
  refine (wide_walk n₀ a cap L w hl hr).mono ?_
  rintro e w' ⟨h1 | h1, rfl⟩
  · exact absurd h1.1 hw
  · exact ⟨h1.2, rfl⟩

set_option maxRecDepth 100000 in
set_option maxHeartbeats 4000000 in
theorem walk_no (aa ab : Option Addr) (ca cb : Nat) (LA LB : List (List Nat)) (w : World) (E : Nat → Addr) (hE : ErrEnv w E) (lA : LA.length ≤ maxLen) (lB : LB.length ≤ maxLen) (hA : RowsAt w.heap.size w aa LA) (hB : RowsAt w.heap.size w ab LB) (hwA : ¬ WideM LA) (hwB : ¬ WideM LB) (h : ¬ Together LA LB) :
    Calls Tryd.prog 14 #[.slice aa LA.length ca, .slice ab LB.length cb] w fun e w' => e = .returned (.bool true) ∧ Below w.heap.size w w' := by
  have HU := Lib.hid (unit_walk w E hE.ez)
  have HA := Lib.hid hA
  have HB := Lib.hid hB
  have H := Lib.hid h
  have HE := Lib.hid hE
  have Hw := Lib.hid (And.intro hwA hwB)
  clear hE hA hB h hwA hwB
  have e3 : decide ((3 : Int) = ((2 : Nat) : Int) + 1) = true := rfl
  by_cases hm : IsMat LA
  · have Hm := Lib.hid hm
    clear hm
    go_enter Tryd.func14, Tryd.ntmps14
    go_wp2_with fail
    refine HU.out.mono ?_
    rintro e w1 ⟨rfl, hb1⟩
    have H1 := Lib.hid hb1
    clear hb1
    go_wp2_with fail
    refine (wide_no _ aa ca LA w1 lA (HA.out.below H1.out) Hw.out.1).mono ?_
    rintro e w' ⟨rfl, rfl⟩
    go_wp2_with fail
    refine (wide_no _ ab cb LB w1 lB (HB.out.below H1.out) Hw.out.2).mono ?_
    rintro e w' ⟨rfl, rfl⟩
    go_wp2_with fail
    refine (rismat_yes _ aa ca LA w1 (HA.out.below H1.out) Hm.out).mono ?_
    rintro e w2 ⟨rfl, q, hq⟩
    have H2 : Hid (Below w.heap.size w w2) := Lib.hid (by rw [hq]; exact H1.out.trans (same_below' _ q))
    clear hq
    go_wp2_with fail
    refine (own_rows _ aa ca LA w2 H2.out.size Hw.out.1 (HA.out.below H2.out)).mono ?_
    rintro e w3 ⟨⟨b3, c3, rfl, hR3⟩, hb3⟩
    have H3 := Lib.hid (H2.out.trans (hb3.mono H2.out.size))
    have HR3 := Lib.hid hR3
    clear hb3 hR3
    go_wp2_with fail
    refine (check_yes _ b3 c3 LA w3 _ ((HE.out.below H3.out (Nat.le_refl _)).c2) HR3.out Hm.out).mono ?_
    rintro e w4 ⟨rfl, hb4⟩
    have H4 := Lib.hid (H3.out.trans (hb4.mono H3.out.size))
    clear hb4 HR3
    go_wp2_with fail
    refine (coded_nil 0 w4).mono ?_
    rintro e w' ⟨rfl, rfl⟩
    go_wp2_with fail
    refine (own_rows _ aa ca LA w4 H4.out.size Hw.out.1 (HA.out.below H4.out)).mono ?_
    rintro e w5 ⟨⟨b5, c5, rfl, hR5⟩, hb5⟩
    have H5 := Lib.hid (H4.out.trans (hb5.mono H4.out.size))
    have HR5 := Lib.hid hR5
    clear hb5 hR5
    go_wp2_with fail
    refine (own_rows _ ab cb LB w5 H5.out.size Hw.out.2 (HB.out.below H5.out)).mono ?_
    rintro e w6 ⟨⟨b6, c6, rfl, hR6⟩, hb6⟩
    have H6 := Lib.hid (H5.out.trans (hb6.mono H5.out.size))
    have HR6 := Lib.hid (And.intro hR6 ((HR5.out.below hb6).mono hb6.size))
    clear hb6 hR6 HR5
    go_wp2_with fail
    refine (times_bad w6.heap.size b5 b6 c5 c6 LA LB w6 (E 2) ((HE.out.below H6.out (Nat.le_refl _)).c2) (Nat.le_refl _) HR6.out.2 HR6.out.1 H.out).mono ?_
    rintro e w7 ⟨rfl, hb7⟩
    have H7 := Lib.hid (H6.out.trans (hb7.mono H6.out.size))
    clear hb7 HR6
    go_wp2_with fail
    refine (rtimes_no w.heap.size aa ab ca cb LA LB w7 H7.out.size (HA.out.below H7.out) (HB.out.below H7.out) H.out).mono ?_
    rintro e w8 ⟨rfl, hb8⟩
    have H8 := Lib.hid (H7.out.trans (hb8.mono H7.out.size))
    clear hb8
    go_wp2_with fail
    refine (coded_err E 2 (by decide) 3 w8 (HE.out.below H8.out (Nat.le_refl _))).mono ?_
    rintro e w9 ⟨rfl, hb9⟩
    rw [e3]
    have H9 := Lib.hid (H8.out.trans (hb9.mono H8.out.size))
    clear hb9
    go_wp2
    go_ret
    exact ⟨rfl, H9.out⟩
  · have Hm := Lib.hid hm
    clear hm
    go_enter Tryd.func14, Tryd.ntmps14
    go_wp2_with fail
    refine HU.out.mono ?_
    rintro e w1 ⟨rfl, hb1⟩
    have H1 := Lib.hid hb1
    clear hb1
    go_wp2_with fail
    refine (wide_no _ aa ca LA w1 lA (HA.out.below H1.out) Hw.out.1).mono ?_
    rintro e w' ⟨rfl, rfl⟩
    go_wp2_with fail
    refine (wide_no _ ab cb LB w1 lB (HB.out.below H1.out) Hw.out.2).mono ?_
    rintro e w' ⟨rfl, rfl⟩
    go_wp2_with fail
    refine (rismat_no _ aa ca LA w1 (HA.out.below H1.out) Hm.out).mono ?_
    rintro e w2 ⟨rfl, q, hq⟩
    have H2 : Hid (Below w.heap.size w w2) := Lib.hid (by rw [hq]; exact H1.out.trans (same_below' _ q))
    clear hq
    go_wp2_with fail
    refine (own_rows _ aa ca LA w2 H2.out.size Hw.out.1 (HA.out.below H2.out)).mono ?_
    rintro e w3 ⟨⟨b3, c3, rfl, hR3⟩, hb3⟩
    have H3 := Lib.hid (H2.out.trans (hb3.mono H2.out.size))
    have HR3 := Lib.hid hR3
    clear hb3 hR3
    go_wp2_with fail
    refine (check_no _ b3 c3 LA w3 _ ((HE.out.below H3.out (Nat.le_refl _)).c2) HR3.out Hm.out).mono ?_
    rintro e w4 ⟨rfl, hb4⟩
    have H4 := Lib.hid (H3.out.trans (hb4.mono H3.out.size))
    clear hb4 HR3
    go_wp2_with fail
    refine (coded_err E 2 (by decide) 3 w4 (HE.out.below H4.out (Nat.le_refl _))).mono ?_
    rintro e w4' ⟨rfl, hb4⟩
    rw [e3]
    have H4' := Lib.hid (H4.out.trans (hb4.mono H4.out.size))
    clear hb4 H4
    go_wp2_with fail
    refine (own_rows _ aa ca LA w4' H4'.out.size Hw.out.1 (HA.out.below H4'.out)).mono ?_
    rintro e w5 ⟨⟨b5, c5, rfl, hR5⟩, hb5⟩
    have H5 := Lib.hid (H4'.out.trans (hb5.mono H4'.out.size))
    have HR5 := Lib.hid hR5
    clear hb5 hR5
    go_wp2_with fail
    refine (own_rows _ ab cb LB w5 H5.out.size Hw.out.2 (HB.out.below H5.out)).mono ?_
    rintro e w6 ⟨⟨b6, c6, rfl, hR6⟩, hb6⟩
    have H6 := Lib.hid (H5.out.trans (hb6.mono H5.out.size))
    have HR6 := Lib.hid (And.intro hR6 ((HR5.out.below hb6).mono hb6.size))
    clear hb6 hR6 HR5
    go_wp2_with fail
    refine (times_bad w6.heap.size b5 b6 c5 c6 LA LB w6 (E 2) ((HE.out.below H6.out (Nat.le_refl _)).c2) (Nat.le_refl _) HR6.out.2 HR6.out.1 H.out).mono ?_
    rintro e w7 ⟨rfl, hb7⟩
    have H7 := Lib.hid (H6.out.trans (hb7.mono H6.out.size))
    clear hb7 HR6
    go_wp2_with fail
    refine (rtimes_no w.heap.size aa ab ca cb LA LB w7 H7.out.size (HA.out.below H7.out) (HB.out.below H7.out) H.out).mono ?_
    rintro e w8 ⟨rfl, hb8⟩
    have H8 := Lib.hid (H7.out.trans (hb8.mono H7.out.size))
    clear hb8
    go_wp2_with fail
    refine (coded_err E 2 (by decide) 3 w8 (HE.out.below H8.out (Nat.le_refl _))).mono ?_
    rintro e w9 ⟨rfl, hb9⟩
    rw [e3]
    have H9 := Lib.hid (H8.out.trans (hb9.mono H8.out.size))
    clear hb9
    go_wp2
    go_ret
    exact ⟨rfl, H9.out⟩

set_option maxRecDepth 100000 in
set_option maxHeartbeats 4000000 in
theorem walk_yes (aa ab : Option Addr) (ca cb : Nat) (LA LB : List (List Nat)) (w : World) (E : Nat → Addr) (hE : ErrEnv w E) (lA : LA.length ≤ maxLen) (lB : LB.length ≤ maxLen) (bA : BytesR LA) (bB : BytesR LB) (hA : RowsAt w.heap.size w aa LA) (hB : RowsAt w.heap.size w ab LB) (hwA : ¬ WideM LA) (hwB : ¬ WideM LB) (h : Together LA LB) :
    Calls Tryd.prog 14 #[.slice aa LA.length ca, .slice ab LB.length cb] w fun e w' => e = .returned (.bool true) ∧ Below w.heap.size w w' := by
  have HU := Lib.hid (unit_walk w E hE.ez)
  have HA := Lib.hid hA
  have HB := Lib.hid hB
  have H := Lib.hid h
  have HE := Lib.hid hE
  have Hw := Lib.hid (And.intro hwA hwB)
  have HbA := Lib.hid (And.intro bA bB)
  clear hE hA hB h hwA hwB bA bB
  go_enter Tryd.func14, Tryd.ntmps14
  go_wp2_with fail
  refine HU.out.mono ?_
  rintro e w1 ⟨rfl, hb1⟩
  have H1 := Lib.hid hb1
  clear hb1
  go_wp2_with fail
  refine (wide_no _ aa ca LA w1 lA (HA.out.below H1.out) Hw.out.1).mono ?_
  rintro e w' ⟨rfl, rfl⟩
  go_wp2_with fail
  refine (wide_no _ ab cb LB w1 lB (HB.out.below H1.out) Hw.out.2).mono ?_
  rintro e w' ⟨rfl, rfl⟩
  go_wp2_with fail
  refine (rismat_yes _ aa ca LA w1 (HA.out.below H1.out) H.out.1).mono ?_
  rintro e w2 ⟨rfl, q, hq⟩
  have H2 : Hid (Below w.heap.size w w2) := Lib.hid (by rw [hq]; exact H1.out.trans (same_below' _ q))
  clear hq
  go_wp2_with fail
  refine (own_rows _ aa ca LA w2 H2.out.size Hw.out.1 (HA.out.below H2.out)).mono ?_
  rintro e w3 ⟨⟨b3, c3, rfl, hR3⟩, hb3⟩
  have H3 := Lib.hid (H2.out.trans (hb3.mono H2.out.size))
  have HR3 := Lib.hid hR3
  clear hb3 hR3
  go_wp2_with fail
  refine (check_yes _ b3 c3 LA w3 _ ((HE.out.below H3.out (Nat.le_refl _)).c2) HR3.out H.out.1).mono ?_
  rintro e w4 ⟨rfl, hb4⟩
  have H4 := Lib.hid (H3.out.trans (hb4.mono H3.out.size))
  clear hb4 HR3
  go_wp2_with fail
  refine (coded_nil 0 w4).mono ?_
  rintro e w' ⟨rfl, rfl⟩
  go_wp2_with fail
  refine (own_rows _ aa ca LA w4 H4.out.size Hw.out.1 (HA.out.below H4.out)).mono ?_
  rintro e w5 ⟨⟨b5, c5, rfl, hR5⟩, hb5⟩
  have H5 := Lib.hid (H4.out.trans (hb5.mono H4.out.size))
  have HR5 := Lib.hid hR5
  clear hb5 hR5
  go_wp2_with fail
  refine (own_rows _ ab cb LB w5 H5.out.size Hw.out.2 (HB.out.below H5.out)).mono ?_
  rintro e w6 ⟨⟨b6, c6, rfl, hR6⟩, hb6⟩
  have H6 := Lib.hid (H5.out.trans (hb6.mono H5.out.size))
  obtain ⟨hm1, hm2, hm3⟩ := H.out
  obtain ⟨gA, oA, pA, qA, kA, hae, hMA⟩ := ((HR5.out.below hb6).mono hb6.size).mat hm1
  obtain ⟨gB, oB, pB, qB, kB, hbe, hMB⟩ := hR6.mat hm2
  obtain ⟨gC, oC, pC, qC, kC, hce, hMC⟩ := HA.out.mat hm1
  obtain ⟨gD, oD, pD, qD, kD, hde, hMD⟩ := HB.out.mat hm2
  have n1 := hm1.n1
  have n2 := hm1.n2
  have k1 := hm2.n1
  have k2 := hm2.n2
  have c1 := hm2.c1
  have c2 := hm2.c2
  have byA : Mx.ByM (ent LA) := ent_by HbA.out.1
  have byB : Mx.ByM (ent LB) := ent_by HbA.out.2
  obtain ⟨n, hn⟩ : ∃ n, LA.length = n := ⟨_, rfl⟩
  obtain ⟨K, hK⟩ : ∃ K, LB.length = K := ⟨_, rfl⟩
  obtain ⟨C, hC⟩ : ∃ C, (LB[0]?.getD []).length = C := ⟨_, rfl⟩
  rw [hm3, hK] at hMA hMC
  rw [hn] at hMA hMC n1 n2
  rw [hC] at hMB hMD c1 c2
  rw [hK] at hMB hMD k1 k2
  rw [hae, hbe, hn, hK]
  have Ht := Lib.hid (times_walk w6.heap.size gA oA n K c5 gB oB C c6 pA qA kA pB qB kB (ent LA) (ent LB) w6 _ (Nat.le_refl _) ((HE.out.below H6.out (Nat.le_refl _)).c2) hMA hMB byA byB n1 n2 k1 k2 c1 c2)
  have Hr := Lib.hid (And.intro hMC hMD)
  clear hMA hMB hMC hMD hb6 hR6 HR5 hm1 hm2 hm3 hae hbe hn hK hC
  rw [hce, hde]
  clear hce hde
  go_wp2_with fail
  refine Ht.out.mono ?_
  rintro e w7 ⟨⟨v7, bs7, cp7, rfl, hm7⟩, hb7⟩
  obtain ⟨g7, c7, hve, _, _, hV7⟩ := hm7.mat (by omega)
  rw [hve]
  have H7 := Lib.hid (H6.out.trans (hb7.mono H6.out.size))
  have HV7 := Lib.hid (hV7.read (by omega) (by omega))
  clear hve hV7 hm7 hb7 Ht
  go_wp2_with fail
  refine (rtimes_walk w.heap.size gC oC n K ca gD oD C cb pC qC kC pD qD kD (ent LA) (ent LB) w7 H7.out.size (Hr.out.1.below H7.out) (Hr.out.2.below H7.out) byA byB n1 n2 k1 k2 c1 c2).mono ?_
  rintro e w8 ⟨⟨v8, bs8, cp8, rfl, hm8⟩, hb8⟩
  obtain ⟨g8, c8, hve, _, _, hV8⟩ := hm8.mat (by omega)
  rw [hve]
  have H8 := Lib.hid (H7.out.trans (hb8.mono H7.out.size))
  have HV8 := Lib.hid (And.intro (hV8.read (by omega) (by omega)) ((HV7.out.below hb8).mono hb8.size))
  clear hve hV8 hm8 hb8
  go_wp2_with fail
  refine (same_walk w8.heap.size g7 0 n C c7 g8 0 c8 bs7 (fun _ => 0) cp7 bs8 (fun _ => 0) cp8 _ _ w8 n2 HV8.out.2 HV8.out.1 (Mx.by_mul byA _ _) (Mx.by_mul byA _ _) (fun _ _ _ _ => rfl)).mono ?_
  rintro e w9 ⟨rfl, q, hq⟩
  have H9 : Hid (Below w.heap.size w w9) := Lib.hid (by rw [hq]; exact H8.out.trans (same_below' _ q))
  clear hq
  go_wp2
  go_ret
  exact ⟨rfl, H9.out⟩

theorem walk (aa : Option Addr) (la ca : Nat) (LA : List (List Nat)) (ab : Option Addr) (lb cb : Nat) (LB : List (List Nat)) (w : World) (w0 : RowsIn w aa la ca LA) (w1 : RowsIn w ab lb cb LB) (hL : laidMetH Tryd.prog Rows.matrixTimesRow.laid w) :
    Calls Tryd.prog 14 #[.slice aa la ca, .slice ab lb cb] w fun e w' => e = .returned (.bool true) ∧ Below w.heap.size w w' := by
  obtain ⟨E, hE⟩ := env_of_laid hL
  obtain ⟨rfl, a2, a3, a4, a5⟩ := w0
  obtain ⟨rfl, b2, b3, b4, b5⟩ := w1
  have lA : LA.length ≤ maxLen := Nat.le_trans a2 a3
  have lB : LB.length ≤ maxLen := Nat.le_trans b2 b3
  by_cases h : WideM LA ∨ WideM LB
  · exact walk_wide aa ab ca cb LA LB w E hE lA lB a5 b5 h
  have hwA : ¬ WideM LA := fun e => h (.inl e)
  have hwB : ¬ WideM LB := fun e => h (.inr e)
  by_cases ht : Together LA LB
  · exact walk_yes aa ab ca cb LA LB w E hE lA lB a4 b4 a5 b5 hwA hwB ht
  · exact walk_no aa ab ca cb LA LB w E hE lA lB a5 b5 hwA hwB ht
end matrixTimes
end Go.Proofs.YtfojimaafhpgbaaDoor
