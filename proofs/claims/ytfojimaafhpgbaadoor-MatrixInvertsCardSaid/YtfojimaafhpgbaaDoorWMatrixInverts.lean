/- The walk of the law MatrixInverts. -/
import Derived.Test.YtfojimaafhpgbaaDoorMatO
import Derived.Test.YtfojimaafhpgbaaDoorWMatrixTimes
namespace Go.Proofs.YtfojimaafhpgbaaDoor
open Go.RowKit

set_option maxHeartbeats 1000000 in
theorem invert_bad (n₀ : Nat) (a : Option Addr) (cap : Nat) (L : List (List Nat)) (w : World) (a2 : Addr) (hz : w.cell? ⟨2, 0, none⟩ = some (errV a2)) (hA : RowsAt n₀ w a L) (h : ¬ IsMat L) :
    Calls Tryd.prog 28 #[.slice a L.length cap] w fun e w' => e = .returned (.tuple #[.slice none 0 0, errV a2]) ∧ Below w.heap.size w w' := by
  have Hc := Lib.hid (check_no n₀ a cap L w _ hz hA h)
  have Hz := Lib.hid hz
  clear hz hA h
  go_enter Tryd.func28, Tryd.ntmps28
  go_wp2_with fail
  refine Hc.out.mono ?_
  rintro e w1 ⟨rfl, hb1⟩
  have hz1 : w1.cell? ⟨2, 0, none⟩ = some (errV a2) := (hb1.cell (lt_of_cell Hz.out)).trans Hz.out
  have HB1 := Lib.hid hb1
  clear hb1
  go_wp2
  go_quiet (fail)
  go_wp2
  go_ret2
  exact ⟨rfl, HB1.out.trans (same_below' _ nq)⟩
set_option maxHeartbeats 1000000 in
theorem invert_flat (n₀ b off n C cap : Nat) (p o caps : Nat → Nat) (M : Nat → Nat → Nat) (w : World) (a2 : Addr) (hn₀ : n₀ ≤ w.heap.size) (hz : w.cell? ⟨2, 0, none⟩ = some (errV a2)) (hM : MatR n₀ w b off n C p o caps M) (hn : 1 ≤ n) (hn2 : n ≤ 16) (hC : 1 ≤ C) (hC2 : C ≤ 16) (hne : n ≠ C) :
    Calls Tryd.prog 28 #[.slice (some ⟨b, off, none⟩) n cap] w fun e w' => e = .returned (.tuple #[.slice none 0 0, errV a2]) ∧ Below w.heap.size w w' := by
  have HM := Lib.hid hM
  have Hz := Lib.hid hz
  have hne1 : ((n : Int) != (C : Int)) = true := by simp; omega
  have hne2 : (n != C) = true := by simp; omega
  clear hM hz
  go_enter Tryd.func28, Tryd.ntmps28
  go_wp2_with fail
  refine (check_mat n₀ b off n C cap p o caps M w _ Hz.out HM.out hn hn2 hC hC2).mono ?_
  rintro e w1 ⟨rfl, hb1⟩
  have h0 := (HM.out.below (hb1.mono hn₀)).head 0 (by omega)
  rw [Nat.add_zero] at h0
  have hn3 : (0 : Int) < n := by omega
  have hz1 : w1.cell? ⟨2, 0, none⟩ = some (errV a2) := (hb1.cell (lt_of_cell Hz.out)).trans Hz.out
  have HB1 := Lib.hid hb1
  clear hb1
  go_wp2
  go_quiet (fail)
  go_wp2
  go_ret2
  exact ⟨rfl, HB1.out.trans (same_below' _ nq)⟩
set_option maxHeartbeats 1000000 in
theorem rank_bad (n₀ : Nat) (a : Option Addr) (cap : Nat) (L : List (List Nat)) (w : World) (a2 : Addr) (hz : w.cell? ⟨2, 0, none⟩ = some (errV a2)) (hA : RowsAt n₀ w a L) (h : ¬ IsMat L) :
    Calls Tryd.prog 27 #[.slice a L.length cap] w fun e w' => e = .returned (.tuple #[.int .i64 0, errV a2]) ∧ Below w.heap.size w w' := by
  have Hc := Lib.hid (check_no n₀ a cap L w _ hz hA h)
  clear hz hA h
  go_enter Tryd.func27, Tryd.ntmps27
  go_wp2_with fail
  refine Hc.out.mono ?_
  rintro e w1 ⟨rfl, hb1⟩
  have HB1 := Lib.hid hb1
  clear hb1
  go_wp2
  go_ret2
  exact ⟨rfl, HB1.out⟩
namespace matrixInverts

set_option maxHeartbeats 1000000 in
theorem walk_wide (a : Option Addr) (c : Nat) (L : List (List Nat)) (w : World) (E : Nat → Addr) (hE : ErrEnv w E) (lA : L.length ≤ maxLen) (hA : RowsAt w.heap.size w a L) (h : WideM L) :
    Calls Tryd.prog 13 #[.slice a L.length c] w fun e w' => e = .returned (.bool true) ∧ Below w.heap.size w w' := by
  have HU := Lib.hid (unit_walk w E hE.ez)
  have HA := Lib.hid hA
  have H := Lib.hid h
  clear hE hA h
  go_enter Tryd.func13, Tryd.ntmps13
  go_wp2_with fail
  refine HU.out.mono ?_
  rintro e w1 ⟨rfl, hb1⟩
  have H1 := Lib.hid hb1
  clear hb1
  go_wp2_with fail
  refine (wide_walk _ a c L w1 lA (HA.out.below H1.out)).mono ?_
  rintro e w' ⟨h1 | h1, rfl⟩
  · obtain ⟨_, rfl⟩ := h1
    go_wp2
    go_ret
    exact ⟨rfl, H1.out⟩
  · exact absurd H.out h1.1
set_option maxRecDepth 100000 in
set_option maxHeartbeats 2000000 in
theorem walk_none (a : Option Addr) (c : Nat) (L : List (List Nat)) (w : World) (E : Nat → Addr) (hE : ErrEnv w E) (lA : L.length ≤ maxLen) (hA : RowsAt w.heap.size w a L) (hw : ¬ WideM L) (h : ¬ IsMat L) :
    Calls Tryd.prog 13 #[.slice a L.length c] w fun e w' => e = .returned (.bool true) ∧ Below w.heap.size w w' := by
  have HU := Lib.hid (unit_walk w E hE.ez)
  have HA := Lib.hid hA
  have H := Lib.hid h
  have HE := Lib.hid hE
  have Hw := Lib.hid hw
  have e3 : decide ((3 : Int) = ((2 : Nat) : Int) + 1) = true := rfl
  clear hE hA h hw
  go_enter Tryd.func13, Tryd.ntmps13
  go_wp2_with fail
  refine HU.out.mono ?_
  rintro e w1 ⟨rfl, hb1⟩
  have H1 := Lib.hid hb1
  clear hb1
  go_wp2_with fail
  refine (matrixTimes.wide_no _ a c L w1 lA (HA.out.below H1.out) Hw.out).mono ?_
  rintro e w' ⟨rfl, rfl⟩
  go_wp2_with fail
  refine (own_rows _ a c L w1 H1.out.size Hw.out (HA.out.below H1.out)).mono ?_
  rintro e w2 ⟨⟨b2, c2, rfl, hR2⟩, hb2⟩
  have H2 := Lib.hid (H1.out.trans (hb2.mono H1.out.size))
  have HR2 := Lib.hid hR2
  clear hb2 hR2
  go_wp2_with fail
  refine (invert_bad _ b2 c2 L w2 (E 2) ((HE.out.below H2.out (Nat.le_refl _)).c2) HR2.out H.out).mono ?_
  rintro e w3 ⟨rfl, hb3⟩
  have H3 := Lib.hid (H2.out.trans (hb3.mono H2.out.size))
  clear hb3 HR2
  go_wp2_with fail
  refine (own_rows _ a c L w3 H3.out.size Hw.out (HA.out.below H3.out)).mono ?_
  rintro e w4 ⟨⟨b4, c4, rfl, hR4⟩, hb4⟩
  have H4 := Lib.hid (H3.out.trans (hb4.mono H3.out.size))
  have HR4 := Lib.hid hR4
  clear hb4 hR4
  go_wp2_with fail
  refine (rank_bad _ b4 c4 L w4 (E 2) ((HE.out.below H4.out (Nat.le_refl _)).c2) HR4.out H.out).mono ?_
  rintro e w5 ⟨rfl, hb5⟩
  have H5 := Lib.hid (H4.out.trans (hb5.mono H4.out.size))
  clear hb5 HR4
  go_wp2_with fail
  refine (rismat_no _ a c L w5 (HA.out.below H5.out) H.out).mono ?_
  rintro e w6 ⟨rfl, q, hq⟩
  have H6 : Hid (Below w.heap.size w w6) := Lib.hid (by rw [hq]; exact H5.out.trans (same_below' _ q))
  clear hq
  go_wp2_with fail
  refine (coded_err E 2 (by decide) 3 w6 (HE.out.below H6.out (Nat.le_refl _))).mono ?_
  rintro e w7 ⟨rfl, hb7⟩
  rw [e3]
  have H7 := Lib.hid (H6.out.trans (hb7.mono H6.out.size))
  clear hb7
  go_wp2_with fail
  refine (coded_err E 2 (by decide) 3 w7 (HE.out.below H7.out (Nat.le_refl _))).mono ?_
  rintro e w8 ⟨rfl, hb8⟩
  rw [e3]
  have H8 := Lib.hid (H7.out.trans (hb8.mono H7.out.size))
  clear hb8
  go_wp2
  go_ret
  exact ⟨rfl, H8.out⟩
set_option maxRecDepth 100000 in
set_option maxHeartbeats 4000000 in
theorem walk_flat (a : Option Addr) (c : Nat) (L : List (List Nat)) (w : World) (E : Nat → Addr) (hE : ErrEnv w E) (lA : L.length ≤ maxLen) (bL : BytesR L) (hA : RowsAt w.heap.size w a L) (hw : ¬ WideM L) (h : IsMat L) (hne : L.length ≠ (L[0]?.getD []).length) :
    Calls Tryd.prog 13 #[.slice a L.length c] w fun e w' => e = .returned (.bool true) ∧ Below w.heap.size w w' := by
  have HU := Lib.hid (unit_walk w E hE.ez)
  have HA := Lib.hid hA
  have H := Lib.hid h
  have HE := Lib.hid hE
  have Hw := Lib.hid hw
  have e3 : decide ((3 : Int) = ((2 : Nat) : Int) + 1) = true := rfl
  have bM : Mx.ByM (ent L) := ent_by bL
  obtain ⟨g0, o0, p0, q0, k0, hae, hM0⟩ := hA.mat h
  have n1 := h.n1
  have n2 := h.n2
  have c1 := h.c1
  have c2' := h.c2
  obtain ⟨n, hn⟩ : ∃ n, L.length = n := ⟨_, rfl⟩
  obtain ⟨C, hC⟩ : ∃ C, (L[0]?.getD []).length = C := ⟨_, rfl⟩
  rw [hC] at hM0 c1 c2' hne
  rw [hn] at hM0 n1 n2 hne
  have HM0 := Lib.hid hM0
  have Hn := Lib.hid (And.intro hn hC)
  have hne1 : ((n : Int) != (C : Int)) = true := by simp; omega
  have hne2 : (n != C) = true := by simp; omega
  have Hae := Lib.hid hae
  clear hE hA h hw hM0 hC hae
  rw [hn]
  clear hn
  go_enter Tryd.func13, Tryd.ntmps13
  go_wp2_with fail
  refine HU.out.mono ?_
  rintro e w1 ⟨rfl, hb1⟩
  have H1 := Lib.hid hb1
  clear hb1
  go_wp2_with fail
  rw [← Hn.out.1]
  refine (matrixTimes.wide_no _ a c L w1 lA (HA.out.below H1.out) Hw.out).mono ?_
  rintro e w' ⟨rfl, rfl⟩
  go_wp2_with fail
  refine (own_rows _ a c L w1 H1.out.size Hw.out (HA.out.below H1.out)).mono ?_
  rintro e w2 ⟨⟨b2, c2, rfl, hR2⟩, hb2⟩
  have H2 := Lib.hid (H1.out.trans (hb2.mono H1.out.size))
  obtain ⟨g2, o2, p2, q2, k2, hbe, hM2⟩ := hR2.mat H.out
  rw [Hn.out.1, Hn.out.2] at hM2
  rw [hbe, Hn.out.1]
  have Hi := Lib.hid (invert_flat _ g2 o2 n C c2 p2 q2 k2 (ent L) w2 (E 2) (Nat.le_refl _) ((HE.out.below H2.out (Nat.le_refl _)).c2) hM2 n1 n2 c1 c2' hne)
  clear hb2 hR2 hbe hM2
  go_wp2_with fail
  refine Hi.out.mono ?_
  rintro e w3 ⟨rfl, hb3⟩
  have H3 := Lib.hid (H2.out.trans (hb3.mono H2.out.size))
  clear hb3
  go_wp2_with fail
  rw [← Hn.out.1]
  refine (own_rows _ a c L w3 H3.out.size Hw.out (HA.out.below H3.out)).mono ?_
  rintro e w4 ⟨⟨b4, c4, rfl, hR4⟩, hb4⟩
  have H4 := Lib.hid (H3.out.trans (hb4.mono H3.out.size))
  obtain ⟨g4, o4, p4, q4, k4, hbe, hM4⟩ := hR4.mat H.out
  rw [Hn.out.1, Hn.out.2] at hM4
  rw [hbe, Hn.out.1]
  have Hr := Lib.hid (rank_walk _ g4 o4 n C c4 p4 q4 k4 (ent L) w4 _ (Nat.le_refl _) ((HE.out.below H4.out (Nat.le_refl _)).c2) hM4 bM n1 n2 c1 c2')
  clear hb4 hR4 hbe hM4
  go_wp2_with fail
  refine Hr.out.mono ?_
  rintro e w5 ⟨done, L5, G, rfl, hbG, hrr, hker, hb5⟩
  have H5 := Lib.hid (H4.out.trans (hb5.mono H4.out.size))
  have HG := Lib.hid (And.intro hbG (And.intro hrr hker))
  clear hb5 hbG hrr hker
  rw [Hae.out]
  go_wp2_with fail
  refine (rismat_mat _ g0 o0 n C c p0 q0 k0 (ent L) w5 (HM0.out.below H5.out) n1 n2 c1 c2').mono ?_
  rintro e w6 ⟨rfl, q, hq⟩
  have H6 : Hid (Below w.heap.size w w6) := Lib.hid (by rw [hq]; exact H5.out.trans (same_below' _ q))
  clear hq
  go_wp2_with fail
  refine (rrank_walk _ g0 o0 n C c p0 q0 k0 (ent L) w6 H6.out.size (HM0.out.below H6.out) bM n2 c1 c2').mono ?_
  rintro e w7 ⟨⟨q7, K7, L7, rfl, hkept⟩, hb7⟩
  have hd := Mx.rank_same hkept HG.out.1 HG.out.2.1 HG.out.2.2
  subst hd
  have H7 := Lib.hid (H6.out.trans (hb7.mono H6.out.size))
  have h0 := (HM0.out.below H7.out).head 0 (by omega)
  rw [Nat.add_zero] at h0
  have hn3 : (0 : Int) < n := by omega
  clear hb7 hkept HG
  go_wp2_with fail
  refine (coded_err E 2 (by decide) 3 w7 (HE.out.below H7.out (Nat.le_refl _))).mono ?_
  rintro e w8 ⟨rfl, hb8⟩
  rw [e3]
  have H8 := Lib.hid (H7.out.trans (hb8.mono H7.out.size))
  clear hb8
  go_wp2
  go_ret
  exact ⟨rfl, H8.out⟩
set_option maxRecDepth 100000 in
set_option maxHeartbeats 8000000 in
theorem walk_square (a : Option Addr) (c : Nat) (L : List (List Nat)) (w : World) (E : Nat → Addr) (hE : ErrEnv w E) (lA : L.length ≤ maxLen) (bL : BytesR L) (hA : RowsAt w.heap.size w a L) (hw : ¬ WideM L) (h : IsMat L) (hne : L.length = (L[0]?.getD []).length) :
    Calls Tryd.prog 13 #[.slice a L.length c] w fun e w' => e = .returned (.bool true) ∧ Below w.heap.size w w' := by
  have HU := Lib.hid (unit_walk w E hE.ez)
  have HA := Lib.hid hA
  have H := Lib.hid h
  have HE := Lib.hid hE
  have Hw := Lib.hid hw
  have e12 : decide ((12 : Int) = ((11 : Nat) : Int) + 1) = true := rfl
  have bM : Mx.ByM (ent L) := ent_by bL
  obtain ⟨g0, o0, p0, q0, k0, hae, hM0⟩ := hA.mat h
  have n1 := h.n1
  have n2 := h.n2
  rw [← hne] at hM0
  have hC := hne.symm
  obtain ⟨n, hn⟩ : ∃ n, L.length = n := ⟨_, rfl⟩
  rw [hn] at hM0 n1 n2 hC
  have HM0 := Lib.hid hM0
  have Hn := Lib.hid (And.intro hn hC)
  have Hae := Lib.hid hae
  clear hE hA h hw hM0 hC hae hne
  rw [hn]
  clear hn
  go_enter Tryd.func13, Tryd.ntmps13
  go_wp2_with fail
  refine HU.out.mono ?_
  rintro e w1 ⟨rfl, hb1⟩
  have H1 := Lib.hid hb1
  clear hb1
  go_wp2_with fail
  rw [← Hn.out.1]
  refine (matrixTimes.wide_no _ a c L w1 lA (HA.out.below H1.out) Hw.out).mono ?_
  rintro e w' ⟨rfl, rfl⟩
  go_wp2_with fail
  refine (own_rows _ a c L w1 H1.out.size Hw.out (HA.out.below H1.out)).mono ?_
  rintro e w2 ⟨⟨b2, c2, rfl, hR2⟩, hb2⟩
  have H2 := Lib.hid (H1.out.trans (hb2.mono H1.out.size))
  obtain ⟨g2, o2, p2, q2, k2, hbe, hM2⟩ := hR2.mat H.out
  rw [Hn.out.1, Hn.out.2] at hM2
  rw [hbe, Hn.out.1]
  have hE2 := HE.out.below H2.out (Nat.le_refl _)
  have Hi := Lib.hid (invert_walk _ g2 o2 n c2 p2 q2 k2 (ent L) w2 _ _ (Nat.le_refl _) hE2.c2 hE2.c11 hM2 bM n1 n2)
  clear hb2 hR2 hbe hM2 hE2
  go_wp2_with fail
  refine Hi.out.mono ?_
  rintro e w3 ⟨dn, L3, G3, hbG3, hrr3, hker3, hb3, hres⟩
  have H3 := Lib.hid (H2.out.trans (hb3.mono H2.out.size))
  have HG3 := Lib.hid (And.intro hbG3 (And.intro hrr3 hker3))
  clear hb3 hbG3 hrr3 hker3
  rcases hres with ⟨hlt, rfl⟩ | ⟨hdn, v3, bs3, cp3, rfl, hm3⟩
  · have hlt2 : (dn : Int) < n := by omega
    go_wp2_with fail
    rw [← Hn.out.1]
    refine (own_rows _ a c L w3 H3.out.size Hw.out (HA.out.below H3.out)).mono ?_
    rintro e w4 ⟨⟨b4, c4, rfl, hR4⟩, hb4⟩
    have H4 := Lib.hid (H3.out.trans (hb4.mono H3.out.size))
    obtain ⟨g4, o4, p4, q4, k4, hbe, hM4⟩ := hR4.mat H.out
    rw [Hn.out.1, Hn.out.2] at hM4
    rw [hbe, Hn.out.1]
    have Hr := Lib.hid (rank_walk _ g4 o4 n n c4 p4 q4 k4 (ent L) w4 _ (Nat.le_refl _) ((HE.out.below H4.out (Nat.le_refl _)).c2) hM4 bM n1 n2 n1 n2)
    clear hb4 hR4 hbe hM4
    go_wp2_with fail
    refine Hr.out.mono ?_
    rintro e w5 ⟨done, L5, G, rfl, hbG, hrr, hker, hb5⟩
    have H5 := Lib.hid (H4.out.trans (hb5.mono H4.out.size))
    have HG := Lib.hid (And.intro hbG (And.intro hrr hker))
    clear hb5 hbG hrr hker
    rw [Hae.out]
    go_wp2_with fail
    refine (rismat_mat _ g0 o0 n n c p0 q0 k0 (ent L) w5 (HM0.out.below H5.out) n1 n2 n1 n2).mono ?_
    rintro e w6 ⟨rfl, q, hq⟩
    have H6 : Hid (Below w.heap.size w w6) := Lib.hid (by rw [hq]; exact H5.out.trans (same_below' _ q))
    clear hq
    go_wp2_with fail
    refine (rrank_walk _ g0 o0 n n c p0 q0 k0 (ent L) w6 H6.out.size (HM0.out.below H6.out) bM n2 n1 n2).mono ?_
    rintro e w7 ⟨⟨q7, K7, L7, rfl, hkept⟩, hb7⟩
    have hd := Mx.rank_same hkept HG.out.1 HG.out.2.1 HG.out.2.2
    have hd2 := Mx.rank_same hkept HG3.out.1 HG3.out.2.1 (fun v hv => (HG3.out.2.2 n v hv).trans Mx.ker_wide)
    subst hd
    subst hd2
    have H7 := Lib.hid (H6.out.trans (hb7.mono H6.out.size))
    have h0 := (HM0.out.below H7.out).head 0 (by omega)
    rw [Nat.add_zero] at h0
    have hn3 : (0 : Int) < n := by omega
    clear hb7 hkept HG HG3
    go_wp2_with fail
    refine (coded_err E 11 (by decide) 12 w7 (HE.out.below H7.out (Nat.le_refl _))).mono ?_
    rintro e w8 ⟨rfl, hb8⟩
    rw [e12]
    have H8 := Lib.hid (H7.out.trans (hb8.mono H7.out.size))
    clear hb8
    go_wp2
    go_ret
    exact ⟨rfl, H8.out⟩
  · have hdn' := hdn.symm
    subst hdn'
    obtain ⟨g3, c3, hve, _, _, hV3⟩ := hm3.mat (by omega)
    rw [hve]
    have hinv : Mx.Inv (ent L) (Mx.right G3 n) n := Mx.inverse_of bM HG3.out.1 HG3.out.2.1 (fun v hv => HG3.out.2.2 _ v hv)
    have HX := Lib.hid (And.intro (hV3.read (by omega) (by omega)) hinv)
    have hnn : ¬ (n : Int) < n := by omega
    clear hve hV3 hm3 hinv hdn
    go_wp2_with fail
    rw [← Hn.out.1]
    refine (own_rows _ a c L w3 H3.out.size Hw.out (HA.out.below H3.out)).mono ?_
    rintro e w4 ⟨⟨b4, c4, rfl, hR4⟩, hb4⟩
    have H4 := Lib.hid (H3.out.trans (hb4.mono H3.out.size))
    obtain ⟨g4, o4, p4, q4, k4, hbe, hM4⟩ := hR4.mat H.out
    rw [Hn.out.1, Hn.out.2] at hM4
    rw [hbe, Hn.out.1]
    have HX4 := Lib.hid ((HX.out.1.below hb4).mono hb4.size)
    have Hr := Lib.hid (rank_walk _ g4 o4 n n c4 p4 q4 k4 (ent L) w4 _ (Nat.le_refl _) ((HE.out.below H4.out (Nat.le_refl _)).c2) hM4 bM n1 n2 n1 n2)
    clear hb4 hR4 hbe hM4
    go_wp2_with fail
    refine Hr.out.mono ?_
    rintro e w5 ⟨done, L5, G, rfl, hbG, hrr, hker, hb5⟩
    have H5 := Lib.hid (H4.out.trans (hb5.mono H4.out.size))
    have HX5 := Lib.hid ((HX4.out.below hb5).mono hb5.size)
    have HG := Lib.hid (And.intro hbG (And.intro hrr hker))
    clear hb5 hbG hrr hker
    rw [Hae.out]
    go_wp2_with fail
    refine (rismat_mat _ g0 o0 n n c p0 q0 k0 (ent L) w5 (HM0.out.below H5.out) n1 n2 n1 n2).mono ?_
    rintro e w6 ⟨rfl, q, hq⟩
    have hb6 : Below w5.heap.size w5 w6 := by rw [hq]; exact same_below' _ q
    have H6 := Lib.hid (H5.out.trans (hb6.mono H5.out.size))
    have HX6 := Lib.hid ((HX5.out.below hb6).mono hb6.size)
    clear hq hb6
    go_wp2_with fail
    refine (rrank_walk _ g0 o0 n n c p0 q0 k0 (ent L) w6 H6.out.size (HM0.out.below H6.out) bM n2 n1 n2).mono ?_
    rintro e w7 ⟨⟨q7, K7, L7, rfl, hkept⟩, hb7⟩
    have hd := Mx.rank_same hkept HG.out.1 HG.out.2.1 HG.out.2.2
    have hd2 := Mx.rank_same hkept HG3.out.1 HG3.out.2.1 (fun v hv => (HG3.out.2.2 n v hv).trans Mx.ker_wide)
    subst hd
    have hd3 := hd2.symm
    subst hd3
    have H7 := Lib.hid (H6.out.trans (hb7.mono H6.out.size))
    have HX7 := Lib.hid ((HX6.out.below hb7).mono hb7.size)
    have h0 := (HM0.out.below H7.out).head 0 (by omega)
    rw [Nat.add_zero] at h0
    have hn3 : (0 : Int) < done := by omega
    clear hb7 hkept HG HG3 hd2
    go_wp2_with fail
    clear h0
    refine (rtimes_walk w7.heap.size g0 o0 done done c g3 0 done c3 p0 q0 k0 _ _ _ (ent L) (Mx.right G3 done) w7 (Nat.le_refl _) ((HM0.out.below H7.out).mono H7.out.size) HX7.out bM HX.out.2.by_ n1 n2 n1 n2 n1 n2).mono ?_
    rintro e w8 ⟨⟨v8, bs8, cp8, rfl, hm8⟩, hb8⟩
    obtain ⟨g8, c8, hve, _, _, hV8⟩ := hm8.mat (by omega)
    rw [hve]
    have H8 := Lib.hid (H7.out.trans (hb8.mono H7.out.size))
    have HX8 := Lib.hid ((HX7.out.below hb8).mono hb8.size)
    have HA8 := Lib.hid ((hV8.read (by omega) (by omega)).congr (M' := fun i j => if i = j then 1 else 0) (fun i hi j hj => HX.out.2.right i j hi hj))
    clear hb8 hve hV8 hm8
    go_wp2_with fail
    refine (rtimes_walk w8.heap.size g3 0 done done c3 g0 o0 done c _ _ _ p0 q0 k0 (Mx.right G3 done) (ent L) w8 (Nat.le_refl _) HX8.out ((HM0.out.below H8.out).mono H8.out.size) HX.out.2.by_ bM n1 n2 n1 n2 n1 n2).mono ?_
    rintro e w9 ⟨⟨v9, bs9, cp9, rfl, hm9⟩, hb9⟩
    obtain ⟨g9, c9, hve, _, _, hV9⟩ := hm9.mat (by omega)
    rw [hve]
    have H9 := Lib.hid (H8.out.trans (hb9.mono H8.out.size))
    have HA9 := Lib.hid (HA8.out.below hb9)
    have HB9 := Lib.hid ((hV9.read (by omega) (by omega)).congr (M' := fun i j => if i = j then 1 else 0) (fun i hi j hj => HX.out.2.left i j hi hj))
    clear hb9 hve hV9 hm9
    go_wp2
    go_loop [13] (fun vi => ∃ i : Nat, i ≤ done ∧ vi = .int .i64 i) (fun i => done - (intOf i).toNat)
    case atStart => exact ⟨0, by omega, rfl⟩
    case round =>
      obtain ⟨i, hi, rfl⟩ := hrel
      have hi2 : i < done ∨ i = done := by omega
      rcases hi2 with hlt | rfl
      · have hlt2 : (i : Int) < done := by omega
        have h1 := HA9.out.head i hlt
        have h2 := HB9.out.head i hlt
        rw [Nat.zero_add] at h1 h2
        go_wp2
        go_loop [14] (fun vj => ∃ j : Nat, j ≤ done ∧ vj = .int .i64 j) (fun j => done - (intOf j).toNat)
        case atStart => exact ⟨0, by omega, rfl⟩
        case round =>
          obtain ⟨j, hj, rfl⟩ := hrel
          have hj2 : j < done ∨ j = done := by omega
          rcases hj2 with hjl | rfl
          · have hjl2 : (j : Int) < done := by omega
            have h3 := HA9.out.cell i hlt j hjl
            have h4 := HB9.out.cell i hlt j hjl
            rw [Nat.zero_add] at h3 h4
            by_cases e : i = j
            · subst e
              have e1 : (if i = i then 1 else 0 : Nat) = 1 := if_pos rfl
              rw [e1] at h3 h4
              clear e1
              go_wp2
              go_round
              case rel => exact ⟨i + 1, by omega, by go_num⟩
              case measure => simp [intOf]; omega
            · have e1 : (if i = j then 1 else 0 : Nat) = 0 := if_neg e
              rw [e1] at h3 h4
              have e2 : ((i : Int) == (j : Int)) = false := by simp; omega
              have e3 : (i == j) = false := by simp; omega
              have e4 : ¬ (i : Int) = (j : Int) := by omega
              clear e1
              go_wp2
              go_round
              case rel => exact ⟨j + 1, by omega, by go_num⟩
              case measure => simp [intOf]; omega
          · go_wp2
            go_round
            case rel => exact ⟨i + 1, by omega, by go_num⟩
            case measure => simp [intOf]; omega
      · go_wp2
        go_ret
        exact ⟨rfl, H9.out⟩

theorem walk (a : Option Addr) (l c : Nat) (L : List (List Nat)) (w : World) (w0 : RowsIn w a l c L) (hL : laidMetH Tryd.prog Rows.matrixInvertsRow.laid w) :
    Calls Tryd.prog 13 #[.slice a l c] w fun e w' => e = .returned (.bool true) ∧ Below w.heap.size w w' := by
  obtain ⟨E, hE⟩ := env_of_laid hL
  obtain ⟨rfl, a2, a3, a4, a5⟩ := w0
  have lA : L.length ≤ maxLen := Nat.le_trans a2 a3
  by_cases hw : WideM L
  · exact walk_wide a c L w E hE lA a5 hw
  by_cases hm : IsMat L
  · by_cases hne : L.length = (L[0]?.getD []).length
    · exact walk_square a c L w E hE lA a4 a5 hw hm hne
    · exact walk_flat a c L w E hE lA a4 a5 hw hm hne
  · exact walk_none a c L w E hE lA a5 hw hm
end matrixInverts
end Go.Proofs.YtfojimaafhpgbaaDoor
