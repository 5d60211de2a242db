/- The walk of the law CarryHears: a fault. (Printed by gen_wcar.py.) -/
import Derived.Test.YtabboioamdphmaaGreatDoorSCarryHears42
import Derived.Test.YtabboioamdphmaaGreatDoorSCarryHears29
import Derived.Test.YtabboioamdphmaaGreatDoorSCarryHears45
import Derived.Test.YtabboioamdphmaaGreatDoorRows
import Derived.JoinedOf
import Derived.KernelRfl
import Derived.JoinedCond
namespace Go.Proofs.YtabboioamdphmaaGreatDoor.carryHears
open Go.Proofs.YtabboioamdphmaaGreatDoor
open Go.RowKit Go.Maps Go.BigFrame

set_option maxRecDepth 100000 in
set_option maxHeartbeats 16000000 in
theorem main_B (w : World) (E : Nat → Addr) (hE : ErrEnv w E) (op cf n k : Int) (a : Option Addr) (len cap : Nat) (L : List ByteArray) (nB kB : Int) (aB : Option Addr) (lenB capB : Nat) (LB : List ByteArray) (key : ByteArray) (la : Option Addr) (ll lc : Nat) (l : List Msg) (hin : CfgIn w n k a len cap L) (hin2 : CfgIn w nB kB aB lenB capB LB) (hcfm : cf ≤ 9223372036854775807) (hkey : key.size ≤ maxLen) (hA : MsgsIn w la ll lc l) (hbk : msgsbulk l ≤ 1048576) (hlc : longC L = false) (hlc2 : longC LB = false) (hk1 : ¬ (100 : Int) < key.size) (hF0 : (carF op n k L nB kB LB cf key).1 ≠ 0) :
    Calls Tryz.prog 3 #[.int .i64 op, .agg #[.int .i64 n, .int .i64 k, .slice a len cap], .agg #[.int .i64 nB, .int .i64 kB, .slice aB lenB capB], .int .i64 cf, .string key, .slice la ll lc] w fun e w' => e = .returned (.bool true) ∧ Below w.heap.size w w' := by
  have hT := hin.t_
  have hT2 := hin2.t_
  obtain ⟨bf, hbf⟩ : ∃ bf, w.heap.size = bf := ⟨_, rfl⟩
  obtain ⟨W0, hW0⟩ : ∃ W0, w.alloc (.cells #[.int .i64 n, .int .i64 k, .slice a len cap] 24) = W0 := ⟨_, rfl⟩
  obtain ⟨bt, hbt⟩ : ∃ bt, W0.heap.size = bt := ⟨_, rfl⟩
  obtain ⟨W1, hW1⟩ : ∃ W1, W0.alloc (.cells #[.int .i64 nB, .int .i64 kB, .slice aB lenB capB] 24) = W1 := ⟨_, rfl⟩
  have hb0 : Below w.heap.size w W0 := by rw [← hW0]; exact (Below.refl _ _).alloc (Nat.le_refl _) _
  have hb01 : Below W0.heap.size W0 W1 := by rw [← hW1]; exact (Below.refl _ _).alloc (Nat.le_refl _) _
  have hB1 : Below w.heap.size w W1 := hb0.trans (hb01.mono hb0.size)
  have hC0 : CfgAt W0 bf n k (.slice a len cap) := by rw [← hW0, ← hbf]; exact CfgAt.new w n k _
  have hC1 : CfgAt W1 bt nB kB (.slice aB lenB capB) := by rw [← hW1, ← hbt]; exact CfgAt.new W0 nB kB _
  have hs0 : W0.heap.size = bf + 1 := by rw [← hW0, ← hbf]; simp
  have hs1 : W1.heap.size = bt + 1 := by rw [← hW1, ← hbt]; simp
  have hC0' := hC0.below hb01 (by omega)
  have KB : Hid (∀ W, Below W1.heap.size W1 W → CfgAt W bf n k (.slice a len cap) ∧ CfgAt W bt nB kB (.slice aB lenB capB)) := Lib.hid fun W hb => ⟨hC0'.below hb (by omega), hC1.below hb (by omega)⟩
  have H := Lib.hid (And.intro hE (And.intro hA (And.intro hbk (And.intro hT (And.intro hT2 (And.intro hB1 (And.intro hkey (And.intro hlc (And.intro hlc2 hcfm)))))))))
  have hl30 : len ≤ 30 := by have h9 := (longC_no hlc).1; have := hT.len_; omega
  have hl30b : lenB ≤ 30 := by have h9 := (longC_no hlc2).1; have := hT2.len_; omega
  have hll9 : ll ≤ 9223372036854775807 := by have h9 := hA.2.2.1; have h8 := hA.2.1; unfold maxLen at h9; omega
  have Has := Lib.hid (carried_walk W1 E (hE.below hB1 (Nat.le_refl _)).qx)
  clear hT hT2 hin hin2 hE hA hbk hB1 hb0 hb01 hC0 hC1 hC0' hs0 hs1 hlc hlc2 hkey hcfm
  go_enter Tryz.func3, Tryz.ntmps3
  go_wp2_with fail
  clear hW0 hW1 hbf hbt
  refine Has.out.mono ?_
  rintro e w2 ⟨rfl, hb2⟩
  have H2 := Lib.hid (And.intro hb2 (H.out.2.2.2.2.2.1.trans (hb2.mono H.out.2.2.2.2.2.1.size)))
  clear hb2
  obtain ⟨⟨c0, c1, c2⟩, ⟨x0, x1, x2⟩⟩ := KB.out w2 H2.out.1
  have hlo := longc_walk n k w.heap.size a len cap L w2 H.out.2.2.2.1.len_ (by unfold maxLen; omega) H.out.2.2.2.1.sizeAt (H.out.2.2.2.1.txs.below H2.out.2) H2.out.2.size
  rw [H.out.2.2.2.2.2.2.2.1] at hlo
  have Hlc := Lib.hid hlo
  clear hlo
  go_wp2_with fail
  refine Hlc.out.mono ?_
  rintro e w2b ⟨rfl, hb3⟩
  have H2b := Lib.hid (And.intro (H2.out.1.trans (hb3.mono H2.out.1.size)) (H2.out.2.trans (hb3.mono H2.out.2.size)))
  clear hb3 c0 c1 c2 x0 x1 x2
  obtain ⟨⟨c0, c1, c2⟩, ⟨x0, x1, x2⟩⟩ := KB.out w2b H2b.out.1
  have hlo := longc_walk nB kB w.heap.size aB lenB capB LB w2b H.out.2.2.2.2.1.len_ (by unfold maxLen; omega) H.out.2.2.2.2.1.sizeAt (H.out.2.2.2.2.1.txs.below H2b.out.2) H2b.out.2.size
  rw [H.out.2.2.2.2.2.2.2.2.1] at hlo
  have Hlc2 := Lib.hid hlo
  clear hlo
  go_wp2_with fail
  refine Hlc2.out.mono ?_
  rintro e w3 ⟨rfl, hb3⟩
  have H3 := Lib.hid (And.intro (H2b.out.1.trans (hb3.mono H2b.out.1.size)) (H2b.out.2.trans (hb3.mono H2b.out.2.size)))
  clear hb3 c0 c1 c2 x0 x1 x2
  obtain ⟨⟨c0, c1, c2⟩, ⟨x0, x1, x2⟩⟩ := KB.out w3 H3.out.1
  have hmf := mfit_walk w3 la ll lc l (by
    obtain ⟨h1, h2, h3, h4, h5, h6⟩ := H.out.2.1
    exact ⟨h1, h2, h3, h4, (h5.below H3.out.2).mono H3.out.2.size, h6⟩)
  have Hmf := Lib.hid hmf
  clear hmf
  go_wp2_with fail
  refine Hmf.out.mono ?_
  rintro e w4 ⟨⟨r, rfl⟩, hb4⟩
  have H4 := Lib.hid (And.intro (H3.out.1.trans (hb4.mono H3.out.1.size)) (H3.out.2.trans (hb4.mono H3.out.2.size)))
  clear hb4 c0 c1 c2 x0 x1 x2
  cases r with
  | false =>
    go_wp2
    go_ret
    exact ⟨rfl, H4.out.2⟩
  | true =>
    have KC : Hid (∀ W, Below W1.heap.size W1 W → W.cell? ⟨bf, 0, none⟩ = some (.int .i64 n) ∧ W.cell? ⟨bf, 1, none⟩ = some (.int .i64 k) ∧ W.cell? ⟨bf, 2, none⟩ = some (.slice a len cap) ∧ W.cell? ⟨bt, 0, none⟩ = some (.int .i64 nB) ∧ W.cell? ⟨bt, 1, none⟩ = some (.int .i64 kB) ∧ W.cell? ⟨bt, 2, none⟩ = some (.slice aB lenB capB)) := Lib.hid fun W hb => by
      obtain ⟨⟨c0, c1, c2⟩, ⟨x0, x1, x2⟩⟩ := KB.out W hb
      exact ⟨c0, c1, c2, x0, x1, x2⟩
    have q4 := KC.out w4.drew H4.out.1.drew
    go_wp2_with fail
    go_region_held3 (fun W => W.cell? ⟨bf, 0, none⟩ = some (.int .i64 n) ∧ W.cell? ⟨bf, 1, none⟩ = some (.int .i64 k) ∧ W.cell? ⟨bf, 2, none⟩ = some (.slice a len cap) ∧ W.cell? ⟨bt, 0, none⟩ = some (.int .i64 nB) ∧ W.cell? ⟨bt, 1, none⟩ = some (.int .i64 kB) ∧ W.cell? ⟨bt, 2, none⟩ = some (.slice aB lenB capB))
      (first | exact q4 | exact q5 | exact q6 | exact q7)
      (first
        | (go_at_call_of 9 (Value.slice a len cap); refine (ownc_walk n k w.heap.size a len cap L w4.drew H.out.2.2.2.1.len_ (by omega) H.out.2.2.2.1.nil_ (H.out.2.2.2.1.txs.below H4.out.2.drew) H4.out.2.drew.size).mono ?_; rintro e w5 ⟨⟨v5, rfl, hv5⟩, hb5⟩; obtain ⟨a5, cp5, e5, g1, g2, g3, g4⟩ := hv5.read; rw [H.out.2.2.2.1.len_] at e5 g1; subst e5; have q5 := KC.out w5 (H4.out.1.drew.trans (hb5.mono H4.out.1.drew.size)); have H5 := Lib.hid (And.intro (H4.out.2.drew.trans (hb5.mono H4.out.2.drew.size)) (And.intro (H4.out.1.drew.trans (hb5.mono H4.out.1.drew.size)) (And.intro g1 (And.intro g3 g4)))); clear hb5 hv5 g1 g2 g3 g4)
        | (go_at_call_of 9 (Value.slice aB lenB capB); refine (ownc_walk nB kB w.heap.size aB lenB capB LB w5 H.out.2.2.2.2.1.len_ (by omega) H.out.2.2.2.2.1.nil_ (H.out.2.2.2.2.1.txs.below H5.out.1) H5.out.1.size).mono ?_; rintro e w6 ⟨⟨v6, rfl, hv6⟩, hb6⟩; obtain ⟨a6, cp6, e6, g1, g2, g3, g4⟩ := hv6.read; rw [H.out.2.2.2.2.1.len_] at e6 g1; subst e6; have q6 := KC.out w6 (H5.out.2.1.trans (hb6.mono H5.out.2.1.size)); have H6 := Lib.hid (And.intro (H5.out.1.trans (hb6.mono H5.out.1.size)) (And.intro (H5.out.2.1.trans (hb6.mono H5.out.2.1.size)) (And.intro g1 (And.intro g3 (And.intro g4 ((H5.out.2.2.2.2.below hb6).mono hb6.size)))))); clear hb6 hv6 g1 g2 g3 g4)
        | (go_at_call 8; refine (cnew_walk op cf n k nB kB w6.heap.size a5 len cp5 L a6 lenB cp6 LB key w6 E (H.out.1.below H6.out.1 (Nat.le_refl _)).qx H.out.2.2.2.1.len_ H5.out.2.2.1 (by omega) H5.out.2.2.2.1 H.out.2.2.2.1.sizeAt H6.out.2.2.2.2.2 H.out.2.2.2.2.1.len_ H6.out.2.2.1 (by omega) H6.out.2.2.2.1 H.out.2.2.2.2.1.sizeAt H6.out.2.2.2.2.1 (Nat.le_refl _) H.out.2.2.2.2.2.2.1).mono ?_; rintro e w7 ⟨pv, ev, rfl, hb7, hr7⟩; have q7 := KC.out w7 (H6.out.2.1.trans (hb7.mono H6.out.2.1.size)); have H7 := Lib.hid (And.intro (H6.out.1.trans (hb7.mono H6.out.1.size)) (And.intro (H6.out.2.1.trans (hb7.mono H6.out.2.1.size)) (And.intro hb7 (And.intro hr7 H6.out.1.size)))); clear hb7 hr7)
        | fail)
    rename_i hHeld
    clear hHeld q4 q5 q6 q7
    obtain ⟨⟨c0, c1, c2⟩, ⟨x0, x1, x2⟩⟩ := KB.out w7 H7.out.2.1
    have Hcf1 := Lib.hid (rconfig_walk n k w.heap.size a len cap L w7 H.out.2.2.2.1.len_ H.out.2.2.2.1.cap_ H.out.2.2.2.1.sizeAt (H.out.2.2.2.1.txs.below H7.out.1) H7.out.1.size)
    have hr := H7.out.2.2.2.1
    rcases hr with ⟨h0, rfl, hv⟩ | ⟨h0, _⟩
    · obtain ⟨F, hF⟩ : ∃ F, carF op n k L nB kB LB cf key = F := ⟨_, rfl⟩
      rw [hF] at h0 hv hF0
      obtain ⟨F1, hF1⟩ : ∃ F1, configF n k L = F1 := ⟨_, rfl⟩
      obtain ⟨F2, hF2⟩ : ∃ F2, configF nB kB LB = F2 := ⟨_, rfl⟩
      rw [hF1] at Hcf1
      have HV := Lib.hid (And.intro hv (And.intro h0 (And.intro hF (And.intro hF1 hF2))))
      have hzF : (0 : Int) < ((F.1 : Nat) : Int) := by omega
      have hzF2 : 0 < F.1 := by omega
      clear hv hF hF1 hF2 hF0 h0
      go_wp2_with fail
      refine Hcf1.out.mono ?_
      rintro e w8 ⟨rfl, hb8⟩
      unfold fltA
      obtain ⟨W9, hW9⟩ : ∃ W9, w8.alloc (.cells #[.int .i64 (F1.1 : Nat), .int .i64 F1.2] 36) = W9 := ⟨_, rfl⟩
      obtain ⟨fb, hfb⟩ : ∃ fb, w8.heap.size = fb := ⟨_, rfl⟩
      have hB9 : Below w8.heap.size w8 W9 := by rw [← hW9]; exact (Below.refl _ w8).alloc (Nat.le_refl _) _
      have hgF : W9.heap[fb]? = some (.cells #[.int .i64 (F1.1 : Nat), .int .i64 F1.2] 36 (0, 0)) := by rw [← hW9, ← hfb]; exact heap_alloc_new _ _
      have hb79 : Below w7.heap.size w7 W9 := hb8.trans (hB9.mono hb8.size)
      have H9 := Lib.hid (And.intro (H7.out.1.trans (hb79.mono H7.out.1.size)) (And.intro (H7.out.2.1.trans (hb79.mono H7.out.2.1.size)) (And.intro hb79 (And.intro hgF (show w7.heap.size ≤ fb by rw [← hfb]; exact hb8.size)))))
      have p0 : W9.cell? ⟨fb, 0, none⟩ = some (.int .i64 (F1.1 : Nat)) := cell_of_heap hgF 0
      have p1 : W9.cell? ⟨fb, 1, none⟩ = some (.int .i64 F1.2) := cell_of_heap hgF 1
      have z0 := frozen_of_heap hgF 0
      have z1 := frozen_of_heap hgF 1
      clear hb8 hB9 hgF hb79 c0 c1 c2 x0 x1 x2
      obtain ⟨⟨c0, c1, c2⟩, ⟨x0, x1, x2⟩⟩ := KB.out W9 H9.out.2.1
      have HS : Hid (∀ (V : World) (x y : Value), Below W9.heap.size W9 V → Below w.heap.size w ((V.setCell ⟨fb, 0, none⟩ x).setCell ⟨fb, 1, none⟩ y) ∧ Below w7.heap.size w7 ((V.setCell ⟨fb, 0, none⟩ x).setCell ⟨fb, 1, none⟩ y) ∧ ((V.setCell ⟨fb, 0, none⟩ x).setCell ⟨fb, 1, none⟩ y).cell? ⟨fb, 0, none⟩ = some x ∧ ((V.setCell ⟨fb, 0, none⟩ x).setCell ⟨fb, 1, none⟩ y).cell? ⟨fb, 1, none⟩ = some y ∧ V.frozen? ⟨fb, 0, none⟩ = false ∧ V.frozen? ⟨fb, 1, none⟩ = false ∧ V.cell? ⟨fb, 0, none⟩ = some (.int .i64 (F1.1 : Nat)) ∧ V.cell? ⟨fb, 1, none⟩ = some (.int .i64 F1.2)) := Lib.hid (by
        intro V x y hb
        have hg : V.heap[fb]? = some (.cells #[.int .i64 (F1.1 : Nat), .int .i64 F1.2] 36 (0, 0)) := (hb.block fb (Array.getElem?_eq_some_iff.1 H9.out.2.2.2.1).1).trans H9.out.2.2.2.1
        have h1 := heap_setCell_same V fb 0 _ _ x hg
        have h2 := heap_setCell_same (V.setCell ⟨fb, 0, none⟩ x) fb 1 _ _ y h1
        have hw7 : Below w7.heap.size w7 V := H9.out.2.2.1.trans (hb.mono H9.out.2.2.1.size)
        have hs7 : Below w7.heap.size w7 ((V.setCell ⟨fb, 0, none⟩ x).setCell ⟨fb, 1, none⟩ y) := (hw7.setCell (p := ⟨fb, 0, none⟩) H9.out.2.2.2.2 x).setCell (p := ⟨fb, 1, none⟩) H9.out.2.2.2.2 y
        exact ⟨H7.out.1.trans (hs7.mono H7.out.1.size), hs7, (cell_of_heap h2 0).trans (by simp), (cell_of_heap h2 1).trans (by simp), frozen_of_heap hg 0, frozen_of_heap hg 1, cell_of_heap hg 0, cell_of_heap hg 1⟩)
      by_cases h1 : F1.1 = 0
      · have hF10 : F1 = (0, -1) := by
          have h9 := configF_zero (n := n) (k := k) (L := L) (by rw [HV.out.2.2.2.1]; exact h1)
          rw [← HV.out.2.2.2.1]; exact h9.2.2.2.2
        subst hF10
        dsimp only at p0 p1 hW9 HS ⊢
        replace hW9 : w8.alloc (.cells #[.int .i64 0, .int .i64 (-1)] 36) = W9 := hW9
        replace p0 : W9.cell? ⟨fb, 0, none⟩ = some (.int .i64 0) := p0
        have Hcf2 := Lib.hid (rconfig_walk nB kB w.heap.size aB lenB capB LB W9 H.out.2.2.2.2.1.len_ H.out.2.2.2.2.1.cap_ H.out.2.2.2.2.1.sizeAt (H.out.2.2.2.2.1.txs.below H9.out.1) H9.out.1.size)
        rw [HV.out.2.2.2.2] at Hcf2
        have e1 : (configF n k L).1 = 0 := by rw [HV.out.2.2.2.1]
        have E1 := Lib.hid e1
        clear h1 e1
        go_wp2_with fail
        clear hW9 hfb
        refine Hcf2.out.mono ?_
        rintro e w10 ⟨rfl, hb10⟩
        unfold fltA
        obtain ⟨s1, s2, s3, s4, s5, s6, s7, s8⟩ := HS.out w10 (.int .i64 (F2.1 : Nat)) (.int .i64 F2.2) hb10
        replace s7 : w10.cell? ⟨fb, 0, none⟩ = some (.int .i64 0) := s7
        obtain ⟨W11, hW11⟩ : ∃ W11, (w10.setCell ⟨fb, 0, none⟩ (.int .i64 (F2.1 : Nat))).setCell ⟨fb, 1, none⟩ (.int .i64 F2.2) = W11 := ⟨_, rfl⟩
        rw [hW11] at s1 s2 s3 s4
        have H11 := Lib.hid (And.intro s1 s2)
        have HB10 := Lib.hid hb10
        clear p0 p1 z0 z1 c0 c1 c2 x0 x1 x2 s1 s2 hb10
        by_cases h2 : F2.1 = 0
        · have hF20 : F2 = (0, -1) := by
            have h9 := configF_zero (n := nB) (k := kB) (L := LB) (by rw [HV.out.2.2.2.2]; exact h2)
            rw [← HV.out.2.2.2.2]; exact h9.2.2.2.2
          subst hF20
          dsimp only at s3 s4 hW11 ⊢
          replace hW11 : (w10.setCell ⟨fb, 0, none⟩ (.int .i64 0)).setCell ⟨fb, 1, none⟩ (.int .i64 (-1)) = W11 := hW11
          replace s3 : W11.cell? ⟨fb, 0, none⟩ = some (.int .i64 0) := s3
          have e2 : (configF nB kB LB).1 = 0 := by rw [HV.out.2.2.2.2]
          have E2 := Lib.hid e2
          have hgW : W11.heap[fb]? = some (.cells #[.int .i64 0, .int .i64 (-1)] 36 (0, 0)) := by
            rw [← hW11]
            have hg : w10.heap[fb]? = some (.cells #[.int .i64 0, .int .i64 (-1)] 36 (0, 0)) := (HB10.out.block fb (Array.getElem?_eq_some_iff.1 H9.out.2.2.2.1).1).trans H9.out.2.2.2.1
            exact heap_setCell_same _ fb 1 _ _ _ (heap_setCell_same w10 fb 0 _ _ _ hg)
          have HG := Lib.hid hgW
          have HS2 : Hid (∀ (V : World) (x y : Value), Below W11.heap.size W11 V → Below w.heap.size w ((V.setCell ⟨fb, 0, none⟩ x).setCell ⟨fb, 1, none⟩ y) ∧ Below w7.heap.size w7 ((V.setCell ⟨fb, 0, none⟩ x).setCell ⟨fb, 1, none⟩ y) ∧ ((V.setCell ⟨fb, 0, none⟩ x).setCell ⟨fb, 1, none⟩ y).cell? ⟨fb, 0, none⟩ = some x ∧ ((V.setCell ⟨fb, 0, none⟩ x).setCell ⟨fb, 1, none⟩ y).cell? ⟨fb, 1, none⟩ = some y ∧ V.frozen? ⟨fb, 0, none⟩ = false ∧ V.frozen? ⟨fb, 1, none⟩ = false ∧ V.cell? ⟨fb, 0, none⟩ = some (.int .i64 0) ∧ V.cell? ⟨fb, 1, none⟩ = some (.int .i64 (-1))) := Lib.hid (by
            intro V x y hb
            have hg := (hb.block fb (Array.getElem?_eq_some_iff.1 HG.out).1).trans HG.out
            have h1 := heap_setCell_same V fb 0 _ _ x hg
            have h2 := heap_setCell_same (V.setCell ⟨fb, 0, none⟩ x) fb 1 _ _ y h1
            have hw7 : Below w7.heap.size w7 V := H11.out.2.trans (hb.mono H11.out.2.size)
            have hs7 : Below w7.heap.size w7 ((V.setCell ⟨fb, 0, none⟩ x).setCell ⟨fb, 1, none⟩ y) := (hw7.setCell (p := ⟨fb, 0, none⟩) H9.out.2.2.2.2 x).setCell (p := ⟨fb, 1, none⟩) H9.out.2.2.2.2 y
            exact ⟨H7.out.1.trans (hs7.mono H7.out.1.size), hs7, (cell_of_heap h2 0).trans (by simp), (cell_of_heap h2 1).trans (by simp), frozen_of_heap hg 0, frozen_of_heap hg 1, cell_of_heap hg 0, cell_of_heap hg 1⟩)
          clear h2 e2 hgW
          obtain ⟨nb, hnb⟩ : ∃ nb, nameB key = nb := ⟨_, rfl⟩
          have Hnb := Lib.hid hnb
          have Hna := Lib.hid (rname_walk key W11 H.out.2.2.2.2.2.2.1)
          rw [hnb] at Hna
          clear hnb
          go_wp2_with fail
          clear hW11 s5 s6 s7 s8
          refine Hna.out.mono ?_
          rintro e w12 ⟨rfl, rfl⟩
          cases nb with
          | false =>
            have hFe : F = (4, -1) := by rw [← HV.out.2.2.1]; exact carF_name E1.out E2.out Hnb.out
            subst hFe
            have Hba := Lib.hid (bare_walk 4 W11)
            go_wp2_with fail
            refine Hba.out.mono ?_
            rintro e w13 ⟨rfl, hb13⟩
            obtain ⟨r1, r2, r3, r4, r5, r6, r7, r8⟩ := HS2.out w13 (.int .i64 4) (.int .i64 (-1)) hb13
            obtain ⟨W14, hW14⟩ : ∃ W14, (w13.setCell ⟨fb, 0, none⟩ (.int .i64 4)).setCell ⟨fb, 1, none⟩ (.int .i64 (-1)) = W14 := ⟨_, rfl⟩
            rw [hW14] at r1 r2 r3 r4
            have Hfl := Lib.hid (faulted2_walk E (4, -1) (4, -1) ev true W14 (H.out.1.below r1 (Nat.le_refl _)) (HV.out.1.below r2 (Nat.le_refl _)) (by simp))
            have H14 := Lib.hid r1
            clear r1 r2 hb13 s3 s4
            go_wp2_with fail
            clear hW14
            refine Hfl.out.mono ?_
            rintro e w15 ⟨rfl, hb15⟩
            have H15 := Lib.hid (H14.out.trans (hb15.mono H14.out.size))
            clear hb15
            go_wp2
            go_ret
            exact ⟨rfl, H15.out⟩
          | true =>
            have hbd : op < 0 ∨ cf < 0 ∨ cf = 9223372036854775807 := by
              by_cases h9 : op < 0 ∨ cf < 0 ∨ cf = 9223372036854775807
              · exact h9
              · exact absurd (carF_ok E1.out E2.out Hnb.out h9) (by rw [HV.out.2.2.1]; intro h8; rw [h8] at hzF2; simp at hzF2)
            have hFe : F = (2, -1) := by rw [← HV.out.2.2.1]; exact carF_bound E1.out E2.out Hnb.out hbd
            subst hFe
            have Hba := Lib.hid (bare_walk 2 W11)
            have hcs : op < 0 ∨ (¬ op < 0 ∧ cf < 0) ∨ (¬ op < 0 ∧ ¬ cf < 0 ∧ cf = 9223372036854775807) := by omega
            clear hbd
            rcases hcs with h1 | ⟨h1, h2⟩ | ⟨h1, h2, rfl⟩
            all_goals
              go_wp2_with fail
              refine Hba.out.mono ?_
              rintro e w13 ⟨rfl, hb13⟩
              obtain ⟨r1, r2, r3, r4, r5, r6, r7, r8⟩ := HS2.out w13 (.int .i64 2) (.int .i64 (-1)) hb13
              obtain ⟨W14, hW14⟩ : ∃ W14, (w13.setCell ⟨fb, 0, none⟩ (.int .i64 2)).setCell ⟨fb, 1, none⟩ (.int .i64 (-1)) = W14 := ⟨_, rfl⟩
              rw [hW14] at r1 r2 r3 r4
              have Hfl := Lib.hid (faulted2_walk E (2, -1) (2, -1) ev true W14 (H.out.1.below r1 (Nat.le_refl _)) (HV.out.1.below r2 (Nat.le_refl _)) (by simp))
              have H14 := Lib.hid r1
              clear r1 r2 hb13 s3 s4
              go_wp2_with fail
              clear hW14
              refine Hfl.out.mono ?_
              rintro e w15 ⟨rfl, hb15⟩
              have H15 := Lib.hid (H14.out.trans (hb15.mono H14.out.size))
              clear hb15
              go_wp2
              go_ret
              exact ⟨rfl, H15.out⟩
        · have hFe : F = F2 := by rw [← HV.out.2.2.1, carF_2 E1.out (by rw [HV.out.2.2.2.2]; exact h2), HV.out.2.2.2.2]
          subst hFe
          have h3 : ((((F.1 : Nat) : Int) == 0) = false) := beq_eq_false_iff_ne.2 (by omega)
          have h4 : (F.1 == 0) = false := beq_eq_false_iff_ne.2 h2
          have Hfl := Lib.hid (faulted2_walk E F F ev true W11 (H.out.1.below H11.out.1 (Nat.le_refl _)) (HV.out.1.below H11.out.2 (Nat.le_refl _)) (by simp))
          go_wp2_with fail
          clear hW11
          refine Hfl.out.mono ?_
          rintro e w15 ⟨rfl, hb15⟩
          have H15 := Lib.hid (H11.out.1.trans (hb15.mono H11.out.1.size))
          clear hb15
          go_wp2
          go_ret
          exact ⟨rfl, H15.out⟩
      · have hFe : F = F1 := by rw [← HV.out.2.2.1, carF_1 (by rw [HV.out.2.2.2.1]; exact h1), HV.out.2.2.2.1]
        subst hFe
        have h3 : ((((F.1 : Nat) : Int) == 0) = false) := beq_eq_false_iff_ne.2 (by omega)
        have h4 : (F.1 == 0) = false := beq_eq_false_iff_ne.2 h1
        have Hfl := Lib.hid (faulted2_walk E F F ev true W9 (H.out.1.below H9.out.1 (Nat.le_refl _)) (HV.out.1.below H9.out.2.2.1 (Nat.le_refl _)) (by simp))
        go_wp2_with fail
        clear hW9 hfb
        refine Hfl.out.mono ?_
        rintro e w15 ⟨rfl, hb15⟩
        have H15 := Lib.hid (H9.out.1.trans (hb15.mono H9.out.1.size))
        clear hb15
        go_wp2
        go_ret
        exact ⟨rfl, H15.out⟩
    · exact absurd h0 hF0
end Go.Proofs.YtabboioamdphmaaGreatDoor.carryHears
/- The walk of the law CarryHears. -/
namespace Go.Proofs.YtabboioamdphmaaGreatDoor.carryHears
open Go.Proofs.YtabboioamdphmaaGreatDoor
open Go.RowKit Go.Maps Go.BigFrame

set_option maxRecDepth 100000 in
set_option maxHeartbeats 4000000 in
theorem early (w : World) (E : Nat → Addr) (hE : ErrEnv w E) (op cf n k : Int) (a : Option Addr) (len cap : Nat) (L : List ByteArray) (nB kB : Int) (aB : Option Addr) (lenB capB : Nat) (LB : List ByteArray) (key : ByteArray) (la : Option Addr) (ll lc : Nat) (hin : CfgIn w n k a len cap L) (hin2 : CfgIn w nB kB aB lenB capB LB) (hx : longC L = true ∨ longC LB = true ∨ (100 : Int) < key.size) :
    Calls Tryz.prog 3 #[.int .i64 op, .agg #[.int .i64 n, .int .i64 k, .slice a len cap], .agg #[.int .i64 nB, .int .i64 kB, .slice aB lenB capB], .int .i64 cf, .string key, .slice la ll lc] w fun e w' => e = .returned (.bool true) ∧ Below w.heap.size w w' := by
  have hT := hin.t_
  have hT2 := hin2.t_
  obtain ⟨bf, hbf⟩ : ∃ bf, w.heap.size = bf := ⟨_, rfl⟩
  obtain ⟨W0, hW0⟩ : ∃ W0, w.alloc (.cells #[.int .i64 n, .int .i64 k, .slice a len cap] 24) = W0 := ⟨_, rfl⟩
  obtain ⟨bt, hbt⟩ : ∃ bt, W0.heap.size = bt := ⟨_, rfl⟩
  obtain ⟨W1, hW1⟩ : ∃ W1, W0.alloc (.cells #[.int .i64 nB, .int .i64 kB, .slice aB lenB capB] 24) = W1 := ⟨_, rfl⟩
  have hb0 : Below w.heap.size w W0 := by rw [← hW0]; exact (Below.refl _ _).alloc (Nat.le_refl _) _
  have hb01 : Below W0.heap.size W0 W1 := by rw [← hW1]; exact (Below.refl _ _).alloc (Nat.le_refl _) _
  have hB1 : Below w.heap.size w W1 := hb0.trans (hb01.mono hb0.size)
  have hC0 : CfgAt W0 bf n k (.slice a len cap) := by rw [← hW0, ← hbf]; exact CfgAt.new w n k _
  have hC1 : CfgAt W1 bt nB kB (.slice aB lenB capB) := by rw [← hW1, ← hbt]; exact CfgAt.new W0 nB kB _
  have hs0 : W0.heap.size = bf + 1 := by rw [← hW0, ← hbf]; simp
  have hs1 : W1.heap.size = bt + 1 := by rw [← hW1, ← hbt]; simp
  have hC0' := hC0.below hb01 (by omega)
  have KB : Hid (∀ W, Below W1.heap.size W1 W → CfgAt W bf n k (.slice a len cap) ∧ CfgAt W bt nB kB (.slice aB lenB capB)) := Lib.hid fun W hb => ⟨hC0'.below hb (by omega), hC1.below hb (by omega)⟩
  have hlm : len ≤ maxLen := by have h9 := hT.max_; have h8 := hT.cap_; unfold maxLen at h9 ⊢; omega
  have hlm2 : lenB ≤ maxLen := by have h9 := hT2.max_; have h8 := hT2.cap_; unfold maxLen at h9 ⊢; omega
  have H := Lib.hid (And.intro hT (And.intro hT2 (And.intro hB1 (And.intro hlm hlm2))))
  have Has := Lib.hid (carried_walk W1 E (hE.below hB1 (Nat.le_refl _)).qx)
  clear hT hT2 hin hin2 hE hB1 hb0 hb01 hC0 hC1 hC0' hs0 hs1 hlm hlm2
  go_enter Tryz.func3, Tryz.ntmps3
  go_wp2_with fail
  clear hW0 hW1 hbf hbt
  refine Has.out.mono ?_
  rintro e w2 ⟨rfl, hb2⟩
  have H2 := Lib.hid (And.intro hb2 (H.out.2.2.1.trans (hb2.mono H.out.2.2.1.size)))
  clear hb2
  obtain ⟨⟨c0, c1, c2⟩, ⟨x0, x1, x2⟩⟩ := KB.out w2 H2.out.1
  have hlo := longc_walk n k w.heap.size a len cap L w2 H.out.1.len_ H.out.2.2.2.1 H.out.1.sizeAt (H.out.1.txs.below H2.out.2) H2.out.2.size
  obtain ⟨lv, hlv⟩ : ∃ lv, longC L = lv := ⟨_, rfl⟩
  rw [hlv] at hlo hx
  have Hlc := Lib.hid hlo
  clear hlo hlv
  go_wp2_with fail
  refine Hlc.out.mono ?_
  rintro e w2b ⟨rfl, hb3⟩
  have H2b := Lib.hid (And.intro (H2.out.1.trans (hb3.mono H2.out.1.size)) (H2.out.2.trans (hb3.mono H2.out.2.size)))
  clear hb3 c0 c1 c2 x0 x1 x2
  obtain ⟨⟨c0, c1, c2⟩, ⟨x0, x1, x2⟩⟩ := KB.out w2b H2b.out.1
  cases lv with
  | true =>
    clear hx
    go_wp2
    go_ret
    exact ⟨rfl, H2b.out.2⟩
  | false =>
    have hlo := longc_walk nB kB w.heap.size aB lenB capB LB w2b H.out.2.1.len_ H.out.2.2.2.2 H.out.2.1.sizeAt (H.out.2.1.txs.below H2b.out.2) H2b.out.2.size
    obtain ⟨lv, hlv⟩ : ∃ lv, longC LB = lv := ⟨_, rfl⟩
    rw [hlv] at hlo hx
    have Hlc2 := Lib.hid hlo
    clear hlo hlv
    go_wp2_with fail
    refine Hlc2.out.mono ?_
    rintro e w3 ⟨rfl, hb3⟩
    have H3 := Lib.hid (H2b.out.2.trans (hb3.mono H2b.out.2.size))
    clear hb3 c0 c1 c2 x0 x1 x2
    cases lv with
    | true =>
      clear hx
      go_wp2
      go_ret
      exact ⟨rfl, H3.out⟩
    | false =>
      have h1 : (100 : Int) < key.size := by
        rcases hx with h | h | h
        · cases h
        · cases h
        · exact h
      clear hx
      go_wp2
      go_ret
      exact ⟨rfl, H3.out⟩
theorem walk (op : Int) (n k : Int) (a : Option Addr) (len cap : Nat) (L : List ByteArray) (nB kB : Int) (aB : Option Addr) (lenB capB : Nat) (LB : List ByteArray) (cf : Int) (key : ByteArray) (la : Option Addr) (ll lc : Nat) (l : List Msg) (w : World) (_hop : (Lit.int .i64 op).wf = true) (hin : CfgIn w n k a len cap L) (hin2 : CfgIn w nB kB aB lenB capB LB) (hcf : (Lit.int .i64 cf).wf = true) (hkey : key.size ≤ maxLen) (hA : MsgsIn w la ll lc l) (hbk : msgsbulk l ≤ 1048576) (hL : laidMetH Tryz.prog Rows.carryHearsUptoRow.laid w) :
    Calls Tryz.prog 3 #[.int .i64 op, .agg #[.int .i64 n, .int .i64 k, .slice a len cap], .agg #[.int .i64 nB, .int .i64 kB, .slice aB lenB capB], .int .i64 cf, .string key, .slice la ll lc] w fun e w' => e = .returned (.bool true) ∧ Below w.heap.size w w' := by
  obtain ⟨E, hE⟩ := env_of_laid hL
  by_cases hx : longC L = true ∨ longC LB = true ∨ (100 : Int) < key.size
  · exact early w E hE op cf n k a len cap L nB kB aB lenB capB LB key la ll lc hin hin2 hx
  · have hlc : longC L = false := by
      cases h : longC L with
      | false => rfl
      | true => exact absurd (.inl h) hx
    have hlc2 : longC LB = false := by
      cases h : longC LB with
      | false => rfl
      | true => exact absurd (.inr (.inl h)) hx
    have hk : ¬ (100 : Int) < key.size := fun h => hx (.inr (.inr h))
    by_cases hF : (carF op n k L nB kB LB cf key).1 = 0
    · exact main_A w E hE op cf n k a len cap L nB kB aB lenB capB LB key la ll lc l hin hin2 (bounds_i64 hcf).2 hkey hA hbk hlc hlc2 hk hF
    · exact main_B w E hE op cf n k a len cap L nB kB aB lenB capB LB key la ll lc l hin hin2 (bounds_i64 hcf).2 hkey hA hbk hlc hlc2 hk hF
end Go.Proofs.YtabboioamdphmaaGreatDoor.carryHears
/- The closed facts of the form that speak of the program alone: asked once for all rows of this seat. -/
namespace Go.Proofs.YtabboioamdphmaaGreatDoor
namespace Closed
theorem and_mk {a b : Bool} (ha : a = true) (hb : b = true) : (a && b) = true := by rw [ha, hb]; rfl
theorem laidOut : laidOutB Tryz.prog = true := by kernel_rfl
theorem mapsRowed : Go.mapsRowed Tryz.prog = true := by kernel_rfl
theorem stops : (Tryz.prog.stops == []) = true := by kernel_rfl
theorem stopKnobs : (Tryz.prog.stopKnobs == []) = true := by kernel_rfl
theorem plainKeys : (Rows.carryHearsRow.plainKeys == Tryz.prog.plainKeys) = true := by kernel_rfl
theorem stopsHeard : Tryz.prog.stopsHeard = true := by kernel_rfl
theorem mayEnter : Tryz.prog.mayEnter = true := by kernel_rfl
theorem lifted : (Rows.carryHearsRow.lifted == Tryz.prog.liftsFinal) = true := by kernel_rfl
theorem make : (Tryz.prog.make == some Rows.carryHearsRow.make) = true := by kernel_rfl
theorem pinned : (Rows.carryHearsRow.pinned == Rows.carryHearsRow.pinnedBy) = true := by kernel_rfl
end Closed
end Go.Proofs.YtabboioamdphmaaGreatDoor
