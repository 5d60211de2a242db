/- The walk of the law CarryHears: nothing is at fault. (Printed by gen_wcar.py.) -/
import Derived.Test.YtabboioamdphmaaGreatDoorSCarryHears42
import Derived.Test.YtabboioamdphmaaGreatDoorSCarryHears29
import Derived.Test.YtabboioamdphmaaGreatDoorSCarryHears44
namespace Go.Proofs.YtabboioamdphmaaGreatDoor.carryHears
open Go.Proofs.YtabboioamdphmaaGreatDoor
open Go.RowKit Go.Maps Go.BigFrame

set_option maxRecDepth 100000 in
set_option maxHeartbeats 16000000 in
theorem main_A (w : World) (E : Nat → Addr) (hE : ErrEnv w E) (op cf n k : Int) (a : Option Addr) (len cap : Nat) (L : List ByteArray) (nB kB : Int) (aB : Option Addr) (lenB capB : Nat) (LB : List ByteArray) (key : ByteArray) (la : Option Addr) (ll lc : Nat) (l : List Msg) (hin : CfgIn w n k a len cap L) (hin2 : CfgIn w nB kB aB lenB capB LB) (hcfm : cf ≤ 9223372036854775807) (hkey : key.size ≤ maxLen) (hA : MsgsIn w la ll lc l) (hbk : msgsbulk l ≤ 1048576) (hlc : longC L = false) (hlc2 : longC LB = false) (hk1 : ¬ (100 : Int) < key.size) (hF0 : (carF op n k L nB kB LB cf key).1 = 0) :
    Calls Tryz.prog 3 #[.int .i64 op, .agg #[.int .i64 n, .int .i64 k, .slice a len cap], .agg #[.int .i64 nB, .int .i64 kB, .slice aB lenB capB], .int .i64 cf, .string key, .slice la ll lc] w fun e w' => e = .returned (.bool true) ∧ Below w.heap.size w w' := by
  have hT := hin.t_
  have hT2 := hin2.t_
  obtain ⟨bf, hbf⟩ : ∃ bf, w.heap.size = bf := ⟨_, rfl⟩
  obtain ⟨W0, hW0⟩ : ∃ W0, w.alloc (.cells #[.int .i64 n, .int .i64 k, .slice a len cap] 24) = W0 := ⟨_, rfl⟩
  obtain ⟨bt, hbt⟩ : ∃ bt, W0.heap.size = bt := ⟨_, rfl⟩
  obtain ⟨W1, hW1⟩ : ∃ W1, W0.alloc (.cells #[.int .i64 nB, .int .i64 kB, .slice aB lenB capB] 24) = W1 := ⟨_, rfl⟩
  have hb0 : Below w.heap.size w W0 := by rw [← hW0]; exact (Below.refl _ _).alloc (Nat.le_refl _) _
  have hb01 : Below W0.heap.size W0 W1 := by rw [← hW1]; exact (Below.refl _ _).alloc (Nat.le_refl _) _
  have hB1 : Below w.heap.size w W1 := hb0.trans (hb01.mono hb0.size)
  have hC0 : CfgAt W0 bf n k (.slice a len cap) := by rw [← hW0, ← hbf]; exact CfgAt.new w n k _
  have hC1 : CfgAt W1 bt nB kB (.slice aB lenB capB) := by rw [← hW1, ← hbt]; exact CfgAt.new W0 nB kB _
  have hs0 : W0.heap.size = bf + 1 := by rw [← hW0, ← hbf]; simp
  have hs1 : W1.heap.size = bt + 1 := by rw [← hW1, ← hbt]; simp
  have hC0' := hC0.below hb01 (by omega)
  have KB : Hid (∀ W, Below W1.heap.size W1 W → CfgAt W bf n k (.slice a len cap) ∧ CfgAt W bt nB kB (.slice aB lenB capB)) := Lib.hid fun W hb => ⟨hC0'.below hb (by omega), hC1.below hb (by omega)⟩
  have H := Lib.hid (And.intro hE (And.intro hA (And.intro hbk (And.intro hT (And.intro hT2 (And.intro hB1 (And.intro hkey (And.intro hlc (And.intro hlc2 hcfm)))))))))
  have hl30 : len ≤ 30 := by have h9 := (longC_no hlc).1; have := hT.len_; omega
  have hl30b : lenB ≤ 30 := by have h9 := (longC_no hlc2).1; have := hT2.len_; omega
  have hll9 : ll ≤ 9223372036854775807 := by have h9 := hA.2.2.1; have h8 := hA.2.1; unfold maxLen at h9; omega
  have Has := Lib.hid (carried_walk W1 E (hE.below hB1 (Nat.le_refl _)).qx)
  clear hT hT2 hin hin2 hE hA hbk hB1 hb0 hb01 hC0 hC1 hC0' hs0 hs1 hlc hlc2 hkey hcfm
  go_enter Tryz.func3, Tryz.ntmps3
  go_wp2_with fail
  clear hW0 hW1 hbf hbt
  refine Has.out.mono ?_
  rintro e w2 ⟨rfl, hb2⟩
  have H2 := Lib.hid (And.intro hb2 (H.out.2.2.2.2.2.1.trans (hb2.mono H.out.2.2.2.2.2.1.size)))
  clear hb2
  obtain ⟨⟨c0, c1, c2⟩, ⟨x0, x1, x2⟩⟩ := KB.out w2 H2.out.1
  have hlo := longc_walk n k w.heap.size a len cap L w2 H.out.2.2.2.1.len_ (by unfold maxLen; omega) H.out.2.2.2.1.sizeAt (H.out.2.2.2.1.txs.below H2.out.2) H2.out.2.size
  rw [H.out.2.2.2.2.2.2.2.1] at hlo
  have Hlc := Lib.hid hlo
  clear hlo
  go_wp2_with fail
  refine Hlc.out.mono ?_
  rintro e w2b ⟨rfl, hb3⟩
  have H2b := Lib.hid (And.intro (H2.out.1.trans (hb3.mono H2.out.1.size)) (H2.out.2.trans (hb3.mono H2.out.2.size)))
  clear hb3 c0 c1 c2 x0 x1 x2
  obtain ⟨⟨c0, c1, c2⟩, ⟨x0, x1, x2⟩⟩ := KB.out w2b H2b.out.1
  have hlo := longc_walk nB kB w.heap.size aB lenB capB LB w2b H.out.2.2.2.2.1.len_ (by unfold maxLen; omega) H.out.2.2.2.2.1.sizeAt (H.out.2.2.2.2.1.txs.below H2b.out.2) H2b.out.2.size
  rw [H.out.2.2.2.2.2.2.2.2.1] at hlo
  have Hlc2 := Lib.hid hlo
  clear hlo
  go_wp2_with fail
  refine Hlc2.out.mono ?_
  rintro e w3 ⟨rfl, hb3⟩
  have H3 := Lib.hid (And.intro (H2b.out.1.trans (hb3.mono H2b.out.1.size)) (H2b.out.2.trans (hb3.mono H2b.out.2.size)))
  clear hb3 c0 c1 c2 x0 x1 x2
  obtain ⟨⟨c0, c1, c2⟩, ⟨x0, x1, x2⟩⟩ := KB.out w3 H3.out.1
  have hmf := mfit_walk w3 la ll lc l (by
    obtain ⟨h1, h2, h3, h4, h5, h6⟩ := H.out.2.1
    exact ⟨h1, h2, h3, h4, (h5.below H3.out.2).mono H3.out.2.size, h6⟩)
  have Hmf := Lib.hid hmf
  clear hmf
  go_wp2_with fail
  refine Hmf.out.mono ?_
  rintro e w4 ⟨⟨r, rfl⟩, hb4⟩
  have H4 := Lib.hid (And.intro (H3.out.1.trans (hb4.mono H3.out.1.size)) (H3.out.2.trans (hb4.mono H3.out.2.size)))
  clear hb4 c0 c1 c2 x0 x1 x2
  cases r with
  | false =>
    go_wp2
    go_ret
    exact ⟨rfl, H4.out.2⟩
  | true =>
    have KC : Hid (∀ W, Below W1.heap.size W1 W → W.cell? ⟨bf, 0, none⟩ = some (.int .i64 n) ∧ W.cell? ⟨bf, 1, none⟩ = some (.int .i64 k) ∧ W.cell? ⟨bf, 2, none⟩ = some (.slice a len cap) ∧ W.cell? ⟨bt, 0, none⟩ = some (.int .i64 nB) ∧ W.cell? ⟨bt, 1, none⟩ = some (.int .i64 kB) ∧ W.cell? ⟨bt, 2, none⟩ = some (.slice aB lenB capB)) := Lib.hid fun W hb => by
      obtain ⟨⟨c0, c1, c2⟩, ⟨x0, x1, x2⟩⟩ := KB.out W hb
      exact ⟨c0, c1, c2, x0, x1, x2⟩
    have q4 := KC.out w4.drew H4.out.1.drew
    go_wp2_with fail
    go_region_held3 (fun W => W.cell? ⟨bf, 0, none⟩ = some (.int .i64 n) ∧ W.cell? ⟨bf, 1, none⟩ = some (.int .i64 k) ∧ W.cell? ⟨bf, 2, none⟩ = some (.slice a len cap) ∧ W.cell? ⟨bt, 0, none⟩ = some (.int .i64 nB) ∧ W.cell? ⟨bt, 1, none⟩ = some (.int .i64 kB) ∧ W.cell? ⟨bt, 2, none⟩ = some (.slice aB lenB capB))
      (first | exact q4 | exact q5 | exact q6 | exact q7)
      (first
        | (go_at_call_of 9 (Value.slice a len cap); refine (ownc_walk n k w.heap.size a len cap L w4.drew H.out.2.2.2.1.len_ (by omega) H.out.2.2.2.1.nil_ (H.out.2.2.2.1.txs.below H4.out.2.drew) H4.out.2.drew.size).mono ?_; rintro e w5 ⟨⟨v5, rfl, hv5⟩, hb5⟩; obtain ⟨a5, cp5, e5, g1, g2, g3, g4⟩ := hv5.read; rw [H.out.2.2.2.1.len_] at e5 g1; subst e5; have q5 := KC.out w5 (H4.out.1.drew.trans (hb5.mono H4.out.1.drew.size)); have H5 := Lib.hid (And.intro (H4.out.2.drew.trans (hb5.mono H4.out.2.drew.size)) (And.intro (H4.out.1.drew.trans (hb5.mono H4.out.1.drew.size)) (And.intro g1 (And.intro g3 g4)))); clear hb5 hv5 g1 g2 g3 g4)
        | (go_at_call_of 9 (Value.slice aB lenB capB); refine (ownc_walk nB kB w.heap.size aB lenB capB LB w5 H.out.2.2.2.2.1.len_ (by omega) H.out.2.2.2.2.1.nil_ (H.out.2.2.2.2.1.txs.below H5.out.1) H5.out.1.size).mono ?_; rintro e w6 ⟨⟨v6, rfl, hv6⟩, hb6⟩; obtain ⟨a6, cp6, e6, g1, g2, g3, g4⟩ := hv6.read; rw [H.out.2.2.2.2.1.len_] at e6 g1; subst e6; have q6 := KC.out w6 (H5.out.2.1.trans (hb6.mono H5.out.2.1.size)); have H6 := Lib.hid (And.intro (H5.out.1.trans (hb6.mono H5.out.1.size)) (And.intro (H5.out.2.1.trans (hb6.mono H5.out.2.1.size)) (And.intro g1 (And.intro g3 (And.intro g4 ((H5.out.2.2.2.2.below hb6).mono hb6.size)))))); clear hb6 hv6 g1 g2 g3 g4)
        | (go_at_call 8; refine (cnew_walk op cf n k nB kB w6.heap.size a5 len cp5 L a6 lenB cp6 LB key w6 E (H.out.1.below H6.out.1 (Nat.le_refl _)).qx H.out.2.2.2.1.len_ H5.out.2.2.1 (by omega) H5.out.2.2.2.1 H.out.2.2.2.1.sizeAt H6.out.2.2.2.2.2 H.out.2.2.2.2.1.len_ H6.out.2.2.1 (by omega) H6.out.2.2.2.1 H.out.2.2.2.2.1.sizeAt H6.out.2.2.2.2.1 (Nat.le_refl _) H.out.2.2.2.2.2.2.1).mono ?_; rintro e w7 ⟨pv, ev, rfl, hb7, hr7⟩; have q7 := KC.out w7 (H6.out.2.1.trans (hb7.mono H6.out.2.1.size)); have H7 := Lib.hid (And.intro (H6.out.1.trans (hb7.mono H6.out.1.size)) (And.intro (H6.out.2.1.trans (hb7.mono H6.out.2.1.size)) (And.intro hb7 (And.intro hr7 H6.out.1.size)))); clear hb7 hr7)
        | fail)
    rename_i hHeld
    clear hHeld q4 q5 q6 q7
    obtain ⟨⟨c0, c1, c2⟩, ⟨x0, x1, x2⟩⟩ := KB.out w7 H7.out.2.1
    have Hcf1 := Lib.hid (rconfig_walk n k w.heap.size a len cap L w7 H.out.2.2.2.1.len_ H.out.2.2.2.1.cap_ H.out.2.2.2.1.sizeAt (H.out.2.2.2.1.txs.below H7.out.1) H7.out.1.size)
    have hr := H7.out.2.2.2.1
    rcases hr with ⟨h0, _⟩ | ⟨h0, rfl, ab, bm, ma, mc, na1, nc1, hX, rfl⟩
    · exact absurd hF0 h0
    · obtain ⟨hz1, hz2, hz3, hz4⟩ := carF_zero hF0
      have e1 := (configF_zero hz1).2.2.2.2
      have e2 := (configF_zero hz2).2.2.2.2
      have hr1 := (configF_zero hz1).1
      have hr2 := (configF_zero hz2).1
      rw [e1] at Hcf1
      have HX := Lib.hid (And.intro hX (And.intro hF0 (And.intro e2 (And.intro hz3 (And.intro hr1 hr2)))))
      obtain ⟨g1, g2, g3⟩ : ¬ op < 0 ∧ ¬ cf < 0 ∧ ¬ cf = 9223372036854775807 := by omega
      have g4 : (cf == 9223372036854775807) = false := beq_eq_false_iff_ne.2 g3
      clear hX hF0 e1 e2 hr1 hr2 hz1 hz2 hz3 hz4 h0
      go_wp2_with fail
      refine Hcf1.out.mono ?_
      rintro e w8 ⟨rfl, hb8⟩
      unfold fltA
      obtain ⟨W9, hW9⟩ : ∃ W9, w8.alloc (.cells #[.int .i64 0, .int .i64 (-1)] 36) = W9 := ⟨_, rfl⟩
      obtain ⟨fb, hfb⟩ : ∃ fb, w8.heap.size = fb := ⟨_, rfl⟩
      have hB9 : Below w8.heap.size w8 W9 := by rw [← hW9]; exact (Below.refl _ w8).alloc (Nat.le_refl _) _
      have hgF : W9.heap[fb]? = some (.cells #[.int .i64 0, .int .i64 (-1)] 36 (0, 0)) := by rw [← hW9, ← hfb]; exact heap_alloc_new _ _
      have hb79 : Below w7.heap.size w7 W9 := hb8.trans (hB9.mono hb8.size)
      have H9 := Lib.hid (And.intro (H7.out.1.trans (hb79.mono H7.out.1.size)) (And.intro (H7.out.2.1.trans (hb79.mono H7.out.2.1.size)) (And.intro hb79 (And.intro hgF (show w7.heap.size ≤ fb by rw [← hfb]; exact hb8.size)))))
      have p0 : W9.cell? ⟨fb, 0, none⟩ = some (.int .i64 0) := cell_of_heap hgF 0
      have p1 : W9.cell? ⟨fb, 1, none⟩ = some (.int .i64 (-1)) := cell_of_heap hgF 1
      have z0 := frozen_of_heap hgF 0
      have z1 := frozen_of_heap hgF 1
      clear hb8 hB9 hgF hb79 c0 c1 c2 x0 x1 x2
      obtain ⟨⟨c0, c1, c2⟩, ⟨x0, x1, x2⟩⟩ := KB.out W9 H9.out.2.1
      have Hcf2 := Lib.hid (rconfig_walk nB kB w.heap.size aB lenB capB LB W9 H.out.2.2.2.2.1.len_ H.out.2.2.2.2.1.cap_ H.out.2.2.2.2.1.sizeAt (H.out.2.2.2.2.1.txs.below H9.out.1) H9.out.1.size)
      rw [HX.out.2.2.1] at Hcf2
      have hW9' : w8.alloc (.cells #[.int .i64 ((0 : Nat) : Int), .int .i64 (-1)] 36) = W9 := hW9
      go_wp2_with fail
      clear hW9 hW9' hfb
      refine Hcf2.out.mono ?_
      rintro e w10 ⟨rfl, hb10⟩
      unfold fltA
      have hg10 : w10.heap[fb]? = some (.cells #[.int .i64 0, .int .i64 (-1)] 36 (0, 0)) := (hb10.block fb (Array.getElem?_eq_some_iff.1 H9.out.2.2.2.1).1).trans H9.out.2.2.2.1
      obtain ⟨W11, hW11⟩ : ∃ W11, (w10.setCell ⟨fb, 0, none⟩ (.int .i64 0)).setCell ⟨fb, 1, none⟩ (.int .i64 (-1)) = W11 := ⟨_, rfl⟩
      have hw10 : Below w7.heap.size w7 w10 := H9.out.2.2.1.trans (hb10.mono H9.out.2.2.1.size)
      have hb11 : Below w7.heap.size w7 W11 := by rw [← hW11]; exact (hw10.setCell (p := ⟨fb, 0, none⟩) H9.out.2.2.2.2 _).setCell (p := ⟨fb, 1, none⟩) H9.out.2.2.2.2 _
      have h1s := heap_setCell_same w10 fb 0 _ _ (.int .i64 0) hg10
      have h2s := heap_setCell_same (w10.setCell ⟨fb, 0, none⟩ (.int .i64 0)) fb 1 _ _ (.int .i64 (-1)) h1s
      rw [hW11] at h2s
      have s5 := frozen_of_heap hg10 0
      have s6 := frozen_of_heap hg10 1
      have s7 : w10.cell? ⟨fb, 0, none⟩ = some (.int .i64 0) := cell_of_heap hg10 0
      have s8 : w10.cell? ⟨fb, 1, none⟩ = some (.int .i64 (-1)) := cell_of_heap hg10 1
      have s3 : W11.cell? ⟨fb, 0, none⟩ = some (.int .i64 0) := (cell_of_heap h2s 0).trans (by simp)
      have H11 := Lib.hid (And.intro (H7.out.1.trans (hb11.mono H7.out.1.size)) (And.intro (H7.out.2.1.trans (hb11.mono H7.out.2.1.size)) hb11))
      clear p0 p1 z0 z1 c0 c1 c2 x0 x1 x2 hb10 hg10 hw10 hb11 h1s h2s
      obtain ⟨⟨c0, c1, c2⟩, ⟨x0, x1, x2⟩⟩ := KB.out W11 H11.out.2.1
      have Hna := Lib.hid (rname_walk key W11 H.out.2.2.2.2.2.2.1)
      rw [HX.out.2.2.2.1] at Hna
      go_wp2_with fail
      clear hW11 s5 s6 s7 s8
      refine Hna.out.mono ?_
      rintro e w12 ⟨rfl, rfl⟩
      obtain ⟨mo, hmo⟩ : ∃ mo, W11.heap.size = mo := ⟨_, rfl⟩
      obtain ⟨V, hV⟩ : ∃ V, W11.alloc (.cells #[.string ⟨#[109, 111, 118, 101, 114]⟩, .string key, .int .i64 0, .int .i64 op, .int .i64 cf, .int .i64 n, .int .i64 k, .slice a len cap, .int .i64 nB, .int .i64 kB, .slice aB lenB capB, .bool false, .bool true, .string ⟨#[115, 101, 97, 108, 105, 110, 103]⟩, .slice none 0 0, .slice none 0 0, .int .i64 0, .int .i64 0, .string ⟨#[]⟩, .bool false] 46) = V := ⟨_, rfl⟩
      have hbV : Below W11.heap.size W11 V := by rw [← hV]; exact (Below.refl _ _).alloc (Nat.le_refl _) _
      have hcs : CellsAt V mo (rNewC op n k a len cap nB kB aB lenB capB cf key) := by rw [← hV, ← hmo]; exact CellsAt.new W11 (rNewC op n k a len cap nB kB aB lenB capB cf key) 46
      have hb7v : Below w7.heap.size w7 V := H11.out.2.2.trans (hbV.mono H11.out.2.2.size)
      have hbw : Below w.heap.size w V := H7.out.1.trans (hb7v.mono H7.out.1.size)
      have hD : DuoC w V ab mo na1 nc1 aB capB (newC op n k L nB kB LB cf key) (newC op n k L nB kB LB cf key) _ (fun b => b = mo) := DuoC.fresh (a := a) (len := len) (cap := cap) (len2 := lenB) HX.out.1 (fun b hb => Nat.le_trans H6.out.1.size hb.1) H7.out.1.size hbw hb7v (by rw [← hmo]; exact H11.out.2.2.size) hcs (by have := HX.out.2.2.2.2.1; omega) (by have := HX.out.2.2.2.2.1; omega) (by have := HX.out.2.2.2.2.2; omega) (by have := HX.out.2.2.2.2.2; omega) H.out.2.2.2.1.len_ ⟨H.out.2.2.2.1.cap_, H.out.2.2.2.1.max_, H.out.2.2.2.1.nil_⟩ H.out.2.2.2.1.txs H.out.2.2.2.2.1.len_ ⟨H.out.2.2.2.2.1.cap_, H.out.2.2.2.2.1.max_, H.out.2.2.2.2.1.nil_⟩ H.out.2.2.2.2.1.txs
      have hOk : CarOk (newC op n k L nB kB LB cf key) := newC_ok HX.out.2.1 H.out.2.2.2.2.2.2.2.2.2
      obtain ⟨A, hA⟩ : ∃ A, newC op n k L nB kB LB cf key = A := ⟨_, rfl⟩
      have htt0 : totV (A.t.got.map (·.2)) ≤ totL l 0 := by rw [← hA]; exact Nat.zero_le _
      have hst0 : A.st = 0 := by rw [← hA]; rfl
      rw [hA] at hD hOk
      obtain ⟨F0, hF0⟩ : ∃ F0 : Nat → Prop, (fun b => w6.heap.size ≤ b ∧ b < w7.heap.size) = F0 := ⟨_, rfl⟩
      rw [hF0] at hD
      obtain ⟨bm1, ma1, mc1, hX1⟩ := hD.1
      have Hb1 := Lib.hid (cbegin_walk _ V ab bm1 ma1 mc1 na1 nc1 A hX1 hOk hst0)
      have HD := Lib.hid (And.intro hD (And.intro hOk (And.intro htt0 hst0)))
      clear hX1 hD hOk hb7v hbw hcs hbV htt0 hA hF0 hst0
      go_wp2_with fail
      clear hV c0 c1 c2 x0 x1 x2 s3
      refine Hb1.out.mono ?_
      rintro e w11 ⟨hb11, a11, c11, rfl, _, _, _, g11⟩
      obtain ⟨l1, hl1⟩ : ∃ l1, sendT A.t kSeal' (fun _ => []) = l1 := ⟨_, rfl⟩
      obtain ⟨n1, hn1⟩ : ∃ n1, l1.length = n1 := ⟨_, rfl⟩
      have hn12 : n1 ≤ 12 := by rw [← hn1, ← hl1]; exact send12 HD.out.2.1.ok _ _
      rw [hl1] at g11 ⊢
      rw [hn1]
      have hD11 := HD.out.1.below hb11
      have Hbw := Lib.hid (bwires_walk w11 _ a11 n1 c11 l1 hn1 (by omega) g11)
      have H12 := Lib.hid (And.intro hD11 (And.intro hl1 hn1))
      clear hb11 g11 hD11 hl1 hn1
      go_wp2_with fail
      refine Hbw.out.mono ?_
      rintro e w12 ⟨v12, rfl, hb12, hv12⟩
      obtain ⟨a12, c12, rfl, _, _, _, g12⟩ := hv12.read
      rw [H12.out.2.2]
      have hD12 := H12.out.1.below hb12
      obtain ⟨ma2, mc2, fv, lv, us, hR⟩ := hD12.2.1
      have Hb2 := Lib.hid (rbegin_mover _ _ w12 mo ma2 mc2 aB capB fv lv us A hR HD.out.2.1.ok HD.out.2.1.mv HD.out.2.2.2)
      have H13 := Lib.hid (And.intro hD12 g12)
      clear hb12 hv12 g12 hD12 hR
      go_wp2_with fail
      refine Hb2.out.mono ?_
      rintro e w13 ⟨hb13, a13, c13, rfl, _, _, _, g13⟩
      rw [H12.out.2.1] at g13 ⊢
      rw [H12.out.2.2]
      have Hsm := Lib.hid (samems_same w13 w13.heap.size a12 a13 n1 c12 c13 l1 H12.out.2.2 (by unfold maxLen; omega) (H13.out.2.below hb13).read g13.read (Nat.le_refl _))
      have H14 := Lib.hid (H13.out.1.below hb13)
      clear hb13 g13
      go_wp2_with fail
      refine Hsm.out.mono ?_
      rintro e w14 ⟨rfl, hb14⟩
      have HD14 : Hid (CarI w w14 ab mo na1 nc1 aB capB l 0) := Lib.hid ⟨_, _, A, H14.out.below hb14, HD.out.2.1, HD.out.2.2.1⟩
      clear hb14
      go_wp2_with fail
      go_loopw [18] (fun vi wr => ∃ j : Nat, j ≤ ll ∧ vi = .int .i64 j ∧ Hid (CarI w wr ab mo na1 nc1 aB capB l j)) (fun vi _ => ll - (intOf vi).toNat)
      case atStart => exact ⟨0, by omega, rfl, HD14⟩
      case round =>
        obtain ⟨j, hj, rfl, Hr⟩ := hrel
        have hj2 : j < ll ∨ ll = j := by omega
        rcases hj2 with hjlt | rfl
        · have hjlt2 : (j : Int) < ll := by omega
          obtain ⟨F1, G1, A1, hd, hok, htt⟩ := Hr.out
          obtain ⟨hl1, _, _, _, hl5, hl6⟩ := H.out.2.1
          rcases hl5 with he | ⟨b, off, rfl, hbl, hcx⟩
          · exfalso
            rw [he] at hl1; simp at hl1; omega
          have hom := hl6 j hjlt
          have hcx := hcx j (by rw [hl1]; exact hjlt)
          have htl := totL_succ (l := l) (i := j) (by rw [hl1]; exact hjlt)
          have htb := totL_bulk l (j + 1) H.out.2.2.1
          obtain ⟨⟨fr, dst, kind, mkey, mop, mcf, sl, L2⟩, hx⟩ : ∃ x, l[j]?.getD msg0 = x := ⟨_, rfl⟩
          rw [hx] at hcx hom htl
          dsimp only at htl
          obtain ⟨k0, k1, k2, k3, k4, k5, k6, ad, cp, k7, q1, q2, q3, q4⟩ := hcx
          dsimp only at k0 k1 k2 k3 k4 k5 k6 k7 q1 q4
          have htot : totV (A1.t.got.map (·.2)) + L2.length ≤ 1000000 := by omega
          have KS : Hid (∀ W, Below w.heap.size w W → W.cell? ⟨b, off + j * 8, none⟩ = some (.string fr) ∧ W.cell? ⟨b, off + j * 8 + 1, none⟩ = some (.string dst) ∧ W.cell? ⟨b, off + j * 8 + 2, none⟩ = some (.string kind) ∧ W.cell? ⟨b, off + j * 8 + 3, none⟩ = some (.string mkey) ∧ W.cell? ⟨b, off + j * 8 + 4, none⟩ = some (.int .i64 mop) ∧ W.cell? ⟨b, off + j * 8 + 5, none⟩ = some (.int .i64 mcf) ∧ W.cell? ⟨b, off + j * 8 + 6, none⟩ = some (.bool sl) ∧ W.cell? ⟨b, off + j * 8 + 7, none⟩ = some (.slice ad L2.length cp)) := Lib.hid fun W hb =>
            ⟨(hb.cell (p := ⟨b, off + j * 8, none⟩) hbl).trans k0, (hb.cell (p := ⟨b, off + j * 8 + 1, none⟩) hbl).trans k1, (hb.cell (p := ⟨b, off + j * 8 + 2, none⟩) hbl).trans k2, (hb.cell (p := ⟨b, off + j * 8 + 3, none⟩) hbl).trans k3, (hb.cell (p := ⟨b, off + j * 8 + 4, none⟩) hbl).trans k4, (hb.cell (p := ⟨b, off + j * 8 + 5, none⟩) hbl).trans k5, (hb.cell (p := ⟨b, off + j * 8 + 6, none⟩) hbl).trans k6, (hb.cell (p := ⟨b, off + j * 8 + 7, none⟩) hbl).trans k7⟩
          have hh := hok.hear ⟨fr, dst, kind, mkey, mop, mcf, sl, L2⟩
          obtain ⟨A2, hA2⟩ : ∃ A2, (askHear A1 ⟨fr, dst, kind, mkey, mop, mcf, sl, L2⟩).1 = A2 := ⟨_, rfl⟩
          obtain ⟨l2, hl2⟩ : ∃ l2, (askHear A1 ⟨fr, dst, kind, mkey, mop, mcf, sl, L2⟩).2 = l2 := ⟨_, rfl⟩
          rw [hA2, hl2] at hh
          obtain ⟨n2, hn2⟩ : ∃ n2, l2.length = n2 := ⟨_, rfl⟩
          rw [hn2] at hh
          obtain ⟨hok2, hn22, htt2⟩ := hh
          dsimp only at htt2
          obtain ⟨s2, hs2⟩ : ∃ s2, stT A2 = s2 := ⟨_, rfl⟩
          have hwd : Below wr.heap.size wr wr.drew := (Below.refl _ _).drew
          have hdd := hd.below hwd
          have Hx := Lib.hid (And.intro hdd (And.intro hok (And.intro htot (And.intro hom (And.intro q1 (And.intro q2 (And.intro q3 (And.intro q4 (And.intro hA2 (And.intro hl2 (And.intro hn2 (And.intro hok2 (And.intro hn22 (And.intro hs2 (show totV (A2.t.got.map (·.2)) ≤ totL l (j + 1) by omega)))))))))))))))
          have q0 := KS.out wr.drew hdd.2.2.2.2
          have hrd := KS.out wr hd.2.2.2.2
          clear hl6 hom hx k0 k1 k2 k3 k4 k5 k6 k7 q1 q2 q3 q4 hd hok htt hA2 hl2 hn2 hok2 htt2 hs2 hwd hdd hl1 hbl Hr htl htb htot
          go_wp2_with fail
          clear hrd
          refine wp_region_held_drew (S := fun W => W.cell? ⟨b, off + j * 8, none⟩ = some (.string fr) ∧ W.cell? ⟨b, off + j * 8 + 1, none⟩ = some (.string dst) ∧ W.cell? ⟨b, off + j * 8 + 2, none⟩ = some (.string kind) ∧ W.cell? ⟨b, off + j * 8 + 3, none⟩ = some (.string mkey) ∧ W.cell? ⟨b, off + j * 8 + 4, none⟩ = some (.int .i64 mop) ∧ W.cell? ⟨b, off + j * 8 + 5, none⟩ = some (.int .i64 mcf) ∧ W.cell? ⟨b, off + j * 8 + 6, none⟩ = some (.bool sl) ∧ W.cell? ⟨b, off + j * 8 + 7, none⟩ = some (.slice ad L2.length cp)) (by kernel_rfl) q0 (fun hHeld => ?_)
          refine wpAnyH_take (i := 0) (oi := { dst := some 123, op := Op.move (Operand.tmp 14), type := 29, pos := "parts.go:618", after := #[], guard := none }) (v := ?_) rfl (by kernel_rfl) (by kernel_rfl) (by kernel_rfl) (fun _ _ _ h => h) (Or.inl ⟨by rfl, ?_⟩) (by assumption) ?_
          rotate_left
          · intro w' hSw
            (try dsimp only at hSw)
            first | (go_simp; done) | (go_simp; with_reducible rfl)
          (try simp only [Act.put, List.setIfInBounds_toArray, List.set_cons_zero, List.set_cons_succ])
          refine wpAnyH_take (i := 1) (oi := { dst := some 124, op := Op.move (Operand.tmp 5), type := 25, pos := "parts.go:618", after := #[], guard := none }) (v := ?_) rfl (by kernel_rfl) (by kernel_rfl) (by kernel_rfl) (fun _ _ _ h => h) (Or.inl ⟨by rfl, ?_⟩) (by assumption) ?_
          rotate_left
          · intro w' hSw
            (try dsimp only at hSw)
            first | (go_simp; done) | (go_simp; with_reducible rfl)
          (try simp only [Act.put, List.setIfInBounds_toArray, List.set_cons_zero, List.set_cons_succ])
          refine wpAnyH_take (i := 2) (oi := { dst := some 125, op := Op.move (Operand.tmp 18), type := 3, pos := "parts.go:618", after := #[], guard := none }) (v := ?_) rfl (by kernel_rfl) (by kernel_rfl) (by kernel_rfl) (fun _ _ _ h => h) (Or.inl ⟨by rfl, ?_⟩) (by assumption) ?_
          rotate_left
          · intro w' hSw
            (try dsimp only at hSw)
            first | (go_simp; done) | (go_simp; with_reducible rfl)
          (try simp only [Act.put, List.setIfInBounds_toArray, List.set_cons_zero, List.set_cons_succ])
          refine wpAnyH_take (i := 3) (oi := { dst := some 126, op := Op.indexAddr 25 (Operand.tmp 124) (Operand.tmp 125), type := 0, pos := "parts.go:618", after := #[{ on := 1, ground := Ground.data }, { on := 2, ground := Ground.data }], guard := none }) (v := ?_) rfl (by kernel_rfl) (by kernel_rfl) (by kernel_rfl) (fun _ _ _ h => h) (Or.inl ⟨by rfl, ?_⟩) (by assumption) ?_
          rotate_left
          · intro w' hSw
            (try dsimp only at hSw)
            first | (go_simp; done) | (go_simp; with_reducible rfl)
          (try simp only [Act.put, List.setIfInBounds_toArray, List.set_cons_zero, List.set_cons_succ])
          refine wpAnyH_take (i := 4) (oi := { dst := some 127, op := Op.load 57 (Operand.tmp 126), type := 57, pos := "parts.go:618", after := #[{ on := 3, ground := Ground.data }], guard := none }) (v := ?_) rfl (by kernel_rfl) (by kernel_rfl) (by kernel_rfl) (fun _ _ _ h => h) (Or.inl ⟨by rfl, ?_⟩) (by assumption) ?_
          rotate_left
          · intro w' hSw
            (try dsimp only at hSw)
            first | (go_simp; done) | (go_simp; with_reducible rfl)
          (try simp only [Act.put, List.setIfInBounds_toArray, List.set_cons_zero, List.set_cons_succ])
          refine wpAnyH_take (i := 8) (oi := { dst := some 131, op := Op.move (Operand.tmp 17), type := 41, pos := "parts.go:618", after := #[], guard := none }) (v := ?_) rfl (by kernel_rfl) (by kernel_rfl) (by kernel_rfl) (fun _ _ _ h => h) (Or.inl ⟨by rfl, ?_⟩) (by assumption) ?_
          rotate_left
          · intro w' hSw
            (try dsimp only at hSw)
            first | (go_simp; done) | (go_simp; with_reducible rfl)
          (try simp only [Act.put, List.setIfInBounds_toArray, List.set_cons_zero, List.set_cons_succ])
          refine wpAnyH_take (i := 9) (oi := { dst := some 132, op := Op.move (Operand.tmp 5), type := 25, pos := "parts.go:618", after := #[], guard := none }) (v := ?_) rfl (by kernel_rfl) (by kernel_rfl) (by kernel_rfl) (fun _ _ _ h => h) (Or.inl ⟨by rfl, ?_⟩) (by assumption) ?_
          rotate_left
          · intro w' hSw
            (try dsimp only at hSw)
            first | (go_simp; done) | (go_simp; with_reducible rfl)
          (try simp only [Act.put, List.setIfInBounds_toArray, List.set_cons_zero, List.set_cons_succ])
          refine wpAnyH_take (i := 10) (oi := { dst := some 133, op := Op.move (Operand.tmp 18), type := 3, pos := "parts.go:618", after := #[], guard := none }) (v := ?_) rfl (by kernel_rfl) (by kernel_rfl) (by kernel_rfl) (fun _ _ _ h => h) (Or.inl ⟨by rfl, ?_⟩) (by assumption) ?_
          rotate_left
          · intro w' hSw
            (try dsimp only at hSw)
            first | (go_simp; done) | (go_simp; with_reducible rfl)
          (try simp only [Act.put, List.setIfInBounds_toArray, List.set_cons_zero, List.set_cons_succ])
          refine wpAnyH_take (i := 11) (oi := { dst := some 134, op := Op.indexAddr 25 (Operand.tmp 132) (Operand.tmp 133), type := 0, pos := "parts.go:618", after := #[{ on := 9, ground := Ground.data }, { on := 10, ground := Ground.data }], guard := none }) (v := ?_) rfl (by kernel_rfl) (by kernel_rfl) (by kernel_rfl) (fun _ _ _ h => h) (Or.inl ⟨by rfl, ?_⟩) (by assumption) ?_
          rotate_left
          · intro w' hSw
            (try dsimp only at hSw)
            first | (go_simp; done) | (go_simp; with_reducible rfl)
          (try simp only [Act.put, List.setIfInBounds_toArray, List.set_cons_zero, List.set_cons_succ])
          refine wpAnyH_take (i := 12) (oi := { dst := some 135, op := Op.load 57 (Operand.tmp 134), type := 57, pos := "parts.go:618", after := #[{ on := 11, ground := Ground.data }], guard := none }) (v := ?_) rfl (by kernel_rfl) (by kernel_rfl) (by kernel_rfl) (fun _ _ _ h => h) (Or.inl ⟨by rfl, ?_⟩) (by assumption) ?_
          rotate_left
          · intro w' hSw
            (try dsimp only at hSw)
            first | (go_simp; done) | (go_simp; with_reducible rfl)
          (try simp only [Act.put, List.setIfInBounds_toArray, List.set_cons_zero, List.set_cons_succ])
          refine wpAnyH_ready (rs := [5]) (by kernel_rfl) (by simp) ?_
          refine AllReadyH.cons (o := { dst := some 128, op := Op.call { callee := Callee.value (Operand.func 19), args := #[Operand.tmp 127], argTypes := #[57] }, type := 55, pos := "parts.go:618", after := #[{ on := 4, ground := Ground.data }], guard := none }) rfl (fun K hK => ?_) AllReadyH.nil
          go_simp
          (refine (wireof_walk wr.drew fr dst kind mkey mop mcf sl ad L2.length cp L2 rfl (by have := Hx.out.2.2.1; omega) Hx.out.2.2.2.2.2.2.1 ((Hx.out.2.2.2.2.2.2.2.1.below Hx.out.1.2.2.2.2).mono Hx.out.1.2.2.2.2.size)).mono ?_; rintro e w5 ⟨hb5, v5, rfl, ho5⟩; obtain ⟨a5, c5, rfl, g1, g2, g3, g4⟩ := ho5.readS; have hD5 := Hx.out.1.below hb5; have q5 := KS.out w5 hD5.2.2.2.2; have J5 := Lib.hid (And.intro hD5 (And.intro g1 (And.intro g3 (show VrS (fun b => ¬ F1 b) w5 a5 L2 from g4.mono (fun b hb hf => by obtain ⟨⟨_, _, _, hX⟩, _⟩ := Hx.out.1; have := hX.x.talk.lt b hf; omega))))); clear hb5 ho5 g1 g2 g3 g4 hD5)
          go_wp2_with fail
          refine hK.out _ _ (q5) (fun hHeld => ?_)
          clear hK K q0
          (try simp only [Act.put, List.setIfInBounds_toArray, List.set_cons_zero, List.set_cons_succ])
          refine wpAnyH_ready (rs := [6]) (by kernel_rfl) (by simp) ?_
          refine AllReadyH.cons (o := { dst := some 129, op := Op.call { callee := Callee.value (Operand.func 18), args := #[Operand.tmp 123, Operand.tmp 128], argTypes := #[29, 55] }, type := 49, pos := "parts.go:618", after := #[{ on := 0, ground := Ground.data }, { on := 5, ground := Ground.data }, { on := 5, ground := Ground.chain }], guard := none }) rfl (fun K hK => ?_) AllReadyH.nil
          go_simp
          (obtain ⟨⟨bm5, ma5, mc5, hX5⟩, _, hF5, _, hB5⟩ := J5.out.1; refine (chear_walk F1 w5 ab bm5 ma5 mc5 na1 nc1 A1 fr dst kind mkey mop mcf sl a5 L2.length c5 L2 hX5 Hx.out.2.1 Hx.out.2.2.1 Hx.out.2.2.2.1.fr rfl J5.out.2.1 J5.out.2.2.1 J5.out.2.2.2 E w H.out.1 hB5 hF5).mono ?_; intro e w6 hp6; obtain ⟨F6, a6, c6, rfl, hD6, g6⟩ := J5.out.1.hear1' hp6 Hx.out.2.2.2.2.2.2.2.2.1 Hx.out.2.2.2.2.2.2.2.2.2.1 Hx.out.2.2.2.2.2.2.2.2.2.2.1; have q6 := KS.out w6 hD6.2.2.2.2; have J6 := Lib.hid (And.intro hD6 g6); clear hp6 hD6 g6 hX5 hF5 hB5)
          go_wp2_with fail
          refine hK.out _ _ (q6) (fun hHeld => ?_)
          clear hK K q5
          (try simp only [Act.put, List.setIfInBounds_toArray, List.set_cons_zero, List.set_cons_succ])
          refine wpAnyH_ready (rs := [7]) (by kernel_rfl) (by simp) ?_
          refine AllReadyH.cons (o := { dst := some 130, op := Op.call { callee := Callee.value (Operand.func 15), args := #[Operand.tmp 129], argTypes := #[49] }, type := 25, pos := "parts.go:618", after := #[{ on := 6, ground := Ground.data }, { on := 6, ground := Ground.chain }], guard := none }) rfl (fun K hK => ?_) AllReadyH.nil
          go_simp
          (refine (bwires_walk w6 _ a6 n2 c6 l2 Hx.out.2.2.2.2.2.2.2.2.2.2.1 (by have h9 := Hx.out.2.2.2.2.2.2.2.2.2.2.2.2.1; omega) J6.out.2).mono ?_; rintro e w7 ⟨v7, rfl, hb7, hv7⟩; obtain ⟨a7, c7, rfl, hD7, g7⟩ := J6.out.1.back' hb7 hv7 Hx.out.2.2.2.2.2.2.2.2.2.2.1; have q7 := KS.out w7 hD7.2.2.2.2; have J7 := Lib.hid (And.intro hD7 g7); clear hb7 hv7 hD7 g7)
          go_wp2_with fail
          refine hK.out _ _ (q7) (fun hHeld => ?_)
          clear hK K q6
          (try simp only [Act.put, List.setIfInBounds_toArray, List.set_cons_zero, List.set_cons_succ])
          refine wpAnyH_ready (rs := [13]) (by kernel_rfl) (by simp) ?_
          refine AllReadyH.cons (o := { dst := some 136, op := Op.call { callee := Callee.value (Operand.func 20), args := #[Operand.tmp 131, Operand.tmp 135], argTypes := #[41, 57] }, type := 25, pos := "parts.go:618", after := #[{ on := 8, ground := Ground.data }, { on := 12, ground := Ground.data }, { on := 7, ground := Ground.chain }], guard := none }) rfl (fun K hK => ?_) AllReadyH.nil
          go_simp
          (obtain ⟨_, ⟨ma7, mc7, fv7, lv7, us7, hR7⟩, _, _, hB7⟩ := J7.out.1; refine (mhear2_walk (fun b => b < w.heap.size) G1 w7 mo ma7 mc7 aB capB fv7 lv7 us7 A1 fr dst kind mkey mop mcf sl ad L2.length cp L2 hR7 Hx.out.2.1.ok Hx.out.2.1.mv Hx.out.2.1.st Hx.out.2.1.wt Hx.out.2.1.tx Hx.out.2.2.1 rfl Hx.out.2.2.2.2.2.2.1 ((Hx.out.2.2.2.2.2.2.2.1.below hB7).toS hB7.size (fun b hb hg => hR7.dis b hb hg)) (fun b hb => Nat.lt_of_lt_of_le hb hB7.size) Hx.out.2.1.pt Hx.out.2.1.nx).mono ?_; intro e w8 hp8; obtain ⟨G8, a8, c8, rfl, hD8, g8, u8⟩ := J7.out.1.hear2' hp8 J7.out.2 Hx.out.2.2.2.2.2.2.2.2.1 Hx.out.2.2.2.2.2.2.2.2.2.1 Hx.out.2.2.2.2.2.2.2.2.2.2.1; have q8 := KS.out w8 hD8.2.2.2.2; have J8 := Lib.hid (And.intro hD8 (And.intro g8 u8)); clear hp8 hD8 g8 u8 hR7 hB7)
          go_wp2_with fail
          refine hK.out _ _ (q8) (fun hHeld => ?_)
          clear hK K q7
          (try simp only [Act.put, List.setIfInBounds_toArray, List.set_cons_zero, List.set_cons_succ])
          refine wpAnyH_ready (rs := [14]) (by kernel_rfl) (by simp) ?_
          refine AllReadyH.cons (o := { dst := some 137, op := Op.call { callee := Callee.value (Operand.func 14), args := #[Operand.tmp 130, Operand.tmp 136], argTypes := #[25, 25] }, type := 4, pos := "parts.go:618", after := #[{ on := 7, ground := Ground.data }, { on := 13, ground := Ground.data }, { on := 13, ground := Ground.chain }], guard := none }) rfl (fun K hK => ?_) AllReadyH.nil
          go_simp
          (refine (samems_same w8 w8.heap.size a7 a8 n2 c7 c8 l2 Hx.out.2.2.2.2.2.2.2.2.2.2.1 (by have h9 := Hx.out.2.2.2.2.2.2.2.2.2.2.2.2.1; unfold maxLen; omega) J8.out.2.1 J8.out.2.2 (Nat.le_refl _)).mono ?_; rintro e w9 ⟨rfl, hb9⟩; have hD9 := J8.out.1.below hb9; have q9 := KS.out w9 hD9.2.2.2.2; have z15 := hD9.state; have z13 := hD9.state2.1; rw [Hx.out.2.2.2.2.2.2.2.2.2.2.2.2.2.1] at z15 z13; have J9 := Lib.hid hD9; clear hb9 hD9)
          go_wp2_with fail
          refine hK.out _ _ (q9) (fun hHeld => ?_)
          clear hK K q8
          (try simp only [Act.put, List.setIfInBounds_toArray, List.set_cons_zero, List.set_cons_succ])
          refine wpAnyH_weaken (S2 := fun W => (W.cell? ⟨b, off + j * 8, none⟩ = some (.string fr) ∧ W.cell? ⟨b, off + j * 8 + 1, none⟩ = some (.string dst) ∧ W.cell? ⟨b, off + j * 8 + 2, none⟩ = some (.string kind) ∧ W.cell? ⟨b, off + j * 8 + 3, none⟩ = some (.string mkey) ∧ W.cell? ⟨b, off + j * 8 + 4, none⟩ = some (.int .i64 mop) ∧ W.cell? ⟨b, off + j * 8 + 5, none⟩ = some (.int .i64 mcf) ∧ W.cell? ⟨b, off + j * 8 + 6, none⟩ = some (.bool sl) ∧ W.cell? ⟨b, off + j * 8 + 7, none⟩ = some (.slice ad L2.length cp)) ∧ W.cell? ⟨mo, 13, none⟩ = some (.string s2)) (fun W h => h.1) _ _ _ _ ?_
          have hHeld2 : (fun W : World => (W.cell? ⟨b, off + j * 8, none⟩ = some (.string fr) ∧ W.cell? ⟨b, off + j * 8 + 1, none⟩ = some (.string dst) ∧ W.cell? ⟨b, off + j * 8 + 2, none⟩ = some (.string kind) ∧ W.cell? ⟨b, off + j * 8 + 3, none⟩ = some (.string mkey) ∧ W.cell? ⟨b, off + j * 8 + 4, none⟩ = some (.int .i64 mop) ∧ W.cell? ⟨b, off + j * 8 + 5, none⟩ = some (.int .i64 mcf) ∧ W.cell? ⟨b, off + j * 8 + 6, none⟩ = some (.bool sl) ∧ W.cell? ⟨b, off + j * 8 + 7, none⟩ = some (.slice ad L2.length cp)) ∧ W.cell? ⟨mo, 13, none⟩ = some (.string s2)) w9 := ⟨q9, z13⟩
          clear hHeld
          refine wpAnyH_take (i := 15) (oi := { dst := some 138, op := Op.unOp UnOp.not 4 (Operand.tmp 137), type := 4, pos := "parts.go:618", after := #[{ on := 14, ground := Ground.data }], guard := none }) (v := ?_) rfl (by kernel_rfl) (by kernel_rfl) (by kernel_rfl) (fun _ _ _ h => h) (Or.inl ⟨by rfl, ?_⟩) (by assumption) ?_
          rotate_left
          · intro w' hSw
            (try dsimp only at hSw)
            first | (go_simp; done) | (go_simp; with_reducible rfl)
          (try simp only [Act.put, List.setIfInBounds_toArray, List.set_cons_zero, List.set_cons_succ])
          refine wpAnyH_take (i := 16) (oi := { dst := some 139, op := Op.move (Operand.tmp 138), type := 4, pos := "parts.go:618", after := #[{ on := 15, ground := Ground.data }, { on := 14, ground := Ground.chain }], guard := none }) (v := ?_) rfl (by kernel_rfl) (by kernel_rfl) (by kernel_rfl) (fun _ _ _ h => h) (Or.inl ⟨by rfl, ?_⟩) (by assumption) ?_
          rotate_left
          · intro w' hSw
            (try dsimp only at hSw)
            first | (go_simp; done) | (go_simp; with_reducible rfl)
          (try simp only [Act.put, List.setIfInBounds_toArray, List.set_cons_zero, List.set_cons_succ])
          refine wpAnyH_take (i := 17) (oi := { dst := some 140, op := Op.move (Operand.tmp 14), type := 29, pos := "parts.go:618", after := #[{ on := 16, ground := Ground.guard }], guard := some (16, false) }) (v := ?_) rfl (by kernel_rfl) (by kernel_rfl) (by kernel_rfl) (fun _ _ _ h => h) (Or.inl ⟨by rfl, ?_⟩) (by assumption) ?_
          rotate_left
          · intro w' hSw
            (try dsimp only at hSw)
            first | (go_simp; done) | (go_simp; with_reducible rfl)
          (try simp only [Act.put, List.setIfInBounds_toArray, List.set_cons_zero, List.set_cons_succ])
          refine wpAnyH_take (i := 19) (oi := { dst := some 142, op := Op.move (Operand.tmp 17), type := 41, pos := "parts.go:618", after := #[{ on := 16, ground := Ground.guard }], guard := some (16, false) }) (v := ?_) rfl (by kernel_rfl) (by kernel_rfl) (by kernel_rfl) (fun _ _ _ h => h) (Or.inl ⟨by rfl, ?_⟩) (by assumption) ?_
          rotate_left
          · intro w' hSw
            (try dsimp only at hSw)
            first | (go_simp; done) | (go_simp; with_reducible rfl)
          (try simp only [Act.put, List.setIfInBounds_toArray, List.set_cons_zero, List.set_cons_succ])
          refine wpAnyH_take (i := 20) (oi := { dst := some 143, op := Op.nilCheck (Operand.tmp 142), type := 0, pos := "parts.go:618", after := #[{ on := 19, ground := Ground.data }, { on := 16, ground := Ground.guard }], guard := some (16, false) }) (v := ?_) rfl (by kernel_rfl) (by kernel_rfl) (by kernel_rfl) (fun _ _ _ h => h) (Or.inl ⟨by rfl, ?_⟩) (by assumption) ?_
          rotate_left
          · intro w' hSw
            (try dsimp only at hSw)
            first | (go_simp; done) | (go_simp; with_reducible rfl)
          (try simp only [Act.put, List.setIfInBounds_toArray, List.set_cons_zero, List.set_cons_succ])
          refine wpAnyH_take (i := 21) (oi := { dst := some 144, op := Op.fieldAddr 46 (Operand.tmp 143) 9, type := 0, pos := "parts.go:618", after := #[{ on := 20, ground := Ground.data }, { on := 16, ground := Ground.guard }], guard := some (16, false) }) (v := ?_) rfl (by kernel_rfl) (by kernel_rfl) (by kernel_rfl) (fun _ _ _ h => h) (Or.inl ⟨by rfl, ?_⟩) (by assumption) ?_
          rotate_left
          · intro w' hSw
            (try dsimp only at hSw)
            first | (go_simp; done) | (go_simp; with_reducible rfl)
          (try simp only [Act.put, List.setIfInBounds_toArray, List.set_cons_zero, List.set_cons_succ])
          refine wpAnyH_take (i := 22) (oi := { dst := some 145, op := Op.load 9 (Operand.tmp 144), type := 9, pos := "parts.go:618", after := #[{ on := 21, ground := Ground.data }, { on := 16, ground := Ground.guard }], guard := some (16, false) }) (v := ?_) rfl (by kernel_rfl) (by kernel_rfl) (by kernel_rfl) (fun _ _ _ h => h) (Or.inl ⟨by rfl, ?_⟩) (by assumption) ?_
          rotate_left
          · intro w' hSw
            (try dsimp only at hSw)
            first | (go_simp; done) | (go_simp; with_reducible rfl)
          (try simp only [Act.put, List.setIfInBounds_toArray, List.set_cons_zero, List.set_cons_succ])
          refine wpAnyH_ready (rs := [18]) (by kernel_rfl) (by simp) ?_
          refine AllReadyH.cons (o := { dst := some 141, op := Op.call { callee := Callee.value (Operand.func 21), args := #[Operand.tmp 140], argTypes := #[29] }, type := 9, pos := "parts.go:618", after := #[{ on := 17, ground := Ground.data }, { on := 16, ground := Ground.chain }, { on := 16, ground := Ground.guard }], guard := some (16, false) }) rfl (fun K hK => ?_) AllReadyH.nil
          go_simp
          (refine (cstate_walk w9 ab s2 z15).mono ?_; rintro e w10 ⟨rfl, rfl⟩)
          go_wp2_with fail
          refine hK.out _ _ (hHeld2) (fun hHeld => ?_)
          clear hK K 
          (try simp only [Act.put, List.setIfInBounds_toArray, List.set_cons_zero, List.set_cons_succ])
          refine wpAnyH_take (i := 23) (oi := { dst := some 146, op := Op.binOp BinOp.neq 9 (Operand.tmp 141) (Operand.tmp 145) 9, type := 4, pos := "parts.go:618", after := #[{ on := 18, ground := Ground.data }, { on := 22, ground := Ground.data }, { on := 16, ground := Ground.guard }], guard := some (16, false) }) (v := ?_) rfl (by kernel_rfl) (by kernel_rfl) (by kernel_rfl) (fun _ _ _ h => h) (Or.inl ⟨by rfl, ?_⟩) (by assumption) ?_
          rotate_left
          · intro w' hSw
            (try dsimp only at hSw)
            first | (go_simp; done) | (go_simp; with_reducible rfl)
          (try simp only [Act.put, List.setIfInBounds_toArray, List.set_cons_zero, List.set_cons_succ])
          refine wpAnyH_take (i := 24) (oi := { dst := some 147, op := Op.pick (Operand.tmp 139) (Operand.const (Value.bool true)) (Operand.tmp 146), type := 4, pos := "parts.go:618", after := #[{ on := 16, ground := Ground.data }, { on := 23, ground := Ground.data }], guard := none }) (v := ?_) rfl (by kernel_rfl) (by kernel_rfl) (by kernel_rfl) (fun _ _ _ h => h) (Or.inl ⟨by rfl, ?_⟩) (by assumption) ?_
          rotate_left
          · intro w' hSw
            (try dsimp only at hSw)
            first | (go_simp; done) | (go_simp; with_reducible rfl)
          (try simp only [Act.put, List.setIfInBounds_toArray, List.set_cons_zero, List.set_cons_succ])
          refine wpAnyH_done (by kernel_rfl) ?_ _
          clear hHeld hHeld2 q9
          obtain ⟨⟨bm9, ma9, mc9, hX9⟩, _⟩ := J9.out
          have Han := Lib.hid (canswer_walk _ w9 ab bm9 ma9 mc9 na1 nc1 A2 hX9 Hx.out.2.2.2.2.2.2.2.2.2.2.2.1.mv Hx.out.2.2.2.2.2.2.2.2.2.2.2.1.st)
          have hstx := cst_text Hx.out.2.2.2.2.2.2.2.2.2.2.2.1
          rw [Hx.out.2.2.2.2.2.2.2.2.2.2.2.2.2.1] at hstx
          clear hX9
          go_wp2_with fail
          refine Han.out.mono ?_
          rintro e w11 ⟨rfl, hb11⟩
          have hD11 := J9.out.below hb11
          have HD11 := Lib.hid hD11
          clear hb11 hD11 z15 z13
          obtain ⟨tb, htb⟩ : ∃ tb, w11.heap.size = tb := ⟨_, rfl⟩
          rcases hstx with ⟨y1, y2, y3⟩ | ⟨y1, y2, y3⟩ | ⟨y1, y3 | y3 | y3⟩
          · rw [ans_yes y1 y2]
            obtain ⟨u1, hu1⟩ : ∃ u1, A2.tag.1 = u1 := ⟨_, rfl⟩
            obtain ⟨u2, hu2⟩ : ∃ u2, A2.tag.2 = u2 := ⟨_, rfl⟩
            obtain ⟨ux, hux⟩ : ∃ ux, A2.text = ux := ⟨_, rfl⟩
            obtain ⟨W12, hW12⟩ : ∃ W12, w11.alloc (.cells #[.int .i64 u1, .int .i64 u2] 44) = W12 := ⟨_, rfl⟩
            have hD12 : DuoC w W12 ab mo na1 nc1 aB capB A2 A2 _ _ := HD11.out.below (by rw [← hW12]; exact (Below.refl _ _).alloc (Nat.le_refl _) _)
            obtain ⟨z13, z16, z17, z18, z19⟩ := hD12.state2
            rw [Hx.out.2.2.2.2.2.2.2.2.2.2.2.2.2.1, y3] at z13
            rw [hu1] at z16 ⊢
            rw [hu2] at z17 ⊢
            rw [hux] at z18 ⊢
            rw [y2] at z19
            obtain ⟨x0, x1, _, _⟩ : W12.cell? ⟨tb, 0, none⟩ = some (.int .i64 u1) ∧ W12.cell? ⟨tb, 1, none⟩ = some (.int .i64 u2) ∧ W12.frozen? ⟨tb, 0, none⟩ = false ∧ W12.frozen? ⟨tb, 1, none⟩ = false := by rw [← hW12, ← htb]; exact (TagBox.new w11 _ _).c
            have HN : Hid (∀ W, Below W12.heap.size W12 W → CarI w W ab mo na1 nc1 aB capB l (j + 1)) := Lib.hid fun W hb => ⟨_, _, A2, hD12.below hb, Hx.out.2.2.2.2.2.2.2.2.2.2.2.1, Hx.out.2.2.2.2.2.2.2.2.2.2.2.2.2.2⟩
            clear hD12 hu1 hu2 hux y1 y2 y3
            go_wp2_with fail
            clear hW12
            go_quiet (fail)
            go_wp2
            go_roundw
            case rel => exact ⟨j + 1, by omega, by go_num, Lib.hid (HN.out _ (by first | exact ⟨rfl, rfl, rfl, Nat.le_refl _, fun _ _ => rfl⟩ | (repeat (first | exact Below.refl _ _ | apply Below.drew))))⟩
            case measure => simp [intOf]; omega
          · rw [cans_no Hx.out.2.2.2.2.2.2.2.2.2.2.2.1 y1]
            obtain ⟨W12, hW12⟩ : ∃ W12, w11.alloc (.cells #[.int .i64 0, .int .i64 0] 44) = W12 := ⟨_, rfl⟩
            have hD12 : DuoC w W12 ab mo na1 nc1 aB capB A2 A2 _ _ := HD11.out.below (by rw [← hW12]; exact (Below.refl _ _).alloc (Nat.le_refl _) _)
            obtain ⟨z13, _, _, _, z19⟩ := hD12.state2
            rw [Hx.out.2.2.2.2.2.2.2.2.2.2.2.2.2.1, y3] at z13
            rw [y2] at z19
            obtain ⟨x0, x1, _, _⟩ : W12.cell? ⟨tb, 0, none⟩ = some (.int .i64 0) ∧ W12.cell? ⟨tb, 1, none⟩ = some (.int .i64 0) ∧ W12.frozen? ⟨tb, 0, none⟩ = false ∧ W12.frozen? ⟨tb, 1, none⟩ = false := by rw [← hW12, ← htb]; exact (TagBox.new w11 _ _).c
            have HN : Hid (Below w11.heap.size w11 W12 ∧ ∀ W, Below w11.heap.size w11 W → CarI w W ab mo na1 nc1 aB capB l (j + 1)) := Lib.hid ⟨by rw [← hW12]; exact (Below.refl _ _).alloc (Nat.le_refl _) _, fun W hb => ⟨_, _, A2, HD11.out.below hb, Hx.out.2.2.2.2.2.2.2.2.2.2.2.1, Hx.out.2.2.2.2.2.2.2.2.2.2.2.2.2.2⟩⟩
            clear hD12 y1 y2 y3
            go_wp2
            go_roundw
            case rel => exact ⟨j + 1, by omega, by go_num, Lib.hid (HN.out.2 _ (by first | exact HN.out.1 | exact (HN.out.1.setCell (p := ⟨tb, 0, none⟩) (by show w11.heap.size ≤ tb; omega) _).setCell (p := ⟨tb, 1, none⟩) (by show w11.heap.size ≤ tb; omega) _))⟩
            case measure => simp [intOf]; omega
          all_goals
            rw [cans_no Hx.out.2.2.2.2.2.2.2.2.2.2.2.1 y1]
            obtain ⟨W12, hW12⟩ : ∃ W12, w11.alloc (.cells #[.int .i64 0, .int .i64 0] 44) = W12 := ⟨_, rfl⟩
            have hD12 : DuoC w W12 ab mo na1 nc1 aB capB A2 A2 _ _ := HD11.out.below (by rw [← hW12]; exact (Below.refl _ _).alloc (Nat.le_refl _) _)
            obtain ⟨z13, _, _, _, _⟩ := hD12.state2
            rw [Hx.out.2.2.2.2.2.2.2.2.2.2.2.2.2.1, y3] at z13
            obtain ⟨x0, x1, _, _⟩ : W12.cell? ⟨tb, 0, none⟩ = some (.int .i64 0) ∧ W12.cell? ⟨tb, 1, none⟩ = some (.int .i64 0) ∧ W12.frozen? ⟨tb, 0, none⟩ = false ∧ W12.frozen? ⟨tb, 1, none⟩ = false := by rw [← hW12, ← htb]; exact (TagBox.new w11 _ _).c
            have HN : Hid (Below w11.heap.size w11 W12 ∧ ∀ W, Below w11.heap.size w11 W → CarI w W ab mo na1 nc1 aB capB l (j + 1)) := Lib.hid ⟨by rw [← hW12]; exact (Below.refl _ _).alloc (Nat.le_refl _) _, fun W hb => ⟨_, _, A2, HD11.out.below hb, Hx.out.2.2.2.2.2.2.2.2.2.2.2.1, Hx.out.2.2.2.2.2.2.2.2.2.2.2.2.2.2⟩⟩
            clear hD12 y1 y3
            go_wp2
            go_roundw
            case rel => exact ⟨j + 1, by omega, by go_num, Lib.hid (HN.out.2 _ (by first | exact HN.out.1 | exact (HN.out.1.setCell (p := ⟨tb, 0, none⟩) (by show w11.heap.size ≤ tb; omega) _).setCell (p := ⟨tb, 1, none⟩) (by show w11.heap.size ≤ tb; omega) _))⟩
            case measure => simp [intOf]; omega
        · go_wp2
          go_ret
          obtain ⟨_, _, _, hd, _⟩ := Hr.out
          exact ⟨rfl, hd.2.2.2.2⟩
end Go.Proofs.YtabboioamdphmaaGreatDoor.carryHears

