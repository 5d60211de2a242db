/- The walk of the law AskHears: a get, a short text. (Printed by gen_wask.py.) -/
import Derived.Test.YtabboioamdphmaaGreatDoorKAskHears47
import Derived.Test.YtabboioamdphmaaGreatDoorKAskHears32
namespace Go.Proofs.YtabboioamdphmaaGreatDoor.askHears
open Go.Proofs.YtabboioamdphmaaGreatDoor
open Go.RowKit Go.Maps Go.BigFrame

set_option maxRecDepth 100000 in
set_option maxHeartbeats 16000000 in
theorem main_G (w : World) (E : Nat → Addr) (hE : ErrEnv w E) (who op cf n k : Int) (a : Option Addr) (len cap : Nat) (L : List ByteArray) (key text : ByteArray) (la : Option Addr) (ll lc : Nat) (l : List Msg) (hin : BidIn w who op cf n k a len cap L key text) (hA : MsgsIn w la ll lc l) (hbk : msgsbulk l ≤ 1048576) (hlc : longC L = false) (hk1 : ¬ (100 : Int) < key.size) (ht : ¬ (100 : Int) < text.size ∨ ((100 : Int) < text.size ∧ ¬ (text.size : Int) ≤ 1000)) (h3 : ¬ (2000 : Int) < text.size) :
    Calls Tryz.prog 4 #[.agg #[.bool false, .int .i64 who, .int .i64 op, .int .i64 cf, .int .i64 n, .int .i64 k, .slice a len cap, .string key, .string text], .slice la ll lc] w fun e w' => e = .returned (.bool true) ∧ Below w.heap.size w w' := by
  have hT := hin.c_.t_
  obtain ⟨W1, hW1⟩ : ∃ W1, w.alloc (.cells #[.bool false, .int .i64 who, .int .i64 op, .int .i64 cf, .int .i64 n, .int .i64 k, .slice a len cap, .string key, .string text] 64) = W1 := ⟨_, rfl⟩
  obtain ⟨bb, hbb⟩ : ∃ bb, w.heap.size = bb := ⟨_, rfl⟩
  have hB1 : Below w.heap.size w W1 := by rw [← hW1]; exact (Below.refl _ _).alloc (Nat.le_refl _) _
  have hC1 : BidAt W1 bb false who op cf n k (.slice a len cap) key text := by rw [← hW1, ← hbb]; exact BidAt.new w _ _ _ _ _ _ _ _ _
  have hs1 : W1.heap.size = bb + 1 := by rw [← hW1, ← hbb]; simp
  have KB : Hid (∀ W, Below W1.heap.size W1 W → BidAt W bb false who op cf n k (.slice a len cap) key text) := Lib.hid fun W hb => hC1.below hb (by omega)
  have H := Lib.hid (And.intro hE (And.intro hA (And.intro hbk (And.intro hT (And.intro hin (And.intro hB1 (And.intro hW1 hbb)))))))
  have Hlo := Lib.hid hlc
  have hl30 : len ≤ 30 := by have h9 := (longC_no hlc).1; have := hT.len_; omega
  have hll9 : ll ≤ 9223372036854775807 := by have h9 := hA.2.2.1; have h8 := hA.2.1; unfold maxLen at h9; omega
  have Has := Lib.hid (asked_walk W1 E (hE.below hB1 (Nat.le_refl _)).qx)
  clear hT hin hE hA hbk hB1 hC1 hs1 hlc
  go_enter Tryz.func4, Tryz.ntmps4
  go_wp2_with fail
  skip
  clear hW1 hbb
  refine Has.out.mono ?_
  rintro e w2 ⟨rfl, hb2⟩
  have H2 := Lib.hid (And.intro hb2 (H.out.2.2.2.2.2.1.trans (hb2.mono H.out.2.2.2.2.2.1.size)))
  clear hb2
  obtain ⟨c0, c1, c2, c3, c4, c5, c6, c7, c8⟩ := KB.out w2 H2.out.1
  have hlo := longc_walk n k w.heap.size a len cap L w2 H.out.2.2.2.1.len_ (by unfold maxLen; omega) H.out.2.2.2.1.sizeAt (H.out.2.2.2.1.txs.below H2.out.2) H2.out.2.size
  rw [Hlo.out] at hlo
  have Hlc := Lib.hid hlo
  clear hlo
  go_wp2_with fail
  refine Hlc.out.mono ?_
  rintro e w3 ⟨rfl, hb3⟩
  have H3 := Lib.hid (And.intro (H2.out.1.trans (hb3.mono H2.out.1.size)) (H2.out.2.trans (hb3.mono H2.out.2.size)))
  clear hb3 c0 c1 c2 c3 c4 c5 c6 c7 c8
  obtain ⟨c0, c1, c2, c3, c4, c5, c6, c7, c8⟩ := KB.out w3 H3.out.1
  have hmf := mfit_walk w3 la ll lc l (by
    obtain ⟨h1, h2, h3, h4, h5, h6⟩ := H.out.2.1
    exact ⟨h1, h2, h3, h4, (h5.below H3.out.2).mono H3.out.2.size, h6⟩)
  have Hmf := Lib.hid hmf
  clear hmf
  rcases ht with h1 | ⟨h1, h2⟩
  all_goals
    go_wp2_with fail
    refine Hmf.out.mono ?_
    rintro e w4 ⟨⟨r, rfl⟩, hb4⟩
    have H4 := Lib.hid (And.intro (H3.out.1.trans (hb4.mono H3.out.1.size)) (H3.out.2.trans (hb4.mono H3.out.2.size)))
    clear hb4 c0 c1 c2 c3 c4 c5 c6 c7 c8
    cases r with
    | false =>
      go_wp2
      go_ret
      exact ⟨rfl, H4.out.2⟩
    | true =>
      obtain ⟨c0, c1, c2, c3, c4, c5, c6, c7, c8⟩ := KB.out w4 H4.out.1
      have KC : Hid (∀ W, Below W1.heap.size W1 W → W.cell? ⟨bb, 1, none⟩ = some (.int .i64 who) ∧ W.cell? ⟨bb, 2, none⟩ = some (.int .i64 op) ∧ W.cell? ⟨bb, 3, none⟩ = some (.int .i64 cf) ∧ W.cell? ⟨bb, 4, none⟩ = some (.int .i64 n) ∧ W.cell? ⟨bb, 5, none⟩ = some (.int .i64 k) ∧ W.cell? ⟨bb, 6, none⟩ = some (.slice a len cap) ∧ W.cell? ⟨bb, 7, none⟩ = some (.string key)) := Lib.hid fun W hb => by
        obtain ⟨c0, c1, c2, c3, c4, c5, c6, c7, c8⟩ := KB.out W hb
        exact ⟨c1, c2, c3, c4, c5, c6, c7⟩
      go_wp2_with fail
      go_region_held3 (fun W => W.cell? ⟨bb, 1, none⟩ = some (.int .i64 who) ∧ W.cell? ⟨bb, 2, none⟩ = some (.int .i64 op) ∧ W.cell? ⟨bb, 3, none⟩ = some (.int .i64 cf) ∧ W.cell? ⟨bb, 4, none⟩ = some (.int .i64 n) ∧ W.cell? ⟨bb, 5, none⟩ = some (.int .i64 k) ∧ W.cell? ⟨bb, 6, none⟩ = some (.slice a len cap) ∧ W.cell? ⟨bb, 7, none⟩ = some (.string key))
        (first | exact ⟨c1, c2, c3, c4, c5, c6, c7⟩ | exact q5 | exact q6)
        (first
          | (go_at_call 9; refine (ownc_walk n k w.heap.size a len cap L w4.drew H.out.2.2.2.1.len_ (by omega) H.out.2.2.2.1.nil_ (H.out.2.2.2.1.txs.below H4.out.2.drew) H4.out.2.drew.size).mono ?_; rintro e w5 ⟨⟨v5, rfl, hv5⟩, hb5⟩; obtain ⟨a5, cp5, e5, g1, g2, g3, g4⟩ := hv5.read; rw [H.out.2.2.2.1.len_] at e5 g1; subst e5; have q5 := KC.out w5 (H4.out.1.drew.trans (hb5.mono H4.out.1.drew.size)); have H5 := Lib.hid (And.intro (H4.out.2.drew.trans (hb5.mono H4.out.2.drew.size)) (And.intro (H4.out.1.drew.trans (hb5.mono H4.out.1.drew.size)) (And.intro g1 (And.intro g3 g4)))); clear hb5 hv5 g1 g2 g3 g4)
          | (go_at_call 25; refine (get_walk who op n k cf w5.heap.size a5 len cp5 L key w5 E (H.out.1.below H5.out.1 (Nat.le_refl _)).qx H.out.2.2.2.1.len_ H5.out.2.2.1 (by omega) H5.out.2.2.2.1 H.out.2.2.2.1.sizeAt H5.out.2.2.2.2 (Nat.le_refl _) H.out.2.2.2.2.1.key_).mono ?_; intro e w6 h6; obtain ⟨pv, ev, rfl, hb6, hr6⟩ := h6.ret; have q6 := KC.out w6 (H5.out.2.1.trans (hb6.mono H5.out.2.1.size)); have H6 := Lib.hid (And.intro (H5.out.1.trans (hb6.mono H5.out.1.size)) (And.intro (H5.out.2.1.trans (hb6.mono H5.out.2.1.size)) (And.intro hb6 hr6))); clear hb6 h6 hr6)
          | fail)
      rename_i hHeld
      clear hHeld q5 q6 c0 c1 c2 c3 c4 c5 c6 c7 c8
      obtain ⟨c0, c1, c2, c3, c4, c5, c6, c7, c8⟩ := KB.out w6 H6.out.2.1
      obtain ⟨F, hF⟩ : ∃ F, bidF who op n k L cf key 0 = F := ⟨_, rfl⟩
      have hbf := bidfault_walk false who op cf n k w.heap.size a len cap L key text w6 H.out.2.2.2.1.len_ H.out.2.2.2.1.cap_ H.out.2.2.2.1.sizeAt (H.out.2.2.2.1.txs.below H6.out.1) H6.out.1.size H.out.2.2.2.2.1.key_
      rw [if_neg (by decide), hF] at hbf
      have Hbf := Lib.hid hbf
      have hr := H6.out.2.2.2
      rw [hF] at hr
      have HF := Lib.hid hF
      clear hbf hF
      go_wp2_with fail
      refine Hbf.out.mono ?_
      rintro e w7 ⟨rfl, hb7⟩
      unfold fltA
      obtain ⟨W8, hW8⟩ : ∃ W8, w7.alloc (.cells #[.int .i64 (F.1 : Nat), .int .i64 F.2] 36) = W8 := ⟨_, rfl⟩
      obtain ⟨fb, hfb⟩ : ∃ fb, w7.heap.size = fb := ⟨_, rfl⟩
      have hB8 : Below w7.heap.size w7 W8 := by rw [← hW8]; exact (Below.refl _ w7).alloc (Nat.le_refl _) _
      have hgF : W8.heap[fb]? = some (.cells #[.int .i64 (F.1 : Nat), .int .i64 F.2] 36 (0, 0)) := by rw [← hW8, ← hfb]; exact heap_alloc_new _ _
      have p0 : W8.cell? ⟨fb, 0, none⟩ = some (.int .i64 (F.1 : Nat)) := cell_of_heap hgF 0
      have p1 : W8.cell? ⟨fb, 1, none⟩ = some (.int .i64 F.2) := cell_of_heap hgF 1
      have hb68 : Below w6.heap.size w6 W8 := hb7.trans (hB8.mono hb7.size)
      have H8 := Lib.hid (And.intro (H6.out.1.trans (hb68.mono H6.out.1.size)) (And.intro (H6.out.2.1.trans (hb68.mono H6.out.2.1.size)) (And.intro hb68 (And.intro hW8 hfb))))
      clear hb7 hB8 hgF hb68 c0 c1 c2 c3 c4 c5 c6 c7 c8
      rcases hr with ⟨h0, rfl, hv⟩ | ⟨h0, rfl, ab, bm, ma, mc, hX, rfl⟩
      · have hz : (0 : Int) < ((F.1 : Nat) : Int) := by omega
        have hz2 : 0 < F.1 := by omega
        have Hfl := Lib.hid (faulted2_walk E F F ev true W8 (H.out.1.below H8.out.1 (Nat.le_refl _)) (hv.below H8.out.2.2.1 (Nat.le_refl _)) (by simp))
        clear h0 hv
        go_wp2_with fail
        clear hW8 hfb
        refine Hfl.out.mono ?_
        rintro e w9 ⟨rfl, hb9⟩
        have H9 := Lib.hid (H8.out.1.trans (hb9.mono H8.out.1.size))
        clear hb9
        go_wp2
        go_ret
        exact ⟨rfl, H9.out⟩
      · have hF0 : F = (0, -1) := by rw [← HF.out]; exact bidF_zero' (by rw [HF.out]; exact h0)
        subst hF0
        dsimp only at p0 p1 hW8 ⊢
        replace hW8 : w7.alloc (.cells #[.int .i64 0, .int .i64 (-1)] 36) = W8 := hW8
        replace p0 : W8.cell? ⟨fb, 0, none⟩ = some (.int .i64 0) := p0
        have hz := bidF_zero (by rw [HF.out])
        obtain ⟨hcf0, _, hbd⟩ := hz
        obtain ⟨⟨hk1', hkn, hn12⟩, _⟩ := configF_zero hcf0
        obtain ⟨i, rfl⟩ : ∃ i : Nat, who = (i : Int) := ⟨who.toNat, by omega⟩
        have hi8 : i < 8 := by omega
        obtain ⟨c0, c1, c2, c3, c4, c5, c6, c7, c8⟩ := KB.out W8 H8.out.2.1
        have HX := Lib.hid (And.intro hX (And.intro hcf0 (And.intro hk1' (And.intro hkn hbd))))
        have hdg : (digT i).size = 1 := rfl
        have K8 : Hid (∀ W, Below W8.heap.size W8 W → W.cell? ⟨bb, 0, none⟩ = some (.bool false) ∧ W.cell? ⟨bb, 1, none⟩ = some (.int .i64 (i : Nat)) ∧ W.cell? ⟨bb, 2, none⟩ = some (.int .i64 op) ∧ W.cell? ⟨bb, 3, none⟩ = some (.int .i64 cf) ∧ W.cell? ⟨bb, 4, none⟩ = some (.int .i64 n) ∧ W.cell? ⟨bb, 5, none⟩ = some (.int .i64 k) ∧ W.cell? ⟨bb, 6, none⟩ = some (.slice a len cap) ∧ W.cell? ⟨bb, 7, none⟩ = some (.string key)) := Lib.hid fun W hb => by
          obtain ⟨c0, c1, c2, c3, c4, c5, c6, c7, c8⟩ := KB.out W (H8.out.2.1.trans (hb.mono H8.out.2.1.size))
          exact ⟨c0, c1, c2, c3, c4, c5, c6, c7⟩
        clear hX hcf0 hk1' hkn hbd hn12 h0
        go_wp2_with fail
        clear hW8 hfb
        go_region_held3 (fun W => W.cell? ⟨bb, 0, none⟩ = some (.bool false) ∧ W.cell? ⟨bb, 1, none⟩ = some (.int .i64 (i : Nat)) ∧ W.cell? ⟨bb, 2, none⟩ = some (.int .i64 op) ∧ W.cell? ⟨bb, 3, none⟩ = some (.int .i64 cf) ∧ W.cell? ⟨bb, 4, none⟩ = some (.int .i64 n) ∧ W.cell? ⟨bb, 5, none⟩ = some (.int .i64 k) ∧ W.cell? ⟨bb, 6, none⟩ = some (.slice a len cap) ∧ W.cell? ⟨bb, 7, none⟩ = some (.string key))
          (first | exact ⟨c0, c1, c2, c3, c4, c5, c6, c7⟩ | exact q9 | exact K8.out _ (H9.out.alloc H9.out.size _) | (refine K8.out _ ?_; repeat (first | exact Below.refl _ _ | apply Below.drew)))
          (first
            | (go_at_call 27; refine (rdec_walk i hi8 W8.drew).mono ?_; rintro e w9 ⟨rfl, hb9⟩; have q9 := K8.out w9 ((Below.refl _ _).drew.trans hb9); have H9 := Lib.hid (show Below W8.heap.size W8 w9 from (Below.refl _ _).drew.trans hb9); clear hb9)
            | fail)
        rename_i hHeld
        clear hHeld q9 c0 c1 c2 c3 c4 c5 c6 c7 c8
        obtain ⟨mo, hmo⟩ : ∃ mo, w9.heap.size = mo := ⟨_, rfl⟩
        obtain ⟨V, hV⟩ : ∃ V, w9.alloc (.cells #[.string (⟨#[99]⟩ ++ digT i), .string key, .int .i64 (i : Nat), .int .i64 op, .int .i64 cf, .int .i64 n, .int .i64 k, .slice a len cap, .int .i64 0, .int .i64 0, .slice none 0 0, .bool false, .bool false, .string ⟨#[108, 111, 111, 107, 105, 110, 103]⟩, .slice none 0 0, .slice none 0 0, .int .i64 0, .int .i64 0, .string ⟨#[]⟩, .bool false] 46) = V := ⟨_, rfl⟩
        rw [hmo, hV]
        have hbV : Below w9.heap.size w9 V := by rw [← hV]; exact (Below.refl _ _).alloc (Nat.le_refl _) _
        have hcs : CellsAt V mo (rNewV (i : Nat) op n k a len cap cf key ⟨#[]⟩ false) := by rw [← hV, ← hmo]; exact CellsAt.new w9 (rNewV (i : Nat) op n k a len cap cf key ⟨#[]⟩ false) 46
        have hb6v : Below w6.heap.size w6 V := (H8.out.2.2.1.trans (H9.out.mono H8.out.2.2.1.size)).trans (hbV.mono ((H8.out.2.2.1.trans (H9.out.mono H8.out.2.2.1.size)).size))
        have hbw : Below w.heap.size w V := H6.out.1.trans (hb6v.mono H6.out.1.size)
        have hD : DuoAt askV w V ab mo none 0 (newA (i : Nat) op n k L cf key ⟨#[]⟩ false) (newA (i : Nat) op n k L cf key ⟨#[]⟩ false) _ (fun b => b = mo) := DuoAt.fresh (a := a) (len := len) (cap := cap) HX.out.1 (fun b hb => Nat.le_trans H5.out.1.size hb.1) H6.out.1.size hbw hb6v (by rw [← hmo]; exact (H8.out.2.2.1.trans (H9.out.mono H8.out.2.2.1.size)).size) hcs (by have := HX.out.2.2.1; have := HX.out.2.2.2.1; omega) (by have := HX.out.2.2.1; omega) H.out.2.2.2.1.len_ ⟨H.out.2.2.2.1.cap_, H.out.2.2.2.1.max_, H.out.2.2.2.1.nil_⟩ H.out.2.2.2.1.txs
        have hOk : AskOk (newA (i : Nat) op n k L cf key ⟨#[]⟩ false) := newA_sound HX.out.2.1 (by exact Nat.zero_le _)
        obtain ⟨A, hA⟩ : ∃ A, newA (i : Nat) op n k L cf key ⟨#[]⟩ false = A := ⟨_, rfl⟩
        have htt0 : totV (A.t.got.map (·.2)) ≤ totL l 0 := by rw [← hA]; exact Nat.zero_le _
        rw [hA] at hD hOk
        obtain ⟨F0, hF0⟩ : ∃ F0 : Nat → Prop, (fun b => w5.heap.size ≤ b ∧ b < w6.heap.size) = F0 := ⟨_, rfl⟩
        rw [hF0] at hD
        obtain ⟨bm1, ma1, mc1, hX1⟩ := hD.1
        have Hb1 := Lib.hid (abegin_walk _ V ab bm1 ma1 mc1 _ _ hX1 hOk.ok)
        have HD := Lib.hid (And.intro hD (And.intro hOk htt0))
        obtain ⟨c0, c1, c2, c3, c4, c5, c6, c7, c8⟩ := KB.out V ((H8.out.2.1.trans (H9.out.mono H8.out.2.1.size)).trans (hbV.mono (H8.out.2.1.trans (H9.out.mono H8.out.2.1.size)).size))
        clear hX1 hD hOk hb6v hbw hcs hbV  htt0 hA hF0 c1 c2 c3 c4 c5 c6 c7
        go_wp2_with fail
        clear hV hmo c0 c8 
        refine Hb1.out.mono ?_
        rintro e w11 ⟨hb11, a11, c11, rfl, _, _, _, g11⟩
        obtain ⟨l1, hl1⟩ : ∃ l1, sendT A.t kLook (fun _ => []) = l1 := ⟨_, rfl⟩
        obtain ⟨n1, hn1⟩ : ∃ n1, l1.length = n1 := ⟨_, rfl⟩
        have hn12 : n1 ≤ 12 := by rw [← hn1, ← hl1]; exact send12 HD.out.2.1.ok _ _
        rw [hl1] at g11 ⊢
        rw [hn1]
        have hD11 := HD.out.1.below hb11
        have Hbw := Lib.hid (bwires_walk w11 _ a11 n1 c11 l1 hn1 (by omega) g11)
        have H11 := Lib.hid (And.intro hD11 (And.intro hl1 hn1))
        clear hb11 g11 hD11 hl1 hn1
        go_wp2_with fail
        refine Hbw.out.mono ?_
        rintro e w12 ⟨v12, rfl, hb12, hv12⟩
        obtain ⟨a12, c12, rfl, _, _, _, g12⟩ := hv12.read
        rw [H11.out.2.2]
        have hD12 := H11.out.1.below hb12
        obtain ⟨ma2, mc2, fv, lv, us, hR⟩ := hD12.2.1
        have Hb2 := Lib.hid (rbegin_ask _ _ w12 mo ma2 mc2 none 0 fv lv us A hR HD.out.2.1.ok HD.out.2.1.mv)
        have H12 := Lib.hid (And.intro hD12 g12)
        clear hb12 hv12 g12 hD12 hR
        go_wp2_with fail
        refine Hb2.out.mono ?_
        rintro e w13 ⟨hb13, a13, c13, rfl, _, _, _, g13⟩
        rw [H11.out.2.1] at g13 ⊢
        rw [H11.out.2.2]
        have Hsm := Lib.hid (samems_same w13 w13.heap.size a12 a13 n1 c12 c13 l1 H11.out.2.2 (by unfold maxLen; omega) (H12.out.2.below hb13).read g13.read (Nat.le_refl _))
        have H13 := Lib.hid (H12.out.1.below hb13)
        clear hb13 g13
        go_wp2_with fail
        refine Hsm.out.mono ?_
        rintro e w14 ⟨rfl, hb14⟩
        have HD14 : Hid (DuoI w w14 ab mo l 0) := Lib.hid ⟨_, _, A, H13.out.below hb14, HD.out.2.1, HD.out.2.2⟩
        clear hb14
        go_wp2_with fail
        go_loopw [10] (fun vi wr => ∃ j : Nat, j ≤ ll ∧ vi = .int .i64 j ∧ Hid (DuoI w wr ab mo l j)) (fun vi _ => ll - (intOf vi).toNat)
        case atStart => exact ⟨0, by omega, rfl, HD14⟩
        case round =>
          obtain ⟨j, hj, rfl, Hr⟩ := hrel
          have hj2 : j < ll ∨ ll = j := by omega
          rcases hj2 with hjlt | rfl
          · have hjlt2 : (j : Int) < ll := by omega
            obtain ⟨F1, G1, A1, hd, hok, htt⟩ := Hr.out
            obtain ⟨hl1, _, _, _, hl5, hl6⟩ := H.out.2.1
            rcases hl5 with he | ⟨b, off, rfl, hbl, hcx⟩
            · exfalso
              rw [he] at hl1; simp at hl1; omega
            have hom := hl6 j hjlt
            have hcx := hcx j (by rw [hl1]; exact hjlt)
            have htl := totL_succ (l := l) (i := j) (by rw [hl1]; exact hjlt)
            have htb := totL_bulk l (j + 1) H.out.2.2.1
            obtain ⟨⟨fr, dst, kind, mkey, mop, mcf, sl, L2⟩, hx⟩ : ∃ x, l[j]?.getD msg0 = x := ⟨_, rfl⟩
            rw [hx] at hcx hom htl
            dsimp only at htl
            obtain ⟨k0, k1, k2, k3, k4, k5, k6, ad, cp, k7, q1, q2, q3, q4⟩ := hcx
            dsimp only at k0 k1 k2 k3 k4 k5 k6 k7 q1 q4
            have htot : totV (A1.t.got.map (·.2)) + L2.length ≤ 1000000 := by omega
            have KS : Hid (∀ W, Below w.heap.size w W → W.cell? ⟨b, off + j * 8, none⟩ = some (.string fr) ∧ W.cell? ⟨b, off + j * 8 + 1, none⟩ = some (.string dst) ∧ W.cell? ⟨b, off + j * 8 + 2, none⟩ = some (.string kind) ∧ W.cell? ⟨b, off + j * 8 + 3, none⟩ = some (.string mkey) ∧ W.cell? ⟨b, off + j * 8 + 4, none⟩ = some (.int .i64 mop) ∧ W.cell? ⟨b, off + j * 8 + 5, none⟩ = some (.int .i64 mcf) ∧ W.cell? ⟨b, off + j * 8 + 6, none⟩ = some (.bool sl) ∧ W.cell? ⟨b, off + j * 8 + 7, none⟩ = some (.slice ad L2.length cp)) := Lib.hid fun W hb =>
              ⟨(hb.cell (p := ⟨b, off + j * 8, none⟩) hbl).trans k0, (hb.cell (p := ⟨b, off + j * 8 + 1, none⟩) hbl).trans k1, (hb.cell (p := ⟨b, off + j * 8 + 2, none⟩) hbl).trans k2, (hb.cell (p := ⟨b, off + j * 8 + 3, none⟩) hbl).trans k3, (hb.cell (p := ⟨b, off + j * 8 + 4, none⟩) hbl).trans k4, (hb.cell (p := ⟨b, off + j * 8 + 5, none⟩) hbl).trans k5, (hb.cell (p := ⟨b, off + j * 8 + 6, none⟩) hbl).trans k6, (hb.cell (p := ⟨b, off + j * 8 + 7, none⟩) hbl).trans k7⟩
            have hh := hok.hear ⟨fr, dst, kind, mkey, mop, mcf, sl, L2⟩
            obtain ⟨A2, hA2⟩ : ∃ A2, (askHear A1 ⟨fr, dst, kind, mkey, mop, mcf, sl, L2⟩).1 = A2 := ⟨_, rfl⟩
            obtain ⟨l2, hl2⟩ : ∃ l2, (askHear A1 ⟨fr, dst, kind, mkey, mop, mcf, sl, L2⟩).2 = l2 := ⟨_, rfl⟩
            rw [hA2, hl2] at hh
            obtain ⟨n2, hn2⟩ : ∃ n2, l2.length = n2 := ⟨_, rfl⟩
            rw [hn2] at hh
            obtain ⟨hok2, hn22, htt2⟩ := hh
            dsimp only at htt2
            obtain ⟨s2, hs2⟩ : ∃ s2, stT A2 = s2 := ⟨_, rfl⟩
            have hwd : Below wr.heap.size wr wr.drew := (Below.refl _ _).drew
            have hdd := hd.below hwd
            have Hx := Lib.hid (And.intro hdd (And.intro hok (And.intro htot (And.intro hom (And.intro q1 (And.intro q2 (And.intro q3 (And.intro q4 (And.intro hA2 (And.intro hl2 (And.intro hn2 (And.intro hok2 (And.intro hn22 (And.intro hs2 (show totV (A2.t.got.map (·.2)) ≤ totL l (j + 1) by omega)))))))))))))))
            have q0 := KS.out wr.drew hdd.2.2.2.2
            have hrd := KS.out wr hd.2.2.2.2
            clear hl6 hom hx k0 k1 k2 k3 k4 k5 k6 k7 q1 q2 q3 q4 hd hok htt hA2 hl2 hn2 hok2 htt2 hs2 hwd hdd hl1 hbl Hr htl htb htot
            go_wp2_with fail
            clear hrd
            refine wp_region_held_drew (S := fun W => W.cell? ⟨b, off + j * 8, none⟩ = some (.string fr) ∧ W.cell? ⟨b, off + j * 8 + 1, none⟩ = some (.string dst) ∧ W.cell? ⟨b, off + j * 8 + 2, none⟩ = some (.string kind) ∧ W.cell? ⟨b, off + j * 8 + 3, none⟩ = some (.string mkey) ∧ W.cell? ⟨b, off + j * 8 + 4, none⟩ = some (.int .i64 mop) ∧ W.cell? ⟨b, off + j * 8 + 5, none⟩ = some (.int .i64 mcf) ∧ W.cell? ⟨b, off + j * 8 + 6, none⟩ = some (.bool sl) ∧ W.cell? ⟨b, off + j * 8 + 7, none⟩ = some (.slice ad L2.length cp)) (by kernel_rfl) q0 (fun hHeld => ?_)
            refine wpAnyH_take (i := 0) (oi := { dst := some 142, op := Op.move (Operand.tmp 6), type := 65, pos := "parts.go:490", after := #[], guard := none }) (v := ?_) rfl (by kernel_rfl) (by kernel_rfl) (by kernel_rfl) (fun _ _ _ h => h) (Or.inl ⟨by rfl, ?_⟩) (by assumption) ?_
            rotate_left
            · intro w' hSw
              (try dsimp only at hSw)
              first | (go_simp; done) | (go_simp; with_reducible rfl)
            (try simp only [Act.put, List.setIfInBounds_toArray, List.set_cons_zero, List.set_cons_succ])
            refine wpAnyH_take (i := 1) (oi := { dst := some 143, op := Op.move (Operand.tmp 1), type := 25, pos := "parts.go:490", after := #[], guard := none }) (v := ?_) rfl (by kernel_rfl) (by kernel_rfl) (by kernel_rfl) (fun _ _ _ h => h) (Or.inl ⟨by rfl, ?_⟩) (by assumption) ?_
            rotate_left
            · intro w' hSw
              (try dsimp only at hSw)
              first | (go_simp; done) | (go_simp; with_reducible rfl)
            (try simp only [Act.put, List.setIfInBounds_toArray, List.set_cons_zero, List.set_cons_succ])
            refine wpAnyH_take (i := 2) (oi := { dst := some 144, op := Op.move (Operand.tmp 10), type := 3, pos := "parts.go:490", after := #[], guard := none }) (v := ?_) rfl (by kernel_rfl) (by kernel_rfl) (by kernel_rfl) (fun _ _ _ h => h) (Or.inl ⟨by rfl, ?_⟩) (by assumption) ?_
            rotate_left
            · intro w' hSw
              (try dsimp only at hSw)
              first | (go_simp; done) | (go_simp; with_reducible rfl)
            (try simp only [Act.put, List.setIfInBounds_toArray, List.set_cons_zero, List.set_cons_succ])
            refine wpAnyH_take (i := 3) (oi := { dst := some 145, op := Op.indexAddr 25 (Operand.tmp 143) (Operand.tmp 144), type := 0, pos := "parts.go:490", after := #[{ on := 1, ground := Ground.data }, { on := 2, ground := Ground.data }], guard := none }) (v := ?_) rfl (by kernel_rfl) (by kernel_rfl) (by kernel_rfl) (fun _ _ _ h => h) (Or.inl ⟨by rfl, ?_⟩) (by assumption) ?_
            rotate_left
            · intro w' hSw
              (try dsimp only at hSw)
              first | (go_simp; done) | (go_simp; with_reducible rfl)
            (try simp only [Act.put, List.setIfInBounds_toArray, List.set_cons_zero, List.set_cons_succ])
            refine wpAnyH_take (i := 4) (oi := { dst := some 146, op := Op.load 57 (Operand.tmp 145), type := 57, pos := "parts.go:490", after := #[{ on := 3, ground := Ground.data }], guard := none }) (v := ?_) rfl (by kernel_rfl) (by kernel_rfl) (by kernel_rfl) (fun _ _ _ h => h) (Or.inl ⟨by rfl, ?_⟩) (by assumption) ?_
            rotate_left
            · intro w' hSw
              (try dsimp only at hSw)
              first | (go_simp; done) | (go_simp; with_reducible rfl)
            (try simp only [Act.put, List.setIfInBounds_toArray, List.set_cons_zero, List.set_cons_succ])
            refine wpAnyH_take (i := 8) (oi := { dst := some 150, op := Op.move (Operand.tmp 9), type := 41, pos := "parts.go:490", after := #[], guard := none }) (v := ?_) rfl (by kernel_rfl) (by kernel_rfl) (by kernel_rfl) (fun _ _ _ h => h) (Or.inl ⟨by rfl, ?_⟩) (by assumption) ?_
            rotate_left
            · intro w' hSw
              (try dsimp only at hSw)
              first | (go_simp; done) | (go_simp; with_reducible rfl)
            (try simp only [Act.put, List.setIfInBounds_toArray, List.set_cons_zero, List.set_cons_succ])
            refine wpAnyH_take (i := 9) (oi := { dst := some 151, op := Op.move (Operand.tmp 1), type := 25, pos := "parts.go:490", after := #[], guard := none }) (v := ?_) rfl (by kernel_rfl) (by kernel_rfl) (by kernel_rfl) (fun _ _ _ h => h) (Or.inl ⟨by rfl, ?_⟩) (by assumption) ?_
            rotate_left
            · intro w' hSw
              (try dsimp only at hSw)
              first | (go_simp; done) | (go_simp; with_reducible rfl)
            (try simp only [Act.put, List.setIfInBounds_toArray, List.set_cons_zero, List.set_cons_succ])
            refine wpAnyH_take (i := 10) (oi := { dst := some 152, op := Op.move (Operand.tmp 10), type := 3, pos := "parts.go:490", after := #[], guard := none }) (v := ?_) rfl (by kernel_rfl) (by kernel_rfl) (by kernel_rfl) (fun _ _ _ h => h) (Or.inl ⟨by rfl, ?_⟩) (by assumption) ?_
            rotate_left
            · intro w' hSw
              (try dsimp only at hSw)
              first | (go_simp; done) | (go_simp; with_reducible rfl)
            (try simp only [Act.put, List.setIfInBounds_toArray, List.set_cons_zero, List.set_cons_succ])
            refine wpAnyH_take (i := 11) (oi := { dst := some 153, op := Op.indexAddr 25 (Operand.tmp 151) (Operand.tmp 152), type := 0, pos := "parts.go:490", after := #[{ on := 9, ground := Ground.data }, { on := 10, ground := Ground.data }], guard := none }) (v := ?_) rfl (by kernel_rfl) (by kernel_rfl) (by kernel_rfl) (fun _ _ _ h => h) (Or.inl ⟨by rfl, ?_⟩) (by assumption) ?_
            rotate_left
            · intro w' hSw
              (try dsimp only at hSw)
              first | (go_simp; done) | (go_simp; with_reducible rfl)
            (try simp only [Act.put, List.setIfInBounds_toArray, List.set_cons_zero, List.set_cons_succ])
            refine wpAnyH_take (i := 12) (oi := { dst := some 154, op := Op.load 57 (Operand.tmp 153), type := 57, pos := "parts.go:490", after := #[{ on := 11, ground := Ground.data }], guard := none }) (v := ?_) rfl (by kernel_rfl) (by kernel_rfl) (by kernel_rfl) (fun _ _ _ h => h) (Or.inl ⟨by rfl, ?_⟩) (by assumption) ?_
            rotate_left
            · intro w' hSw
              (try dsimp only at hSw)
              first | (go_simp; done) | (go_simp; with_reducible rfl)
            (try simp only [Act.put, List.setIfInBounds_toArray, List.set_cons_zero, List.set_cons_succ])
            refine wpAnyH_ready (rs := [5]) (by kernel_rfl) (by simp) ?_
            refine AllReadyH.cons (o := { dst := some 147, op := Op.call { callee := Callee.value (Operand.func 19), args := #[Operand.tmp 146], argTypes := #[57] }, type := 55, pos := "parts.go:490", after := #[{ on := 4, ground := Ground.data }], guard := none }) rfl (fun K hK => ?_) AllReadyH.nil
            go_simp
            (refine (wireof_walk wr.drew fr dst kind mkey mop mcf sl ad L2.length cp L2 rfl (by have := Hx.out.2.2.1; omega) Hx.out.2.2.2.2.2.2.1 ((Hx.out.2.2.2.2.2.2.2.1.below Hx.out.1.2.2.2.2).mono Hx.out.1.2.2.2.2.size)).mono ?_; rintro e w5 ⟨hb5, v5, rfl, ho5⟩; obtain ⟨a5, c5, rfl, g1, g2, g3, g4⟩ := ho5.readS; have hD5 := Hx.out.1.below hb5; have q5 := KS.out w5 hD5.2.2.2.2; have J5 := Lib.hid (And.intro hD5 (And.intro g1 (And.intro g3 (show VrS (fun b => ¬ F1 b) w5 a5 L2 from g4.mono (fun b hb hf => by obtain ⟨⟨_, _, _, hX⟩, _⟩ := Hx.out.1; have := hX.talk.lt b hf; omega))))); clear hb5 ho5 g1 g2 g3 g4 hD5)
            go_wp2_with fail
            refine hK.out _ _ (q5) (fun hHeld => ?_)
            clear hK K q0
            (try simp only [Act.put, List.setIfInBounds_toArray, List.set_cons_zero, List.set_cons_succ])
            refine wpAnyH_ready (rs := [6]) (by kernel_rfl) (by simp) ?_
            refine AllReadyH.cons (o := { dst := some 148, op := Op.call { callee := Callee.value (Operand.func 29), args := #[Operand.tmp 142, Operand.tmp 147], argTypes := #[65, 55] }, type := 49, pos := "parts.go:490", after := #[{ on := 0, ground := Ground.data }, { on := 5, ground := Ground.data }, { on := 5, ground := Ground.chain }], guard := none }) rfl (fun K hK => ?_) AllReadyH.nil
            go_simp
            (obtain ⟨⟨bm5, ma5, mc5, hX5⟩, _, hF5, _, hB5⟩ := J5.out.1; refine (ahear_walk F1 w5 ab bm5 ma5 mc5 A1 fr dst kind mkey mop mcf sl a5 L2.length c5 L2 hX5 Hx.out.2.1.ok Hx.out.2.1.mv Hx.out.2.1.st Hx.out.2.1.tx Hx.out.2.2.1 Hx.out.2.2.2.1.fr rfl J5.out.2.1 J5.out.2.2.1 J5.out.2.2.2 E w H.out.1 hB5 hF5).mono ?_; intro e w6 hp6; obtain ⟨F6, a6, c6, rfl, hD6, g6⟩ := J5.out.1.hear1' hp6 Hx.out.2.2.2.2.2.2.2.2.1 Hx.out.2.2.2.2.2.2.2.2.2.1 Hx.out.2.2.2.2.2.2.2.2.2.2.1; have q6 := KS.out w6 hD6.2.2.2.2; have J6 := Lib.hid (And.intro hD6 g6); clear hp6 hD6 g6 hX5 hF5 hB5)
            go_wp2_with fail
            refine hK.out _ _ (q6) (fun hHeld => ?_)
            clear hK K q5
            (try simp only [Act.put, List.setIfInBounds_toArray, List.set_cons_zero, List.set_cons_succ])
            refine wpAnyH_ready (rs := [7]) (by kernel_rfl) (by simp) ?_
            refine AllReadyH.cons (o := { dst := some 149, op := Op.call { callee := Callee.value (Operand.func 15), args := #[Operand.tmp 148], argTypes := #[49] }, type := 25, pos := "parts.go:490", after := #[{ on := 6, ground := Ground.data }, { on := 6, ground := Ground.chain }], guard := none }) rfl (fun K hK => ?_) AllReadyH.nil
            go_simp
            (refine (bwires_walk w6 _ a6 n2 c6 l2 Hx.out.2.2.2.2.2.2.2.2.2.2.1 (by have h9 := Hx.out.2.2.2.2.2.2.2.2.2.2.2.2.1; omega) J6.out.2).mono ?_; rintro e w7 ⟨v7, rfl, hb7, hv7⟩; obtain ⟨a7, c7, rfl, hD7, g7⟩ := J6.out.1.back' hb7 hv7 Hx.out.2.2.2.2.2.2.2.2.2.2.1; have q7 := KS.out w7 hD7.2.2.2.2; have J7 := Lib.hid (And.intro hD7 g7); clear hb7 hv7 hD7 g7)
            go_wp2_with fail
            refine hK.out _ _ (q7) (fun hHeld => ?_)
            clear hK K q6
            (try simp only [Act.put, List.setIfInBounds_toArray, List.set_cons_zero, List.set_cons_succ])
            refine wpAnyH_ready (rs := [13]) (by kernel_rfl) (by simp) ?_
            refine AllReadyH.cons (o := { dst := some 155, op := Op.call { callee := Callee.value (Operand.func 20), args := #[Operand.tmp 150, Operand.tmp 154], argTypes := #[41, 57] }, type := 25, pos := "parts.go:490", after := #[{ on := 8, ground := Ground.data }, { on := 12, ground := Ground.data }, { on := 7, ground := Ground.chain }], guard := none }) rfl (fun K hK => ?_) AllReadyH.nil
            go_simp
            (obtain ⟨_, ⟨ma7, mc7, fv7, lv7, us7, hR7⟩, _, _, hB7⟩ := J7.out.1; refine (mhear1_walk (fun b => b < w.heap.size) G1 w7 mo ma7 mc7 none 0 fv7 lv7 us7 A1 fr dst kind mkey mop mcf sl ad L2.length cp L2 hR7 Hx.out.2.1.ok Hx.out.2.1.mv Hx.out.2.1.st Hx.out.2.1.wt Hx.out.2.1.tx Hx.out.2.2.1 rfl Hx.out.2.2.2.2.2.2.1 ((Hx.out.2.2.2.2.2.2.2.1.below hB7).toS hB7.size (fun b hb hg => hR7.dis b hb hg)) (fun b hb => Nat.lt_of_lt_of_le hb hB7.size)).mono ?_; intro e w8 hp8; obtain ⟨G8, a8, c8, rfl, hD8, g8, u8⟩ := J7.out.1.hear2' hp8 J7.out.2 Hx.out.2.2.2.2.2.2.2.2.1 Hx.out.2.2.2.2.2.2.2.2.2.1 Hx.out.2.2.2.2.2.2.2.2.2.2.1; have q8 := KS.out w8 hD8.2.2.2.2; have J8 := Lib.hid (And.intro hD8 (And.intro g8 u8)); clear hp8 hD8 g8 u8 hR7 hB7)
            go_wp2_with fail
            refine hK.out _ _ (q8) (fun hHeld => ?_)
            clear hK K q7
            (try simp only [Act.put, List.setIfInBounds_toArray, List.set_cons_zero, List.set_cons_succ])
            refine wpAnyH_ready (rs := [14]) (by kernel_rfl) (by simp) ?_
            refine AllReadyH.cons (o := { dst := some 156, op := Op.call { callee := Callee.value (Operand.func 14), args := #[Operand.tmp 149, Operand.tmp 155], argTypes := #[25, 25] }, type := 4, pos := "parts.go:490", after := #[{ on := 7, ground := Ground.data }, { on := 13, ground := Ground.data }, { on := 13, ground := Ground.chain }], guard := none }) rfl (fun K hK => ?_) AllReadyH.nil
            go_simp
            (refine (samems_same w8 w8.heap.size a7 a8 n2 c7 c8 l2 Hx.out.2.2.2.2.2.2.2.2.2.2.1 (by have h9 := Hx.out.2.2.2.2.2.2.2.2.2.2.2.2.1; unfold maxLen; omega) J8.out.2.1 J8.out.2.2 (Nat.le_refl _)).mono ?_; rintro e w9 ⟨rfl, hb9⟩; have hD9 := J8.out.1.below hb9; have q9 := KS.out w9 hD9.2.2.2.2; have z15 := hD9.state; have z13 := hD9.state2.1; rw [Hx.out.2.2.2.2.2.2.2.2.2.2.2.2.2.1] at z15 z13; have J9 := Lib.hid hD9; clear hb9 hD9)
            go_wp2_with fail
            refine hK.out _ _ (q9) (fun hHeld => ?_)
            clear hK K q8
            (try simp only [Act.put, List.setIfInBounds_toArray, List.set_cons_zero, List.set_cons_succ])
            refine wpAnyH_weaken (S2 := fun W => (W.cell? ⟨b, off + j * 8, none⟩ = some (.string fr) ∧ W.cell? ⟨b, off + j * 8 + 1, none⟩ = some (.string dst) ∧ W.cell? ⟨b, off + j * 8 + 2, none⟩ = some (.string kind) ∧ W.cell? ⟨b, off + j * 8 + 3, none⟩ = some (.string mkey) ∧ W.cell? ⟨b, off + j * 8 + 4, none⟩ = some (.int .i64 mop) ∧ W.cell? ⟨b, off + j * 8 + 5, none⟩ = some (.int .i64 mcf) ∧ W.cell? ⟨b, off + j * 8 + 6, none⟩ = some (.bool sl) ∧ W.cell? ⟨b, off + j * 8 + 7, none⟩ = some (.slice ad L2.length cp)) ∧ W.cell? ⟨mo, 13, none⟩ = some (.string s2)) (fun W h => h.1) _ _ _ _ ?_
            have hHeld2 : (fun W : World => (W.cell? ⟨b, off + j * 8, none⟩ = some (.string fr) ∧ W.cell? ⟨b, off + j * 8 + 1, none⟩ = some (.string dst) ∧ W.cell? ⟨b, off + j * 8 + 2, none⟩ = some (.string kind) ∧ W.cell? ⟨b, off + j * 8 + 3, none⟩ = some (.string mkey) ∧ W.cell? ⟨b, off + j * 8 + 4, none⟩ = some (.int .i64 mop) ∧ W.cell? ⟨b, off + j * 8 + 5, none⟩ = some (.int .i64 mcf) ∧ W.cell? ⟨b, off + j * 8 + 6, none⟩ = some (.bool sl) ∧ W.cell? ⟨b, off + j * 8 + 7, none⟩ = some (.slice ad L2.length cp)) ∧ W.cell? ⟨mo, 13, none⟩ = some (.string s2)) w9 := ⟨q9, z13⟩
            clear hHeld
            refine wpAnyH_take (i := 15) (oi := { dst := some 157, op := Op.unOp UnOp.not 4 (Operand.tmp 156), type := 4, pos := "parts.go:490", after := #[{ on := 14, ground := Ground.data }], guard := none }) (v := ?_) rfl (by kernel_rfl) (by kernel_rfl) (by kernel_rfl) (fun _ _ _ h => h) (Or.inl ⟨by rfl, ?_⟩) (by assumption) ?_
            rotate_left
            · intro w' hSw
              (try dsimp only at hSw)
              first | (go_simp; done) | (go_simp; with_reducible rfl)
            (try simp only [Act.put, List.setIfInBounds_toArray, List.set_cons_zero, List.set_cons_succ])
            refine wpAnyH_take (i := 16) (oi := { dst := some 158, op := Op.move (Operand.tmp 157), type := 4, pos := "parts.go:490", after := #[{ on := 15, ground := Ground.data }, { on := 14, ground := Ground.chain }], guard := none }) (v := ?_) rfl (by kernel_rfl) (by kernel_rfl) (by kernel_rfl) (fun _ _ _ h => h) (Or.inl ⟨by rfl, ?_⟩) (by assumption) ?_
            rotate_left
            · intro w' hSw
              (try dsimp only at hSw)
              first | (go_simp; done) | (go_simp; with_reducible rfl)
            (try simp only [Act.put, List.setIfInBounds_toArray, List.set_cons_zero, List.set_cons_succ])
            refine wpAnyH_take (i := 17) (oi := { dst := some 159, op := Op.move (Operand.tmp 6), type := 65, pos := "parts.go:490", after := #[{ on := 16, ground := Ground.guard }], guard := some (16, false) }) (v := ?_) rfl (by kernel_rfl) (by kernel_rfl) (by kernel_rfl) (fun _ _ _ h => h) (Or.inl ⟨by rfl, ?_⟩) (by assumption) ?_
            rotate_left
            · intro w' hSw
              (try dsimp only at hSw)
              first | (go_simp; done) | (go_simp; with_reducible rfl)
            (try simp only [Act.put, List.setIfInBounds_toArray, List.set_cons_zero, List.set_cons_succ])
            refine wpAnyH_take (i := 19) (oi := { dst := some 161, op := Op.move (Operand.tmp 9), type := 41, pos := "parts.go:490", after := #[{ on := 16, ground := Ground.guard }], guard := some (16, false) }) (v := ?_) rfl (by kernel_rfl) (by kernel_rfl) (by kernel_rfl) (fun _ _ _ h => h) (Or.inl ⟨by rfl, ?_⟩) (by assumption) ?_
            rotate_left
            · intro w' hSw
              (try dsimp only at hSw)
              first | (go_simp; done) | (go_simp; with_reducible rfl)
            (try simp only [Act.put, List.setIfInBounds_toArray, List.set_cons_zero, List.set_cons_succ])
            refine wpAnyH_take (i := 20) (oi := { dst := some 162, op := Op.nilCheck (Operand.tmp 161), type := 0, pos := "parts.go:490", after := #[{ on := 19, ground := Ground.data }, { on := 16, ground := Ground.guard }], guard := some (16, false) }) (v := ?_) rfl (by kernel_rfl) (by kernel_rfl) (by kernel_rfl) (fun _ _ _ h => h) (Or.inl ⟨by rfl, ?_⟩) (by assumption) ?_
            rotate_left
            · intro w' hSw
              (try dsimp only at hSw)
              first | (go_simp; done) | (go_simp; with_reducible rfl)
            (try simp only [Act.put, List.setIfInBounds_toArray, List.set_cons_zero, List.set_cons_succ])
            refine wpAnyH_take (i := 21) (oi := { dst := some 163, op := Op.fieldAddr 46 (Operand.tmp 162) 9, type := 0, pos := "parts.go:490", after := #[{ on := 20, ground := Ground.data }, { on := 16, ground := Ground.guard }], guard := some (16, false) }) (v := ?_) rfl (by kernel_rfl) (by kernel_rfl) (by kernel_rfl) (fun _ _ _ h => h) (Or.inl ⟨by rfl, ?_⟩) (by assumption) ?_
            rotate_left
            · intro w' hSw
              (try dsimp only at hSw)
              first | (go_simp; done) | (go_simp; with_reducible rfl)
            (try simp only [Act.put, List.setIfInBounds_toArray, List.set_cons_zero, List.set_cons_succ])
            refine wpAnyH_take (i := 22) (oi := { dst := some 164, op := Op.load 9 (Operand.tmp 163), type := 9, pos := "parts.go:490", after := #[{ on := 21, ground := Ground.data }, { on := 16, ground := Ground.guard }], guard := some (16, false) }) (v := ?_) rfl (by kernel_rfl) (by kernel_rfl) (by kernel_rfl) (fun _ _ _ h => h) (Or.inl ⟨by rfl, ?_⟩) (by assumption) ?_
            rotate_left
            · intro w' hSw
              (try dsimp only at hSw)
              first | (go_simp; done) | (go_simp; with_reducible rfl)
            (try simp only [Act.put, List.setIfInBounds_toArray, List.set_cons_zero, List.set_cons_succ])
            refine wpAnyH_ready (rs := [18]) (by kernel_rfl) (by simp) ?_
            refine AllReadyH.cons (o := { dst := some 160, op := Op.call { callee := Callee.value (Operand.func 30), args := #[Operand.tmp 159], argTypes := #[65] }, type := 9, pos := "parts.go:490", after := #[{ on := 17, ground := Ground.data }, { on := 16, ground := Ground.chain }, { on := 16, ground := Ground.guard }], guard := some (16, false) }) rfl (fun K hK => ?_) AllReadyH.nil
            go_simp
            (refine (astate_walk w9 ab s2 z15).mono ?_; rintro e w10 ⟨rfl, rfl⟩)
            go_wp2_with fail
            refine hK.out _ _ (hHeld2) (fun hHeld => ?_)
            clear hK K 
            (try simp only [Act.put, List.setIfInBounds_toArray, List.set_cons_zero, List.set_cons_succ])
            refine wpAnyH_take (i := 23) (oi := { dst := some 165, op := Op.binOp BinOp.neq 9 (Operand.tmp 160) (Operand.tmp 164) 9, type := 4, pos := "parts.go:490", after := #[{ on := 18, ground := Ground.data }, { on := 22, ground := Ground.data }, { on := 16, ground := Ground.guard }], guard := some (16, false) }) (v := ?_) rfl (by kernel_rfl) (by kernel_rfl) (by kernel_rfl) (fun _ _ _ h => h) (Or.inl ⟨by rfl, ?_⟩) (by assumption) ?_
            rotate_left
            · intro w' hSw
              (try dsimp only at hSw)
              first | (go_simp; done) | (go_simp; with_reducible rfl)
            (try simp only [Act.put, List.setIfInBounds_toArray, List.set_cons_zero, List.set_cons_succ])
            refine wpAnyH_take (i := 24) (oi := { dst := some 166, op := Op.pick (Operand.tmp 158) (Operand.const (Value.bool true)) (Operand.tmp 165), type := 4, pos := "parts.go:490", after := #[{ on := 16, ground := Ground.data }, { on := 23, ground := Ground.data }], guard := none }) (v := ?_) rfl (by kernel_rfl) (by kernel_rfl) (by kernel_rfl) (fun _ _ _ h => h) (Or.inl ⟨by rfl, ?_⟩) (by assumption) ?_
            rotate_left
            · intro w' hSw
              (try dsimp only at hSw)
              first | (go_simp; done) | (go_simp; with_reducible rfl)
            (try simp only [Act.put, List.setIfInBounds_toArray, List.set_cons_zero, List.set_cons_succ])
            refine wpAnyH_done (by kernel_rfl) ?_ _
            clear hHeld hHeld2 q9
            obtain ⟨⟨bm9, ma9, mc9, hX9⟩, _⟩ := J9.out
            have Han := Lib.hid (aanswer_walk _ w9 ab bm9 ma9 mc9 A2 hX9 Hx.out.2.2.2.2.2.2.2.2.2.2.2.1.mv Hx.out.2.2.2.2.2.2.2.2.2.2.2.1.st)
            have hstx := st_text Hx.out.2.2.2.2.2.2.2.2.2.2.2.1
            rw [Hx.out.2.2.2.2.2.2.2.2.2.2.2.2.2.1] at hstx
            clear hX9
            go_wp2_with fail
            refine Han.out.mono ?_
            rintro e w11 ⟨rfl, hb11⟩
            have hD11 := J9.out.below hb11
            have HD11 := Lib.hid hD11
            clear hb11 hD11 z15 z13
            obtain ⟨tb, htb⟩ : ∃ tb, w11.heap.size = tb := ⟨_, rfl⟩
            rcases hstx with ⟨y1, y2, y3⟩ | ⟨y1, y2, y3⟩ | ⟨y1, y3 | y3 | y3⟩
            · rw [ans_yes y1 y2]
              obtain ⟨u1, hu1⟩ : ∃ u1, A2.tag.1 = u1 := ⟨_, rfl⟩
              obtain ⟨u2, hu2⟩ : ∃ u2, A2.tag.2 = u2 := ⟨_, rfl⟩
              obtain ⟨ux, hux⟩ : ∃ ux, A2.text = ux := ⟨_, rfl⟩
              obtain ⟨W12, hW12⟩ : ∃ W12, w11.alloc (.cells #[.int .i64 u1, .int .i64 u2] 44) = W12 := ⟨_, rfl⟩
              have hD12 : DuoAt askV w W12 ab mo none 0 A2 A2 _ _ := HD11.out.below (by rw [← hW12]; exact (Below.refl _ _).alloc (Nat.le_refl _) _)
              obtain ⟨z13, z16, z17, z18, z19⟩ := hD12.state2
              rw [Hx.out.2.2.2.2.2.2.2.2.2.2.2.2.2.1, y3] at z13
              rw [hu1] at z16 ⊢
              rw [hu2] at z17 ⊢
              rw [hux] at z18 ⊢
              rw [y2] at z19
              obtain ⟨x0, x1, _, _⟩ : W12.cell? ⟨tb, 0, none⟩ = some (.int .i64 u1) ∧ W12.cell? ⟨tb, 1, none⟩ = some (.int .i64 u2) ∧ W12.frozen? ⟨tb, 0, none⟩ = false ∧ W12.frozen? ⟨tb, 1, none⟩ = false := by rw [← hW12, ← htb]; exact (TagBox.new w11 _ _).c
              have HN : Hid (∀ W, Below W12.heap.size W12 W → DuoI w W ab mo l (j + 1)) := Lib.hid fun W hb => ⟨_, _, A2, hD12.below hb, Hx.out.2.2.2.2.2.2.2.2.2.2.2.1, Hx.out.2.2.2.2.2.2.2.2.2.2.2.2.2.2⟩
              clear hD12 hu1 hu2 hux y1 y2 y3
              go_wp2_with fail
              clear hW12
              go_quiet (fail)
              go_wp2
              go_roundw
              case rel => exact ⟨j + 1, by omega, by go_num, Lib.hid (HN.out _ (by first | exact ⟨rfl, rfl, rfl, Nat.le_refl _, fun _ _ => rfl⟩ | (repeat (first | exact Below.refl _ _ | apply Below.drew))))⟩
              case measure => simp [intOf]; omega
            · rw [ans_no Hx.out.2.2.2.2.2.2.2.2.2.2.2.1 y1]
              obtain ⟨W12, hW12⟩ : ∃ W12, w11.alloc (.cells #[.int .i64 0, .int .i64 0] 44) = W12 := ⟨_, rfl⟩
              have hD12 : DuoAt askV w W12 ab mo none 0 A2 A2 _ _ := HD11.out.below (by rw [← hW12]; exact (Below.refl _ _).alloc (Nat.le_refl _) _)
              obtain ⟨z13, _, _, _, z19⟩ := hD12.state2
              rw [Hx.out.2.2.2.2.2.2.2.2.2.2.2.2.2.1, y3] at z13
              rw [y2] at z19
              obtain ⟨x0, x1, _, _⟩ : W12.cell? ⟨tb, 0, none⟩ = some (.int .i64 0) ∧ W12.cell? ⟨tb, 1, none⟩ = some (.int .i64 0) ∧ W12.frozen? ⟨tb, 0, none⟩ = false ∧ W12.frozen? ⟨tb, 1, none⟩ = false := by rw [← hW12, ← htb]; exact (TagBox.new w11 _ _).c
              have HN : Hid (Below w11.heap.size w11 W12 ∧ ∀ W, Below w11.heap.size w11 W → DuoI w W ab mo l (j + 1)) := Lib.hid ⟨by rw [← hW12]; exact (Below.refl _ _).alloc (Nat.le_refl _) _, fun W hb => ⟨_, _, A2, HD11.out.below hb, Hx.out.2.2.2.2.2.2.2.2.2.2.2.1, Hx.out.2.2.2.2.2.2.2.2.2.2.2.2.2.2⟩⟩
              clear hD12 y1 y2 y3
              go_wp2
              go_roundw
              case rel => exact ⟨j + 1, by omega, by go_num, Lib.hid (HN.out.2 _ (by first | exact HN.out.1 | exact (HN.out.1.setCell (p := ⟨tb, 0, none⟩) (by show w11.heap.size ≤ tb; omega) _).setCell (p := ⟨tb, 1, none⟩) (by show w11.heap.size ≤ tb; omega) _))⟩
              case measure => simp [intOf]; omega
            all_goals
              rw [ans_no Hx.out.2.2.2.2.2.2.2.2.2.2.2.1 y1]
              obtain ⟨W12, hW12⟩ : ∃ W12, w11.alloc (.cells #[.int .i64 0, .int .i64 0] 44) = W12 := ⟨_, rfl⟩
              have hD12 : DuoAt askV w W12 ab mo none 0 A2 A2 _ _ := HD11.out.below (by rw [← hW12]; exact (Below.refl _ _).alloc (Nat.le_refl _) _)
              obtain ⟨z13, _, _, _, _⟩ := hD12.state2
              rw [Hx.out.2.2.2.2.2.2.2.2.2.2.2.2.2.1, y3] at z13
              obtain ⟨x0, x1, _, _⟩ : W12.cell? ⟨tb, 0, none⟩ = some (.int .i64 0) ∧ W12.cell? ⟨tb, 1, none⟩ = some (.int .i64 0) ∧ W12.frozen? ⟨tb, 0, none⟩ = false ∧ W12.frozen? ⟨tb, 1, none⟩ = false := by rw [← hW12, ← htb]; exact (TagBox.new w11 _ _).c
              have HN : Hid (Below w11.heap.size w11 W12 ∧ ∀ W, Below w11.heap.size w11 W → DuoI w W ab mo l (j + 1)) := Lib.hid ⟨by rw [← hW12]; exact (Below.refl _ _).alloc (Nat.le_refl _) _, fun W hb => ⟨_, _, A2, HD11.out.below hb, Hx.out.2.2.2.2.2.2.2.2.2.2.2.1, Hx.out.2.2.2.2.2.2.2.2.2.2.2.2.2.2⟩⟩
              clear hD12 y1 y3
              go_wp2
              go_roundw
              case rel => exact ⟨j + 1, by omega, by go_num, Lib.hid (HN.out.2 _ (by first | exact HN.out.1 | exact (HN.out.1.setCell (p := ⟨tb, 0, none⟩) (by show w11.heap.size ≤ tb; omega) _).setCell (p := ⟨tb, 1, none⟩) (by show w11.heap.size ≤ tb; omega) _))⟩
              case measure => simp [intOf]; omega
          · go_wp2
            go_ret
            obtain ⟨_, _, _, hd, _⟩ := Hr.out
            exact ⟨rfl, hd.2.2.2.2⟩
end Go.Proofs.YtabboioamdphmaaGreatDoor.askHears

