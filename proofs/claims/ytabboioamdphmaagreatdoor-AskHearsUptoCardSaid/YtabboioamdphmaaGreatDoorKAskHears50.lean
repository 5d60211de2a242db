/- The walk of the law AskHears: a put, a long text. (Printed by gen_wask.py.) -/
import Derived.Test.YtabboioamdphmaaGreatDoorKAskHears47
import Derived.Test.YtabboioamdphmaaGreatDoorKAskHears32
import Derived.Test.YtabboioamdphmaaGreatDoorKAskHears48
import Derived.Test.YtabboioamdphmaaGreatDoorKAskHears49
import Derived.Test.YtabboioamdphmaaGreatDoorRows
import Derived.JoinedOf
import Derived.KernelRfl
import Derived.JoinedCond
namespace Go.Proofs.YtabboioamdphmaaGreatDoor.askHears
open Go.Proofs.YtabboioamdphmaaGreatDoor
open Go.RowKit Go.Maps Go.BigFrame

set_option maxRecDepth 100000 in
set_option maxHeartbeats 16000000 in
theorem main_Q (w : World) (E : Nat → Addr) (hE : ErrEnv w E) (who op cf n k : Int) (a : Option Addr) (len cap : Nat) (L : List ByteArray) (key text : ByteArray) (la : Option Addr) (ll lc : Nat) (l : List Msg) (hin : BidIn w who op cf n k a len cap L key text) (hA : MsgsIn w la ll lc l) (hbk : msgsbulk l ≤ 1048576) (hlc : longC L = false) (hk1 : ¬ (100 : Int) < key.size) (h1 : (100 : Int) < text.size) (h2 : ¬ (text.size : Int) ≤ 1000) (h3 : ¬ (2000 : Int) < text.size) :
    Calls Tryz.prog 4 #[.agg #[.bool true, .int .i64 who, .int .i64 op, .int .i64 cf, .int .i64 n, .int .i64 k, .slice a len cap, .string key, .string text], .slice la ll lc] w fun e w' => e = .returned (.bool true) ∧ Below w.heap.size w w' := by
  have hT := hin.c_.t_
  obtain ⟨W1, hW1⟩ : ∃ W1, w.alloc (.cells #[.bool true, .int .i64 who, .int .i64 op, .int .i64 cf, .int .i64 n, .int .i64 k, .slice a len cap, .string key, .string text] 64) = W1 := ⟨_, rfl⟩
  obtain ⟨bb, hbb⟩ : ∃ bb, w.heap.size = bb := ⟨_, rfl⟩
  have hB1 : Below w.heap.size w W1 := by rw [← hW1]; exact (Below.refl _ _).alloc (Nat.le_refl _) _
  have hC1 : BidAt W1 bb true who op cf n k (.slice a len cap) key text := by rw [← hW1, ← hbb]; exact BidAt.new w _ _ _ _ _ _ _ _ _
  have hs1 : W1.heap.size = bb + 1 := by rw [← hW1, ← hbb]; simp
  have KB : Hid (∀ W, Below W1.heap.size W1 W → BidAt W bb true who op cf n k (.slice a len cap) key text) := Lib.hid fun W hb => hC1.below hb (by omega)
  have H := Lib.hid (And.intro hE (And.intro hA (And.intro hbk (And.intro hT (And.intro hin (And.intro hB1 (And.intro hW1 hbb)))))))
  have Hlo := Lib.hid hlc
  have hl30 : len ≤ 30 := by have h9 := (longC_no hlc).1; have := hT.len_; omega
  have hll9 : ll ≤ 9223372036854775807 := by have h9 := hA.2.2.1; have h8 := hA.2.1; unfold maxLen at h9; omega
  have Has := Lib.hid (asked_walk W1 E (hE.below hB1 (Nat.le_refl _)).qx)
  clear hT hin hE hA hbk hB1 hC1 hs1 hlc
  go_enter Tryz.func4, Tryz.ntmps4
  go_wp2_with fail
  skip
  clear hW1 hbb
  refine Has.out.mono ?_
  rintro e w2 ⟨rfl, hb2⟩
  have H2 := Lib.hid (And.intro hb2 (H.out.2.2.2.2.2.1.trans (hb2.mono H.out.2.2.2.2.2.1.size)))
  clear hb2
  obtain ⟨c0, c1, c2, c3, c4, c5, c6, c7, c8⟩ := KB.out w2 H2.out.1
  have hlo := longc_walk n k w.heap.size a len cap L w2 H.out.2.2.2.1.len_ (by unfold maxLen; omega) H.out.2.2.2.1.sizeAt (H.out.2.2.2.1.txs.below H2.out.2) H2.out.2.size
  rw [Hlo.out] at hlo
  have Hlc := Lib.hid hlo
  clear hlo
  go_wp2_with fail
  refine Hlc.out.mono ?_
  rintro e w3 ⟨rfl, hb3⟩
  have H3 := Lib.hid (And.intro (H2.out.1.trans (hb3.mono H2.out.1.size)) (H2.out.2.trans (hb3.mono H2.out.2.size)))
  clear hb3 c0 c1 c2 c3 c4 c5 c6 c7 c8
  obtain ⟨c0, c1, c2, c3, c4, c5, c6, c7, c8⟩ := KB.out w3 H3.out.1
  have hmf := mfit_walk w3 la ll lc l (by
    obtain ⟨h1, h2, h3, h4, h5, h6⟩ := H.out.2.1
    exact ⟨h1, h2, h3, h4, (h5.below H3.out.2).mono H3.out.2.size, h6⟩)
  have Hmf := Lib.hid hmf
  clear hmf
  go_wp2_with fail
  refine Hmf.out.mono ?_
  rintro e w4 ⟨⟨r, rfl⟩, hb4⟩
  have H4 := Lib.hid (And.intro (H3.out.1.trans (hb4.mono H3.out.1.size)) (H3.out.2.trans (hb4.mono H3.out.2.size)))
  clear hb4 c0 c1 c2 c3 c4 c5 c6 c7 c8
  cases r with
  | false =>
    go_wp2
    go_ret
    exact ⟨rfl, H4.out.2⟩
  | true =>
    obtain ⟨c0, c1, c2, c3, c4, c5, c6, c7, c8⟩ := KB.out w4 H4.out.1
    have KC : Hid (∀ W, Below W1.heap.size W1 W → W.cell? ⟨bb, 1, none⟩ = some (.int .i64 who) ∧ W.cell? ⟨bb, 2, none⟩ = some (.int .i64 op) ∧ W.cell? ⟨bb, 3, none⟩ = some (.int .i64 cf) ∧ W.cell? ⟨bb, 4, none⟩ = some (.int .i64 n) ∧ W.cell? ⟨bb, 5, none⟩ = some (.int .i64 k) ∧ W.cell? ⟨bb, 6, none⟩ = some (.slice a len cap) ∧ W.cell? ⟨bb, 7, none⟩ = some (.string key) ∧ W.cell? ⟨bb, 8, none⟩ = some (.string text)) := Lib.hid fun W hb => by
      obtain ⟨c0, c1, c2, c3, c4, c5, c6, c7, c8⟩ := KB.out W hb
      exact ⟨c1, c2, c3, c4, c5, c6, c7, c8⟩
    go_wp2_with fail
    go_region_held3 (fun W => W.cell? ⟨bb, 1, none⟩ = some (.int .i64 who) ∧ W.cell? ⟨bb, 2, none⟩ = some (.int .i64 op) ∧ W.cell? ⟨bb, 3, none⟩ = some (.int .i64 cf) ∧ W.cell? ⟨bb, 4, none⟩ = some (.int .i64 n) ∧ W.cell? ⟨bb, 5, none⟩ = some (.int .i64 k) ∧ W.cell? ⟨bb, 6, none⟩ = some (.slice a len cap) ∧ W.cell? ⟨bb, 7, none⟩ = some (.string key) ∧ W.cell? ⟨bb, 8, none⟩ = some (.string text))
      (first | exact ⟨c1, c2, c3, c4, c5, c6, c7, c8⟩ | exact q5 | exact q6)
      (first
        | (go_at_call 9; refine (ownc_walk n k w.heap.size a len cap L w4.drew H.out.2.2.2.1.len_ (by omega) H.out.2.2.2.1.nil_ (H.out.2.2.2.1.txs.below H4.out.2.drew) H4.out.2.drew.size).mono ?_; rintro e w5 ⟨⟨v5, rfl, hv5⟩, hb5⟩; obtain ⟨a5, cp5, e5, g1, g2, g3, g4⟩ := hv5.read; rw [H.out.2.2.2.1.len_] at e5 g1; subst e5; have q5 := KC.out w5 (H4.out.1.drew.trans (hb5.mono H4.out.1.drew.size)); have H5 := Lib.hid (And.intro (H4.out.2.drew.trans (hb5.mono H4.out.2.drew.size)) (And.intro (H4.out.1.drew.trans (hb5.mono H4.out.1.drew.size)) (And.intro g1 (And.intro g3 g4)))); clear hb5 hv5 g1 g2 g3 g4)
        | (go_at_call 24; refine (put_walk who op n k cf w5.heap.size a5 len cp5 L key text w5 E (H.out.1.below H5.out.1 (Nat.le_refl _)).qx H.out.2.2.2.1.len_ H5.out.2.2.1 (by omega) H5.out.2.2.2.1 H.out.2.2.2.1.sizeAt H5.out.2.2.2.2 (Nat.le_refl _) H.out.2.2.2.2.1.key_ H.out.2.2.2.2.1.text_).mono ?_; intro e w6 h6; obtain ⟨pv, ev, rfl, hb6, hr6⟩ := h6.ret; have q6 := KC.out w6 (H5.out.2.1.trans (hb6.mono H5.out.2.1.size)); have H6 := Lib.hid (And.intro (H5.out.1.trans (hb6.mono H5.out.1.size)) (And.intro (H5.out.2.1.trans (hb6.mono H5.out.2.1.size)) (And.intro hb6 hr6))); clear hb6 h6 hr6)
        | fail)
    rename_i hHeld
    clear hHeld q5 q6 c0 c1 c2 c3 c4 c5 c6 c7 c8
    obtain ⟨c0, c1, c2, c3, c4, c5, c6, c7, c8⟩ := KB.out w6 H6.out.2.1
    obtain ⟨F, hF⟩ : ∃ F, bidF who op n k L cf key text.size = F := ⟨_, rfl⟩
    have hbf := bidfault_walk true who op cf n k w.heap.size a len cap L key text w6 H.out.2.2.2.1.len_ H.out.2.2.2.1.cap_ H.out.2.2.2.1.sizeAt (H.out.2.2.2.1.txs.below H6.out.1) H6.out.1.size H.out.2.2.2.2.1.key_
    rw [if_pos rfl, hF] at hbf
    have Hbf := Lib.hid hbf
    have hr := H6.out.2.2.2
    rw [hF] at hr
    have HF := Lib.hid hF
    clear hbf hF
    go_wp2_with fail
    refine Hbf.out.mono ?_
    rintro e w7 ⟨rfl, hb7⟩
    unfold fltA
    obtain ⟨W8, hW8⟩ : ∃ W8, w7.alloc (.cells #[.int .i64 (F.1 : Nat), .int .i64 F.2] 36) = W8 := ⟨_, rfl⟩
    obtain ⟨fb, hfb⟩ : ∃ fb, w7.heap.size = fb := ⟨_, rfl⟩
    have hB8 : Below w7.heap.size w7 W8 := by rw [← hW8]; exact (Below.refl _ w7).alloc (Nat.le_refl _) _
    have hgF : W8.heap[fb]? = some (.cells #[.int .i64 (F.1 : Nat), .int .i64 F.2] 36 (0, 0)) := by rw [← hW8, ← hfb]; exact heap_alloc_new _ _
    have p0 : W8.cell? ⟨fb, 0, none⟩ = some (.int .i64 (F.1 : Nat)) := cell_of_heap hgF 0
    have p1 : W8.cell? ⟨fb, 1, none⟩ = some (.int .i64 F.2) := cell_of_heap hgF 1
    have hb68 : Below w6.heap.size w6 W8 := hb7.trans (hB8.mono hb7.size)
    have H8 := Lib.hid (And.intro (H6.out.1.trans (hb68.mono H6.out.1.size)) (And.intro (H6.out.2.1.trans (hb68.mono H6.out.2.1.size)) (And.intro hb68 (And.intro hW8 hfb))))
    clear hb7 hB8 hgF hb68 c0 c1 c2 c3 c4 c5 c6 c7 c8
    rcases hr with ⟨h0, rfl, hv⟩ | ⟨h0, rfl, ab, bm, ma, mc, hX, rfl⟩
    · have hz : (0 : Int) < ((F.1 : Nat) : Int) := by omega
      have hz2 : 0 < F.1 := by omega
      have Hfl := Lib.hid (faulted2_walk E F F ev true W8 (H.out.1.below H8.out.1 (Nat.le_refl _)) (hv.below H8.out.2.2.1 (Nat.le_refl _)) (by simp))
      clear h0 hv
      go_wp2_with fail
      clear hW8 hfb
      refine Hfl.out.mono ?_
      rintro e w9 ⟨rfl, hb9⟩
      have H9 := Lib.hid (H8.out.1.trans (hb9.mono H8.out.1.size))
      clear hb9
      go_wp2
      go_ret
      exact ⟨rfl, H9.out⟩
    · exfalso
      have h9 := (bidF_zero (by rw [HF.out]; exact h0)).2.2
      omega
end Go.Proofs.YtabboioamdphmaaGreatDoor.askHears
/- The walk of the law AskHears. -/
namespace Go.Proofs.YtabboioamdphmaaGreatDoor.askHears
open Go.Proofs.YtabboioamdphmaaGreatDoor
open Go.RowKit Go.Maps Go.BigFrame

set_option maxRecDepth 100000 in
set_option maxHeartbeats 4000000 in
theorem early (pt : Bool) (w : World) (E : Nat → Addr) (hE : ErrEnv w E) (who op cf n k : Int) (a : Option Addr) (len cap : Nat) (L : List ByteArray) (key text : ByteArray) (la : Option Addr) (ll lc : Nat) (hin : BidIn w who op cf n k a len cap L key text) (hx : longC L = true ∨ (100 : Int) < key.size ∨ ((100 : Int) < text.size ∧ (text.size : Int) ≤ 1000) ∨ (2000 : Int) < text.size) :
    Calls Tryz.prog 4 #[.agg #[.bool pt, .int .i64 who, .int .i64 op, .int .i64 cf, .int .i64 n, .int .i64 k, .slice a len cap, .string key, .string text], .slice la ll lc] w fun e w' => e = .returned (.bool true) ∧ Below w.heap.size w w' := by
  have hT := hin.c_.t_
  obtain ⟨W1, hW1⟩ : ∃ W1, w.alloc (.cells #[.bool pt, .int .i64 who, .int .i64 op, .int .i64 cf, .int .i64 n, .int .i64 k, .slice a len cap, .string key, .string text] 64) = W1 := ⟨_, rfl⟩
  obtain ⟨bb, hbb⟩ : ∃ bb, w.heap.size = bb := ⟨_, rfl⟩
  have hB1 : Below w.heap.size w W1 := by rw [← hW1]; exact (Below.refl _ _).alloc (Nat.le_refl _) _
  have hC1 : BidAt W1 bb pt who op cf n k (.slice a len cap) key text := by rw [← hW1, ← hbb]; exact BidAt.new w _ _ _ _ _ _ _ _ _
  have hs1 : W1.heap.size = bb + 1 := by rw [← hW1, ← hbb]; simp
  have KB : Hid (∀ W, Below W1.heap.size W1 W → BidAt W bb pt who op cf n k (.slice a len cap) key text) := Lib.hid fun W hb => hC1.below hb (by omega)
  have H := Lib.hid (And.intro hT (And.intro hB1 (And.intro hW1 hbb)))
  have hlm : len ≤ maxLen := by have h9 := hT.max_; have h8 := hT.cap_; unfold maxLen at h9 ⊢; omega
  have Hlm := Lib.hid hlm
  have Has := Lib.hid (asked_walk W1 E (hE.below hB1 (Nat.le_refl _)).qx)
  clear hT hin hE hB1 hC1 hs1 hlm
  go_enter Tryz.func4, Tryz.ntmps4
  go_wp2_with fail
  clear hW1 hbb
  refine Has.out.mono ?_
  rintro e w2 ⟨rfl, hb2⟩
  have H2 := Lib.hid (And.intro hb2 (H.out.2.1.trans (hb2.mono H.out.2.1.size)))
  clear hb2
  obtain ⟨c0, c1, c2, c3, c4, c5, c6, c7, c8⟩ := KB.out w2 H2.out.1
  have hlo := longc_walk n k w.heap.size a len cap L w2 H.out.1.len_ Hlm.out H.out.1.sizeAt (H.out.1.txs.below H2.out.2) H2.out.2.size
  obtain ⟨lv, hlv⟩ : ∃ lv, longC L = lv := ⟨_, rfl⟩
  rw [hlv] at hlo hx
  have Hlc := Lib.hid hlo
  clear hlo hlv
  go_wp2_with fail
  refine Hlc.out.mono ?_
  rintro e w3 ⟨rfl, hb3⟩
  have H3 := Lib.hid (And.intro (H2.out.1.trans (hb3.mono H2.out.1.size)) (H2.out.2.trans (hb3.mono H2.out.2.size)))
  clear hb3 c0 c1 c2 c3 c4 c5 c6 c7 c8
  obtain ⟨c0, c1, c2, c3, c4, c5, c6, c7, c8⟩ := KB.out w3 H3.out.1
  cases lv with
  | true =>
    clear hx
    go_wp2
    go_ret
    exact ⟨rfl, H3.out.2⟩
  | false =>
    have hcs : (100 : Int) < key.size ∨ (¬ (100 : Int) < key.size ∧ (100 : Int) < text.size ∧ (text.size : Int) ≤ 1000) ∨ (¬ (100 : Int) < key.size ∧ (100 : Int) < text.size ∧ ¬ (text.size : Int) ≤ 1000 ∧ (2000 : Int) < text.size) := by
      rcases hx with h | h | h | h
      · cases h
      · exact .inl h
      · by_cases h9 : (100 : Int) < key.size
        · exact .inl h9
        · exact .inr (.inl ⟨h9, h⟩)
      · by_cases h9 : (100 : Int) < key.size
        · exact .inl h9
        · exact .inr (.inr ⟨h9, by omega, by omega, h⟩)
    clear hx
    rcases hcs with h1 | ⟨h1, h2, h3⟩ | ⟨h1, h2, h3, h4⟩
    all_goals
      go_wp2
      go_ret
      exact ⟨rfl, H3.out.2⟩
theorem walk (pt : Bool) (who op cf n k : Int) (a : Option Addr) (len cap : Nat) (L : List ByteArray) (key text : ByteArray) (la : Option Addr) (ll lc : Nat) (l : List Msg) (w : World) (hin : BidIn w who op cf n k a len cap L key text) (hA : MsgsIn w la ll lc l) (hbk : msgsbulk l ≤ 1048576) (hL : laidMetH Tryz.prog Rows.askHearsUptoRow.laid w) :
    Calls Tryz.prog 4 #[.agg #[.bool pt, .int .i64 who, .int .i64 op, .int .i64 cf, .int .i64 n, .int .i64 k, .slice a len cap, .string key, .string text], .slice la ll lc] w fun e w' => e = .returned (.bool true) ∧ Below w.heap.size w w' := by
  obtain ⟨E, hE⟩ := env_of_drop 3 (by rfl) hL
  by_cases hx : longC L = true ∨ (100 : Int) < key.size ∨ ((100 : Int) < text.size ∧ (text.size : Int) ≤ 1000) ∨ (2000 : Int) < text.size
  · exact early pt w E hE who op cf n k a len cap L key text la ll lc hin hx
  · have hlc : longC L = false := by
      cases h : longC L with
      | false => rfl
      | true => exact absurd (.inl h) hx
    have hk : ¬ (100 : Int) < key.size := fun h => hx (.inr (.inl h))
    have h3 : ¬ (2000 : Int) < text.size := fun h => hx (.inr (.inr (.inr h)))
    by_cases h1 : (100 : Int) < text.size
    · have h2 : ¬ (text.size : Int) ≤ 1000 := fun h => hx (.inr (.inr (.inl ⟨h1, h⟩)))
      cases pt with
      | true => exact main_Q w E hE who op cf n k a len cap L key text la ll lc l hin hA hbk hlc hk h1 h2 h3
      | false => exact main_G w E hE who op cf n k a len cap L key text la ll lc l hin hA hbk hlc hk (.inr ⟨h1, h2⟩) h3
    · cases pt with
      | true => exact main_P w E hE who op cf n k a len cap L key text la ll lc l hin hA hbk hlc hk h1 h3
      | false => exact main_G w E hE who op cf n k a len cap L key text la ll lc l hin hA hbk hlc hk (.inl h1) h3
end Go.Proofs.YtabboioamdphmaaGreatDoor.askHears
/- The closed facts of the form that speak of the program alone: asked once for all rows of this seat. -/
namespace Go.Proofs.YtabboioamdphmaaGreatDoor
namespace Closed
theorem and_mk {a b : Bool} (ha : a = true) (hb : b = true) : (a && b) = true := by rw [ha, hb]; rfl
theorem laidOut : laidOutB Tryz.prog = true := by kernel_rfl
theorem mapsRowed : Go.mapsRowed Tryz.prog = true := by kernel_rfl
theorem stops : (Tryz.prog.stops == []) = true := by kernel_rfl
theorem stopKnobs : (Tryz.prog.stopKnobs == []) = true := by kernel_rfl
theorem plainKeys : (Rows.carryHearsRow.plainKeys == Tryz.prog.plainKeys) = true := by kernel_rfl
theorem stopsHeard : Tryz.prog.stopsHeard = true := by kernel_rfl
theorem mayEnter : Tryz.prog.mayEnter = true := by kernel_rfl
theorem lifted : (Rows.carryHearsRow.lifted == Tryz.prog.liftsFinal) = true := by kernel_rfl
theorem make : (Tryz.prog.make == some Rows.carryHearsRow.make) = true := by kernel_rfl
theorem pinned : (Rows.carryHearsRow.pinned == Rows.carryHearsRow.pinnedBy) = true := by kernel_rfl
end Closed
end Go.Proofs.YtabboioamdphmaaGreatDoor
