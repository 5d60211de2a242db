/- Walks: the document's SameTexts; shardkeeplaw1's round, longTexts, ownTexts. -/
import Derived.Test.YtjgllhnecoibkaaGreatDoorPtE
import Derived.Test.YtjgllhnecoibkaaGreatDoorSamT
namespace Go.Proofs.YtjgllhnecoibkaaGreatDoor
open Go.RowKit

theorem lookA : lookF [⟨#[97]⟩] 1 = (0, -1) := by decide +kernel
set_option maxRecDepth 100000 in
set_option maxHeartbeats 2000000 in
theorem round_walk (w : World) (E : Nat → Addr) (hE : ErrRx w E) :
    Calls Tryz.prog 6 #[] w fun e w' => e = .returned (.bool true) ∧ Below w.heap.size w w' := by
  have hB0 : Below w.heap.size w (w.alloc (.cells #[.string ⟨#[97]⟩] 9)) := (Below.refl _ w).alloc (Nat.le_refl _) _
  have hT : TxsAt (w.alloc (.cells #[.string ⟨#[97]⟩] 9)).heap.size (w.alloc (.cells #[.string ⟨#[97]⟩] 9)) (some ⟨w.heap.size, 0, none⟩) [⟨#[97]⟩] :=
    .inr ⟨w.heap.size, 0, rfl, by simp, fun j hj => by
      obtain rfl : j = 0 := by simpa using hj
      simp⟩
  have Hk := Lib.hid (prefer_walk 1 ⟨#[107]⟩ _ (some ⟨w.heap.size, 0, none⟩) 1 1 [⟨#[97]⟩] _ E (hE.below hB0 (Nat.le_refl _)) rfl (by unfold maxLen; omega) (Nat.le_refl _) (fun j => by
    cases j with
    | zero => show (1 : Nat) ≤ maxLen; unfold maxLen; omega
    | succ j => show (0 : Nat) ≤ maxLen; omega) hT (Nat.le_refl _) (by show (1 : Nat) ≤ maxLen; unfold maxLen; omega))
  have HB := Lib.hid hB0
  clear hB0 hT hE
  go_enter Tryz.func6, Tryz.ntmps6
  go_wp2_with fail
  refine Hk.out.mono ?_
  rintro e w1 ⟨hb1, ⟨h, _⟩ | ⟨_, v, O, hO, hv, rfl⟩⟩
  · exact absurd (by rw [lookA]) h
  · have HB1 := Lib.hid (HB.out.trans (hb1.mono HB.out.size))
    have hOe : O = [⟨#[97]⟩] := List.perm_singleton.1 hO.1
    rw [hOe] at hv
    obtain ⟨a, c, rfl, _, _, _, ht⟩ := hv.read
    rcases ht with he | ⟨b, off, rfl, _, hc⟩
    · cases he
    have h1 := hc 0 (by decide)
    simp at h1
    clear hb1 hO hOe hv hc
    go_wp2
    go_ret
    exact ⟨by simp, HB1.out⟩
/-- are the texts too long for a statement? -/
def longT (L : List ByteArray) : Bool := decide (40 < L.length) || L.any fun s => decide (100 < s.size)
theorem longT_no {L : List ByteArray} (h : longT L = false) : L.length ≤ 40 ∧ ∀ s ∈ L, s.size ≤ 100 := by
  unfold longT at h
  rw [Bool.or_eq_false_iff, decide_eq_false_iff_not, List.any_eq_false] at h
  exact ⟨by omega, fun s hs => by have := h.2 s hs; simp at this; omega⟩
set_option maxRecDepth 100000 in
set_option maxHeartbeats 2000000 in
theorem longt_walk (n₀ : Nat) (a : Option Addr) (len cap : Nat) (L : List ByteArray) (w : World) (hlen : L.length = len) (hm : len ≤ maxLen) (hsz : ∀ j : Nat, (L[j]?.getD (⟨#[]⟩ : ByteArray)).size ≤ maxLen) (hI : TxsAt n₀ w a L) :
    Calls Tryz.prog 7 #[.slice a len cap] w fun e w' => e = .returned (.bool (longT L)) ∧ w = w' := by
  have hm9 : len ≤ 9223372036854775807 := hm
  have HI := Lib.hid hI
  have Hsz := Lib.hid hsz
  have Hl := Lib.hid hlen
  obtain ⟨r, hr⟩ : ∃ r, longT L = r := ⟨_, rfl⟩
  have Hr := Lib.hid hr
  rw [hr]
  by_cases h30 : 40 < len
  · have hrt : r = true := by rw [← hr]; unfold longT; rw [decide_eq_true (by omega)]; rfl
    subst hrt
    have g1 : (40 : Int) < len := by omega
    have g1d : decide (40 < len) = true := decide_eq_true h30
    clear hr hI hsz hlen hm h30
    go_enter Tryz.func7, Tryz.ntmps7
    go_wp2
    go_ret
    exact ⟨rfl, rfl⟩
  · have g1 : ¬ (40 : Int) < len := by omega
    have g1d : decide (40 < len) = false := decide_eq_false h30
    clear hr hI hsz hlen hm h30
    go_enter Tryz.func7, Tryz.ntmps7
    go_wp2
    go_loop [3] (fun vi => ∃ i : Nat, i ≤ len ∧ vi = .int .i64 i ∧ Hid (∀ j, j < i → ¬ 100 < (L[j]?.getD (⟨#[]⟩ : ByteArray)).size)) (fun i => len - (intOf i).toNat)
    case atStart => exact ⟨0, by omega, rfl, Lib.hid (fun j hj => by omega)⟩
    case round =>
      obtain ⟨i, hi, rfl, Hj⟩ := hrel
      have hi2 : i < len ∨ i = len := by omega
      rcases hi2 with hilt | rfl
      · have hilt2 : (i : Int) < len := by omega
        rcases HI.out with he | ⟨b, off, rfl, _, hcx⟩
        · exfalso
          have := Hl.out
          rw [he] at this; simp at this; omega
        have h1 := hcx i (by have := Hl.out; omega)
        obtain ⟨x, hx⟩ : ∃ x, L[i]?.getD (⟨#[]⟩ : ByteArray) = x := ⟨_, rfl⟩
        rw [hx] at h1
        have Hx := Lib.hid hx
        have hxs := Hsz.out i
        rw [hx] at hxs
        unfold maxLen at hxs
        clear hcx hx
        by_cases h60 : 100 < x.size
        · have hrt : r = true := by
            rw [← Hr.out]; unfold longT
            rw [Bool.or_eq_true]; right
            rw [List.any_eq_true]
            have hil : i < L.length := by have := Hl.out; omega
            have h9 := Hx.out
            rw [List.getElem?_eq_getElem hil] at h9
            exact ⟨x, by simp only [Option.getD_some] at h9; rw [← h9]; exact List.getElem_mem hil, decide_eq_true h60⟩
          subst hrt
          have g2 : (100 : Int) < x.size := by omega
          have g2d : decide (100 < x.size) = true := decide_eq_true h60
          clear h60
          go_wp2
          go_ret
          exact ⟨rfl, rfl⟩
        · have g2 : ¬ (100 : Int) < x.size := by omega
          have g2d : decide (100 < x.size) = false := decide_eq_false h60
          have H60 := Lib.hid h60
          clear h60
          go_wp2
          go_round
          case rel => exact ⟨i + 1, by omega, by go_num, Lib.hid (fun j hj => by
            by_cases e : j = i
            · rw [e, Hx.out]; have := H60.out; omega
            · exact Hj.out j (by omega))⟩
          case measure => simp [intOf]; omega
      · have hrf : r = false := by
          rw [← Hr.out]; unfold longT
          rw [decide_eq_false (by have := Hl.out; omega), Bool.false_or, List.any_eq_false]
          intro s hs
          obtain ⟨j, hj, rfl⟩ := List.getElem_of_mem hs
          have h9 := Hj.out j (by have := Hl.out; omega)
          rw [List.getElem?_eq_getElem hj] at h9
          simpa using h9
        subst hrf
        go_wp2
        go_ret
        exact ⟨rfl, rfl⟩
set_option maxRecDepth 100000 in
set_option maxHeartbeats 1000000 in
theorem ownt_walk (n₀ : Nat) (a : Option Addr) (len cap : Nat) (L : List ByteArray) (w : World) (hlen : L.length = len) (hl : len ≤ 1000) (ha : a = none → cap = 0) (hI : TxsAt n₀ w a L) :
    Calls Tryz.prog 10 #[.slice a len cap] w fun e w' => (∃ v, e = .returned v ∧ OwnT w.heap.size w' v L) ∧ Below w.heap.size w w' := by
  have hul : ([] : List ByteArray).length + L.length ≤ 1000000 := by simp; omega
  have H := Lib.hid (And.intro hlen (And.intro hul (And.intro ha hI)))
  clear hlen hul ha hI
  go_enter Tryz.func10, Tryz.ntmps10
  go_wp2_with (at_builtin; refine append_txts 4 5 rfl rfl w.heap.size (.slice none 0 0) [] n₀ a len cap L rfl rfl (OwnT.nil _ _) H.out.1 H.out.2.1 H.out.2.2.1 H.out.2.2.2 (Nat.le_refl _) ?_)
  intro v' w' k1 k2 _
  have HR := Lib.hid (And.intro k1 ((Below.refl w.heap.size w).grown k2 (Nat.le_refl _) (fun j e => by simp [Value.ownBlock] at e)))
  clear k1 k2
  go_wp2
  go_ret
  exact ⟨⟨_, rfl, HR.out.1⟩, HR.out.2⟩
end Go.Proofs.YtjgllhnecoibkaaGreatDoor
