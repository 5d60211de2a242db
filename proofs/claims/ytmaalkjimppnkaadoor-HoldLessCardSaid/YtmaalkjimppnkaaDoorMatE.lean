/- Walks: slices.Clone of bytes; matrix.Check; the document's IsMatrix; the law's wideMatrix. -/
import Derived.Test.YtmaalkjimppnkaaDoorOwnM
import Derived.Test.YtmaalkjimppnkaaDoorAppendZ
import Derived.Test.YtmaalkjimppnkaaDoorCode
namespace Go.Proofs.YtmaalkjimppnkaaDoor
open Go.RowKit

set_option maxHeartbeats 1000000 in
set_option maxRecDepth 100000 in
/-- slices.Clone of a row that is not nil. -/
theorem clone_walk (n₀ : Nat) (ad : Addr) (c : Nat) (l : List Nat) (w : World) (hr : RowAt n₀ w (some ad) l) (hn : n₀ ≤ w.heap.size) (hl : l.length ≤ 140737488355328) :
    Calls Tryd.prog 137 #[.slice (some ad) l.length c] w fun e w' => (∃ v, e = .returned v ∧ OwnB w.heap.size w' v l) ∧ Below w.heap.size w w' := by
  have q := fun (w : World) (a : Option Addr) (n c n' c' : Nat) => Lib.run_eql_slice_nil (P := Tryd.prog) w 122 _ a n c n' c' Tryd.underlying122
  have hx : (w.alloc (.cells #[] 5)).heap.size = w.heap.size + 1 := by simp
  have hown : OwnB w.heap.size (w.alloc (.cells #[] 5)) (.slice (some ⟨w.heap.size, 0, none⟩) 0 0) [] := World.ownsRow_made w #[] 0 (Nat.le_refl _) (Nat.zero_le _) rfl
  have hr2 : RowAt n₀ (w.alloc (.cells #[] 5)) (some ad) l := hr.below ((Below.refl _ _).alloc hn _)
  have Hown := Lib.hid hown
  have Hr := Lib.hid hr2
  clear hown hr hr2 hx
  go_enter Tryd.func137, Tryd.ntmps137
  go_wp2_with (at_builtin; refine append_row 5 6 rfl rfl w.heap.size n₀ (.slice (some ⟨w.heap.size, 0, none⟩) 0 0) [] l (some ad) c rfl rfl Hown.out Hr.out (fun e => by cases e) (by simpa using hl) (by simp) ?_; intro v' w1 h1 h2 _)
  have hB : Below w.heap.size w w1 := ((Below.refl _ w).alloc (Nat.le_refl _) _).grown h2 (by simp) (by intro k hk; exact Nat.le_of_eq (Option.some.inj hk))
  have h3 : OwnB w.heap.size w1 v' l := h1
  clear h1 h2
  have H3 := Lib.hid h3
  clear h3
  go_wp2
  go_ret
  exact ⟨⟨v', rfl, H3.out⟩, hB⟩

/-! ### is it a matrix? -/
/-- so many rows, columns. -/
structure IsMat (L : List (List Nat)) : Prop where
  n1 : 1 ≤ L.length
  n2 : L.length ≤ 16
  c1 : 1 ≤ (L[0]?.getD []).length
  c2 : (L[0]?.getD []).length ≤ 16
  all : ∀ i, i < L.length → (L[i]?.getD []).length = (L[0]?.getD []).length
theorem notMat {L : List (List Nat)} (h : ¬ IsMat L) (h1 : 1 ≤ L.length) (h2 : L.length ≤ 16) (h3 : 1 ≤ (L[0]?.getD []).length) (h4 : (L[0]?.getD []).length ≤ 16) : ∃ i, i < L.length ∧ (L[i]?.getD []).length ≠ (L[0]?.getD []).length :=
  Classical.byContradiction fun hn => h ⟨h1, h2, h3, h4, fun i hi => Classical.byContradiction fun e => hn ⟨i, hi, e⟩⟩

set_option maxRecDepth 100000 in
theorem chk_pred (a0 a1 : Option Addr) (b off n cap k c c0 cap0 : Nat) (box : Addr) (w : World) (hn : 0 < n) (hb : w.cell? box = some (.slice (some ⟨b, off, none⟩) n cap)) (hc : w.cell? ⟨b, off, none⟩ = some (.slice a0 c0 cap0)) :
    Calls Tryd.prog 168 #[.slice a1 k c, .pointer (some box)] w fun e w' => e = .returned (.bool (decide (k ≠ c0))) ∧ w = w' := by
  have hn2 : (0 : Int) < n := by omega
  by_cases hx : k = c0
  · subst hx
    go_enter Tryd.func168, Tryd.ntmps168
    go_wp2
    go_ret
    exact ⟨by simp, rfl⟩
  · have hx0 : ((k : Int) != (c0 : Int)) = true := by simp; omega
    have hx1 : (k != c0) = true := by simpa using hx
    go_enter Tryd.func168, Tryd.ntmps168
    go_wp2
    go_ret
    exact ⟨by simp [hx], rfl⟩
set_option maxRecDepth 100000 in
set_option maxHeartbeats 1000000 in
theorem chk_find (g off m cap c0 : Nat) (A : Nat → Option Addr) (Ln C : Nat → Nat) (box : Addr) (w : World) (hm : m ≤ maxLen) (h0 : 0 < m) (hc0 : Ln 0 = c0) (hb : w.cell? box = some (.slice (some ⟨g, off, none⟩) m cap))
    (hh : ∀ j, j < m → w.cell? ⟨g, off + j, none⟩ = some (.slice (A j) (Ln j) (C j))) :
    Calls Tryd.prog 169 #[.slice (some ⟨g, off, none⟩) m cap, .func (.func 168) #[] #[.pointer (some box)]] w
      fun e w' => (((∀ j, j < m → Ln j = c0) ∧ e = .returned (.int .i64 (-1))) ∨ ∃ k, k < m ∧ Ln k ≠ c0 ∧ e = .returned (.int .i64 (k : Nat))) ∧ w = w' := by
  have hm' : m ≤ 9223372036854775807 := hm
  have hz0 := hh 0 h0
  rw [hc0] at hz0
  have Hz0 := Lib.hid hz0
  have Hh := Lib.hid hh
  have Hc0 := Lib.hid hc0
  clear hh hz0 hc0
  go_enter Tryd.func169, Tryd.ntmps169
  go_wp2
  go_loop [8] (fun vi => ∃ k : Nat, k ≤ m ∧ vi = .int .i64 k ∧ ∀ j, j < k → Ln j = c0) (fun i => m - (intOf i).toNat)
  case atStart => exact ⟨0, by omega, rfl, fun j hj => by omega⟩
  case round =>
    obtain ⟨k, hk, rfl, hz⟩ := hrel
    have Hz := Lib.hid hz; clear hz
    have hk2 : k < m ∨ k = m := by omega
    rcases hk2 with hlt | rfl
    · have hlt2 : (k : Int) < m := by omega
      have h1 := Hh.out k hlt
      have Hp := Lib.hid (chk_pred (A 0) (A k) g off m cap (Ln k) (C k) c0 (C 0) box w h0 hb Hz0.out)
      by_cases hx : Ln k = c0
      · have e1 : decide (Ln k ≠ c0) = false := by simp [hx]
        rw [e1] at Hp
        have Hx := Lib.hid hx; clear hx
        go_wp2_with (go_at_call 168; refine Hp.out.mono ?_; rintro e w' ⟨rfl, rfl⟩)
        go_round
        case rel => exact ⟨k + 1, by omega, by go_num, fun j hj => by
          by_cases e : j = k
          · rw [e, Hx.out]
          · exact Hz.out j (by omega)⟩
        case measure => simp [intOf]; omega
      · have e1 : decide (Ln k ≠ c0) = true := by simp [hx]
        rw [e1] at Hp
        go_wp2_with (go_at_call 168; refine Hp.out.mono ?_; rintro e w' ⟨rfl, rfl⟩)
        go_ret
        exact ⟨.inr ⟨k, hlt, hx, rfl⟩, rfl⟩
    · go_wp2
      go_ret
      exact ⟨.inl ⟨Hz.out, rfl⟩, rfl⟩
set_option maxRecDepth 100000 in
theorem chk_contains (g off m cap c0 : Nat) (A : Nat → Option Addr) (Ln C : Nat → Nat) (box : Addr) (w : World) (hm : m ≤ maxLen) (h0 : 0 < m) (hc0 : Ln 0 = c0) (hb : w.cell? box = some (.slice (some ⟨g, off, none⟩) m cap))
    (hh : ∀ j, j < m → w.cell? ⟨g, off + j, none⟩ = some (.slice (A j) (Ln j) (C j))) :
    Calls Tryd.prog 167 #[.slice (some ⟨g, off, none⟩) m cap, .func (.func 168) #[] #[.pointer (some box)]] w
      fun e w' => (((∀ j, j < m → Ln j = c0) ∧ e = .returned (.bool false)) ∨ (∃ k, k < m ∧ Ln k ≠ c0) ∧ e = .returned (.bool true)) ∧ w = w' := by
  have H := Lib.hid (chk_find g off m cap c0 A Ln C box w hm h0 hc0 hb hh)
  clear hh hb hc0
  go_enter Tryd.func167, Tryd.ntmps167
  go_wp2_with fail
  refine H.out.mono ?_
  rintro e w' ⟨hres, rfl⟩
  rcases hres with ⟨hz, rfl⟩ | ⟨k, hk, hne, rfl⟩
  · have Hz := Lib.hid hz; clear hz
    go_wp2
    go_ret
    exact ⟨.inl ⟨Hz.out, rfl⟩, rfl⟩
  · have hk0 : (0 : Int) ≤ (k : Int) := by omega
    have Hne := Lib.hid hne; clear hne
    go_wp2
    go_ret
    exact ⟨.inr ⟨⟨k, hk, Hne.out⟩, by simp⟩, rfl⟩
end Go.Proofs.YtmaalkjimppnkaaDoor
