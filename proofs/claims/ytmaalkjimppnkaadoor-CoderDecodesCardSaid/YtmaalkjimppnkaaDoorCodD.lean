/- The walk of coder.look: the first k shards that are unlike. -/
import Derived.Test.YtmaalkjimppnkaaDoorCodC
namespace Go.Proofs.YtmaalkjimppnkaaDoor
open Go.RowKit

/-- one more is looked at. -/
def stepS (k : Nat) (out : List Sh) (s : Sh) : List Sh := if out.length < k ∧ out.any (fun x => decide (x.1 = s.1)) = false then out ++ [s] else out
/-- the first k that are unlike. -/
def pickS (k : Nat) (l : List Sh) : List Sh := l.foldl (stepS k) []
theorem pickS_snoc (k : Nat) (l : List Sh) (s : Sh) : pickS k (l ++ [s]) = stepS k (pickS k l) s := by simp [pickS]
/-- can a shard be one of them? -/
def GoodS (n W : Nat) (s : Sh) : Prop := 0 ≤ s.1 ∧ s.1 < n ∧ s.2.size = W

set_option maxRecDepth 100000 in
theorem look1_walk (x1 : Int) (x2 : ByteArray) (b : Nat) (s1 : Int) (w : World) (hb : w.cell? ⟨b, 0, none⟩ = some (.int .i64 s1)) :
    Calls Tryd.prog 134 #[.agg #[.int .i64 x1, .string x2], .pointer (some ⟨b, 0, none⟩)] w fun e w' => e = .returned (.bool (decide (x1 = s1))) ∧ Below w.heap.size w w' := by
  have hb2 : (w.alloc (.cells #[.int .i64 x1, .string x2] 62)).cell? ⟨b, 0, none⟩ = some (.int .i64 s1) := ((Below.refl _ w).alloc (Nat.le_refl _) _).cell (lt_of_cell hb) ▸ hb
  by_cases h : x1 = s1
  · subst h
    go_enter Tryd.func134, Tryd.ntmps134
    go_wp2
    go_ret
    exact ⟨by simp, (Below.refl _ w).alloc (Nat.le_refl _) _⟩
  · have h0 : (x1 == s1) = false := by simp [h]
    go_enter Tryd.func134, Tryd.ntmps134
    go_wp2
    go_ret
    exact ⟨by simp [h], (Below.refl _ w).alloc (Nat.le_refl _) _⟩
set_option maxRecDepth 100000 in
set_option maxHeartbeats 2000000 in
theorem lookI_walk (n₀ : Nat) (a : Option Addr) (cap b : Nat) (out : List Sh) (s1 : Int) (w : World) (hl : out.length ≤ maxLen) (hn : n₀ ≤ w.heap.size) (hI : ShR n₀ w a out) (hb : w.cell? ⟨b, 0, none⟩ = some (.int .i64 s1)) :
    Calls Tryd.prog 144 #[.slice a out.length cap, .func (.func 134) #[] #[.pointer (some ⟨b, 0, none⟩)]] w
      fun e w' => (((∀ x ∈ out, x.1 ≠ s1) ∧ e = .returned (.int .i64 (-1))) ∨ (∃ k : Nat, (∃ x ∈ out, x.1 = s1) ∧ e = .returned (.int .i64 k))) ∧ Below w.heap.size w w' := by
  obtain ⟨m, hm⟩ : ∃ m, out.length = m := ⟨_, rfl⟩
  have hm' : m ≤ 9223372036854775807 := by rw [← hm]; exact hl
  have Hm := Lib.hid hm
  have HI := Lib.hid hI
  have Hb := Lib.hid hb
  rw [hm]
  clear hm hI hl hb
  go_enter Tryd.func144, Tryd.ntmps144
  go_wp2
  go_loopw [8] (fun vi wr => ∃ k : Nat, k ≤ m ∧ vi = .int .i64 k ∧ Hid ((∀ j, j < k → (out[j]?.getD (0, ⟨#[]⟩)).1 ≠ s1) ∧ Below w.heap.size w wr)) (fun i _ => m - (intOf i).toNat)
  case atStart => exact ⟨0, by omega, rfl, Lib.hid ⟨fun j hj => by omega, Below.refl _ _⟩⟩
  case round =>
    obtain ⟨k, hk, rfl, H⟩ := hrel
    have hk2 : k < m ∨ k = m := by omega
    rcases hk2 with hlt | hkm
    · have hlt2 : (k : Int) < m := by omega
      rcases (HI.out.mono hn).below H.out.2 with he | ⟨g, off, rfl, hg, hc⟩
      · exfalso
        have := Hm.out
        rw [he] at this
        simp at this; omega
      obtain ⟨h1, h2⟩ := hc k (by have := Hm.out; omega)
      clear hc
      obtain ⟨x, hx⟩ : ∃ x, out[k]?.getD (0, ⟨#[]⟩) = x := ⟨_, rfl⟩
      rw [hx] at h1 h2
      have Hx := Lib.hid hx
      clear hx
      obtain ⟨x1, x2⟩ := x
      have Hp := Lib.hid (look1_walk x1 x2 b s1 wr ((H.out.2.cell (lt_of_cell Hb.out)).trans Hb.out))
      by_cases he : x1 = s1
      · have e1 : decide (x1 = s1) = true := by simp [he]
        rw [e1] at Hp
        have He := Lib.hid he
        clear he e1
        go_wp2_with fail
        refine Hp.out.mono ?_
        rintro e w' ⟨rfl, hb2⟩
        have HB := Lib.hid (H.out.2.trans (hb2.mono H.out.2.size))
        clear hb2
        go_wp2
        go_ret
        refine ⟨.inr ⟨k, ⟨(x1, x2), ?_, He.out⟩, rfl⟩, HB.out⟩
        have hkl : k < out.length := by have := Hm.out; omega
        have := Hx.out
        rw [List.getElem?_eq_getElem hkl] at this
        simp at this
        rw [← this]; exact List.getElem_mem hkl
      · have e1 : decide (x1 = s1) = false := by simp [he]
        rw [e1] at Hp
        have He := Lib.hid he
        clear he e1
        go_wp2_with fail
        refine Hp.out.mono ?_
        rintro e w' ⟨rfl, hb2⟩
        have HB := Lib.hid (H.out.2.trans (hb2.mono H.out.2.size))
        clear hb2
        go_wp2
        go_roundw
        case rel => exact ⟨k + 1, by omega, by go_num, Lib.hid ⟨fun j hj => by
          by_cases e : j = k
          · rw [e, Hx.out]; exact He.out
          · exact H.out.1 j (by omega), HB.out⟩⟩
        case measure => simp [intOf]; omega
    · subst hkm
      go_wp2
      go_ret
      refine ⟨.inl ⟨fun x hx => ?_, rfl⟩, H.out.2⟩
      obtain ⟨j, hj, rfl⟩ := List.getElem_of_mem hx
      have := H.out.1 j (by have := Hm.out; omega)
      rw [List.getElem?_eq_getElem hj] at this
      exact this
set_option maxRecDepth 100000 in
theorem lookC_walk (n₀ : Nat) (a : Option Addr) (cap b : Nat) (out : List Sh) (s1 : Int) (w : World) (hl : out.length ≤ maxLen) (hn : n₀ ≤ w.heap.size) (hI : ShR n₀ w a out) (hb : w.cell? ⟨b, 0, none⟩ = some (.int .i64 s1)) :
    Calls Tryd.prog 101 #[.slice a out.length cap, .func (.func 134) #[] #[.pointer (some ⟨b, 0, none⟩)]] w
      fun e w' => e = .returned (.bool (out.any (fun x => decide (x.1 = s1)))) ∧ Below w.heap.size w w' := by
  have H := Lib.hid (lookI_walk n₀ a cap b out s1 w hl hn hI hb)
  clear hI hb hl
  obtain ⟨r, hr⟩ : ∃ r, out.any (fun x => decide (x.1 = s1)) = r := ⟨_, rfl⟩
  have Hr := Lib.hid hr
  rw [hr]
  clear hr
  go_enter Tryd.func101, Tryd.ntmps101
  go_wp2_with fail
  refine H.out.mono ?_
  rintro e w' ⟨hres, hb⟩
  have HB := Lib.hid hb
  clear hb
  rcases hres with ⟨hz, rfl⟩ | ⟨k, hx, rfl⟩
  · have hrf : r = false := by
      rw [← Hr.out, List.any_eq_false]
      intro x hx
      simpa using hz x hx
    subst hrf
    clear hz
    go_wp2
    go_ret
    exact ⟨rfl, HB.out⟩
  · have hrt : r = true := by
      rw [← Hr.out, List.any_eq_true]
      obtain ⟨x, h1, h2⟩ := hx
      exact ⟨x, h1, by simpa using h2⟩
    subst hrt
    have hk0 : (0 : Int) ≤ (k : Int) := by omega
    clear hx
    go_wp2
    go_ret
    exact ⟨by simp, HB.out⟩
end Go.Proofs.YtmaalkjimppnkaaDoor
