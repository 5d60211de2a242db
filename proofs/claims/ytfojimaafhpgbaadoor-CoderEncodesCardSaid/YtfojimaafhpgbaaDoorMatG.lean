/- Walks: the document's IsMatrix; the law's wideMatrix and ownMatrix. -/
import Derived.Test.YtfojimaafhpgbaaDoorMatF
import Derived.Test.YtfojimaafhpgbaaDoorOwnR
namespace Go.Proofs.YtfojimaafhpgbaaDoor
open Go.RowKit

theorem rismat_few (len cap : Nat) (a : Option Addr) (w : World) (h : len < 1 ∨ 16 < len) :
    Calls Tryd.prog 53 #[.slice a len cap] w fun e w' => e = .returned (.bool false) ∧ ∃ n, w' = w.drewN n := by
  rcases h with h | h
  · have h0 : (len : Int) < 1 := by omega
    go_enter Tryd.func53, Tryd.ntmps53
    go_wp2
    go_ret
    exact ⟨rfl, 0, rfl⟩
  · have h0 : ¬ (len : Int) < 1 := by omega
    have h1 : (16 : Int) < len := by omega
    go_enter Tryd.func53, Tryd.ntmps53
    go_wp2
    go_ret
    exact ⟨rfl, 0, rfl⟩
theorem rismat_yes (n₀ : Nat) (a : Option Addr) (cap : Nat) (L : List (List Nat)) (w : World) (hr : RowsAt n₀ w a L) (h : IsMat L) :
    Calls Tryd.prog 53 #[.slice a L.length cap] w fun e w' => e = .returned (.bool true) ∧ ∃ n, w' = w.drewN n := by
  rcases hr with rfl | ⟨b, off, A, C, rfl, hb, hc⟩
  · exact absurd h.n1 (by simp)
  refine (rismat_loop b off L.length cap _ A (fun i => (L[i]?.getD []).length) C w h.n1 h.n2 (fun j hj => (hc j hj).1) rfl).mono ?_
  rintro e w' ⟨h1 | ⟨⟨j, hj, hne⟩, _⟩, hB⟩
  · exact ⟨h1.2, hB⟩
  · have e1 := h.all j hj
    have := h.c1
    have := h.c2
    refine absurd ⟨?_, ?_, e1⟩ hne
    · show 1 ≤ (L[j]?.getD []).length; omega
    · show (L[j]?.getD []).length ≤ 16; omega
theorem rismat_no (n₀ : Nat) (a : Option Addr) (cap : Nat) (L : List (List Nat)) (w : World) (hr : RowsAt n₀ w a L) (h : ¬ IsMat L) :
    Calls Tryd.prog 53 #[.slice a L.length cap] w fun e w' => e = .returned (.bool false) ∧ ∃ n, w' = w.drewN n := by
  by_cases h1 : L.length < 1 ∨ 16 < L.length
  · exact rismat_few _ _ _ w h1
  rcases hr with rfl | ⟨b, off, A, C, rfl, hb, hc⟩
  · exact absurd (.inl (by simp)) h1
  refine (rismat_loop b off L.length cap _ A (fun i => (L[i]?.getD []).length) C w (by omega) (by omega) (fun j hj => (hc j hj).1) rfl).mono ?_
  rintro e w' ⟨h3 | h3, hB⟩
  · have h0 := h3.1 0 (by omega)
    exact absurd ⟨by omega, by omega, h0.1, h0.2.1, fun i hi => (h3.1 i hi).2.2⟩ h
  · exact ⟨h3.2, hB⟩

/-- too wide for a statement. -/
def WideM (L : List (List Nat)) : Prop := 40 < L.length ∨ ∃ i, i < L.length ∧ 40 < (L[i]?.getD []).length
set_option maxRecDepth 100000 in
set_option maxHeartbeats 1000000 in
theorem wide_walk (n₀ : Nat) (a : Option Addr) (cap : Nat) (L : List (List Nat)) (w : World) (hl : L.length ≤ maxLen) (hr : RowsAt n₀ w a L) :
    Calls Tryd.prog 51 #[.slice a L.length cap] w fun e w' => ((WideM L ∧ e = .returned (.bool true)) ∨ (¬ WideM L ∧ e = .returned (.bool false))) ∧ w = w' := by
  obtain ⟨n, hn⟩ : ∃ n, L.length = n := ⟨_, rfl⟩
  have hm : n ≤ 9223372036854775807 := by rw [← hn]; exact hl
  by_cases h40 : 40 < n
  · have h41 : (40 : Int) < n := by omega
    have Hn := Lib.hid hn
    have hw : WideM L := .inl (by omega)
    rw [hn]
    clear hn hl hr
    go_enter Tryd.func51, Tryd.ntmps51
    go_wp2
    go_ret
    exact ⟨.inl ⟨hw, rfl⟩, rfl⟩
  · have h41 : ¬ (40 : Int) < n := by omega
    have Hn := Lib.hid hn
    have Hr := Lib.hid hr
    rw [hn]
    clear hn hl hr
    go_enter Tryd.func51, Tryd.ntmps51
    go_wp2
    go_loop [3] (fun vi => ∃ k : Nat, k ≤ n ∧ vi = .int .i64 k ∧ Hid (∀ j, j < k → (L[j]?.getD []).length ≤ 40)) (fun i => n - (intOf i).toNat)
    case atStart => exact ⟨0, by omega, rfl, Lib.hid fun j hj => by omega⟩
    case round =>
      obtain ⟨k, hk, rfl, H⟩ := hrel
      have hk2 : k < n ∨ k = n := by omega
      rcases hk2 with hlt | rfl
      · have hlt2 : (k : Int) < n := by omega
        rcases Hr.out with he | ⟨b, off, A, C, rfl, _, hc⟩
        · exfalso
          have := Hn.out
          rw [he] at this
          simp at this; omega
        have h1 := (hc k (by have := Hn.out; omega)).1
        clear hc
        obtain ⟨m, hm⟩ : ∃ m, (L[k]?.getD []).length = m := ⟨_, rfl⟩
        rw [hm] at h1
        have Hm := Lib.hid hm; clear hm
        by_cases hx : 40 < m
        · have hx2 : (40 : Int) < m := by omega
          go_wp2
          go_ret
          exact ⟨.inl ⟨.inr ⟨k, by have := Hn.out; omega, by rw [Hm.out]; exact hx⟩, rfl⟩, rfl⟩
        · have hx2 : ¬ (40 : Int) < m := by omega
          go_wp2
          go_round
          case rel => exact ⟨k + 1, by omega, by go_num, Lib.hid fun j hj => by
            by_cases e : j = k
            · rw [e, Hm.out]; omega
            · exact H.out j (by omega)⟩
          case measure => simp [intOf]; omega
      · go_wp2
        go_ret
        exact ⟨.inr ⟨fun h => by
          rcases h with h | ⟨i, hi, h⟩
          · have := Hn.out; omega
          · have := H.out i (by have := Hn.out; omega); omega, rfl⟩, rfl⟩

set_option maxRecDepth 100000 in
set_option maxHeartbeats 2000000 in
theorem own_walk (n₀ : Nat) (a : Option Addr) (cap : Nat) (L : List (List Nat)) (w : World) (hn₀ : n₀ ≤ w.heap.size) (hw : ¬ WideM L) (hr : RowsAt n₀ w a L) :
    Calls Tryd.prog 52 #[.slice a L.length cap] w fun e w' => (∃ v A C, e = .returned v ∧ OwnR w.heap.size w' v L A C) ∧ Below w.heap.size w w' := by
  obtain ⟨n, hn⟩ : ∃ n, L.length = n := ⟨_, rfl⟩
  have h40 : n ≤ 40 := by
    rw [← hn]
    exact Nat.le_of_not_lt fun h => hw (.inl h)
  have hc40 : ∀ i, i < n → (L[i]?.getD []).length ≤ 40 := fun i hi => Nat.le_of_not_lt fun h => hw (.inr ⟨i, by omega, h⟩)
  have Hn := Lib.hid hn
  have Hr := Lib.hid hr
  have Hc40 := Lib.hid hc40
  rw [hn]
  clear hn hr hw hc40
  go_enter Tryd.func52, Tryd.ntmps52
  go_wp2
  go_loopw [3, 4] (fun vo vi wr => ∃ (k : Nat) (A : Nat → Option Addr) (C : Nat → Nat), k ≤ n ∧ vi = .int .i64 k ∧ Hid (OwnR w.heap.size wr vo (L.take k) A C ∧ (∀ i, i < k → ∀ p, A i = some p → p.block < wr.heap.size) ∧ Below w.heap.size w wr)) (fun _ i _ => n - (intOf i).toNat)
  case atStart => exact ⟨0, fun _ => none, fun _ => 0, by omega, rfl, Lib.hid ⟨OwnR.nil _ _ _ _, fun i hi => by omega, Below.refl _ _⟩⟩
  case round =>
    obtain ⟨k, A, C, hk, rfl, H⟩ := hrel
    have hk2 : k < n ∨ k = n := by omega
    rcases hk2 with hlt | rfl
    · have hlt2 : (k : Int) < n := by omega
      obtain ⟨M, hM⟩ : ∃ M, L.take k = M := ⟨_, rfl⟩
      have hkl : M.length = k := by have := Hn.out; rw [← hM]; simp; omega
      rw [hM] at H
      have HM := Lib.hid hM
      clear hM
      have hsz := H.out.2.2.size
      rcases (Hr.out.mono hn₀).below H.out.2.2 with he | ⟨b, off, A', C', rfl, _, hc⟩
      · exfalso
        have := Hn.out
        rw [he] at this
        simp at this; omega
      obtain ⟨h1, h2, h3, h4, h5⟩ := hc k (by have := Hn.out; omega)
      have hm40 := Hc40.out k hlt
      clear hc
      obtain ⟨l, hl⟩ : ∃ l, L[k]?.getD [] = l := ⟨_, rfl⟩
      rw [hl] at h1 h2 h4 hm40
      have hm0 : l.length ≤ 140737488355328 := by omega
      have Hl := Lib.hid hl
      have H3 := Lib.hid h3
      have H4 := Lib.hid h4
      have H5 := Lib.hid h5
      have Hkl := Lib.hid hkl
      clear hl h3 h4 h5 hkl
      go_wp2_with (at_builtin; refine append_row 13 17 rfl rfl w.heap.size w.heap.size (.slice none 0 0) [] l _ _ rfl rfl (OwnB.nil _ _) H4.out H5.out (by simpa using hm0) hsz ?_)
      intro v1 w1 g1 g2 g3
      have hB1 : Below w.heap.size w w1 := H.out.2.2.grown g2 hsz (fun j e => by cases e)
      have hR1 : OwnR w.heap.size w1 u3 M A C := H.out.1.kept g2 (fun _ _ _ _ e => by cases e) (fun _ _ e => by cases e)
      have hvo : ∀ q, u3.ownBlock = some q → q < wr.heap.size := fun q e => (H.out.1.own.lt q e).2
      have hsz1 := hB1.size
      have hszr := g2.size
      obtain ⟨a1, c1, hv1, f1, f2, f3, f4, f5⟩ := OwnB.row2 g1
      have hne : ∀ p, a1 = some p → u3.ownBlock ≠ some p.block := fun p e e2 => by
        have := (f5 p e).1
        rcases g3 with g3 | g3
        · rw [this] at g3; cases g3
        · rw [this] at g3
          have := Option.some.inj g3
          have := hvo _ e2
          omega
      have hlt : ∀ p, a1 = some p → p.block < w1.heap.size := fun p e => (f5 p e).2
      have hltA : ∀ i, i < M.length → ∀ p, A i = some p → p.block < w1.heap.size := fun i hi p e => Nat.lt_of_lt_of_le (H.out.2.1 i (by have := Hkl.out; omega) p e) hszr
      rw [hv1]
      have Hx := Lib.hid (And.intro hR1 (And.intro hB1 (And.intro f1 (And.intro f2 (And.intro f3 (And.intro f4 (And.intro hne (And.intro hlt hltA))))))))
      have hown := Lib.hid hR1.own
      have hul : ((List.range M.length).map fun i => Value.slice (A i) (M[i]?.getD []).length (C i)).length ≤ 1000000 := by have := Hkl.out; simp; omega
      clear hR1 hB1 f1 f2 f3 f4 f5 hne hlt hltA g1 g2 g3 hv1 hvo H3 H4 H5
      go_wp2_with (at_builtin; refine append_rowv 12 19 rfl rfl w.heap.size _ _ _ _ _ rfl rfl hown.out hul hsz1 ?_)
      intro v2 w2 k1 k2 k3
      obtain ⟨hR1, hB1, f1, f2, f3, f4, hne, hlt, hltA⟩ := Hx.out
      have hR2 := hR1.snoc f3 f1 f2 f4 hne hlt hltA k1 k2 k3
      have et : L.take (k + 1) = M ++ [l] := by
        have hk := Hn.out
        rw [List.take_succ_eq_append_getElem (by omega), ← Hl.out, HM.out]
        simp [show k < L.length by omega]
      rw [← et, Hkl.out] at hR2
      have hB2 : Below w.heap.size w w2 := (hB1.alloc hsz1 _).grown k2 (by simp; omega) (fun j e => (hR1.own.lt j e).1)
      have hA2 : ∀ i, i < k + 1 → ∀ p, updA A k a1 i = some p → p.block < w2.heap.size := fun i hi p e => by
        have hz := k2.size
        simp at hz
        unfold updA at e
        by_cases e1 : i = k
        · rw [if_pos e1] at e
          have := hlt p e
          omega
        · rw [if_neg e1] at e
          have := hltA i (by have := Hkl.out; omega) p e
          omega
      have HR := Lib.hid (And.intro hR2 (And.intro hA2 hB2))
      clear hR1 hB1 f1 f2 f3 f4 hne hlt hltA k1 k2 k3 hR2 hA2 hB2 et Hx hown
      go_wp2
      go_roundw
      case rel => exact ⟨k + 1, _, _, by omega, by go_num, HR⟩
      case measure => simp [intOf]; omega
    · go_wp2
      go_ret
      have hkl : L.take k = L := List.take_of_length_le (by have := Hn.out; omega)
      rw [hkl] at H
      exact ⟨⟨_, A, C, rfl, H.out.1⟩, H.out.2.2⟩
end Go.Proofs.YtfojimaafhpgbaaDoor
