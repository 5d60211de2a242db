/- Walks: matrix.Check; the document's IsMatrix; the law's wideMatrix. -/
import Derived.Test.YtmaalkjimppnkaaDoorMatE
namespace Go.Proofs.YtmaalkjimppnkaaDoor
open Go.RowKit

set_option maxRecDepth 100000 in
set_option maxHeartbeats 1000000 in
theorem check_few (len cap : Nat) (a : Option Addr) (w : World) (z : Value) (hz : w.cell? ⟨5, 0, none⟩ = some z) (h : len < 1 ∨ 16 < len) :
    Calls Tryd.prog 136 #[.slice a len cap] w fun e w' => e = .returned z ∧ Below w.heap.size w w' := by
  have hz2 : (w.alloc (.cells #[.slice a len cap] 155)).cell? ⟨5, 0, none⟩ = some z := ((Below.refl _ w).alloc (Nat.le_refl _) _).cell (lt_of_cell hz) ▸ hz
  rcases h with h | h
  · have h0 : (len : Int) < 1 := by omega
    go_enter Tryd.func136, Tryd.ntmps136
    go_wp2
    go_ret
    exact ⟨rfl, (Below.refl _ w).alloc (Nat.le_refl _) _⟩
  · have h0 : ¬ (len : Int) < 1 := by omega
    have h1 : (16 : Int) < len := by omega
    go_enter Tryd.func136, Tryd.ntmps136
    go_wp2
    go_ret
    exact ⟨rfl, (Below.refl _ w).alloc (Nat.le_refl _) _⟩
set_option maxRecDepth 100000 in
set_option maxHeartbeats 1000000 in
theorem check_cols (b off len cap c0 cap0 : Nat) (a0 : Option Addr) (w : World) (z : Value) (hz : w.cell? ⟨5, 0, none⟩ = some z) (hn : 1 ≤ len) (hn2 : len ≤ 16) (hc : w.cell? ⟨b, off, none⟩ = some (.slice a0 c0 cap0)) (h : c0 < 1 ∨ 16 < c0) :
    Calls Tryd.prog 136 #[.slice (some ⟨b, off, none⟩) len cap] w fun e w' => e = .returned z ∧ Below w.heap.size w w' := by
  have hz2 : (w.alloc (.cells #[.slice (some ⟨b, off, none⟩) len cap] 155)).cell? ⟨5, 0, none⟩ = some z := ((Below.refl _ w).alloc (Nat.le_refl _) _).cell (lt_of_cell hz) ▸ hz
  have hc2 : (w.alloc (.cells #[.slice (some ⟨b, off, none⟩) len cap] 155)).cell? ⟨b, off, none⟩ = some (.slice a0 c0 cap0) := ((Below.refl _ w).alloc (Nat.le_refl _) _).cell (lt_of_cell hc) ▸ hc
  have g0 : ¬ (len : Int) < 1 := by omega
  have g1 : ¬ (16 : Int) < len := by omega
  have g2 : (0 : Int) < len := by omega
  rcases h with h | h
  · have h0 : (c0 : Int) < 1 := by omega
    go_enter Tryd.func136, Tryd.ntmps136
    go_wp2
    go_ret
    exact ⟨rfl, (Below.refl _ w).alloc (Nat.le_refl _) _⟩
  · have h0 : ¬ (c0 : Int) < 1 := by omega
    have h1 : (16 : Int) < c0 := by omega
    go_enter Tryd.func136, Tryd.ntmps136
    go_wp2
    go_ret
    exact ⟨rfl, (Below.refl _ w).alloc (Nat.le_refl _) _⟩
set_option maxRecDepth 100000 in
set_option maxHeartbeats 1000000 in
theorem check_all (b off len cap c0 : Nat) (A : Nat → Option Addr) (Ln C : Nat → Nat) (w : World) (z : Value) (hz : w.cell? ⟨5, 0, none⟩ = some z) (hn : 1 ≤ len) (hn2 : len ≤ 16)
    (hh : ∀ j, j < len → w.cell? ⟨b, off + j, none⟩ = some (.slice (A j) (Ln j) (C j))) (hc0 : Ln 0 = c0) (h1 : 1 ≤ c0) (h2 : c0 ≤ 16) :
    Calls Tryd.prog 136 #[.slice (some ⟨b, off, none⟩) len cap] w fun e w' => (((∀ j, j < len → Ln j = c0) ∧ e = .returned .nilIface) ∨ (∃ j, j < len ∧ Ln j ≠ c0) ∧ e = .returned z) ∧ Below w.heap.size w w' := by
  have hBl : Below w.heap.size w (w.alloc (.cells #[.slice (some ⟨b, off, none⟩) len cap] 155)) := (Below.refl _ w).alloc (Nat.le_refl _) _
  have hz2 : (w.alloc (.cells #[.slice (some ⟨b, off, none⟩) len cap] 155)).cell? ⟨5, 0, none⟩ = some z := hBl.cell (lt_of_cell hz) ▸ hz
  have hh2 : ∀ j, j < len → (w.alloc (.cells #[.slice (some ⟨b, off, none⟩) len cap] 155)).cell? ⟨b, off + j, none⟩ = some (.slice (A j) (Ln j) (C j)) := fun j hj => hBl.cell (p := ⟨b, off + j, none⟩) (lt_of_cell (hh 0 (by omega)) : b < w.heap.size) ▸ hh j hj
  have hc2 := hh2 0 (by omega)
  rw [hc0, Nat.add_zero] at hc2
  have hf := chk_contains b off len cap c0 A Ln C ⟨w.heap.size, 0, none⟩ _ (by unfold maxLen; omega) (by omega) hc0 (by simp) hh2
  have Hf := Lib.hid hf
  have g0 : ¬ (len : Int) < 1 := by omega
  have g1 : ¬ (16 : Int) < len := by omega
  have g2 : (0 : Int) < len := by omega
  have g3 : ¬ (c0 : Int) < 1 := by omega
  have g4 : ¬ (16 : Int) < c0 := by omega
  clear hf hh hh2 hz hc0
  go_enter Tryd.func136, Tryd.ntmps136
  go_wp2_with fail
  refine Hf.out.mono ?_
  rintro e w' ⟨hres, rfl⟩
  rcases hres with ⟨hzz, rfl⟩ | ⟨hne, rfl⟩
  · have Hz := Lib.hid hzz; clear hzz
    go_wp2
    go_ret
    exact ⟨.inl ⟨Hz.out, rfl⟩, hBl⟩
  · have Hz := Lib.hid hne; clear hne
    go_wp2
    go_ret
    exact ⟨.inr ⟨Hz.out, rfl⟩, hBl⟩
/-- matrix.Check. -/
theorem check_yes (n₀ : Nat) (a : Option Addr) (cap : Nat) (L : List (List Nat)) (w : World) (z : Value) (hz : w.cell? ⟨5, 0, none⟩ = some z) (hr : RowsAt n₀ w a L) (h : IsMat L) :
    Calls Tryd.prog 136 #[.slice a L.length cap] w fun e w' => e = .returned .nilIface ∧ Below w.heap.size w w' := by
  rcases hr with rfl | ⟨b, off, A, C, rfl, hb, hc⟩
  · exact absurd h.n1 (by simp)
  refine (check_all b off L.length cap _ A (fun i => (L[i]?.getD []).length) C w z hz h.n1 h.n2 (fun j hj => (hc j hj).1) rfl h.c1 h.c2).mono ?_
  rintro e w' ⟨h1 | ⟨⟨j, hj, hne⟩, _⟩, hB⟩
  · exact ⟨h1.2, hB⟩
  · exact absurd (h.all j hj) hne
theorem check_no (n₀ : Nat) (a : Option Addr) (cap : Nat) (L : List (List Nat)) (w : World) (z : Value) (hz : w.cell? ⟨5, 0, none⟩ = some z) (hr : RowsAt n₀ w a L) (h : ¬ IsMat L) :
    Calls Tryd.prog 136 #[.slice a L.length cap] w fun e w' => e = .returned z ∧ Below w.heap.size w w' := by
  by_cases h1 : L.length < 1 ∨ 16 < L.length
  · exact check_few _ _ _ w z hz h1
  rcases hr with rfl | ⟨b, off, A, C, rfl, hb, hc⟩
  · exact absurd (.inl (by simp)) h1
  have hc0 := (hc 0 (by omega)).1
  rw [Nat.add_zero] at hc0
  by_cases h2 : (L[0]?.getD []).length < 1 ∨ 16 < (L[0]?.getD []).length
  · exact check_cols b off _ cap _ _ _ w z hz (by omega) (by omega) hc0 h2
  refine (check_all b off L.length cap _ A (fun i => (L[i]?.getD []).length) C w z hz (by omega) (by omega) (fun j hj => (hc j hj).1) rfl (by omega) (by omega)).mono ?_
  rintro e w' ⟨h3 | h3, hB⟩
  · obtain ⟨i, hi, hne⟩ := notMat h (by omega) (by omega) (by omega) (by omega)
    exact absurd (h3.1 i hi) hne
  · exact ⟨h3.2, hB⟩

/-! ### the document's IsMatrix -/
end Go.Proofs.YtmaalkjimppnkaaDoor
