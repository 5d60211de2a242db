/- A pair of cells stored anew; what an error bears stays. -/
import Derived.Test.YtmaalkjimppnkaaDoorQuB
import Derived.Test.YtmaalkjimppnkaaDoorNds
import Derived.Test.YtmaalkjimppnkaaDoorFl2
namespace Go.Proofs.YtmaalkjimppnkaaDoor
open Go.RowKit

theorem Pair.put {w : World} {b : Nat} {x y : Value} (h : Pair w b x y) (u v : Value) : Pair ((w.setCell ⟨b, 0, none⟩ u).setCell ⟨b, 1, none⟩ v) b u v := by
  have h1 : (w.setCell ⟨b, 0, none⟩ u).cell? ⟨b, 1, none⟩ = some y := by rw [World.cell?_setCell_other _ _ _ _ (by simp)]; exact h.c1
  refine ⟨?_, World.cell?_setCell_same _ _ _ h1, ?_, ?_⟩
  · rw [World.cell?_setCell_other _ _ _ _ (by simp)]
    exact World.cell?_setCell_same _ _ _ h.c0
  · rw [World.frozen?_setCell, World.frozen?_setCell]; exact h.f0
  · rw [World.frozen?_setCell, World.frozen?_setCell]; exact h.f1
theorem Pair.put_far {w : World} {b : Nat} {p : Addr} {z : Value} (hp : w.cell? p = some z) (hne : p.block ≠ b) (u v : Value) : ((w.setCell ⟨b, 0, none⟩ u).setCell ⟨b, 1, none⟩ v).cell? p = some z := by
  rw [World.cell?_setCell_other _ _ _ _ (by intro e; rw [← e] at hne; exact hne rfl), World.cell?_setCell_other _ _ _ _ (by intro e; rw [← e] at hne; exact hne rfl)]
  exact hp
theorem FltV.put {w : World} {b : Nat} {x y : Int} {E : Nat → Addr} {f : Nat × Int} {v : Value} (hp : Pair w b (.int .i64 x) (.int .i64 y)) (h : FltV w E f v) (s t : Value) : FltV ((w.setCell ⟨b, 0, none⟩ s).setCell ⟨b, 1, none⟩ t) E f v := by
  rcases h with h | h | ⟨i, m, h1, h2, h3, h4⟩
  · exact .inl h
  · exact .inr (.inl h)
  · have hne : m ≠ b := by
      rintro rfl
      have h5 := h4.c1
      rw [hp.c1] at h5
      simp [errV] at h5
    exact .inr (.inr ⟨i, m, h1, h2, h3, ⟨Pair.put_far h4.c0 hne _ _, Pair.put_far h4.c1 hne _ _⟩⟩)
theorem idxT_in {L : List ByteArray} {s : ByteArray} (h : s ∈ L) : ∃ j : Nat, idxT L s = j ∧ j < L.length := by
  obtain ⟨h1, h2, h3⟩ := idxT_range L s
  have h4 := h3.2 h
  exact ⟨(idxT L s).toNat, by omega, by omega⟩
theorem idxT_out {L : List ByteArray} {s : ByteArray} (h : s ∉ L) : idxT L s = -1 := by
  obtain ⟨h1, h2, h3⟩ := idxT_range L s
  have h4 : ¬ 0 ≤ idxT L s := fun e => h (h3.1 e)
  omega
/-- of both lists all that lies before the place i is in L. -/
def AllIn (L A B : List ByteArray) (i : Nat) : Prop := (∀ j, j < i → j < A.length → (A[j]?.getD ⟨#[]⟩) ∈ L) ∧ (∀ j, A.length + j < i → (B[j]?.getD ⟨#[]⟩) ∈ L)
theorem AllIn.nextA {L A B : List ByteArray} {i : Nat} (h : AllIn L A B i) (hi : i < A.length) (hx : (A[i]?.getD ⟨#[]⟩) ∈ L) : AllIn L A B (i + 1) :=
  ⟨fun j h1 h2 => by
    by_cases e : j = i
    · rw [e]; exact hx
    · exact h.1 j (by omega) h2, fun j h1 => h.2 j (by omega)⟩
theorem AllIn.nextB {L A B : List ByteArray} {j : Nat} (h : AllIn L A B (A.length + j)) (hx : (B[j]?.getD ⟨#[]⟩) ∈ L) : AllIn L A B (A.length + j + 1) :=
  ⟨fun k h1 h2 => h.1 k (by omega) h2, fun k h1 => by
    by_cases e : k = j
    · rw [e]; exact hx
    · exact h.2 k (by omega)⟩
theorem AllIn.missA {L A B : List ByteArray} {i : Nat} (h : AllIn L A B i) (hi : i < A.length) (hx : (A[i]?.getD ⟨#[]⟩) ∉ L) : meetF L A B = (5, (i : Int)) :=
  meetF_a (missF_at hi (fun j hj => h.1 j hj (by omega)) hx)
theorem AllIn.missB {L A B : List ByteArray} {j : Nat} (h : AllIn L A B (A.length + j)) (hj : j < B.length) (hx : (B[j]?.getD ⟨#[]⟩) ∉ L) : meetF L A B = (5, (j : Int)) :=
  meetF_b (missF_none (fun k hk => h.1 k (by omega) hk)) (missF_at hj (fun k hk => h.2 k (by omega)) hx)
theorem AllIn.all {L A B : List ByteArray} {i : Nat} (h : AllIn L A B i) (hi : A.length + B.length ≤ i) : meetF L A B = (0, -1) :=
  meetF_ok (missF_none (fun j hj => h.1 j (by omega) hj)) (missF_none (fun j hj => h.2 j (by omega)))
/-- what Meet answers, as one pair. -/
def MeetP (w w' : World) (E : Nat → Addr) (n k : Int) (L A B : List ByteArray) (lv bv : Value) : Prop :=
  ((configF n k L).1 ≠ 0 ∧ FltV w' E (configF n k L) bv ∧ lv = .slice none 0 0) ∨
  ((configF n k L).1 = 0 ∧ (meetF L A B).1 ≠ 0 ∧ FltV w' E (meetF L A B) bv ∧ lv = .slice none 0 0) ∨
  ((configF n k L).1 = 0 ∧ (meetF L A B).1 = 0 ∧ OwnT w.heap.size w' lv (bothL L A B) ∧ bv = .nilIface)
theorem MeetOut.pair {w w' : World} {E : Nat → Addr} {n k : Int} {L A B : List ByteArray} {e : Ending} (h : MeetOut w w' E n k L A B e) :
    Below w.heap.size w w' ∧ ∃ a len cap bv, e = .returned (.tuple #[.slice a len cap, bv]) ∧ MeetP w w' E n k L A B (.slice a len cap) bv := by
  rcases h with ⟨hb, ⟨h1, v, h2, rfl⟩ | ⟨h1, h2, v, h3, rfl⟩ | ⟨h1, h2, v, h3, rfl⟩⟩
  · exact ⟨hb, _, _, _, _, rfl, .inl ⟨h1, h2, rfl⟩⟩
  · exact ⟨hb, _, _, _, _, rfl, .inr (.inl ⟨h1, h2, h3, rfl⟩)⟩
  · obtain ⟨a, c, rfl, _⟩ := h3.read
    exact ⟨hb, _, _, _, _, rfl, .inr (.inr ⟨h1, h2, h3, rfl⟩)⟩
end Go.Proofs.YtmaalkjimppnkaaDoor
