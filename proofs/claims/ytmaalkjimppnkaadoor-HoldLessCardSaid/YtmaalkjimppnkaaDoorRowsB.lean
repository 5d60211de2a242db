/- Slices of rows of bytes that are read: what a walk is told of them, and how they come in. -/
import Derived.Test.YtmaalkjimppnkaaDoorErr
import Derived.Deep.Matrix
namespace Go.Proofs.YtmaalkjimppnkaaDoor
open Go.RowKit Go.ChangeShapes Go.WideShapes

/-- The slice at address a reads as the rows L of bytes, in blocks below n₀. -/
def RowsAt (n₀ : Nat) (w : World) (a : Option Addr) (L : List (List Nat)) : Prop :=
  L = [] ∨ ∃ (b off : Nat) (A : Nat → Option Addr) (C : Nat → Nat), a = some ⟨b, off, none⟩ ∧ b < n₀ ∧ ∀ i, i < L.length →
    w.cell? ⟨b, off + i, none⟩ = some (.slice (A i) (L[i]?.getD []).length (C i)) ∧ (L[i]?.getD []).length ≤ C i ∧ C i ≤ maxLen ∧ RowAt n₀ w (A i) (L[i]?.getD []) ∧ (A i = none → C i = 0)
theorem RowsAt.below {n₀ : Nat} {A B : World} (h : Below n₀ A B) {a : Option Addr} {L : List (List Nat)} : RowsAt n₀ A a L → RowsAt n₀ B a L
  | .inl e => .inl e
  | .inr ⟨b, off, X, C, e, hb, hc⟩ => .inr ⟨b, off, X, C, e, hb, fun j hj => ⟨(h.cell (p := ⟨b, off + j, none⟩) hb).trans (hc j hj).1, (hc j hj).2.1, (hc j hj).2.2.1, (hc j hj).2.2.2.1.below h, (hc j hj).2.2.2.2⟩⟩
theorem RowsAt.mono {n₀ n₁ : Nat} {A : World} (h : n₀ ≤ n₁) {a : Option Addr} {L : List (List Nat)} : RowsAt n₀ A a L → RowsAt n₁ A a L
  | .inl e => .inl e
  | .inr ⟨b, off, X, C, e, hb, hc⟩ => .inr ⟨b, off, X, C, e, by omega, fun j hj => ⟨(hc j hj).1, (hc j hj).2.1, (hc j hj).2.2.1, (hc j hj).2.2.2.1.mono h, (hc j hj).2.2.2.2⟩⟩
theorem RowsAt.take {n₀ : Nat} {A : World} {a : Option Addr} {L : List (List Nat)} (k : Nat) : RowsAt n₀ A a L → RowsAt n₀ A a (L.take k)
  | .inl e => .inl (by rw [e]; simp)
  | .inr ⟨b, off, X, C, e, hb, hc⟩ => .inr ⟨b, off, X, C, e, hb, fun j hj => by
      have hj' : j < L.length := by simp at hj; omega
      have hk : j < k := by simp at hj; omega
      rw [List.getElem?_take, if_pos hk]
      exact hc j hj'⟩
/-- All rows hold bytes. -/
def BytesR (L : List (List Nat)) : Prop := ∀ r ∈ L, Bytes r
theorem BytesR.at {L : List (List Nat)} (h : BytesR L) (i : Nat) : Bytes (L[i]?.getD []) := by
  by_cases hj : i < L.length
  · rw [List.getElem?_eq_getElem hj]; exact h _ (List.getElem_mem hj)
  · rw [List.getElem?_eq_none (by omega)]; exact fun x hx => absurd hx (by simp)

/-- What the walk is told of a slice of rows that came in. -/
structure RowsIn (w : World) (a : Option Addr) (len cap : Nat) (L : List (List Nat)) : Prop where
  len_ : L.length = len
  cap_ : len ≤ cap
  max_ : cap ≤ maxLen
  byt : BytesR L
  rows : RowsAt w.heap.size w a L

theorem slice_at {w : World} {x : Addr} {n : Nat} {V : Nat → Value} (h : ∀ i, i < n → w.cell? (x.add i) = some (V i)) (hp : 0 < n) : ∃ b off, x = ⟨b, off, none⟩ ∧ b < w.heap.size ∧ ∀ j, j < n → w.cell? ⟨b, off + j, none⟩ = some (V j) := by
  obtain ⟨b, off, spot⟩ := x
  have hspot : spot = none := by simpa [Addr.add] using World.cell?_spot (h 0 hp)
  subst hspot
  have hc : ∀ j, j < n → w.cell? ⟨b, off + j, none⟩ = some (V j) := fun j hj => by rw [← Go.WideShapes.add_plain]; exact h j hj
  refine ⟨b, off, rfl, ?_, hc⟩
  have h1 := hc 0 hp
  rcases Nat.lt_or_ge b w.heap.size with h | h
  · exact h
  · simp [World.cell?, Array.getElem?_eq_none h] at h1

theorem cellsRow : Tryd.prog.cellsOf 122 = 1 := by kernel_rfl
theorem cellsByte : Tryd.prog.cellsOf 5 = 1 := by kernel_rfl

theorem open_rows {H : Type} {enc : TypeId × Value → H} {W : World} {a : Option Addr} {len cap : Nat} {d : DataW H} {p : List MemPlace} (h : DataW.Trod enc Tryd.prog W 0 (fun _ => true) true 155 (.slice a len cap) d p) :
    ∃ L, RowsIn W a len cap L := by
  obtain ⟨fuel, hf⟩ := h
  rcases Go.Deep.open_int_rows Tryd.underlying155 Tryd.underlying122 Tryd.underlying5 cellsRow cellsByte hf with ⟨hcs, _⟩ | ⟨x, l, c, A, Ln, C, Z, hcs, _, hl, hm, _, hr⟩
  · simp [Value.cells] at hcs
    obtain ⟨rfl, rfl, rfl⟩ := hcs
    exact ⟨[], rfl, Nat.le_refl _, by simp [maxLen], fun _ h => absurd h (by simp), .inl rfl⟩
  · simp [Value.cells] at hcs
    obtain ⟨rfl, rfl, rfl⟩ := hcs
    have each : ∀ i, i < cap → ∃ l : List Nat, l.length = Ln i ∧ Bytes l ∧ RowAt W.heap.size W (A i) l := fun i hi => by
      obtain ⟨_, h1, h2, h3, h4, h5, h6⟩ := hr i hi
      have : IsRow .u8 W (A i) (Ln i) (C i) (Z i) := by
        cases ha : A i with
        | none =>
          have h0 := h5 ha
          exact .inl ⟨rfl, by omega, h0, List.length_eq_zero_iff.1 (by omega)⟩
        | some y => exact .inr ⟨y, rfl, h1, h2, h3, fun j hj => (h6 y ha).2 j (by omega), h4⟩
      obtain ⟨l, g1, g2, g3, _⟩ := row_of_isRow this
      exact ⟨l, g1, g2, g3⟩
    obtain ⟨f, hff⟩ := Go.Deep.choose_lt each
    refine ⟨(List.range len).map f, by simp, hl, hm, fun r hr => ?_, ?_⟩
    · obtain ⟨i, hi, rfl⟩ := List.mem_map.1 hr
      exact (hff i (by have := List.mem_range.1 hi; omega)).2.1
    · by_cases h0 : len = 0
      · left; subst h0; rfl
      · obtain ⟨b, off, rfl, hb, hc⟩ := slice_at (fun i hi => (hr i hi).1) (show 0 < cap by omega)
        refine .inr ⟨b, off, A, C, rfl, hb, fun i hi => ?_⟩
        simp at hi
        have hi2 : i < cap := by omega
        have e : ((List.range len).map f)[i]?.getD [] = f i := by simp [hi]
        rw [e, (hff i hi2).1]
        exact ⟨hc i hi2, (hr i hi2).2.1, (hr i hi2).2.2.1, (hff i hi2).2.2, (hr i hi2).2.2.2.2.2.1⟩

/-! ### a matrix as rows of bytes -/
/-- the entries of a list of rows. -/
def ent (L : List (List Nat)) : Nat → Nat → Nat := fun i j => (L[i]?.getD [])[j]?.getD 0
/-- so many rows, columns of a matrix. -/
def rowsOf (M : Nat → Nat → Nat) (n C : Nat) : List (List Nat) := (List.range n).map fun i => (List.range C).map (M i)
theorem rowsOf_length (M : Nat → Nat → Nat) (n C : Nat) : (rowsOf M n C).length = n := by simp [rowsOf]
theorem rowsOf_at (M : Nat → Nat → Nat) {n C i : Nat} (hi : i < n) : (rowsOf M n C)[i]?.getD [] = (List.range C).map (M i) := by simp [rowsOf, hi]
theorem ent_rowsOf (M : Nat → Nat → Nat) {n C i j : Nat} (hi : i < n) (hj : j < C) : ent (rowsOf M n C) i j = M i j := by unfold ent; rw [rowsOf_at M hi]; simp [hj]
theorem rowsOf_ent {L : List (List Nat)} {C : Nat} (h : ∀ i, i < L.length → (L[i]?.getD []).length = C) : rowsOf (ent L) L.length C = L := by
  apply List.ext_getElem
  · simp [rowsOf]
  · intro i h1 h2
    have hC := h i h2
    rw [List.getElem?_eq_getElem h2] at hC
    simp at hC
    simp only [rowsOf, List.getElem_map, List.getElem_range]
    apply List.ext_getElem
    · simp [hC]
    · intro j h3 h4
      simp [ent, h2, h4]
theorem ent_by {L : List (List Nat)} (h : BytesR L) : ∀ i j, ent L i j < 256 := fun i j => (h.at i).at j
theorem bytesR_rowsOf {M : Nat → Nat → Nat} (h : ∀ i j, M i j < 256) (n C : Nat) : BytesR (rowsOf M n C) := fun r hr x hx => by
  obtain ⟨i, _, rfl⟩ := List.mem_map.1 hr
  obtain ⟨j, _, rfl⟩ := List.mem_map.1 hx
  exact h i j
/-- a matrix that the document takes for one: so many rows, each of as many columns. -/
def isMat (L : List (List Nat)) : Bool := decide (1 ≤ L.length ∧ L.length ≤ 16 ∧ ∀ r ∈ L, 1 ≤ r.length ∧ r.length ≤ 16 ∧ r.length = (L[0]?.getD []).length)
end Go.Proofs.YtmaalkjimppnkaaDoor
