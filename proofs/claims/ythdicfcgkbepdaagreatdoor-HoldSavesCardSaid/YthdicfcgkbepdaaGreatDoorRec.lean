/- Slices of structs of the call's own, whatever the struct. -/
import Derived.Test.YthdicfcgkbepdaaGreatDoorBytes
import Derived.Maps.AppendAt
import Derived.Laws.AppendOwnNone
import Derived.Below
namespace Go.Proofs.YthdicfcgkbepdaaGreatDoor
open Go.RowKit

theorem flat_length (m : Nat) : ∀ l : List (List Value), (∀ x ∈ l, x.length = m) → l.flatten.length = l.length * m
  | [], _ => by simp
  | x :: r, h => by
    rw [List.flatten_cons, List.length_append, flat_length m r (fun y hy => h y (List.mem_cons_of_mem _ hy)), h x (List.mem_cons_self ..), List.length_cons, Nat.add_mul]
    omega
theorem flat_at (m : Nat) : ∀ (l : List (List Value)) (i j : Nat), (∀ x ∈ l, x.length = m) → i < l.length → j < m → l.flatten[i * m + j]? = (l[i]?.getD [])[j]?
  | [], _, _, _, h, _ => by simp at h
  | x :: r, 0, j, h, _, hj => by
    rw [List.flatten_cons, List.getElem?_append_left (by rw [h x (List.mem_cons_self ..)]; omega)]
    simp
  | x :: r, i + 1, j, h, hi, hj => by
    have hx := h x (List.mem_cons_self ..)
    rw [List.flatten_cons, List.getElem?_append_right (by rw [hx, Nat.add_mul]; omega)]
    have e : (i + 1) * m + j - x.length = i * m + j := by rw [hx, Nat.add_mul]; omega
    rw [e, flat_at m r i j (fun y hy => h y (List.mem_cons_of_mem _ hy)) (by simpa using hi) hj]
    simp
/-- v owns the structs l, each of m cells. -/
def OwnRec (T : TypeId) (m B : Nat) (w : World) (v : Value) (l : List (List Value)) : Prop := (∀ x ∈ l, x.length = m) ∧ w.ownsRow B T m v l.length l.flatten
theorem OwnRec.nil (T : TypeId) (m B : Nat) (w : World) : OwnRec T m B w (.slice none 0 0) [] := ⟨(fun _ h => by cases h), World.ownsRow_nil _ _ _ _⟩
theorem OwnRec.lt {T : TypeId} {m B : Nat} {w : World} {v : Value} {l : List (List Value)} (h : OwnRec T m B w v l) : ∀ k, v.ownBlock = some k → B ≤ k ∧ k < w.heap.size := World.ownsRow.lt h.2
theorem OwnRec.kept {T : TypeId} {m B : Nat} {w w' : World} {row : Option Nat} {v : Value} {l : List (List Value)} (h : OwnRec T m B w v l) (hg : w.grownBy w' row) (hne : v.ownBlock = none ∨ v.ownBlock ≠ row) : OwnRec T m B w' v l := ⟨h.1, World.ownsRow.kept h.2 hg hne⟩
theorem OwnRec.below {T : TypeId} {m B n₀ : Nat} {w w' : World} {v : Value} {l : List (List Value)} (h : OwnRec T m B w v l) (hb : Below n₀ w w') (hn : w.heap.size ≤ n₀ := by exact Nat.le_refl _) : OwnRec T m B w' v l :=
  OwnRec.kept (row := none) h ⟨hb.os, hb.tape, hb.output, hb.size, fun k hk _ => hb.block k (by omega)⟩ (by cases v.ownBlock <;> simp)
theorem OwnRec.lower {T : TypeId} {m B B' : Nat} {w : World} {v : Value} {l : List (List Value)} (h : OwnRec T m B w v l) (hB : B' ≤ B) : OwnRec T m B' w v l := by
  refine ⟨h.1, ?_⟩
  have h0 := h.2
  unfold World.ownsRow at *
  refine ⟨h0.1, ?_⟩
  rcases h0.2 with h2 | ⟨g, cap, cur, e, hb, h3⟩
  · exact .inl h2
  · exact .inr ⟨g, cap, cur, e, Nat.le_trans hB hb, h3⟩
theorem OwnRec.heap {T : TypeId} {m B : Nat} {w w' : World} {v : Value} {l : List (List Value)} (h : OwnRec T m B w v l) (hg : ∀ g, v.ownBlock = some g → w'.heap[g]? = w.heap[g]?) : OwnRec T m B w' v l := by
  refine ⟨h.1, h.2.1, ?_⟩
  rcases h.2.2 with hn | ⟨g, cap, cur, rfl, hb, hgg, rest⟩
  · exact .inl hn
  · exact .inr ⟨g, cap, cur, rfl, hb, (hg g rfl).trans hgg, rest⟩
/-- structs that are read. -/
def RecR (m n₀ : Nat) (w : World) (a : Option Addr) (l : List (List Value)) : Prop :=
  l = [] ∨ ∃ b off, a = some ⟨b, off, none⟩ ∧ b < n₀ ∧ ∀ i j, i < l.length → j < m → w.cell? ⟨b, off + i * m + j, none⟩ = (l[i]?.getD [])[j]?
theorem RecR.below {m n₀ : Nat} {A B : World} (h : Below n₀ A B) {a : Option Addr} {l : List (List Value)} : RecR m n₀ A a l → RecR m n₀ B a l
  | .inl e => .inl e
  | .inr ⟨b, off, e, hb, hc⟩ => .inr ⟨b, off, e, hb, fun i j hi hj => (h.cell (p := ⟨b, off + i * m + j, none⟩) hb).trans (hc i j hi hj)⟩
theorem RecR.mono {m n₀ n₁ : Nat} {A : World} (h : n₀ ≤ n₁) {a : Option Addr} {l : List (List Value)} : RecR m n₀ A a l → RecR m n₁ A a l
  | .inl e => .inl e
  | .inr ⟨b, off, e, hb, hc⟩ => .inr ⟨b, off, e, by omega, hc⟩
theorem OwnRec.read {T : TypeId} {m B : Nat} {w : World} {v : Value} {l : List (List Value)} (h : OwnRec T m B w v l) :
    ∃ a cap, v = .slice a l.length cap ∧ l.length ≤ cap ∧ cap ≤ maxLen ∧ (a = none → cap = 0) ∧ (∀ x, a = some x → B ≤ x.block ∧ x.block < w.heap.size ∧ x.off = 0) ∧ RecR m w.heap.size w a l := by
  rcases h.2.2 with ⟨rfl, hn⟩ | ⟨g, cap, cur, rfl, hb, hg, hc, hm, hs, ht⟩
  · have : l = [] := List.length_eq_zero_iff.1 hn
    subst this
    exact ⟨none, 0, rfl, Nat.le_refl _, by simp [maxLen], fun _ => rfl, (fun x e => by cases e), .inl rfl⟩
  · have hh : w.ownsRow B T m (.slice (some ⟨g, 0, none⟩) l.length cap) l.length l.flatten := ⟨h.2.1, .inr ⟨g, cap, cur, rfl, hb, hg, hc, hm, hs, ht⟩⟩
    have hlt : g < w.heap.size := (Array.getElem?_eq_some_iff.1 hg).1
    refine ⟨_, cap, rfl, hc, hm, (fun e => by cases e), (fun x e => by cases e; exact ⟨hb, hlt, rfl⟩), .inr ⟨g, 0, rfl, hlt, fun i j hi hj => ?_⟩⟩
    have hlen := flat_length m l h.1
    rw [Nat.zero_add, ← flat_at m l i j h.1 hi hj]
    refine hh.cellAt (i * m + j) ?_
    have : (i + 1) * m ≤ l.length * m := Nat.mul_le_mul_right _ hi
    rw [Nat.add_mul] at this
    omega
/-- append(s, u), s a slice of structs of the call's own. -/
theorem append_rec {P : Program} {ops : Array Oper} {rest : List Oper} {o : Oper} {a : Act} {Q : Exit → Act → World → Prop} {w0 : World} (T E : TypeId) (z : Value) (m bytes : Nat) (hT : P.underlying T = some (.slice E))
    (hE : (P.info? E).map (fun i => (i.zero, i.size, i.bytes)) = some (some z, m, bytes)) (hz : z.cells.size = m) (hm : 0 < m) (s x : Nat) (hgd : o.guard = none)
    (ho : o.op = .call { callee := .builtin .append, args := #[.tmp s, .tmp x], argTypes := #[T, T] }) (B : Nat) (v : Value) (l : List (List Value)) (us : List Value) (hul : us.length = m) (hu : ∀ u ∈ us, u.oneCell' = true)
    (hs : a.eval (.tmp s) = v) (hx : a.eval (.tmp x) = .slice (some ⟨w0.heap.size, 0, none⟩) 1 1) (hown : OwnRec E m B w0 v l) (hl : (l.length + 1) * bytes ≤ 140737488355328) (hl2 : l.length + 1 ≤ maxLen) (hB : B ≤ w0.heap.size)
    (h : ∀ v' w', OwnRec E m B w' v' (l ++ [us]) → (w0.alloc (.cells us.toArray E)).grownBy w' v.ownBlock → (v'.ownBlock = v.ownBlock ∨ v'.ownBlock = some (w0.heap.size + 1)) → wpList P ops Q rest (a.put o.dst v') w') :
    wpList P ops Q (o :: rest) a (w0.alloc (.cells us.toArray E)) := by
  obtain ⟨i, hi, hz0, hz1, hz2⟩ := info_parts hE
  refine wpList_append_own_at _ hgd (.tmp s) (.tmp x) T ho B E i z m bytes hT hi hz0 hz1 hz2 hz hm v l.length l.flatten hs (World.ownsRow.alloc hown.2 _) ⟨w0.heap.size, 0, none⟩ 1 1 us hx (by rw [hul, Nat.one_mul]) (fun j u hj => ?_) hu hl2 hl (by simp; omega) ?_
  · rw [Go.WideShapes.add_plain, Nat.zero_add, World.cell?_alloc_at _ _ _ _ rfl]
    simpa using hj
  · intro v' w' h1 h2 _ h4
    refine h v' w' ⟨fun y hy => ?_, ?_⟩ h2 (by simpa using h4)
    · rcases List.mem_append.1 hy with hy | hy
      · exact hown.1 y hy
      · rw [List.mem_singleton.1 hy, hul]
    · rw [List.length_append, List.flatten_append]
      simpa using h1
end Go.Proofs.YthdicfcgkbepdaaGreatDoor
