/- Slices of bytes that are read: what a walk is told of them. -/
import Derived.Test.YthdicfcgkbepdaaGreatDoorProg
import Derived.WalkKit
import Derived.WalkSpells
import Derived.WalkLawsBesides
import Derived.Laws.BitsAllLaws
import Derived.Lib.Hide
namespace Go.Proofs.YthdicfcgkbepdaaGreatDoor
open Go.RowKit

/-- The slice at address a reads as the bytes l, in a block below n₀. -/
def RowAt (n₀ : Nat) (w : World) (a : Option Addr) (l : List Nat) : Prop :=
  l = [] ∨ ∃ b off, a = some ⟨b, off, none⟩ ∧ b < n₀ ∧ ∀ j, j < l.length → w.cell? ⟨b, off + j, none⟩ = some (.int .u8 ((l[j]?.getD 0 : Nat) : Int))
theorem RowAt.below {n₀ : Nat} {A B : World} (h : Below n₀ A B) {a : Option Addr} {l : List Nat} : RowAt n₀ A a l → RowAt n₀ B a l
  | .inl e => .inl e
  | .inr ⟨b, off, e, hb, hc⟩ => .inr ⟨b, off, e, hb, fun j hj => (h.cell (p := ⟨b, off + j, none⟩) hb).trans (hc j hj)⟩
theorem RowAt.mono {n₀ n₁ : Nat} {A : World} (h : n₀ ≤ n₁) {a : Option Addr} {l : List Nat} : RowAt n₀ A a l → RowAt n₁ A a l
  | .inl e => .inl e
  | .inr ⟨b, off, e, hb, hc⟩ => .inr ⟨b, off, e, by omega, hc⟩
theorem RowAt.take {n₀ : Nat} {A : World} {a : Option Addr} {l : List Nat} (k : Nat) : RowAt n₀ A a l → RowAt n₀ A a (l.take k)
  | .inl e => .inl (by rw [e]; simp)
  | .inr ⟨b, off, e, hb, hc⟩ => .inr ⟨b, off, e, hb, fun j hj => by
      have hj' : j < l.length := by simp at hj; omega
      have hk : j < k := by simp at hj; omega
      rw [hc j hj', List.getElem?_take, if_pos hk]⟩
def Bytes (l : List Nat) : Prop := ∀ x ∈ l, x < 256
theorem Bytes.at {l : List Nat} (h : Bytes l) (j : Nat) : l[j]?.getD 0 < 256 := by
  by_cases hj : j < l.length
  · rw [List.getElem?_eq_getElem hj]; exact h _ (List.getElem_mem hj)
  · rw [List.getElem?_eq_none (by omega)]; decide
theorem Bytes.take {l : List Nat} (h : Bytes l) (k : Nat) : Bytes (l.take k) := fun x hx => h x (List.mem_of_mem_take hx)

/-! ### slices of the call's own -/
/-- v owns the values us (of one cell each, of type E), in blocks from B on. -/
def Own1 (E : TypeId) (B : Nat) (w : World) (v : Value) (us : List Value) : Prop := w.ownsRow B E 1 v us.length us
/-- v owns the bytes l. -/
def OwnB (B : Nat) (w : World) (v : Value) (l : List Nat) : Prop := Own1 5 B w v (l.map fun n : Nat => Value.int .u8 (n : Int))
/-- two slices of the call's own lie apart. -/
def Sep (v u : Value) : Prop := ∀ g, v.ownBlock = some g → u.ownBlock ≠ some g
theorem Sep.symm {v u : Value} (h : Sep v u) : Sep u v := fun g h1 h2 => h g h2 h1
theorem Sep.nil (u : Value) : Sep (.slice none 0 0) u := fun _ h => by cases h
theorem Own1.nil (E : TypeId) (B : Nat) (w : World) : Own1 E B w (.slice none 0 0) [] := World.ownsRow_nil _ _ _ _
theorem OwnB.nil (B : Nat) (w : World) : OwnB B w (.slice none 0 0) [] := World.ownsRow_nil _ _ _ _
theorem Own1.lt {E : TypeId} {B : Nat} {w : World} {v : Value} {us : List Value} (h : Own1 E B w v us) : ∀ k, v.ownBlock = some k → B ≤ k ∧ k < w.heap.size := World.ownsRow.lt h
theorem Own1.kept {E : TypeId} {B : Nat} {w w' : World} {row : Option Nat} {v : Value} {us : List Value} (h : Own1 E B w v us) (hg : w.grownBy w' row) (hne : v.ownBlock = none ∨ v.ownBlock ≠ row) : Own1 E B w' v us := World.ownsRow.kept h hg hne
theorem Own1.alloc {E : TypeId} {B : Nat} {w : World} {v : Value} {us : List Value} (h : Own1 E B w v us) (o : Obj) : Own1 E B (w.alloc o) v us := World.ownsRow.alloc h o
theorem Own1.below {E : TypeId} {B n₀ : Nat} {w w' : World} {v : Value} {us : List Value} (h : Own1 E B w v us) (hb : Below n₀ w w') (hn : w.heap.size ≤ n₀) : Own1 E B w' v us :=
  Own1.kept (row := none) h ⟨hb.os, hb.tape, hb.output, hb.size, fun k hk _ => hb.block k (by omega)⟩ (by cases v.ownBlock <;> simp)
theorem Own1.drewN {E : TypeId} {B : Nat} {w : World} {v : Value} {us : List Value} (h : Own1 E B w v us) (n : Nat) : Own1 E B (w.drewN n) v us :=
  Own1.kept (row := none) h ⟨rfl, rfl, rfl, Nat.le_refl _, fun _ _ _ => rfl⟩ (by cases v.ownBlock <;> simp)
/-- nil, or a head of a block. -/
theorem Own1.shape {E : TypeId} {B : Nat} {w : World} {v : Value} {us : List Value} (h : Own1 E B w v us) :
    (v = .slice none 0 0 ∧ us = []) ∨ ∃ g cap, v = .slice (some ⟨g, 0, none⟩) us.length cap ∧ B ≤ g ∧ g < w.heap.size ∧ us.length ≤ cap ∧ cap ≤ maxLen ∧ (∀ j, w.frozen? ⟨g, j, none⟩ = false) ∧ ∀ j, j < us.length → w.cell? ⟨g, j, none⟩ = us[j]? := by
  rcases h.2 with ⟨rfl, hn⟩ | ⟨g, cap, cur, rfl, hb, hg, hc, hm, hs, ht⟩
  · exact .inl ⟨rfl, List.length_eq_zero_iff.1 hn⟩
  · have hh : w.ownsRow B E 1 (.slice (some ⟨g, 0, none⟩) us.length cap) us.length us := ⟨h.1, .inr ⟨g, cap, cur, rfl, hb, hg, hc, hm, hs, ht⟩⟩
    exact .inr ⟨g, cap, rfl, hb, (Array.getElem?_eq_some_iff.1 hg).1, hc, hm, fun j => hh.frozenAt j, fun j hj => hh.cellAt j (by simpa using hj)⟩
theorem OwnB.row {B : Nat} {w : World} {v : Value} {l : List Nat} (h : OwnB B w v l) : ∃ a cap, v = .slice a l.length cap ∧ l.length ≤ cap ∧ cap ≤ maxLen ∧ RowAt w.heap.size w a l := by
  rcases Own1.shape h with ⟨rfl, hl⟩ | ⟨g, cap, rfl, _, hg, hc, hm, _, hcell⟩
  · have : l = [] := by simpa using hl
    subst this
    exact ⟨none, 0, rfl, by simp, by simp [maxLen], .inl rfl⟩
  · refine ⟨_, cap, by simp, by simpa using hc, hm, .inr ⟨g, 0, rfl, hg, fun j hj => ?_⟩⟩
    rw [Nat.zero_add, hcell j (by simpa using hj)]
    simp [hj]
theorem World.grownBy.below {B : Nat} {w w' : World} {row : Option Nat} (hg : w.grownBy w' row) (hB : B ≤ w.heap.size) (hr : ∀ k, row = some k → B ≤ k) : Below B w w' := (Below.refl B w).grown hg hB hr

theorem cell_of_heap {w : World} {b : Nat} {cs : Array Value} {t : TypeId} {fz : Nat × Nat} (h : w.heap[b]? = some (.cells cs t fz)) (i : Nat) : w.cell? ⟨b, i, none⟩ = cs[i]? := by
  simp [World.cell?, h]
theorem frozen_of_heap {w : World} {b : Nat} {cs : Array Value} {t : TypeId} (h : w.heap[b]? = some (.cells cs t (0, 0))) (i : Nat) : w.frozen? ⟨b, i, none⟩ = false := by
  simp [World.frozen?, h]
/-- append(s, u), s a slice of the call's own, u of one cell. -/
theorem append_one {P : Program} {ops : Array Oper} {rest : List Oper} {o : Oper} {a : Act} {Q : Exit → Act → World → Prop} {w0 : World} (T E : TypeId) (z : Value) (bytes : Nat) (hT : P.underlying T = some (.slice E))
    (hE : (P.info? E).map (fun i => (i.zero, i.size, i.bytes)) = some (some z, 1, bytes)) (hz : z.cells.size = 1) (s x : Nat) (hgd : o.guard = none)
    (ho : o.op = .call { callee := .builtin .append, args := #[.tmp s, .tmp x], argTypes := #[T, T] }) (B : Nat) (v : Value) (us : List Value) (u : Value) (hu : u.oneCell' = true)
    (hs : a.eval (.tmp s) = v) (hx : a.eval (.tmp x) = .slice (some ⟨w0.heap.size, 0, none⟩) 1 1) (hown : Own1 E B w0 v us) (hl : (us.length + 1) * bytes ≤ 140737488355328) (hl2 : us.length + 1 ≤ maxLen) (hB : B ≤ w0.heap.size)
    (h : ∀ v' w', Own1 E B w' v' (us ++ [u]) → (w0.alloc (.cells #[u] E)).grownBy w' v.ownBlock → (v'.ownBlock = v.ownBlock ∨ v'.ownBlock = some (w0.heap.size + 1)) → wpList P ops Q rest (a.put o.dst v') w') :
    wpList P ops Q (o :: rest) a (w0.alloc (.cells #[u] E)) := by
  obtain ⟨i, hi, hz0, hz1, hz2⟩ := info_parts hE
  refine wpList_append_own_at _ hgd (.tmp s) (.tmp x) T ho B E i z 1 bytes hT hi hz0 hz1 hz2 hz (by decide) v us.length us hs (World.ownsRow.alloc hown _) ⟨w0.heap.size, 0, none⟩ 1 1 [u] hx rfl (cell_one_new _ _ _) (by simpa using hu) hl2 hl (by simp; omega) ?_
  intro v' w' h1 h2 _ h4
  refine h v' w' ?_ h2 (by simpa using h4)
  unfold Own1
  rw [List.length_append]
  exact h1
/-- what an append to v leaves of another one's own. -/
theorem Own1.other {E : TypeId} {B : Nat} {w0 w' : World} {v u : Value} {us : List Value} {o : Obj} (hu : Own1 E B w0 u us) (hs : Sep v u) (hg : (w0.alloc o).grownBy w' v.ownBlock) : Own1 E B w' u us := by
  refine Own1.kept (hu.alloc o) hg ?_
  cases hv : v.ownBlock with
  | none => cases u.ownBlock <;> simp
  | some g =>
    right
    exact hs g hv
theorem Sep.other {E : TypeId} {B : Nat} {w0 : World} {v v' u : Value} {us : List Value} (hu : Own1 E B w0 u us) (hs : Sep v u) (hat : v'.ownBlock = v.ownBlock ∨ v'.ownBlock = some (w0.heap.size + 1)) : Sep v' u := by
  intro g hg hu'
  rcases hat with h | h
  · exact hs g (h ▸ hg) hu'
  · rw [h] at hg
    obtain rfl := Option.some.inj hg
    have := (hu.lt _ hu').2
    omega
theorem info_uint8 : (Tryz.prog.info? 5).map (fun i => (i.zero, i.size, i.bytes)) = some (some (.int .u8 0), 1, 1) := by kernel_rfl
/-- append(s, c) of a byte. -/
theorem append_byte {ops : Array Oper} {rest : List Oper} {o : Oper} {a : Act} {Q : Exit → Act → World → Prop} {w0 : World} (s x : Nat) (hgd : o.guard = none)
    (ho : o.op = .call { callee := .builtin .append, args := #[.tmp s, .tmp x], argTypes := #[53, 53] }) (B : Nat) (v : Value) (l : List Nat) (c : Nat)
    (hs : a.eval (.tmp s) = v) (hx : a.eval (.tmp x) = .slice (some ⟨w0.heap.size, 0, none⟩) 1 1) (hown : OwnB B w0 v l) (hl : l.length + 1 ≤ 140737488355328) (hB : B ≤ w0.heap.size)
    (h : ∀ v' w', OwnB B w' v' (l ++ [c]) → (w0.alloc (.cells #[.int .u8 (c : Int)] 5)).grownBy w' v.ownBlock → (v'.ownBlock = v.ownBlock ∨ v'.ownBlock = some (w0.heap.size + 1)) → wpList Tryz.prog ops Q rest (a.put o.dst v') w') :
    wpList Tryz.prog ops Q (o :: rest) a (w0.alloc (.cells #[.int .u8 (c : Int)] 5)) := by
  refine append_one 53 5 (.int .u8 0) 1 Tryz.underlying53 info_uint8 rfl s x hgd ho B v _ _ rfl hs hx hown (by simpa using hl) (by simp [maxLen]; omega) hB ?_
  intro v' w' h1 h2 h3
  exact h v' w' (by unfold OwnB; rw [List.map_append]; exact h1) h2 h3
end Go.Proofs.YthdicfcgkbepdaaGreatDoor
