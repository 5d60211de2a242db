/- Integers that come in; a list of what was picked and the marks beside it. -/
import Derived.Test.YtmaalkjimppnkaaDoorOwnR
import Derived.Test.YtmaalkjimppnkaaDoorErr
namespace Go.Proofs.YtmaalkjimppnkaaDoor
open Go.RowKit

/-- so many integers stand there. -/
def IntsAt (n₀ : Nat) (w : World) (a : Option Addr) (len : Nat) (z : Nat → Int) : Prop := len = 0 ∨ ∃ b off, a = some ⟨b, off, none⟩ ∧ b < n₀ ∧ ∀ j, j < len → w.cell? ⟨b, off + j, none⟩ = some (.int .i64 (z j))
theorem IntsAt.below {n₀ : Nat} {A B : World} (h : Below n₀ A B) {a : Option Addr} {len : Nat} {z : Nat → Int} : IntsAt n₀ A a len z → IntsAt n₀ B a len z
  | .inl e => .inl e
  | .inr ⟨b, off, e, hb, hc⟩ => .inr ⟨b, off, e, hb, fun j hj => (h.cell (p := ⟨b, off + j, none⟩) hb).trans (hc j hj)⟩
theorem IntsAt.mono {n₀ n₁ : Nat} {A : World} (h : n₀ ≤ n₁) {a : Option Addr} {len : Nat} {z : Nat → Int} : IntsAt n₀ A a len z → IntsAt n₁ A a len z
  | .inl e => .inl e
  | .inr ⟨b, off, e, hb, hc⟩ => .inr ⟨b, off, e, by omega, hc⟩
theorem ints_of_isRow {w : World} {a : Option Addr} {len cap : Nat} {zs : List Int} (h : IsRow .i64 w a len cap zs) : ∃ z : Nat → Int, IntsAt w.heap.size w a len z ∧ (∀ j, -9223372036854775808 ≤ z j ∧ z j ≤ 9223372036854775807) ∧ len ≤ maxLen ∧ len ≤ cap := by
  rcases h with ⟨rfl, rfl, rfl, rfl⟩ | ⟨x, rfl, hl, hm, hz, hc, hwf⟩
  · exact ⟨fun _ => 0, .inl rfl, fun _ => ⟨by show (-9223372036854775808 : Int) ≤ 0; omega, by show (0 : Int) ≤ 9223372036854775807; omega⟩, by simp [maxLen], Nat.le_refl _⟩
  · refine ⟨fun j => zs.getD j 0, ?_, fun j => ?_, by omega, hl⟩
    · by_cases h0 : zs.length = 0
      · left; omega
      · obtain ⟨b, off, rfl, hcell⟩ := ints_at hc (by omega)
        refine .inr ⟨b, off, rfl, ?_, fun j hj => hcell j (by omega)⟩
        have h1 := hcell 0 (by omega)
        rcases Nat.lt_or_ge b w.heap.size with h | h
        · exact h
        · simp [World.cell?, Array.getElem?_eq_none h] at h1
    · by_cases hj : j < zs.length
      · have h1 := hwf (zs.getD j 0) (by simp [List.getD, List.getElem?_eq_getElem hj])
        exact bounds_i64 h1
      · simp [List.getD, List.getElem?_eq_none (show zs.length ≤ j by omega)]
theorem Own1.form {E : TypeId} {B : Nat} {w : World} {v : Value} {us : List Value} (h : Own1 E B w v us) : ∃ a cap, v = .slice a us.length cap ∧ us.length ≤ cap := by
  rcases h.shape with ⟨e, rfl⟩ | ⟨g, cap, e, _, _, hc, _⟩
  · exact ⟨none, 0, e, Nat.le_refl _⟩
  · exact ⟨_, cap, e, hc⟩

/-- v owns what was picked; block u bears the marks. -/
structure Picked (E : TypeId) (B : Nat) (w : World) (v : Value) (u n : Nat) (head : Nat → Value) (ps us : List Nat) : Prop where
  own : Own1 E B w v (ps.map head)
  mark : ∀ j, j < n → w.cell? ⟨u, j, none⟩ = some (.bool (decide (j ∈ us)))
  free : ∀ j, j < n → w.frozen? ⟨u, j, none⟩ = false
  off : v.ownBlock ≠ some u
  lt : u < w.heap.size
theorem Picked.append {E : TypeId} {B : Nat} {w0 w' : World} {v v' : Value} {u n : Nat} {head : Nat → Value} {ps us : List Nat} {o : Obj} {p : Nat} (h : Picked E B w0 v u n head ps us)
    (hown : Own1 E B w' v' (ps.map head ++ [head p])) (hg : (w0.alloc o).grownBy w' v.ownBlock) (hat : v'.ownBlock = v.ownBlock ∨ v'.ownBlock = some (w0.heap.size + 1)) : Picked E B w' v' u n head (ps ++ [p]) us := by
  have hb : w'.heap[u]? = w0.heap[u]? := (hg.block u (by have := h.lt; simp; omega) (fun e => h.off e.symm)).trans (heap_alloc_lt _ h.lt)
  refine ⟨by rw [List.map_append]; exact hown, fun j hj => ?_, fun j hj => ?_, ?_, ?_⟩
  · have := h.mark j hj
    unfold World.cell? at this ⊢; rw [hb]; exact this
  · have := h.free j hj
    unfold World.frozen? at this ⊢; rw [hb]; exact this
  · rcases hat with e | e
    · rw [e]; exact h.off
    · rw [e]; intro e2
      have := Option.some.inj e2
      have := h.lt
      omega
  · have h1 := hg.size
    have h2 := h.lt
    simp at h1; omega
theorem Picked.set {E : TypeId} {B : Nat} {w : World} {v : Value} {u n : Nat} {head : Nat → Value} {ps us : List Nat} {p : Nat} (h : Picked E B w v u n head ps us) (hp : p < n) : Picked E B (w.setCell ⟨u, p, none⟩ (.bool true)) v u n head ps (us ++ [p]) := by
  have ho := OnlyB.setCell u p w (.bool true)
  refine ⟨h.own.kept (row := some u) ⟨ho.os, ho.tape, ho.output, Nat.le_of_eq ho.size.symm, fun k _ hk => ho.block k (fun e => hk (by rw [e]))⟩ ?_, fun j hj => ?_, fun j hj => by rw [World.frozen?_setCell]; exact h.free j hj, h.off, by have := ho.size; have := h.lt; omega⟩
  · cases e : v.ownBlock with
    | none => exact .inl rfl
    | some k => exact .inr (fun e2 => h.off (by rw [e, ← e2]))
  · by_cases e : j = p
    · subst e; rw [World.cell?_setCell_same _ _ _ (h.mark j hj)]; simp
    · have hne : (⟨u, p, none⟩ : Addr) ≠ ⟨u, j, none⟩ := fun he => e (Addr.mk.inj he).2.1.symm
      rw [World.cell?_setCell_other _ _ _ _ hne, h.mark j hj]
      simp [e]
/-- the picks of the first loop. -/
structure PickI (n k : Nat) (ps : List Nat) : Prop where
  nd : ps.Nodup
  lt : ∀ q ∈ ps, q < n
  le : ps.length ≤ k
theorem PickI.nil (n k : Nat) : PickI n k [] := ⟨List.nodup_nil, (fun _ h => by cases h), by simp⟩
theorem PickI.snoc {n k p : Nat} {ps : List Nat} (h : PickI n k ps) (hp : p < n) (hn : p ∉ ps) (hl : ps.length < k) : PickI n k (ps ++ [p]) := by
  refine ⟨?_, fun q hq => ?_, by simp; omega⟩
  · rw [List.nodup_append]
    exact ⟨h.nd, by simp, fun a ha b hb e => by
      rw [List.mem_singleton.1 hb] at e
      exact hn (e ▸ ha)⟩
  · rcases List.mem_append.1 hq with hq | hq
    · exact h.lt q hq
    · rw [List.mem_singleton.1 hq]; exact hp
/-- and of the second one, the first i looked at. -/
structure PickJ (n k i : Nat) (ps us : List Nat) : Prop where
  base : PickI n k ps
  sub : ∀ q ∈ us, q ∈ ps
  old : ∀ q ∈ ps, q ∈ us ∨ q < i
  all : ∀ j, j < i → j ∈ ps
theorem PickJ.start {n k : Nat} {ps : List Nat} (h : PickI n k ps) : PickJ n k 0 ps ps := ⟨h, fun _ h => h, fun _ h => .inl h, fun _ h => by omega⟩
theorem PickJ.skip {n k i : Nat} {ps us : List Nat} (h : PickJ n k i ps us) (hi : i ∈ us) : PickJ n k (i + 1) ps us :=
  ⟨h.base, h.sub, fun q hq => (h.old q hq).imp id (by omega), fun j hj => by
    by_cases e : j = i
    · rw [e]; exact h.sub i hi
    · exact h.all j (by omega)⟩
theorem PickJ.snoc {n k i : Nat} {ps us : List Nat} (h : PickJ n k i ps us) (hi : i ∉ us) (hin : i < n) (hl : ps.length < k) : PickJ n k (i + 1) (ps ++ [i]) us :=
  ⟨h.base.snoc hin (fun hm => by rcases h.old i hm with h1 | h1; exact hi h1; omega) hl, fun q hq => List.mem_append.2 (.inl (h.sub q hq)), fun q hq => by
    rcases List.mem_append.1 hq with hq | hq
    · exact (h.old q hq).imp id (by omega)
    · rw [List.mem_singleton.1 hq]; exact .inr (by omega), fun j hj => by
    by_cases e : j = i
    · rw [e]; simp
    · exact List.mem_append.2 (.inl (h.all j (by omega)))⟩
theorem PickJ.done {n k i : Nat} {ps us : List Nat} (h : PickJ n k i ps us) (hk : k ≤ n) (he : i = n ∨ ¬ ps.length < k) : ps.length = k := by
  have hle := h.base.le
  rcases he with rfl | he
  · have : (List.range i).length ≤ ps.length := Mx.nodup_length List.nodup_range (fun x hx => h.all x (List.mem_range.1 hx))
    simp at this
    omega
  · omega
theorem unlike_of_nodup {ps : List Nat} (h : ps.Nodup) : Unlike ps := fun i k hi hk hne e => by
  rw [List.getElem?_eq_getElem hi, List.getElem?_eq_getElem hk] at e
  simp at e
  have hp := List.pairwise_iff_getElem.1 (List.nodup_iff_pairwise_ne.1 h)
  rcases Nat.lt_or_gt_of_ne hne with h1 | h1
  · exact hp i k hi hk h1 e
  · exact hp k i hk hi h1 e.symm
end Go.Proofs.YtmaalkjimppnkaaDoor
