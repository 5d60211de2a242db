/- Shards that were picked. -/
import Derived.Test.YtfojimaafhpgbaaDoorCodJ
import Derived.Test.YtfojimaafhpgbaaDoorCodK
import Derived.Test.YtfojimaafhpgbaaDoorPick
namespace Go.Proofs.YtfojimaafhpgbaaDoor
open Go.RowKit

/-- shards of an object at places. -/
def pickL (t : Nat → ByteArray) (qs : List Nat) : List Sh := qs.map fun p : Nat => ((p : Int), t p)
theorem pickL_length (t : Nat → ByteArray) (qs : List Nat) : (pickL t qs).length = qs.length := by simp [pickL]
theorem encL_pick (n k : Nat) (s : ByteArray) : encL n k s = pickL (encT k s) (List.range n) := rfl
theorem pickL_good {n k : Nat} {s : ByteArray} {qs : List Nat} (h : ∀ q ∈ qs, q < n) : ∀ x ∈ pickL (encT k s) qs, GoodS n (wideN k s.size) x := fun x hx => by
  obtain ⟨q, hq, rfl⟩ := List.mem_map.1 hx
  have := h q hq
  exact ⟨by simp, by simpa using this, encT_size _ _ _⟩
theorem pickL_unlike {t : Nat → ByteArray} {qs : List Nat} (h : qs.Nodup) : UnlikeS (pickL t qs) := by
  unfold UnlikeS pickL
  rw [List.pairwise_map]
  exact (List.nodup_iff_pairwise_ne.1 h).imp fun {a b} hab e => hab (by have e2 : (a : Int) = b := e; omega)
theorem pickL_pick {t : Nat → ByteArray} {qs : List Nat} {k : Nat} (h : qs.Nodup) : pickS k (pickL t qs) = pickL t (qs.take k) := by
  rw [pickS_all (pickL_unlike h)]
  unfold pickL
  rw [List.map_take]
theorem pickL_full {t : Nat → ByteArray} {qs : List Nat} {k : Nat} (h : qs.Nodup) (hl : k ≤ qs.length) : (pickS k (pickL t qs)).length = k := by
  rw [pickL_pick h, pickL_length, List.length_take]
  omega
theorem pickL_dec {n k : Nat} {s : ByteArray} {qs : List Nat} (hk : 1 ≤ k) (hk2 : k ≤ 12) (hn : n ≤ 12) (h : qs.Nodup) (hl : k ≤ qs.length) (hlt : ∀ q ∈ qs, q < n) : decT k s.size (pickL (encT k s) qs) = s := by
  unfold decT
  have hs : ∀ q ∈ qs.take k, q < n := fun q hq => hlt q (List.mem_of_mem_take hq)
  have hn2 : (qs.take k).Nodup := h.sublist (List.take_sublist _ _)
  rw [pickL_pick h]
  refine dec_is hk hk2 (by rw [pickL_length, List.length_take]; omega) (pickL_unlike hn2) (pickL_good hs) hn (fun x hx => ?_)
  obtain ⟨q, hq, rfl⟩ := List.mem_map.1 hx
  rfl
theorem pickL_agrees (t : Nat → ByteArray) (qs : List Nat) : agreeB (pickL t qs) t = true := by
  unfold agreeB
  rw [List.all_eq_true]
  intro x hx
  obtain ⟨q, hq, rfl⟩ := List.mem_map.1 hx
  simp

/-- v owns the shards that were picked; block u bears the marks. -/
structure PickedS (B : Nat) (w : World) (v : Value) (u n : Nat) (t : Nat → ByteArray) (ps us : List Nat) : Prop where
  own : OwnS B w v (pickL t ps)
  mark : ∀ j, j < n → w.cell? ⟨u, j, none⟩ = some (.bool (decide (j ∈ us)))
  free : ∀ j, j < n → w.frozen? ⟨u, j, none⟩ = false
  off : v.ownBlock ≠ some u
  lt : u < w.heap.size
theorem PickedS.append {B : Nat} {w0 w' : World} {v v' : Value} {u n : Nat} {t : Nat → ByteArray} {ps us : List Nat} {o : Obj} {p : Nat} (h : PickedS B w0 v u n t ps us)
    (hown : OwnS B w' v' (pickL t ps ++ [((p : Int), t p)])) (hg : (w0.alloc o).grownBy w' v.ownBlock) (hat : v'.ownBlock = v.ownBlock ∨ v'.ownBlock = some (w0.heap.size + 1)) : PickedS B w' v' u n t (ps ++ [p]) us := by
  have hb : w'.heap[u]? = w0.heap[u]? := (hg.block u (by have := h.lt; simp; omega) (fun e => h.off e.symm)).trans (heap_alloc_lt _ h.lt)
  refine ⟨by unfold pickL at hown ⊢; rw [List.map_append]; exact hown, fun j hj => ?_, fun j hj => ?_, ?_, ?_⟩
  · have := h.mark j hj
    unfold World.cell? at this ⊢; rw [hb]; exact this
  · have := h.free j hj
    unfold World.frozen? at this ⊢; rw [hb]; exact this
  · rcases hat with e | e
    · rw [e]; exact h.off
    · rw [e]; intro e2
      have := Option.some.inj e2
      have := h.lt
      omega
  · have h1 := hg.size
    have h2 := h.lt
    simp at h1; omega
theorem PickedS.set {B : Nat} {w : World} {v : Value} {u n : Nat} {t : Nat → ByteArray} {ps us : List Nat} {p : Nat} (h : PickedS B w v u n t ps us) (hp : p < n) : PickedS B (w.setCell ⟨u, p, none⟩ (.bool true)) v u n t ps (us ++ [p]) := by
  have ho := OnlyB.setCell u p w (.bool true)
  refine ⟨h.own.kept (row := some u) ⟨ho.os, ho.tape, ho.output, Nat.le_of_eq ho.size.symm, fun k _ hk => ho.block k (fun e => hk (by rw [e]))⟩ ?_, fun j hj => ?_, fun j hj => by rw [World.frozen?_setCell]; exact h.free j hj, h.off, by have := ho.size; have := h.lt; omega⟩
  · cases e : v.ownBlock with
    | none => exact .inl rfl
    | some k => exact .inr (fun e2 => h.off (by rw [e, ← e2]))
  · by_cases e : j = p
    · subst e; rw [World.cell?_setCell_same _ _ _ (h.mark j hj)]; simp
    · have hne : (⟨u, p, none⟩ : Addr) ≠ ⟨u, j, none⟩ := fun he => e (Addr.mk.inj he).2.1.symm
      rw [World.cell?_setCell_other _ _ _ _ hne, h.mark j hj]
      simp [e]
/-- append(s, Shard{..}), the size being told otherwise. -/
theorem append_shardH {ops : Array Oper} {rest : List Oper} {o : Oper} {a : Act} {Q : Exit → Act → World → Prop} {w0 : World} (s x : Nat) (hgd : o.guard = none)
    (ho : o.op = .call { callee := .builtin .append, args := #[.tmp s, .tmp x], argTypes := #[81, 81] }) (B N : Nat) (v : Value) (l : List Sh) (n : Int) (t : ByteArray) (hN : w0.heap.size = N)
    (hs : a.eval (.tmp s) = v) (hx : a.eval (.tmp x) = .slice (some ⟨N, 0, none⟩) 1 1) (hown : OwnS B w0 v l) (hl : l.length ≤ 1000000) (hB : B ≤ w0.heap.size)
    (h : ∀ v' w', OwnS B w' v' (l ++ [(n, t)]) → (w0.alloc (.cells #[.int .i64 n, .string t] 85)).grownBy w' v.ownBlock → (v'.ownBlock = v.ownBlock ∨ v'.ownBlock = some (N + 1)) → wpList Tryd.prog ops Q rest (a.put o.dst v') w') :
    wpList Tryd.prog ops Q (o :: rest) a (w0.alloc (.cells #[.int .i64 n, .string t] 85)) := by
  subst hN
  exact append_shard s x hgd ho B v l n t hs hx hown hl hB h
end Go.Proofs.YtfojimaafhpgbaaDoor
