/- Slices of rows of the call's own that are only read from then on. -/
import Derived.Test.YtmaalkjimppnkaaDoorOwnM
import Derived.Test.YtmaalkjimppnkaaDoorAppendZ
namespace Go.Proofs.YtmaalkjimppnkaaDoor
open Go.RowKit

theorem info_row : (Tryd.prog.info? 122).map (fun i => (i.zero, i.size, i.bytes)) = some (some (.slice none 0 0), 1, 24) := by kernel_rfl
/-- append(s, r) of a row. -/
theorem append_rowv {ops : Array Oper} {rest : List Oper} {o : Oper} {a : Act} {Q : Exit → Act → World → Prop} {w0 : World} (s x : Nat) (hgd : o.guard = none)
    (ho : o.op = .call { callee := .builtin .append, args := #[.tmp s, .tmp x], argTypes := #[155, 155] }) (B : Nat) (v : Value) (us : List Value) (ad : Option Addr) (n c : Nat)
    (hs : a.eval (.tmp s) = v) (hx : a.eval (.tmp x) = .slice (some ⟨w0.heap.size, 0, none⟩) 1 1) (hown : Own1 122 B w0 v us) (hl : us.length ≤ 1000000) (hB : B ≤ w0.heap.size)
    (h : ∀ v' w', Own1 122 B w' v' (us ++ [.slice ad n c]) → (w0.alloc (.cells #[.slice ad n c] 122)).grownBy w' v.ownBlock → (v'.ownBlock = v.ownBlock ∨ v'.ownBlock = some (w0.heap.size + 1)) → wpList Tryd.prog ops Q rest (a.put o.dst v') w') :
    wpList Tryd.prog ops Q (o :: rest) a (w0.alloc (.cells #[.slice ad n c] 122)) :=
  append_one 155 122 (.slice none 0 0) 24 Tryd.underlying155 info_row rfl s x hgd ho B v us _ rfl hs hx hown (by omega) (by unfold maxLen; omega) hB h

theorem RowAt.heap {n₀ : Nat} {w w' : World} {l : List Nat} {ad : Option Addr} (h : RowAt n₀ w ad l) (e : ∀ p, ad = some p → p.block < n₀ → w'.heap[p.block]? = w.heap[p.block]?) : RowAt n₀ w' ad l := by
  rcases h with h | ⟨b, off, rfl, hb, hc⟩
  · exact .inl h
  · refine .inr ⟨b, off, rfl, hb, fun j hj => ?_⟩
    have := hc j hj
    have e1 := e _ rfl hb
    unfold World.cell? at this ⊢
    rw [e1]; exact this

/-- v owns rows that read as L. -/
structure OwnR (B : Nat) (w : World) (v : Value) (L : List (List Nat)) (A : Nat → Option Addr) (C : Nat → Nat) : Prop where
  own : Own1 122 B w v ((List.range L.length).map fun i => Value.slice (A i) (L[i]?.getD []).length (C i))
  row : ∀ i, i < L.length → (L[i]?.getD []).length ≤ C i ∧ C i ≤ maxLen ∧ RowAt w.heap.size w (A i) (L[i]?.getD []) ∧ (A i = none → C i = 0)
  off : ∀ i, i < L.length → ∀ p, A i = some p → v.ownBlock ≠ some p.block
theorem OwnR.nil (B : Nat) (w : World) (A : Nat → Option Addr) (C : Nat → Nat) : OwnR B w (.slice none 0 0) [] A C :=
  ⟨Own1.nil _ _ _, fun _ h => by simp at h, fun _ h => by simp at h⟩
theorem OwnR.kept {B : Nat} {w w' : World} {v : Value} {L : List (List Nat)} {A : Nat → Option Addr} {C : Nat → Nat} (h : OwnR B w v L A C) {r : Option Nat} (hg : w.grownBy w' r) (h1 : ∀ i, i < L.length → ∀ p, A i = some p → r ≠ some p.block) (h2 : ∀ k, v.ownBlock = some k → r ≠ some k) : OwnR B w' v L A C :=
  ⟨h.own.kept hg (by
      cases e : v.ownBlock with
      | none => exact .inl rfl
      | some k => exact .inr (fun e2 => h2 k e e2.symm)),
    fun i hi => ⟨(h.row i hi).1, (h.row i hi).2.1, ((h.row i hi).2.2.1.heap (fun p e hp => hg.block _ hp (fun e2 => h1 i hi p e e2.symm))).mono hg.size, (h.row i hi).2.2.2⟩, h.off⟩
theorem OwnR.below {B n₀ : Nat} {w w' : World} {v : Value} {L : List (List Nat)} {A : Nat → Option Addr} {C : Nat → Nat} (h : OwnR B w v L A C) (hb : Below n₀ w w') (hn : w.heap.size ≤ n₀) : OwnR B w' v L A C :=
  h.kept (r := none) ⟨hb.os, hb.tape, hb.output, hb.size, fun k hk _ => hb.block k (by omega)⟩ (fun _ _ _ _ e => by cases e) (fun _ _ e => by cases e)
def updA (A : Nat → Option Addr) (n : Nat) (x : Option Addr) : Nat → Option Addr := fun i => if i = n then x else A i
/-- one row more. -/
theorem OwnR.snoc {B : Nat} {w0 w' : World} {v v' : Value} {L : List (List Nat)} {A : Nat → Option Addr} {C : Nat → Nat} (h : OwnR B w0 v L A C) {ad : Option Addr} {l : List Nat} {c : Nat} {o : Obj}
    (hr : RowAt w0.heap.size w0 ad l) (hlc : l.length ≤ c) (hc : c ≤ maxLen) (h0 : ad = none → c = 0) (hoff : ∀ p, ad = some p → v.ownBlock ≠ some p.block) (hlt : ∀ p, ad = some p → p.block < w0.heap.size)
    (hltA : ∀ i, i < L.length → ∀ p, A i = some p → p.block < w0.heap.size)
    (hown : Own1 122 B w' v' ((List.range L.length).map (fun i => Value.slice (A i) (L[i]?.getD []).length (C i)) ++ [Value.slice ad l.length c])) (hg : (w0.alloc o).grownBy w' v.ownBlock)
    (hat : v'.ownBlock = v.ownBlock ∨ v'.ownBlock = some (w0.heap.size + 1)) : OwnR B w' v' (L ++ [l]) (updA A L.length ad) (Mx.upd C L.length c) := by
  have hgb : ∀ b, b < w0.heap.size → v.ownBlock ≠ some b → w'.heap[b]? = w0.heap[b]? := fun b hb hne => (hg.block b (by simp; omega) (fun e => hne e.symm)).trans (heap_alloc_lt _ hb)
  have hsz : w0.heap.size + 1 ≤ w'.heap.size := by have := hg.size; simpa using this
  have old : ∀ i, i < L.length → (L ++ [l])[i]?.getD [] = L[i]?.getD [] ∧ updA A L.length ad i = A i ∧ Mx.upd C L.length c i = C i := fun i hi => by
    refine ⟨by rw [List.getElem?_append_left hi], by unfold updA; rw [if_neg (by omega)], by unfold Mx.upd; rw [if_neg (by omega)]⟩
  have new : (L ++ [l])[L.length]?.getD [] = l ∧ updA A L.length ad L.length = ad ∧ Mx.upd C L.length c L.length = c := ⟨by simp, by simp [updA], by simp [Mx.upd]⟩
  have tr : ∀ {x : Option Addr} {y : List Nat}, RowAt w0.heap.size w0 x y → (∀ p, x = some p → v.ownBlock ≠ some p.block) → RowAt w'.heap.size w' x y := fun hx ho => (hx.heap (fun p e hp => hgb _ hp (ho p e))).mono (by omega)
  have hlen : (L ++ [l]).length = L.length + 1 := by simp
  have split : ∀ i, i < (L ++ [l]).length → i < L.length ∨ i = L.length := fun i hi => by rw [hlen] at hi; omega
  refine ⟨?_, fun i hi => ?_, fun i hi p e => ?_⟩
  · rw [hlen, List.range_succ, List.map_append]
    have e1 : (List.range L.length).map (fun i => Value.slice (updA A L.length ad i) ((L ++ [l])[i]?.getD []).length (Mx.upd C L.length c i)) = (List.range L.length).map (fun i => Value.slice (A i) (L[i]?.getD []).length (C i)) := by
      refine List.map_congr_left fun i hi => ?_
      obtain ⟨a1, a2, a3⟩ := old i (List.mem_range.1 hi)
      rw [a1, a2, a3]
    rw [e1]
    have e2 : [L.length].map (fun i => Value.slice (updA A L.length ad i) ((L ++ [l])[i]?.getD []).length (Mx.upd C L.length c i)) = [Value.slice ad l.length c] := by
      rw [List.map_cons, List.map_nil, new.1, new.2.1, new.2.2]
    rw [e2]; exact hown
  · rcases split i hi with hi | rfl
    · obtain ⟨a1, a2, a3⟩ := old i hi
      rw [a1, a2, a3]
      obtain ⟨b1, b2, b3, b4⟩ := h.row i hi
      exact ⟨b1, b2, tr b3 (h.off i hi), b4⟩
    · rw [new.1, new.2.1, new.2.2]
      exact ⟨hlc, hc, tr hr hoff, h0⟩
  · have hx : p.block < w0.heap.size ∧ v.ownBlock ≠ some p.block := by
      rcases split i hi with hi | rfl
      · obtain ⟨a1, a2, a3⟩ := old i hi
        rw [a2] at e
        exact ⟨hltA i hi p e, h.off i hi p e⟩
      · rw [new.2.1] at e
        exact ⟨hlt p e, hoff p e⟩
    rcases hat with e1 | e1
    · rw [e1]; exact hx.2
    · rw [e1]; intro e2
      have := Option.some.inj e2
      omega
theorem OwnR.rows {B : Nat} {w : World} {v : Value} {L : List (List Nat)} {A : Nat → Option Addr} {C : Nat → Nat} (h : OwnR B w v L A C) : ∃ a cap, v = .slice a L.length cap ∧ L.length ≤ cap ∧ cap ≤ maxLen ∧ RowsAt w.heap.size w a L := by
  rcases h.own.shape with ⟨e1, e⟩ | ⟨g, cap, e, hg, hlt, hc, hm, hf, hcell⟩
  · have := congrArg List.length e
    simp at this
    subst this
    exact ⟨none, 0, e1, Nat.le_refl _, by simp [maxLen], .inl rfl⟩
  · have hl : ((List.range L.length).map fun i => Value.slice (A i) (L[i]?.getD []).length (C i)).length = L.length := by simp
    rw [hl] at e hc hcell
    refine ⟨_, cap, e, hc, hm, .inr ⟨g, 0, A, C, rfl, hlt, fun i hi => ⟨?_, h.row i hi⟩⟩⟩
    rw [Nat.zero_add, hcell i hi]; simp [hi]
theorem OwnB.row2 {B : Nat} {w : World} {v : Value} {l : List Nat} (h : OwnB B w v l) : ∃ a cap, v = .slice a l.length cap ∧ l.length ≤ cap ∧ cap ≤ maxLen ∧ RowAt w.heap.size w a l ∧ (a = none → cap = 0) ∧ ∀ p, a = some p → v.ownBlock = some p.block ∧ p.block < w.heap.size := by
  rcases Own1.shape h with ⟨e1, hl⟩ | ⟨g, cap, e1, _, hg, hc, hm, _, hcell⟩
  · have : l = [] := by simpa using hl
    subst this
    exact ⟨none, 0, e1, by simp, by simp [maxLen], .inl rfl, fun _ => rfl, fun p hp => by cases hp⟩
  · have hl2 : (l.map fun n : Nat => Value.int .u8 (n : Int)).length = l.length := by simp
    rw [hl2] at e1 hc hcell
    refine ⟨some ⟨g, 0, none⟩, cap, e1, hc, hm, .inr ⟨g, 0, rfl, hg, fun j hj => ?_⟩, fun h => by (cases h), fun p hp => ?_⟩
    · rw [Nat.zero_add, hcell j hj]
      simp [hj]
    · obtain rfl := Option.some.inj hp
      rw [e1]
      exact ⟨rfl, hg⟩
end Go.Proofs.YtmaalkjimppnkaaDoor
