/- Walks: a copy of a row; matrix.Rank. -/
import Derived.Test.YtmaalkjimppnkaaDoorMatH
namespace Go.Proofs.YtmaalkjimppnkaaDoor
open Go.RowKit

theorem Own1.lower {E : TypeId} {B B' : Nat} {w : World} {v : Value} {us : List Value} (h : Own1 E B w v us) (hB : B' ≤ B) : Own1 E B' w v us := by
  unfold Own1 World.ownsRow at *
  refine ⟨h.1, ?_⟩
  rcases h.2 with h2 | ⟨g, cap, cur, e, hb, h3⟩
  · exact .inl h2
  · exact .inr ⟨g, cap, cur, e, Nat.le_trans hB hb, h3⟩
theorem OwnM.lower {B B' : Nat} {w : World} {v : Value} {n C : Nat} {bs caps : Nat → Nat} {M : Nat → Nat → Nat} (h : OwnM B w v n C bs caps M) (hB : B' ≤ B) : OwnM B' w v n C bs caps M :=
  ⟨h.own.lower hB, h.row, h.inj, fun i hi => Nat.le_trans hB (h.low i hi), h.lt, h.off, h.cap⟩
theorem MatV.lower {B B' : Nat} {w : World} {g n C : Nat} {bs caps : Nat → Nat} {M : Nat → Nat → Nat} (h : MatV B w g n C bs caps M) (hB : B' ≤ B) : MatV B' w g n C bs caps M :=
  ⟨h.head, h.free, h.row, h.inj, h.off, fun i hi => Nat.le_trans hB (h.low i hi), Nat.le_trans hB h.lowg, h.cap⟩

/-- append(s, r) of a row, in a world whose size the walk spells otherwise. -/
theorem append_rowvH {ops : Array Oper} {rest : List Oper} {o : Oper} {a : Act} {Q : Exit → Act → World → Prop} {w0 : World} (s x : Nat) (hgd : o.guard = none)
    (ho : o.op = .call { callee := .builtin .append, args := #[.tmp s, .tmp x], argTypes := #[155, 155] }) (B H : Nat) (v : Value) (us : List Value) (ad : Option Addr) (n c : Nat) (hH : w0.heap.size = H)
    (hs : a.eval (.tmp s) = v) (hx : a.eval (.tmp x) = .slice (some ⟨H, 0, none⟩) 1 1) (hown : Own1 122 B w0 v us) (hl : us.length ≤ 1000000) (hB : B ≤ w0.heap.size)
    (h : ∀ v' w', Own1 122 B w' v' (us ++ [.slice ad n c]) → (w0.alloc (.cells #[.slice ad n c] 122)).grownBy w' v.ownBlock → (v'.ownBlock = v.ownBlock ∨ v'.ownBlock = some (w0.heap.size + 1)) → wpList Tryd.prog ops Q rest (a.put o.dst v') w') :
    wpList Tryd.prog ops Q (o :: rest) a (w0.alloc (.cells #[.slice ad n c] 122)) := by
  subst hH
  exact append_rowv s x hgd ho B v us ad n c hs hx hown hl hB h

/-- slices.Clone of a row of C bytes. -/
theorem clone_row (n₀ p o C c : Nat) (f : Nat → Nat) (w : World) (hp : p < n₀) (hn : n₀ ≤ w.heap.size) (hC : 1 ≤ C) (hC2 : C ≤ 1000) (hc : ∀ j, j < C → w.cell? ⟨p, o + j, none⟩ = some (.int .u8 (f j : Nat))) :
    Calls Tryd.prog 137 #[.slice (some ⟨p, o, none⟩) C c] w fun e w' => (∃ v, e = .returned v ∧ OwnB w.heap.size w' v ((List.range C).map f)) ∧ Below w.heap.size w w' := by
  have hl : ((List.range C).map f).length = C := by simp
  have h := clone_walk n₀ ⟨p, o, none⟩ c ((List.range C).map f) w (.inr ⟨p, o, rfl, hp, fun j hj => by rw [hl] at hj; rw [hc j hj]; simp [hj]⟩) hn (by rw [hl]; omega)
  rw [hl] at h
  exact h
/-- what is known of it then. -/
theorem OwnB.copy {B C : Nat} {w : World} {v : Value} {f : Nat → Nat} (h : OwnB B w v ((List.range C).map f)) (hC : 1 ≤ C) : ∃ g cap, v = .slice (some ⟨g, 0, none⟩) C cap ∧ B ≤ g ∧ g < w.heap.size ∧ C ≤ cap ∧ cap ≤ maxLen ∧ RowV w g C f := by
  have hl : ((List.range C).map f).length = C := by simp
  obtain ⟨g, cap, e, h1, h2, h3, h4, h5⟩ := h.rowV (by rw [hl]; omega)
  rw [hl] at e h3 h5
  exact ⟨g, cap, e, h1, h2, h3, h4, h5.congr fun j hj => by simp [hj]⟩

/-- what matrix.Rank answers. -/
def RankOut (w w' : World) (n C : Nat) (M : Nat → Nat → Nat) (e : Ending) : Prop := ∃ done L G, e = .returned (.tuple #[.int .i64 (done : Nat), .nilIface]) ∧ Mx.ByM G ∧ Mx.RR G n C done L ∧ (∀ v, Mx.By v → (Mx.Ker G n C v ↔ Mx.Ker M n C v)) ∧ Below w.heap.size w w'
end Go.Proofs.YtmaalkjimppnkaaDoor
