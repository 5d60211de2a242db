/- Slices of shards: that are read, and that are the call's own. -/
import Derived.Test.YtmaalkjimppnkaaDoorStrs
import Derived.Deep.SlicePairs
namespace Go.Proofs.YtmaalkjimppnkaaDoor
open Go.RowKit

/-- a shard: its number, its text. -/
abbrev Sh := Int × ByteArray
/-- the cells of shards. -/
def shV : List Sh → List Value
  | [] => []
  | x :: r => .int .i64 x.1 :: .string x.2 :: shV r
theorem shV_append : ∀ (a b : List Sh), shV (a ++ b) = shV a ++ shV b
  | [], _ => rfl
  | x :: r, b => by show _ :: _ :: shV (r ++ b) = _; rw [shV_append r b]; rfl
theorem shV_length : ∀ l : List Sh, (shV l).length = l.length * 2
  | [] => rfl
  | x :: r => by show (shV r).length + 1 + 1 = (r.length + 1) * 2; rw [shV_length r]; omega
theorem shV_at : ∀ (l : List Sh) (i : Nat), i < l.length → (shV l)[i * 2]? = some (.int .i64 (l[i]?.getD (0, ⟨#[]⟩)).1) ∧ (shV l)[i * 2 + 1]? = some (.string (l[i]?.getD (0, ⟨#[]⟩)).2)
  | [], _, h => by simp at h
  | x :: r, 0, _ => ⟨rfl, rfl⟩
  | x :: r, i + 1, h => by
    have := shV_at r i (by simpa using h)
    rw [show (i + 1) * 2 = i * 2 + 1 + 1 by omega]
    exact this
/-- v owns the shards l. -/
def OwnS (B : Nat) (w : World) (v : Value) (l : List Sh) : Prop := w.ownsRow B 62 2 v l.length (shV l)
theorem OwnS.nil (B : Nat) (w : World) : OwnS B w (.slice none 0 0) [] := World.ownsRow_nil _ _ _ _
theorem OwnS.lt {B : Nat} {w : World} {v : Value} {l : List Sh} (h : OwnS B w v l) : ∀ k, v.ownBlock = some k → B ≤ k ∧ k < w.heap.size := World.ownsRow.lt h
theorem OwnS.kept {B : Nat} {w w' : World} {row : Option Nat} {v : Value} {l : List Sh} (h : OwnS B w v l) (hg : w.grownBy w' row) (hne : v.ownBlock = none ∨ v.ownBlock ≠ row) : OwnS B w' v l := World.ownsRow.kept h hg hne
theorem OwnS.below {B n₀ : Nat} {w w' : World} {v : Value} {l : List Sh} (h : OwnS B w v l) (hb : Below n₀ w w') (hn : w.heap.size ≤ n₀) : OwnS B w' v l :=
  OwnS.kept (row := none) h ⟨hb.os, hb.tape, hb.output, hb.size, fun k hk _ => hb.block k (by omega)⟩ (by cases v.ownBlock <;> simp)
theorem OwnS.lower {B B' : Nat} {w : World} {v : Value} {l : List Sh} (h : OwnS B w v l) (hB : B' ≤ B) : OwnS B' w v l := by
  unfold OwnS World.ownsRow at *
  refine ⟨h.1, ?_⟩
  rcases h.2 with h2 | ⟨g, cap, cur, e, hb, h3⟩
  · exact .inl h2
  · exact .inr ⟨g, cap, cur, e, Nat.le_trans hB hb, h3⟩
theorem info_shard : (Tryd.prog.info? 62).map (fun i => (i.zero, i.size, i.bytes)) = some (some (.agg #[.int .i64 0, .string ⟨#[]⟩]), 2, 24) := by kernel_rfl
/-- append(s, Shard{..}). -/
theorem append_shard {ops : Array Oper} {rest : List Oper} {o : Oper} {a : Act} {Q : Exit → Act → World → Prop} {w0 : World} (s x : Nat) (hgd : o.guard = none)
    (ho : o.op = .call { callee := .builtin .append, args := #[.tmp s, .tmp x], argTypes := #[82, 82] }) (B : Nat) (v : Value) (l : List Sh) (n : Int) (t : ByteArray)
    (hs : a.eval (.tmp s) = v) (hx : a.eval (.tmp x) = .slice (some ⟨w0.heap.size, 0, none⟩) 1 1) (hown : OwnS B w0 v l) (hl : l.length ≤ 1000000) (hB : B ≤ w0.heap.size)
    (h : ∀ v' w', OwnS B w' v' (l ++ [(n, t)]) → (w0.alloc (.cells #[.int .i64 n, .string t] 62)).grownBy w' v.ownBlock → (v'.ownBlock = v.ownBlock ∨ v'.ownBlock = some (w0.heap.size + 1)) → wpList Tryd.prog ops Q rest (a.put o.dst v') w') :
    wpList Tryd.prog ops Q (o :: rest) a (w0.alloc (.cells #[.int .i64 n, .string t] 62)) := by
  obtain ⟨i, hi, hz0, hz1, hz2⟩ := info_parts info_shard
  have hown' : (w0.alloc (.cells #[.int .i64 n, .string t] 62)).ownsRow B 62 2 v l.length (shV l) := World.ownsRow.alloc hown _
  refine wpList_append_own_at _ hgd (.tmp s) (.tmp x) 82 ho B 62 i _ 2 24 Tryd.underlying82 hi hz0 hz1 hz2 rfl (by decide) v l.length (shV l) hs hown' ⟨w0.heap.size, 0, none⟩ 1 1 [.int .i64 n, .string t] hx rfl (fun j u hj => ?_) (fun u hu => ?_) (by unfold maxLen; omega) (by omega) (by simp; omega) ?_
  · have hj2 : j < 2 := by have := (List.getElem?_eq_some_iff.1 hj).1; simpa using this
    rw [Go.WideShapes.add_plain, Nat.zero_add, World.cell?_alloc_at _ _ _ _ rfl]
    rcases (show j = 0 ∨ j = 1 by omega) with rfl | rfl <;> simpa using hj
  · simp at hu
    rcases hu with rfl | rfl <;> rfl
  · intro v' w' h1 h2 _ h4
    refine h v' w' ?_ h2 (by simpa using h4)
    unfold OwnS
    rw [shV_append, List.length_append]
    exact h1
/-- shards that are read. -/
def ShR (n₀ : Nat) (w : World) (a : Option Addr) (l : List Sh) : Prop :=
  l = [] ∨ ∃ b off, a = some ⟨b, off, none⟩ ∧ b < n₀ ∧ ∀ i, i < l.length → w.cell? ⟨b, off + i * 2, none⟩ = some (.int .i64 (l[i]?.getD (0, ⟨#[]⟩)).1) ∧ w.cell? ⟨b, off + i * 2 + 1, none⟩ = some (.string (l[i]?.getD (0, ⟨#[]⟩)).2)
theorem ShR.below {n₀ : Nat} {A B : World} (h : Below n₀ A B) {a : Option Addr} {l : List Sh} : ShR n₀ A a l → ShR n₀ B a l
  | .inl e => .inl e
  | .inr ⟨b, off, e, hb, hc⟩ => .inr ⟨b, off, e, hb, fun j hj => ⟨(h.cell (p := ⟨b, off + j * 2, none⟩) hb).trans (hc j hj).1, (h.cell (p := ⟨b, off + j * 2 + 1, none⟩) hb).trans (hc j hj).2⟩⟩
theorem ShR.mono {n₀ n₁ : Nat} {A : World} (h : n₀ ≤ n₁) {a : Option Addr} {l : List Sh} : ShR n₀ A a l → ShR n₁ A a l
  | .inl e => .inl e
  | .inr ⟨b, off, e, hb, hc⟩ => .inr ⟨b, off, e, by omega, hc⟩
theorem OwnS.read {B : Nat} {w : World} {v : Value} {l : List Sh} (h : OwnS B w v l) : ∃ a cap, v = .slice a l.length cap ∧ l.length ≤ cap ∧ cap ≤ maxLen ∧ ShR w.heap.size w a l := by
  rcases h.2 with ⟨rfl, hn⟩ | ⟨g, cap, cur, rfl, hb, hg, hc, hm, hs, ht⟩
  · have : l = [] := List.length_eq_zero_iff.1 hn
    subst this
    exact ⟨none, 0, rfl, Nat.le_refl _, by simp [maxLen], .inl rfl⟩
  · have hh : w.ownsRow B 62 2 (.slice (some ⟨g, 0, none⟩) l.length cap) l.length (shV l) := ⟨h.1, .inr ⟨g, cap, cur, rfl, hb, hg, hc, hm, hs, ht⟩⟩
    refine ⟨_, cap, rfl, hc, hm, .inr ⟨g, 0, rfl, (Array.getElem?_eq_some_iff.1 hg).1, fun i hi => ?_⟩⟩
    have h1 := shV_at l i hi
    have hlen := shV_length l
    have c1 := hh.cellAt (i * 2) (by omega)
    have c2 := hh.cellAt (i * 2 + 1) (by omega)
    rw [Nat.zero_add]
    exact ⟨c1.trans h1.1, c2.trans h1.2⟩
end Go.Proofs.YtmaalkjimppnkaaDoor
