/- Slices of versions: that are read, and that are the call's own. -/
import Derived.Test.YthdicfcgkbepdaaGreatDoorStrs
import Derived.Maps.AppendAt
import Derived.Laws.AppendOwnNone
import Derived.Deep.SlicePairs
namespace Go.Proofs.YthdicfcgkbepdaaGreatDoor
open Go.RowKit

/-- a version: its tag's two numbers, its size, its shard's number, its shard's text. -/
abbrev Ver := Int × Int × Int × Int × ByteArray
def ver0 : Ver := (0, 0, 0, 0, ⟨#[]⟩)
def encVr (x : Ver) : List Value := [.int .i64 x.1, .int .i64 x.2.1, .int .i64 x.2.2.1, .int .i64 x.2.2.2.1, .string x.2.2.2.2]
def verV (x : Ver) : Value := .agg #[.int .i64 x.1, .int .i64 x.2.1, .int .i64 x.2.2.1, .int .i64 x.2.2.2.1, .string x.2.2.2.2]
/-- the cells of versions. -/
def vrV : List Ver → List Value
  | [] => []
  | x :: r => encVr x ++ vrV r
theorem vrV_append : ∀ (a b : List Ver), vrV (a ++ b) = vrV a ++ vrV b
  | [], _ => rfl
  | x :: r, b => by show encVr x ++ vrV (r ++ b) = (encVr x ++ vrV r) ++ vrV b; rw [vrV_append r b, List.append_assoc]
theorem vrV_length : ∀ l : List Ver, (vrV l).length = l.length * 5
  | [] => rfl
  | x :: r => by
    show (encVr x ++ vrV r).length = (r.length + 1) * 5
    rw [List.length_append, vrV_length r]
    show 5 + _ = _
    omega
theorem vrV_at : ∀ (l : List Ver) (i j : Nat), i < l.length → j < 5 → (vrV l)[i * 5 + j]? = (encVr (l[i]?.getD ver0))[j]?
  | [], _, _, h, _ => by simp at h
  | x :: r, 0, j, _, hj => by
    show (encVr x ++ vrV r)[0 * 5 + j]? = _
    rw [List.getElem?_append_left (by show 0 * 5 + j < 5; omega)]
    simp
  | x :: r, i + 1, j, h, hj => by
    show (encVr x ++ vrV r)[(i + 1) * 5 + j]? = _
    rw [List.getElem?_append_right (by show 5 ≤ (i + 1) * 5 + j; omega)]
    have := vrV_at r i j (by simpa using h) hj
    have e : (i + 1) * 5 + j - (encVr x).length = i * 5 + j := by show (i + 1) * 5 + j - 5 = _; omega
    rw [e, this]
    simp
theorem vrV_one : ∀ (l : List Ver), ∀ u ∈ vrV l, u.oneCell' = true
  | [], _, h => by cases h
  | x :: r, u, h => by
    rcases List.mem_append.1 (show u ∈ encVr x ++ vrV r from h) with h | h
    · simp [encVr] at h
      rcases h with rfl | rfl | rfl | rfl | rfl <;> rfl
    · exact vrV_one r u h
/-- v owns the versions l. -/
def OwnV (B : Nat) (w : World) (v : Value) (l : List Ver) : Prop := w.ownsRow B 49 5 v l.length (vrV l)
theorem OwnV.nil (B : Nat) (w : World) : OwnV B w (.slice none 0 0) [] := World.ownsRow_nil _ _ _ _
theorem OwnV.lt {B : Nat} {w : World} {v : Value} {l : List Ver} (h : OwnV B w v l) : ∀ k, v.ownBlock = some k → B ≤ k ∧ k < w.heap.size := World.ownsRow.lt h
theorem OwnV.kept {B : Nat} {w w' : World} {row : Option Nat} {v : Value} {l : List Ver} (h : OwnV B w v l) (hg : w.grownBy w' row) (hne : v.ownBlock = none ∨ v.ownBlock ≠ row) : OwnV B w' v l := World.ownsRow.kept h hg hne
theorem OwnV.below {B n₀ : Nat} {w w' : World} {v : Value} {l : List Ver} (h : OwnV B w v l) (hb : Below n₀ w w') (hn : w.heap.size ≤ n₀) : OwnV B w' v l :=
  OwnV.kept (row := none) h ⟨hb.os, hb.tape, hb.output, hb.size, fun k hk _ => hb.block k (by omega)⟩ (by cases v.ownBlock <;> simp)
theorem OwnV.lower {B B' : Nat} {w : World} {v : Value} {l : List Ver} (h : OwnV B w v l) (hB : B' ≤ B) : OwnV B' w v l := by
  unfold OwnV World.ownsRow at *
  refine ⟨h.1, ?_⟩
  rcases h.2 with h2 | ⟨g, cap, cur, e, hb, h3⟩
  · exact .inl h2
  · exact .inr ⟨g, cap, cur, e, Nat.le_trans hB hb, h3⟩
theorem info_version : (Tryz.prog.info? 49).map (fun i => (i.zero, i.size, i.bytes)) = some (some (.agg #[.int .i64 0, .int .i64 0, .int .i64 0, .int .i64 0, .string ⟨#[]⟩]), 5, 48) := by kernel_rfl
/-- versions that are read. -/
def VrR (n₀ : Nat) (w : World) (a : Option Addr) (l : List Ver) : Prop :=
  l = [] ∨ ∃ b off, a = some ⟨b, off, none⟩ ∧ b < n₀ ∧ ∀ i j, i < l.length → j < 5 → w.cell? ⟨b, off + i * 5 + j, none⟩ = (encVr (l[i]?.getD ver0))[j]?
theorem VrR.below {n₀ : Nat} {A B : World} (h : Below n₀ A B) {a : Option Addr} {l : List Ver} : VrR n₀ A a l → VrR n₀ B a l
  | .inl e => .inl e
  | .inr ⟨b, off, e, hb, hc⟩ => .inr ⟨b, off, e, hb, fun i j hi hj => (h.cell (p := ⟨b, off + i * 5 + j, none⟩) hb).trans (hc i j hi hj)⟩
theorem VrR.mono {n₀ n₁ : Nat} {A : World} (h : n₀ ≤ n₁) {a : Option Addr} {l : List Ver} : VrR n₀ A a l → VrR n₁ A a l
  | .inl e => .inl e
  | .inr ⟨b, off, e, hb, hc⟩ => .inr ⟨b, off, e, by omega, hc⟩
theorem OwnV.read {B : Nat} {w : World} {v : Value} {l : List Ver} (h : OwnV B w v l) : ∃ a cap, v = .slice a l.length cap ∧ l.length ≤ cap ∧ cap ≤ maxLen ∧ (a = none → cap = 0) ∧ VrR w.heap.size w a l := by
  rcases h.2 with ⟨rfl, hn⟩ | ⟨g, cap, cur, rfl, hb, hg, hc, hm, hs, ht⟩
  · have : l = [] := List.length_eq_zero_iff.1 hn
    subst this
    exact ⟨none, 0, rfl, Nat.le_refl _, by simp [maxLen], fun _ => rfl, .inl rfl⟩
  · have hh : w.ownsRow B 49 5 (.slice (some ⟨g, 0, none⟩) l.length cap) l.length (vrV l) := ⟨h.1, .inr ⟨g, cap, cur, rfl, hb, hg, hc, hm, hs, ht⟩⟩
    refine ⟨_, cap, rfl, hc, hm, (fun e => by cases e), .inr ⟨g, 0, rfl, (Array.getElem?_eq_some_iff.1 hg).1, fun i j hi hj => ?_⟩⟩
    have hlen := vrV_length l
    rw [Nat.zero_add, ← vrV_at l i j hi hj]
    exact hh.cellAt (i * 5 + j) (by omega)
/-- append(s, l...) of versions. -/
theorem append_vers {ops : Array Oper} {rest : List Oper} {o : Oper} {a : Act} {Q : Exit → Act → World → Prop} {w : World} (s x : Nat) (hgd : o.guard = none)
    (ho : o.op = .call { callee := .builtin .append, args := #[.tmp s, .tmp x], argTypes := #[57, 57] }) (B : Nat) (v : Value) (L : List Ver) (n₀ : Nat) (ad : Option Addr) (len cap : Nat) (M : List Ver)
    (hs : a.eval (.tmp s) = v) (hx : a.eval (.tmp x) = .slice ad len cap) (hown : OwnV B w v L) (hlen : M.length = len) (hl : L.length + M.length ≤ 1000000) (ha : ad = none → cap = 0) (hI : VrR n₀ w ad M) (hB : B ≤ w.heap.size)
    (h : ∀ v' w', OwnV B w' v' (L ++ M) → w.grownBy w' v.ownBlock → (v' = .slice none 0 0 ↔ v = .slice none 0 0 ∧ len = 0) → (v'.ownBlock = v.ownBlock ∨ v'.ownBlock = some w.heap.size) → wpList Tryz.prog ops Q rest (a.put o.dst v') w') :
    wpList Tryz.prog ops Q (o :: rest) a w := by
  obtain ⟨i, hi, hz0, hz1, hz2⟩ := info_parts info_version
  subst hlen
  have at_ : ∀ y : Addr, ad = some y → (∀ j u, (vrV M)[j]? = some u → w.cell? (y.add j) = some u) → wpList Tryz.prog ops Q (o :: rest) a w := fun y e hc => by
    refine wpList_append_own_at _ hgd (.tmp s) (.tmp x) 57 ho B 49 i _ 5 48 Tryz.underlying57 hi hz0 hz1 hz2 rfl (by decide) v L.length (vrV L) hs hown y M.length cap (vrV M) (hx.trans (by rw [e])) (vrV_length M) hc (vrV_one M) (by unfold maxLen; omega) (by omega) hB ?_
    intro v' w' h1 h2 h3 h4
    refine h v' w' ?_ h2 h3 h4
    unfold OwnV
    rw [vrV_append, List.length_append]
    exact h1
  rcases hI with rfl | ⟨b, off, e, _, hcell⟩
  · cases ad with
    | none =>
      obtain rfl := ha rfl
      refine wpList_append_own_none hgd (.tmp s) (.tmp x) 57 ho B 49 i 5 Tryz.underlying57 hi v L.length (vrV L) hs hown hx ?_
      exact h v w (by simpa using hown) (World.grownBy.refl _ _) ⟨fun e => ⟨e, rfl⟩, fun e => e.1⟩ (.inl rfl)
    | some ad => exact at_ ad rfl (fun j u hj => by simp [vrV] at hj)
  · refine at_ _ e (fun j u hj => ?_)
    have hj2 : j < M.length * 5 := by have := (List.getElem?_eq_some_iff.1 hj).1; rw [vrV_length] at this; exact this
    have h9 := vrV_at M (j / 5) (j % 5) (by omega) (by omega)
    have e5 : j / 5 * 5 + j % 5 = j := by omega
    rw [e5, hj] at h9
    rw [Go.WideShapes.add_plain, h9, ← hcell (j / 5) (j % 5) (by omega) (by omega)]
    rw [show off + j / 5 * 5 + j % 5 = off + j by omega]
end Go.Proofs.YthdicfcgkbepdaaGreatDoor
