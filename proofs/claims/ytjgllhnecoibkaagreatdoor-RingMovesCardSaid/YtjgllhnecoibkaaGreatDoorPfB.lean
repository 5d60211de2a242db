/- The document's points of a ring: slices of them, which is ahead. -/
import Derived.Test.YtjgllhnecoibkaaGreatDoorPfA
import Derived.Test.YtjgllhnecoibkaaGreatDoorStrs
import Derived.Deep.SlicePairs
namespace Go.Proofs.YtjgllhnecoibkaaGreatDoor
open Go.RowKit

/-- a shard: its number, its text. -/
abbrev Dp := Int × ByteArray
/-- the cells of shards. -/
def dpV : List Dp → List Value
  | [] => []
  | x :: r => .int .i64 x.1 :: .string x.2 :: dpV r
theorem dpV_append : ∀ (a b : List Dp), dpV (a ++ b) = dpV a ++ dpV b
  | [], _ => rfl
  | x :: r, b => by show _ :: _ :: dpV (r ++ b) = _; rw [dpV_append r b]; rfl
theorem dpV_length : ∀ l : List Dp, (dpV l).length = l.length * 2
  | [] => rfl
  | x :: r => by show (dpV r).length + 1 + 1 = (r.length + 1) * 2; rw [dpV_length r]; omega
theorem dpV_at : ∀ (l : List Dp) (i : Nat), i < l.length → (dpV l)[i * 2]? = some (.int .i64 (l[i]?.getD (0, ⟨#[]⟩)).1) ∧ (dpV l)[i * 2 + 1]? = some (.string (l[i]?.getD (0, ⟨#[]⟩)).2)
  | [], _, h => by simp at h
  | x :: r, 0, _ => ⟨rfl, rfl⟩
  | x :: r, i + 1, h => by
    have := dpV_at r i (by simpa using h)
    rw [show (i + 1) * 2 = i * 2 + 1 + 1 by omega]
    exact this
/-- v owns the shards l. -/
def OwnD (B : Nat) (w : World) (v : Value) (l : List Dp) : Prop := w.ownsRow B 83 2 v l.length (dpV l)
theorem OwnD.nil (B : Nat) (w : World) : OwnD B w (.slice none 0 0) [] := World.ownsRow_nil _ _ _ _
theorem OwnD.lt {B : Nat} {w : World} {v : Value} {l : List Dp} (h : OwnD B w v l) : ∀ k, v.ownBlock = some k → B ≤ k ∧ k < w.heap.size := World.ownsRow.lt h
theorem OwnD.kept {B : Nat} {w w' : World} {row : Option Nat} {v : Value} {l : List Dp} (h : OwnD B w v l) (hg : w.grownBy w' row) (hne : v.ownBlock = none ∨ v.ownBlock ≠ row) : OwnD B w' v l := World.ownsRow.kept h hg hne
theorem OwnD.below {B n₀ : Nat} {w w' : World} {v : Value} {l : List Dp} (h : OwnD B w v l) (hb : Below n₀ w w') (hn : w.heap.size ≤ n₀) : OwnD B w' v l :=
  OwnD.kept (row := none) h ⟨hb.os, hb.tape, hb.output, hb.size, fun k hk _ => hb.block k (by omega)⟩ (by cases v.ownBlock <;> simp)
theorem OwnD.lower {B B' : Nat} {w : World} {v : Value} {l : List Dp} (h : OwnD B w v l) (hB : B' ≤ B) : OwnD B' w v l := by
  unfold OwnD World.ownsRow at *
  refine ⟨h.1, ?_⟩
  rcases h.2 with h2 | ⟨g, cap, cur, e, hb, h3⟩
  · exact .inl h2
  · exact .inr ⟨g, cap, cur, e, Nat.le_trans hB hb, h3⟩
theorem info_dpt : (Tryz.prog.info? 83).map (fun i => (i.zero, i.size, i.bytes)) = some (some (.agg #[.int .i64 0, .string ⟨#[]⟩]), 2, 24) := by kernel_rfl
/-- append(s, Shard{..}). -/
theorem append_dpt {ops : Array Oper} {rest : List Oper} {o : Oper} {a : Act} {Q : Exit → Act → World → Prop} {w0 : World} (s x : Nat) (hgd : o.guard = none)
    (ho : o.op = .call { callee := .builtin .append, args := #[.tmp s, .tmp x], argTypes := #[80, 80] }) (B : Nat) (v : Value) (l : List Dp) (n : Int) (t : ByteArray)
    (hs : a.eval (.tmp s) = v) (hx : a.eval (.tmp x) = .slice (some ⟨w0.heap.size, 0, none⟩) 1 1) (hown : OwnD B w0 v l) (hl : l.length ≤ 1000000) (hB : B ≤ w0.heap.size)
    (h : ∀ v' w', OwnD B w' v' (l ++ [(n, t)]) → (w0.alloc (.cells #[.int .i64 n, .string t] 83)).grownBy w' v.ownBlock → (v'.ownBlock = v.ownBlock ∨ v'.ownBlock = some (w0.heap.size + 1)) → wpList Tryz.prog ops Q rest (a.put o.dst v') w') :
    wpList Tryz.prog ops Q (o :: rest) a (w0.alloc (.cells #[.int .i64 n, .string t] 83)) := by
  obtain ⟨i, hi, hz0, hz1, hz2⟩ := info_parts info_dpt
  have hown' : (w0.alloc (.cells #[.int .i64 n, .string t] 83)).ownsRow B 83 2 v l.length (dpV l) := World.ownsRow.alloc hown _
  refine wpList_append_own_at _ hgd (.tmp s) (.tmp x) 80 ho B 83 i _ 2 24 Tryz.underlying80 hi hz0 hz1 hz2 rfl (by decide) v l.length (dpV l) hs hown' ⟨w0.heap.size, 0, none⟩ 1 1 [.int .i64 n, .string t] hx rfl (fun j u hj => ?_) (fun u hu => ?_) (by unfold maxLen; omega) (by omega) (by simp; omega) ?_
  · have hj2 : j < 2 := by have := (List.getElem?_eq_some_iff.1 hj).1; simpa using this
    rw [Go.WideShapes.add_plain, Nat.zero_add, World.cell?_alloc_at _ _ _ _ rfl]
    rcases (show j = 0 ∨ j = 1 by omega) with rfl | rfl <;> simpa using hj
  · simp at hu
    rcases hu with rfl | rfl <;> rfl
  · intro v' w' h1 h2 _ h4
    refine h v' w' ?_ h2 (by simpa using h4)
    unfold OwnD
    rw [dpV_append, List.length_append]
    exact h1
/-- shards that are read. -/
def DpR (n₀ : Nat) (w : World) (a : Option Addr) (l : List Dp) : Prop :=
  l = [] ∨ ∃ b off, a = some ⟨b, off, none⟩ ∧ b < n₀ ∧ ∀ i, i < l.length → w.cell? ⟨b, off + i * 2, none⟩ = some (.int .i64 (l[i]?.getD (0, ⟨#[]⟩)).1) ∧ w.cell? ⟨b, off + i * 2 + 1, none⟩ = some (.string (l[i]?.getD (0, ⟨#[]⟩)).2)
theorem DpR.below {n₀ : Nat} {A B : World} (h : Below n₀ A B) {a : Option Addr} {l : List Dp} : DpR n₀ A a l → DpR n₀ B a l
  | .inl e => .inl e
  | .inr ⟨b, off, e, hb, hc⟩ => .inr ⟨b, off, e, hb, fun j hj => ⟨(h.cell (p := ⟨b, off + j * 2, none⟩) hb).trans (hc j hj).1, (h.cell (p := ⟨b, off + j * 2 + 1, none⟩) hb).trans (hc j hj).2⟩⟩
theorem DpR.mono {n₀ n₁ : Nat} {A : World} (h : n₀ ≤ n₁) {a : Option Addr} {l : List Dp} : DpR n₀ A a l → DpR n₁ A a l
  | .inl e => .inl e
  | .inr ⟨b, off, e, hb, hc⟩ => .inr ⟨b, off, e, by omega, hc⟩
theorem OwnD.read {B : Nat} {w : World} {v : Value} {l : List Dp} (h : OwnD B w v l) : ∃ a cap, v = .slice a l.length cap ∧ l.length ≤ cap ∧ cap ≤ maxLen ∧ DpR w.heap.size w a l := by
  rcases h.2 with ⟨rfl, hn⟩ | ⟨g, cap, cur, rfl, hb, hg, hc, hm, hs, ht⟩
  · have : l = [] := List.length_eq_zero_iff.1 hn
    subst this
    exact ⟨none, 0, rfl, Nat.le_refl _, by simp [maxLen], .inl rfl⟩
  · have hh : w.ownsRow B 83 2 (.slice (some ⟨g, 0, none⟩) l.length cap) l.length (dpV l) := ⟨h.1, .inr ⟨g, cap, cur, rfl, hb, hg, hc, hm, hs, ht⟩⟩
    refine ⟨_, cap, rfl, hc, hm, .inr ⟨g, 0, rfl, (Array.getElem?_eq_some_iff.1 hg).1, fun i hi => ?_⟩⟩
    have h1 := dpV_at l i hi
    have hlen := dpV_length l
    have c1 := hh.cellAt (i * 2) (by omega)
    have c2 := hh.cellAt (i * 2 + 1) (by omega)
    rw [Nat.zero_add]
    exact ⟨c1.trans h1.1, c2.trans h1.2⟩
/-- a point as the document has it. -/
def dpt (h : Nat) (p : Rg.Pt) : Dp := ((Rg.sh h p.1 : Nat), p.2.1)
def aheadD (p q : Dp) : Bool := decide (p.1 < q.1 ∨ (p.1 = q.1 ∧ Rg.tlt p.2 q.2 = true))
theorem aheadD_is (h : Nat) (p q : Rg.Pt) : aheadD (dpt h p) (dpt h q) = Rg.ahead h p q := by
  unfold aheadD dpt Rg.ahead
  rw [Bool.eq_iff_iff]
  simp only [decide_eq_true_eq, Bool.or_eq_true, Bool.and_eq_true, Int.ofNat_lt, Int.natCast_inj]
theorem aheadD_trans {p q r : Dp} (h1 : aheadD p q = true) (h2 : aheadD q r = true) : aheadD p r = true := by
  unfold aheadD at *
  simp only [decide_eq_true_eq] at *
  rcases h1 with h1 | ⟨h1, t1⟩ <;> rcases h2 with h2 | ⟨h2, t2⟩
  · left; omega
  · left; omega
  · left; omega
  · right; exact ⟨by omega, Rg.tlt_trans t1 t2⟩
theorem aheadD_irrefl (p : Dp) : aheadD p p = false := by
  unfold aheadD
  rw [decide_eq_false_iff_not]
  rintro (h | ⟨_, h⟩)
  · omega
  · rw [Rg.tlt_irrefl] at h; cases h
set_option maxRecDepth 100000 in
set_option maxHeartbeats 1000000 in
theorem rahead_walk (n1 : Int) (s1 : ByteArray) (n2 : Int) (s2 : ByteArray) (w : World) :
    Calls Tryz.prog 40 #[.agg #[.int .i64 n1, .string s1], .agg #[.int .i64 n2, .string s2]] w fun e w' => e = .returned (.bool (aheadD (n1, s1) (n2, s2))) ∧ Below w.heap.size w w' := by
  have hB : Below w.heap.size w ((w.alloc (.cells #[.int .i64 n1, .string s1] 83)).alloc (.cells #[.int .i64 n2, .string s2] 83)) := ((Below.refl _ w).alloc (Nat.le_refl _) _).alloc (by simp) _
  have HB := Lib.hid hB
  clear hB
  by_cases h1 : n1 < n2
  · rw [show aheadD (n1, s1) (n2, s2) = true from decide_eq_true (.inl h1)]
    go_enter Tryz.func40, Tryz.ntmps40
    go_wp2
    go_ret
    exact ⟨rfl, HB.out⟩
  · by_cases h2 : n1 = n2
    · subst h2
      cases h3 : Rg.tlt s1 s2 with
      | true =>
        rw [show aheadD (n1, s1) (n1, s2) = true from decide_eq_true (.inr ⟨rfl, h3⟩)]
        unfold Rg.tlt at h3
        go_enter Tryz.func40, Tryz.ntmps40
        go_wp2
        go_ret
        exact ⟨by simp, HB.out⟩
      | false =>
        rw [show aheadD (n1, s1) (n1, s2) = false from decide_eq_false (by rintro (h | ⟨_, h⟩) <;> simp_all)]
        unfold Rg.tlt at h3
        go_enter Tryz.func40, Tryz.ntmps40
        go_wp2
        go_ret
        exact ⟨by simp, HB.out⟩
    · rw [show aheadD (n1, s1) (n2, s2) = false from decide_eq_false (by rintro (h | ⟨h, _⟩) <;> simp_all)]
      have e1 : (n1 == n2) = false := by simpa using h2
      go_enter Tryz.func40, Tryz.ntmps40
      go_wp2
      go_ret
      exact ⟨by simp, HB.out⟩
end Go.Proofs.YtjgllhnecoibkaaGreatDoor
