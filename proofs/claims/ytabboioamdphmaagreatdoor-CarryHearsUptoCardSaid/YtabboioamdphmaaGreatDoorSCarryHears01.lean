/- Slices of bytes that are read: what a walk is told of them. -/
import Derived.Test.YtabboioamdphmaaGreatDoorProg
import Derived.WalkKit
import Derived.WalkSpells
import Derived.WalkLawsBesides
import Derived.Laws.BitsAllLaws
import Derived.Lib.Hide
import Derived.Test.YtabboioamdphmaaGreatDoorRows
import Derived.ProofKit
import Derived.OpenShut
import Derived.ShutString
import Derived.ChangeOld
import Derived.Below
import Derived.LaidLaws
import Derived.LaidMore
import Derived.LaidHandle
import Derived.LaidEql
import Derived.RowKitTokens
import Derived.Deep.DeepHandedRow
import Derived.Deep.DeepWitnessRowRef
import Derived.SevenTiedAt
namespace Go.Proofs.YtabboioamdphmaaGreatDoor
open Go.RowKit

def RowAt (n₀ : Nat) (w : World) (a : Option Addr) (l : List Nat) : Prop :=
  l = [] ∨ ∃ b off, a = some ⟨b, off, none⟩ ∧ b < n₀ ∧ ∀ j, j < l.length → w.cell? ⟨b, off + j, none⟩ = some (.int .u8 ((l[j]?.getD 0 : Nat) : Int))
theorem RowAt.below {n₀ : Nat} {A B : World} (h : Below n₀ A B) {a : Option Addr} {l : List Nat} : RowAt n₀ A a l → RowAt n₀ B a l
  | .inl e => .inl e
  | .inr ⟨b, off, e, hb, hc⟩ => .inr ⟨b, off, e, hb, fun j hj => (h.cell (p := ⟨b, off + j, none⟩) hb).trans (hc j hj)⟩
theorem RowAt.mono {n₀ n₁ : Nat} {A : World} (h : n₀ ≤ n₁) {a : Option Addr} {l : List Nat} : RowAt n₀ A a l → RowAt n₁ A a l
  | .inl e => .inl e
  | .inr ⟨b, off, e, hb, hc⟩ => .inr ⟨b, off, e, by omega, hc⟩
theorem RowAt.take {n₀ : Nat} {A : World} {a : Option Addr} {l : List Nat} (k : Nat) : RowAt n₀ A a l → RowAt n₀ A a (l.take k)
  | .inl e => .inl (by rw [e]; simp)
  | .inr ⟨b, off, e, hb, hc⟩ => .inr ⟨b, off, e, hb, fun j hj => by
      have hj' : j < l.length := by simp at hj; omega
      have hk : j < k := by simp at hj; omega
      rw [hc j hj', List.getElem?_take, if_pos hk]⟩
def Bytes (l : List Nat) : Prop := ∀ x ∈ l, x < 256
theorem Bytes.at {l : List Nat} (h : Bytes l) (j : Nat) : l[j]?.getD 0 < 256 := by
  by_cases hj : j < l.length
  · rw [List.getElem?_eq_getElem hj]; exact h _ (List.getElem_mem hj)
  · rw [List.getElem?_eq_none (by omega)]; decide
theorem Bytes.take {l : List Nat} (h : Bytes l) (k : Nat) : Bytes (l.take k) := fun x hx => h x (List.mem_of_mem_take hx)

/-! ### slices of the call's own -/
def Own1 (E : TypeId) (B : Nat) (w : World) (v : Value) (us : List Value) : Prop := w.ownsRow B E 1 v us.length us
def OwnB (B : Nat) (w : World) (v : Value) (l : List Nat) : Prop := Own1 5 B w v (l.map fun n : Nat => Value.int .u8 (n : Int))
def Sep (v u : Value) : Prop := ∀ g, v.ownBlock = some g → u.ownBlock ≠ some g
theorem Sep.symm {v u : Value} (h : Sep v u) : Sep u v := fun g h1 h2 => h g h2 h1
theorem Sep.nil (u : Value) : Sep (.slice none 0 0) u := fun _ h => by cases h
theorem Own1.nil (E : TypeId) (B : Nat) (w : World) : Own1 E B w (.slice none 0 0) [] := World.ownsRow_nil _ _ _ _
theorem OwnB.nil (B : Nat) (w : World) : OwnB B w (.slice none 0 0) [] := World.ownsRow_nil _ _ _ _
theorem Own1.lt {E : TypeId} {B : Nat} {w : World} {v : Value} {us : List Value} (h : Own1 E B w v us) : ∀ k, v.ownBlock = some k → B ≤ k ∧ k < w.heap.size := World.ownsRow.lt h
theorem Own1.kept {E : TypeId} {B : Nat} {w w' : World} {row : Option Nat} {v : Value} {us : List Value} (h : Own1 E B w v us) (hg : w.grownBy w' row) (hne : v.ownBlock = none ∨ v.ownBlock ≠ row) : Own1 E B w' v us := World.ownsRow.kept h hg hne
theorem Own1.alloc {E : TypeId} {B : Nat} {w : World} {v : Value} {us : List Value} (h : Own1 E B w v us) (o : Obj) : Own1 E B (w.alloc o) v us := World.ownsRow.alloc h o
theorem Own1.below {E : TypeId} {B n₀ : Nat} {w w' : World} {v : Value} {us : List Value} (h : Own1 E B w v us) (hb : Below n₀ w w') (hn : w.heap.size ≤ n₀) : Own1 E B w' v us :=
  Own1.kept (row := none) h ⟨hb.os, hb.tape, hb.output, hb.size, fun k hk _ => hb.block k (by omega)⟩ (by cases v.ownBlock <;> simp)
theorem Own1.drewN {E : TypeId} {B : Nat} {w : World} {v : Value} {us : List Value} (h : Own1 E B w v us) (n : Nat) : Own1 E B (w.drewN n) v us :=
  Own1.kept (row := none) h ⟨rfl, rfl, rfl, Nat.le_refl _, fun _ _ _ => rfl⟩ (by cases v.ownBlock <;> simp)
theorem Own1.shape {E : TypeId} {B : Nat} {w : World} {v : Value} {us : List Value} (h : Own1 E B w v us) :
    (v = .slice none 0 0 ∧ us = []) ∨ ∃ g cap, v = .slice (some ⟨g, 0, none⟩) us.length cap ∧ B ≤ g ∧ g < w.heap.size ∧ us.length ≤ cap ∧ cap ≤ maxLen ∧ (∀ j, w.frozen? ⟨g, j, none⟩ = false) ∧ ∀ j, j < us.length → w.cell? ⟨g, j, none⟩ = us[j]? := by
  rcases h.2 with ⟨rfl, hn⟩ | ⟨g, cap, cur, rfl, hb, hg, hc, hm, hs, ht⟩
  · exact .inl ⟨rfl, List.length_eq_zero_iff.1 hn⟩
  · have hh : w.ownsRow B E 1 (.slice (some ⟨g, 0, none⟩) us.length cap) us.length us := ⟨h.1, .inr ⟨g, cap, cur, rfl, hb, hg, hc, hm, hs, ht⟩⟩
    exact .inr ⟨g, cap, rfl, hb, (Array.getElem?_eq_some_iff.1 hg).1, hc, hm, fun j => hh.frozenAt j, fun j hj => hh.cellAt j (by simpa using hj)⟩
theorem OwnB.row {B : Nat} {w : World} {v : Value} {l : List Nat} (h : OwnB B w v l) : ∃ a cap, v = .slice a l.length cap ∧ l.length ≤ cap ∧ cap ≤ maxLen ∧ RowAt w.heap.size w a l := by
  rcases Own1.shape h with ⟨rfl, hl⟩ | ⟨g, cap, rfl, _, hg, hc, hm, _, hcell⟩
  · have : l = [] := by simpa using hl
    subst this
    exact ⟨none, 0, rfl, by simp, by simp [maxLen], .inl rfl⟩
  · refine ⟨_, cap, by simp, by simpa using hc, hm, .inr ⟨g, 0, rfl, hg, fun j hj => ?_⟩⟩
    rw [Nat.zero_add, hcell j (by simpa using hj)]
    simp [hj]
theorem World.grownBy.below {B : Nat} {w w' : World} {row : Option Nat} (hg : w.grownBy w' row) (hB : B ≤ w.heap.size) (hr : ∀ k, row = some k → B ≤ k) : Below B w w' := (Below.refl B w).grown hg hB hr

theorem cell_of_heap {w : World} {b : Nat} {cs : Array Value} {t : TypeId} {fz : Nat × Nat} (h : w.heap[b]? = some (.cells cs t fz)) (i : Nat) : w.cell? ⟨b, i, none⟩ = cs[i]? := by
  simp [World.cell?, h]
theorem frozen_of_heap {w : World} {b : Nat} {cs : Array Value} {t : TypeId} (h : w.heap[b]? = some (.cells cs t (0, 0))) (i : Nat) : w.frozen? ⟨b, i, none⟩ = false := by
  simp [World.frozen?, h]
theorem append_one {P : Program} {ops : Array Oper} {rest : List Oper} {o : Oper} {a : Act} {Q : Exit → Act → World → Prop} {w0 : World} (T E : TypeId) (z : Value) (bytes : Nat) (hT : P.underlying T = some (.slice E))
    (hE : (P.info? E).map (fun i => (i.zero, i.size, i.bytes)) = some (some z, 1, bytes)) (hz : z.cells.size = 1) (s x : Nat) (hgd : o.guard = none)
    (ho : o.op = .call { callee := .builtin .append, args := #[.tmp s, .tmp x], argTypes := #[T, T] }) (B : Nat) (v : Value) (us : List Value) (u : Value) (hu : u.oneCell' = true)
    (hs : a.eval (.tmp s) = v) (hx : a.eval (.tmp x) = .slice (some ⟨w0.heap.size, 0, none⟩) 1 1) (hown : Own1 E B w0 v us) (hl : (us.length + 1) * bytes ≤ 140737488355328) (hl2 : us.length + 1 ≤ maxLen) (hB : B ≤ w0.heap.size)
    (h : ∀ v' w', Own1 E B w' v' (us ++ [u]) → (w0.alloc (.cells #[u] E)).grownBy w' v.ownBlock → (v'.ownBlock = v.ownBlock ∨ v'.ownBlock = some (w0.heap.size + 1)) → wpList P ops Q rest (a.put o.dst v') w') :
    wpList P ops Q (o :: rest) a (w0.alloc (.cells #[u] E)) := by
  obtain ⟨i, hi, hz0, hz1, hz2⟩ := info_parts hE
  refine wpList_append_own_at _ hgd (.tmp s) (.tmp x) T ho B E i z 1 bytes hT hi hz0 hz1 hz2 hz (by decide) v us.length us hs (World.ownsRow.alloc hown _) ⟨w0.heap.size, 0, none⟩ 1 1 [u] hx rfl (cell_one_new _ _ _) (by simpa using hu) hl2 hl (by simp; omega) ?_
  intro v' w' h1 h2 _ h4
  refine h v' w' ?_ h2 (by simpa using h4)
  unfold Own1
  rw [List.length_append]
  exact h1
theorem Own1.other {E : TypeId} {B : Nat} {w0 w' : World} {v u : Value} {us : List Value} {o : Obj} (hu : Own1 E B w0 u us) (hs : Sep v u) (hg : (w0.alloc o).grownBy w' v.ownBlock) : Own1 E B w' u us := by
  refine Own1.kept (hu.alloc o) hg ?_
  cases hv : v.ownBlock with
  | none => cases u.ownBlock <;> simp
  | some g =>
    right
    exact hs g hv
theorem Sep.other {E : TypeId} {B : Nat} {w0 : World} {v v' u : Value} {us : List Value} (hu : Own1 E B w0 u us) (hs : Sep v u) (hat : v'.ownBlock = v.ownBlock ∨ v'.ownBlock = some (w0.heap.size + 1)) : Sep v' u := by
  intro g hg hu'
  rcases hat with h | h
  · exact hs g (h ▸ hg) hu'
  · rw [h] at hg
    obtain rfl := Option.some.inj hg
    have := (hu.lt _ hu').2
    omega
theorem info_uint8 : (Tryz.prog.info? 5).map (fun i => (i.zero, i.size, i.bytes)) = some (some (.int .u8 0), 1, 1) := by kernel_rfl
theorem append_byte {ops : Array Oper} {rest : List Oper} {o : Oper} {a : Act} {Q : Exit → Act → World → Prop} {w0 : World} (s x : Nat) (hgd : o.guard = none)
    (ho : o.op = .call { callee := .builtin .append, args := #[.tmp s, .tmp x], argTypes := #[112, 112] }) (B : Nat) (v : Value) (l : List Nat) (c : Nat)
    (hs : a.eval (.tmp s) = v) (hx : a.eval (.tmp x) = .slice (some ⟨w0.heap.size, 0, none⟩) 1 1) (hown : OwnB B w0 v l) (hl : l.length + 1 ≤ 140737488355328) (hB : B ≤ w0.heap.size)
    (h : ∀ v' w', OwnB B w' v' (l ++ [c]) → (w0.alloc (.cells #[.int .u8 (c : Int)] 5)).grownBy w' v.ownBlock → (v'.ownBlock = v.ownBlock ∨ v'.ownBlock = some (w0.heap.size + 1)) → wpList Tryz.prog ops Q rest (a.put o.dst v') w') :
    wpList Tryz.prog ops Q (o :: rest) a (w0.alloc (.cells #[.int .u8 (c : Int)] 5)) := by
  refine append_one 112 5 (.int .u8 0) 1 Tryz.underlying112 info_uint8 rfl s x hgd ho B v _ _ rfl hs hx hown (by simpa using hl) (by simp [maxLen]; omega) hB ?_
  intro v' w' h1 h2 h3
  exact h v' w' (by unfold OwnB; rw [List.map_append]; exact h1) h2 h3
end Go.Proofs.YtabboioamdphmaaGreatDoor
/- What a row's list of variables gives a walk: each error variable holds a pointer to its own text; the frame of a slice of integers that comes in. -/
namespace Go.Proofs.YtabboioamdphmaaGreatDoor
open Go.RowKit Go.ChangeShapes Go.WideShapes

theorem own : ownKnob Tryz.prog.godebug = none := by kernel_rfl
theorem laidOut : laidOutB Tryz.prog = true := by kernel_rfl

def sent (text : List UInt8) : DataW Unit := .iface "*errors.errorString" (.ptr (.agg [.lit (.string text)]))
theorem starName : "*" ++ "errors.errorString" = "*errors.errorString" := by decide
theorem rowErr (u : TypeId) (h : Tryz.prog.typeName? 3 u = some "*errors.errorString") : u = 247 :=
  typeName_ptr_named (nm := "errors.errorString") (by rw [starName]; kernel_rfl) (by kernel_rfl) (by decide) u (by rw [starName]; exact h)
theorem cellsErr : Tryz.prog.cellsOf 265 = 1 := by kernel_rfl
theorem cellsStr : Tryz.prog.cellsOf 9 = 1 := by kernel_rfl

structure ErrIs (w : World) (g : Nat) (text : List UInt8) (a : Addr) : Prop where
  cell : w.cell? ⟨g, 0, none⟩ = some (.iface 247 (.pointer (some a)))
  text : ∃ s : ByteArray, w.cell? a = some (.string s) ∧ s.data.toList = text
  block : ∃ c t, w.heap[a.block]? = some (.cells c t (0, 0))

theorem ErrIs.ne' {w : World} {g g' : Nat} {t t' : List UInt8} {a a' : Addr} (h : ErrIs w g t a) (h' : ErrIs w g' t' a') (ht : t ≠ t') : a ≠ a' := by
  rintro rfl
  obtain ⟨s, hs, e⟩ := h.text
  obtain ⟨s', hs', e'⟩ := h'.text
  rw [hs] at hs'
  obtain rfl := Value.string.inj (Option.some.inj hs')
  exact ht (e.symm.trans e')

theorem laidVars_mem {W : World} {n : String} {d : DataW Unit} : ∀ {l : List (String × DataW Unit)} {ps : List MemPlace}, DataW.LaidVars Tryz.prog W l ps → (n, d) ∈ l →
    ∃ g t cs fuel p, Tryz.prog.globalNamed n = some g ∧ (Tryz.prog.globals[g]?).map (·.type) = some t ∧ W.var? Tryz.prog n = some cs ∧ DataW.trod (fun _ => ()) Tryz.prog W 0 (fun _ => true) false fuel t cs.toList = some (d, p) ∧
      (∀ x ∈ MemPlace.row ⟨g, 0, none⟩ cs.size, x ∈ ps) ∧ ∀ x ∈ p, x ∈ ps
  | [], _, _, hm => by cases hm
  | (n', d') :: r, ps, h, hm => by
    obtain ⟨g, t, cs, fuel, p, q, hg, ht, hv, hd, hr, rfl⟩ := h
    rcases List.mem_cons.1 hm with e | hm
    · obtain ⟨rfl, rfl⟩ := Prod.mk.inj e
      exact ⟨g, t, cs, fuel, p, hg, ht, hv, hd, fun x hx => by simp [hx], fun x hx => by simp [hx]⟩
    · obtain ⟨g1, t1, cs1, f1, p1, h1, h2, h3, h4, h5, h6⟩ := laidVars_mem hr hm
      exact ⟨g1, t1, cs1, f1, p1, h1, h2, h3, h4, fun x hx => by simp [h5 x hx], fun x hx => by simp [h6 x hx]⟩

set_option maxRecDepth 100000 in
theorem err_of_laidMet {l : List (String × DataW Unit)} {W : World} (h : laidMet Tryz.prog l W) {n : String} {g : Nat} {text : List UInt8} (hm : (n, sent text) ∈ l)
    (hg : Tryz.prog.globalNamed n = some g) (ht : (Tryz.prog.globals[g]?).map (·.type) = some 31) : ∃ a, ErrIs W g text a := by
  obtain ⟨ps, hl, _, hrows⟩ := h
  obtain ⟨g0, t0, cs, fuel, p, hg0, ht0, hv, hd, hr1, hr2⟩ := laidVars_mem hl hm
  obtain rfl := Option.some.inj (hg.symm.trans hg0)
  obtain rfl := Option.some.inj (ht.symm.trans ht0)
  obtain ⟨l0⟩ := cs
  have ok : ∀ u v, l0 = [.iface u v] → Value.okWide Tryz.prog W .any 0 u v := fun u v e => by
    subst e
    exact (hrows g 0 (hr1 _ (by simp [MemPlace.row]))).2 u v (by simpa using World.var?_cell hg0 hv 0)
  obtain ⟨a, s, rfl, hc, hs, _, rfl⟩ := errorString_of_trod Tryz.underlying31 rowErr Tryz.underlying247 Tryz.underlying265 rfl rfl Tryz.underlying9 cellsErr cellsStr hd ok
  exact ⟨a, by simpa using World.var?_cell hg0 hv 0, ⟨s, hc, hs⟩, (hrows a.block a.off (hr2 _ (by simp [MemPlace.row]))).1⟩

theorem err_of_laid {l : List (String × DataW Unit)} {W : World} (h : laidMetH Tryz.prog l W) {n : String} {g : Nat} {text : List UInt8} (hm : (n, sent text) ∈ l)
    (hg : Tryz.prog.globalNamed n = some g) (ht : (Tryz.prog.globals[g]?).map (·.type) = some 31) : ∃ a, ErrIs W g text a := by
  unfold laidMetH at h
  split at h
  · exact err_of_laidMet h hm hg ht
  · refine err_of_laidMet h.1 (List.mem_filter.2 ⟨hm, ?_⟩) hg ht
    rfl

end Go.Proofs.YtabboioamdphmaaGreatDoor
/- Texts: their bytes; slices of texts that are read, and that are the call's own. -/
namespace Go.Proofs.YtabboioamdphmaaGreatDoor
open Go.RowKit

def sb (s : ByteArray) (i : Nat) : Nat := (s.data.toList[i]?.getD 0).toNat
theorem sb_get (s : ByteArray) (i : Nat) (h : i < s.size) : sb s i = (s[i]'h).toNat := by
  have h2 : i < s.data.toList.length := by simpa using h
  unfold sb
  rw [List.getElem?_eq_getElem h2]
  rfl
theorem sb_out (s : ByteArray) (i : Nat) (h : s.size ≤ i) : sb s i = 0 := by
  unfold sb
  rw [List.getElem?_eq_none (by simpa using h)]
  rfl
structure TxtR (n₀ : Nat) (w : World) (b off k W : Nat) (t : Nat → ByteArray) : Prop where
  lo : b < n₀
  cell : ∀ j, j < k → w.cell? ⟨b, off + j, none⟩ = some (.string (t j))
  size : ∀ j, j < k → (t j).size = W
theorem TxtR.below {n₀ b off k W : Nat} {w w' : World} {t : Nat → ByteArray} (h : TxtR n₀ w b off k W t) (hb : Below n₀ w w') : TxtR n₀ w' b off k W t :=
  ⟨h.lo, fun j hj => (hb.cell (p := ⟨b, off + j, none⟩) h.lo).trans (h.cell j hj), h.size⟩
theorem TxtR.mono {n₀ n₁ b off k W : Nat} {w : World} {t : Nat → ByteArray} (h : TxtR n₀ w b off k W t) (hn : n₀ ≤ n₁) : TxtR n₁ w b off k W t := ⟨by have := h.lo; omega, h.cell, h.size⟩
theorem info_str : (Tryz.prog.info? 9).map (fun i => (i.zero, i.size, i.bytes)) = some (some (.string ⟨#[]⟩), 1, 16) := by kernel_rfl
theorem append_str {ops : Array Oper} {rest : List Oper} {o : Oper} {a : Act} {Q : Exit → Act → World → Prop} {w0 : World} (s x : Nat) (hgd : o.guard = none)
    (ho : o.op = .call { callee := .builtin .append, args := #[.tmp s, .tmp x], argTypes := #[22, 22] }) (B : Nat) (v : Value) (us : List Value) (t : ByteArray)
    (hs : a.eval (.tmp s) = v) (hx : a.eval (.tmp x) = .slice (some ⟨w0.heap.size, 0, none⟩) 1 1) (hown : Own1 9 B w0 v us) (hl : us.length ≤ 1000000) (hB : B ≤ w0.heap.size)
    (h : ∀ v' w', Own1 9 B w' v' (us ++ [.string t]) → (w0.alloc (.cells #[.string t] 9)).grownBy w' v.ownBlock → (v'.ownBlock = v.ownBlock ∨ v'.ownBlock = some (w0.heap.size + 1)) → wpList Tryz.prog ops Q rest (a.put o.dst v') w') :
    wpList Tryz.prog ops Q (o :: rest) a (w0.alloc (.cells #[.string t] 9)) :=
  append_one 22 9 (.string ⟨#[]⟩) 16 Tryz.underlying22 info_str rfl s x hgd ho B v us _ rfl hs hx hown (by omega) (by unfold maxLen; omega) hB h
theorem txt_of_own {B k W : Nat} {w : World} {v : Value} {t : Nat → ByteArray} (h : Own1 9 B w v ((List.range k).map fun j => Value.string (t j))) (hk : 0 < k) (hW : ∀ j, j < k → (t j).size = W) :
    ∃ g cap, v = .slice (some ⟨g, 0, none⟩) k cap ∧ B ≤ g ∧ k ≤ cap ∧ TxtR w.heap.size w g 0 k W t := by
  rcases h.shape with ⟨_, e⟩ | ⟨g, cap, e, hg, hlt, hc, _, _, hcell⟩
  · have := congrArg List.length e
    simp at this; omega
  · have hl : ((List.range k).map fun j => Value.string (t j)).length = k := by simp
    rw [hl] at e hc hcell
    refine ⟨g, cap, e, hg, hc, hlt, fun j hj => ?_, hW⟩
    rw [Nat.zero_add, hcell j hj]; simp [hj]
end Go.Proofs.YtabboioamdphmaaGreatDoor
/- Plain arithmetic of the field of 256 elements on natural numbers below 256: the product as the program makes it, that it is bilinear, commutative, associative, and has inverses. No program in sight. -/
namespace Go.Proofs.YtabboioamdphmaaGreatDoor
namespace Gf

def xt (a : Nat) : Nat := (a * 2 % 256) ^^^ (29 * (a / 128))
def mulN : Nat → Nat → Nat → Nat → Nat
  | 0, _, _, out => out
  | n + 1, a, b, out => mulN n (xt a) (b / 2) (if b % 2 = 1 then out ^^^ a else out)
def mul (a b : Nat) : Nat := mulN 8 a b 0

theorem xor_lt {a b : Nat} (ha : a < 256) (hb : b < 256) : a ^^^ b < 256 := Nat.xor_lt_two_pow (n := 8) ha hb
theorem xt_lt {a : Nat} (ha : a < 256) : xt a < 256 := by
  unfold xt
  exact xor_lt (Nat.mod_lt _ (by decide)) (by omega)
theorem mulN_lt (n a b out : Nat) (ha : a < 256) (ho : out < 256) : mulN n a b out < 256 := by
  induction n generalizing a b out with
  | zero => exact ho
  | succ n ih =>
    unfold mulN
    refine ih _ _ _ (xt_lt ha) ?_
    split
    · exact xor_lt ho ha
    · exact ho
theorem mul_lt {a : Nat} (b : Nat) (ha : a < 256) : mul a b < 256 := mulN_lt _ _ _ _ ha (by decide)

theorem xor_mul_two (a b : Nat) : (a ^^^ b) * 2 = (a * 2) ^^^ (b * 2) := by
  have h := Nat.shiftLeft_xor_distrib (a := a) (b := b) (i := 1)
  simpa [Nat.shiftLeft_eq] using h
theorem xor_div_two (a b : Nat) : (a ^^^ b) / 2 = (a / 2) ^^^ (b / 2) := by
  have h := Nat.shiftRight_xor_distrib (a := a) (b := b) (i := 1)
  simpa [Nat.shiftRight_eq_div_pow] using h
theorem xor_div_128 (a b : Nat) : (a ^^^ b) / 128 = (a / 128) ^^^ (b / 128) := by
  have h := Nat.shiftRight_xor_distrib (a := a) (b := b) (i := 7)
  simpa [Nat.shiftRight_eq_div_pow] using h
theorem xor_mod_256 (a b : Nat) : (a ^^^ b) % 256 = (a % 256) ^^^ (b % 256) := Nat.xor_mod_two_pow (n := 8)
theorem xor_mod_2 (a b : Nat) : (a ^^^ b) % 2 = (a % 2) ^^^ (b % 2) := Nat.xor_mod_two_pow (n := 1)
theorem mul29 {p q : Nat} (hp : p < 2) (hq : q < 2) : 29 * (p ^^^ q) = (29 * p) ^^^ (29 * q) := by
  rcases (show p = 0 ∨ p = 1 by omega) with rfl | rfl <;> rcases (show q = 0 ∨ q = 1 by omega) with rfl | rfl <;> rfl
theorem xor4 (a b c d : Nat) : (a ^^^ b) ^^^ (c ^^^ d) = (a ^^^ c) ^^^ (b ^^^ d) := by ac_rfl
theorem xt_xor {a b : Nat} (ha : a < 256) (hb : b < 256) : xt (a ^^^ b) = xt a ^^^ xt b := by
  unfold xt
  rw [xor_mul_two, xor_mod_256, xor_div_128, mul29 (by omega) (by omega), xor4]
theorem mulN_xor_left (n : Nat) : ∀ (a a' b o o' : Nat), a < 256 → a' < 256 → mulN n (a ^^^ a') b (o ^^^ o') = mulN n a b o ^^^ mulN n a' b o' := by
  induction n with
  | zero => intros; rfl
  | succ n ih =>
    intro a a' b o o' ha ha'
    unfold mulN
    rw [xt_xor ha ha']
    split
    · rw [xor4]; exact ih _ _ _ _ _ (xt_lt ha) (xt_lt ha')
    · exact ih _ _ _ _ _ (xt_lt ha) (xt_lt ha')
theorem mulN_xor_right (n : Nat) : ∀ (a b b' o o' : Nat), mulN n a (b ^^^ b') (o ^^^ o') = mulN n a b o ^^^ mulN n a b' o' := by
  induction n with
  | zero => intros; rfl
  | succ n ih =>
    intro a b b' o o'
    unfold mulN
    rw [xor_div_two, xor_mod_2]
    have key : (if b % 2 ^^^ b' % 2 = 1 then o ^^^ o' ^^^ a else o ^^^ o') = (if b % 2 = 1 then o ^^^ a else o) ^^^ (if b' % 2 = 1 then o' ^^^ a else o') := by
      rcases (show b % 2 = 0 ∨ b % 2 = 1 by omega) with h | h <;> rcases (show b' % 2 = 0 ∨ b' % 2 = 1 by omega) with h' | h' <;> simp only [h, h']
      · simp
      · simp; ac_rfl
      · simp; ac_rfl
      · have : (o ^^^ a) ^^^ (o' ^^^ a) = o ^^^ o' := by rw [xor4, Nat.xor_self, Nat.xor_zero]
        simp [this]
    rw [key]
    exact ih _ _ _ _ _
theorem mul_xor_left {a a' : Nat} (b : Nat) (ha : a < 256) (ha' : a' < 256) : mul (a ^^^ a') b = mul a b ^^^ mul a' b := mulN_xor_left 8 a a' b 0 0 ha ha'
theorem mul_xor_right (a b b' : Nat) : mul a (b ^^^ b') = mul a b ^^^ mul a b' := mulN_xor_right 8 a b b' 0 0
theorem mulN_zero_right (n a o : Nat) : mulN n a 0 o = o := by
  induction n generalizing a with
  | zero => rfl
  | succ n ih => unfold mulN; simpa using ih _
theorem mul_zero (a : Nat) : mul a 0 = 0 := mulN_zero_right 8 a 0
theorem zero_mul (b : Nat) : mul 0 b = 0 := by
  have h := mul_xor_left (a := 0) (a' := 0) b (by decide) (by decide)
  rw [Nat.xor_self, Nat.xor_self] at h; exact h

def bitAt (a i : Nat) : Nat := a / 2 ^ i % 2 * 2 ^ i
theorem bits_of : ∀ a, a < 256 → bitAt a 0 ^^^ (bitAt a 1 ^^^ (bitAt a 2 ^^^ (bitAt a 3 ^^^ (bitAt a 4 ^^^ (bitAt a 5 ^^^ (bitAt a 6 ^^^ bitAt a 7)))))) = a := by decide +kernel
theorem bitAt_cases (a i : Nat) : bitAt a i = 0 ∨ bitAt a i = 2 ^ i := by
  unfold bitAt
  rcases (show a / 2 ^ i % 2 = 0 ∨ a / 2 ^ i % 2 = 1 by omega) with h | h <;> simp [h]
theorem bitAt_lt (a i : Nat) (hi : i < 8) : bitAt a i < 256 := by
  rcases bitAt_cases a i with h | h <;> rw [h]
  · decide
  · rcases (show i = 0 ∨ i = 1 ∨ i = 2 ∨ i = 3 ∨ i = 4 ∨ i = 5 ∨ i = 6 ∨ i = 7 by omega) with rfl | rfl | rfl | rfl | rfl | rfl | rfl | rfl <;> decide
theorem lin_ext (f g : Nat → Nat) (hf : ∀ x y, x < 256 → y < 256 → f (x ^^^ y) = f x ^^^ f y) (hg : ∀ x y, x < 256 → y < 256 → g (x ^^^ y) = g x ^^^ g y)
    (h : ∀ i, i < 8 → f (2 ^ i) = g (2 ^ i)) (a : Nat) (ha : a < 256) : f a = g a := by
  have f0 : f 0 = 0 := by have := hf 0 0 (by decide) (by decide); rw [Nat.xor_self, Nat.xor_self] at this; exact this
  have g0 : g 0 = 0 := by have := hg 0 0 (by decide) (by decide); rw [Nat.xor_self, Nat.xor_self] at this; exact this
  have at1 : ∀ i, i < 8 → f (bitAt a i) = g (bitAt a i) := by
    intro i hi
    rcases bitAt_cases a i with e | e <;> rw [e]
    · rw [f0, g0]
    · exact h i hi
  have hl := fun i hi => bitAt_lt a i hi
  have e := bits_of a ha
  have l7 := hl 7 (by decide)
  have l6 := xor_lt (hl 6 (by decide)) l7
  have l5 := xor_lt (hl 5 (by decide)) l6
  have l4 := xor_lt (hl 4 (by decide)) l5
  have l3 := xor_lt (hl 3 (by decide)) l4
  have l2 := xor_lt (hl 2 (by decide)) l3
  have l1 := xor_lt (hl 1 (by decide)) l2
  rw [← e, hf _ _ (hl 0 (by decide)) l1, hf _ _ (hl 1 (by decide)) l2, hf _ _ (hl 2 (by decide)) l3, hf _ _ (hl 3 (by decide)) l4, hf _ _ (hl 4 (by decide)) l5, hf _ _ (hl 5 (by decide)) l6, hf _ _ (hl 6 (by decide)) l7,
    hg _ _ (hl 0 (by decide)) l1, hg _ _ (hl 1 (by decide)) l2, hg _ _ (hl 2 (by decide)) l3, hg _ _ (hl 3 (by decide)) l4, hg _ _ (hl 4 (by decide)) l5, hg _ _ (hl 5 (by decide)) l6, hg _ _ (hl 6 (by decide)) l7,
    at1 0 (by decide), at1 1 (by decide), at1 2 (by decide), at1 3 (by decide), at1 4 (by decide), at1 5 (by decide), at1 6 (by decide), at1 7 (by decide)]
theorem pow2_lt {i : Nat} (hi : i < 8) : 2 ^ i < 256 := Nat.pow_lt_pow_right (a := 2) (m := i) (n := 8) (by decide) hi
theorem comm_base : ∀ i, i < 8 → ∀ j, j < 8 → mul (2 ^ i) (2 ^ j) = mul (2 ^ j) (2 ^ i) := by decide +kernel
theorem mul_comm {a b : Nat} (ha : a < 256) (hb : b < 256) : mul a b = mul b a := by
  refine lin_ext (fun x => mul x b) (fun x => mul b x) (fun x y hx hy => mul_xor_left b hx hy) (fun x y _ _ => mul_xor_right b x y) ?_ a ha
  intro i hi
  refine lin_ext (fun y => mul (2 ^ i) y) (fun y => mul y (2 ^ i)) (fun x y _ _ => mul_xor_right _ x y) (fun x y hx hy => mul_xor_left _ hx hy) ?_ b hb
  intro j hj
  exact comm_base i hi j hj
theorem assoc_base : ∀ i, i < 8 → ∀ j, j < 8 → ∀ k, k < 8 → mul (mul (2 ^ i) (2 ^ j)) (2 ^ k) = mul (2 ^ i) (mul (2 ^ j) (2 ^ k)) := by decide +kernel
theorem mul_assoc {a b : Nat} (c : Nat) (ha : a < 256) (hb : b < 256) (hc : c < 256) : mul (mul a b) c = mul a (mul b c) := by
  refine lin_ext (fun x => mul (mul x b) c) (fun x => mul x (mul b c)) (fun x y hx hy => by simp only [mul_xor_left b hx hy, mul_xor_left c (mul_lt b hx) (mul_lt b hy)]) (fun x y hx hy => mul_xor_left _ hx hy) ?_ a ha
  intro i hi
  refine lin_ext (fun x => mul (mul (2 ^ i) x) c) (fun x => mul (2 ^ i) (mul x c)) (fun x y hx hy => by simp only [mul_xor_right, mul_xor_left c (mul_lt x (pow2_lt hi)) (mul_lt y (pow2_lt hi))])
    (fun x y hx hy => by simp only [mul_xor_left c hx hy, mul_xor_right]) ?_ b hb
  intro j hj
  refine lin_ext (fun x => mul (mul (2 ^ i) (2 ^ j)) x) (fun x => mul (2 ^ i) (mul (2 ^ j) x)) (fun x y _ _ => mul_xor_right _ x y) (fun x y _ _ => by simp only [mul_xor_right]) ?_ c hc
  intro k hk
  exact assoc_base i hi j hj k hk
theorem mul_one : ∀ a, a < 256 → mul a 1 = a := by decide +kernel
theorem one_mul {a : Nat} (ha : a < 256) : mul 1 a = a := by rw [mul_comm (by decide) ha, mul_one a ha]

def powF : Nat → Nat → Nat → Nat → Nat
  | 0, _, _, out => out
  | f + 1, a, n, out => if n = 0 then out else powF f (mul a a) (n / 2) (if n % 2 = 1 then mul out a else out)
def pow (a : Nat) : Nat → Nat
  | 0 => 1
  | n + 1 => mul (pow a n) a
theorem pow_lt {a : Nat} (ha : a < 256) : ∀ n, pow a n < 256
  | 0 => (by decide : 1 < 256)
  | n + 1 => mul_lt a (pow_lt ha n)
theorem pow_add {a : Nat} (ha : a < 256) (m : Nat) : ∀ n, pow a (m + n) = mul (pow a m) (pow a n)
  | 0 => by show pow a m = mul (pow a m) 1; rw [mul_one _ (pow_lt ha m)]
  | n + 1 => by
    show mul (pow a (m + n)) a = mul (pow a m) (mul (pow a n) a)
    rw [pow_add ha m n, mul_assoc _ (pow_lt ha m) (pow_lt ha n) ha]
theorem pow_sq {a : Nat} (ha : a < 256) : ∀ n, pow (mul a a) n = pow a (2 * n)
  | 0 => rfl
  | n + 1 => by
    show mul (pow (mul a a) n) (mul a a) = pow a (2 * n + 2)
    rw [pow_sq ha n]
    show _ = mul (mul (pow a (2 * n)) a) a
    rw [mul_assoc _ (pow_lt ha _) ha ha]
theorem powF_eq (f : Nat) : ∀ (a n out : Nat), a < 256 → out < 256 → n < 2 ^ f → powF f a n out = mul out (pow a n) := by
  induction f with
  | zero =>
    intro a n out ha ho hn
    have hn : n < 1 := hn
    obtain rfl : n = 0 := by omega
    show out = mul out 1
    rw [mul_one _ ho]
  | succ f ih =>
    intro a n out ha ho hn
    unfold powF
    have hp : 2 ^ (f + 1) = 2 ^ f * 2 := Nat.pow_succ 2 f
    split
    · next h => subst h; show out = mul out 1; rw [mul_one _ ho]
    · next h =>
      rw [ih _ _ _ (mul_lt a ha) (by split; exact mul_lt a ho; exact ho) (by omega), pow_sq ha]
      split
      · next h1 =>
        have e : n = 2 * (n / 2) + 1 := by omega
        have e2 : pow a n = mul (pow a (2 * (n / 2))) a := by conv => lhs; rw [e]
                                                              rfl
        rw [e2, mul_assoc _ ho ha (pow_lt ha _), mul_comm ha (pow_lt ha _)]
      · next h1 =>
        have e : 2 * (n / 2) = n := by omega
        rw [e]
theorem pow_odd {a n : Nat} (ha : a < 256) (h : n % 2 = 1) : mul a (pow (mul a a) (n / 2)) = pow a n := by
  rw [pow_sq ha, mul_comm ha (pow_lt ha _)]
  have e : n = 2 * (n / 2) + 1 := by omega
  conv => rhs; rw [e]
  rfl
theorem pow_even {a n : Nat} (ha : a < 256) (h : ¬ n % 2 = 1) : pow (mul a a) (n / 2) = pow a n := by
  rw [pow_sq ha]
  have e : 2 * (n / 2) = n := by omega
  rw [e]
def inv (a : Nat) : Nat := pow a 254
theorem inv_lt {a : Nat} (ha : a < 256) : inv a < 256 := pow_lt ha _
theorem powF_inv : ∀ a, a < 256 → a ≠ 0 → mul a (powF 8 a 254 1) = 1 := by decide +kernel
theorem mul_inv {a : Nat} (ha : a < 256) (h : a ≠ 0) : mul a (inv a) = 1 := by
  have := powF_inv a ha h
  rw [powF_eq 8 a 254 1 ha (by decide) (by decide), one_mul (pow_lt ha _)] at this
  exact this
theorem inv_mul {a : Nat} (ha : a < 256) (h : a ≠ 0) : mul (inv a) a = 1 := by rw [mul_comm (inv_lt ha) ha, mul_inv ha h]
theorem mul_eq_zero {a b : Nat} (ha : a < 256) (hb : b < 256) (h : mul a b = 0) : a = 0 ∨ b = 0 := by
  by_cases h0 : a = 0
  · exact .inl h0
  · right
    have := congrArg (mul (inv a)) h
    rw [← mul_assoc b (inv_lt ha) ha hb, inv_mul ha h0, one_mul hb, mul_zero] at this
    exact this
theorem mul_ne_zero {a b : Nat} (ha : a < 256) (hb : b < 256) (h0 : a ≠ 0) (h1 : b ≠ 0) : mul a b ≠ 0 := fun h => (mul_eq_zero ha hb h).elim h0 h1
theorem inv_unique {a b : Nat} (ha : a < 256) (hb : b < 256) (h : mul a b = 1) : b = inv a := by
  have h0 : a ≠ 0 := by intro h0; rw [h0, zero_mul] at h; exact absurd h (by decide)
  have := congrArg (mul (inv a)) h
  rw [← mul_assoc b (inv_lt ha) ha hb, inv_mul ha h0, one_mul hb, mul_one _ (inv_lt ha)] at this
  exact this
def horner (x : Nat) : List Nat → Nat
  | [] => 0
  | c :: r => mul (horner x r) x ^^^ c
end Gf
end Go.Proofs.YtabboioamdphmaaGreatDoor
