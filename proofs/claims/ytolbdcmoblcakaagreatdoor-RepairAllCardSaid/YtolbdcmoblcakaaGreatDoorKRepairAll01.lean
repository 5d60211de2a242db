/- Slices of bytes that are read: what a walk is told of them. -/
import Derived.Test.YtolbdcmoblcakaaGreatDoorProg
import Derived.WalkKit
import Derived.WalkSpells
import Derived.WalkLawsBesides
import Derived.Laws.BitsAllLaws
import Derived.Lib.Hide
import Derived.Test.YtolbdcmoblcakaaGreatDoorRows
import Derived.ProofKit
import Derived.OpenShut
import Derived.ShutString
import Derived.ChangeOld
import Derived.Below
import Derived.LaidLaws
import Derived.LaidMore
import Derived.LaidHandle
import Derived.LaidEql
import Derived.RowKitTokens
import Derived.Deep.DeepHandedRow
import Derived.Deep.DeepWitnessRowRef
import Derived.SevenTiedAt
import Derived.Maps.AppendAt
import Derived.Laws.AppendOwnNone
import Derived.Deep.SlicePairs
import GoSem.Op.String
namespace Go.Proofs.YtolbdcmoblcakaaGreatDoor
open Go.RowKit

/-- The slice at address a reads as the bytes l, in a block below n₀. -/
def RowAt (n₀ : Nat) (w : World) (a : Option Addr) (l : List Nat) : Prop :=
  l = [] ∨ ∃ b off, a = some ⟨b, off, none⟩ ∧ b < n₀ ∧ ∀ j, j < l.length → w.cell? ⟨b, off + j, none⟩ = some (.int .u8 ((l[j]?.getD 0 : Nat) : Int))
theorem RowAt.below {n₀ : Nat} {A B : World} (h : Below n₀ A B) {a : Option Addr} {l : List Nat} : RowAt n₀ A a l → RowAt n₀ B a l
  | .inl e => .inl e
  | .inr ⟨b, off, e, hb, hc⟩ => .inr ⟨b, off, e, hb, fun j hj => (h.cell (p := ⟨b, off + j, none⟩) hb).trans (hc j hj)⟩
theorem RowAt.mono {n₀ n₁ : Nat} {A : World} (h : n₀ ≤ n₁) {a : Option Addr} {l : List Nat} : RowAt n₀ A a l → RowAt n₁ A a l
  | .inl e => .inl e
  | .inr ⟨b, off, e, hb, hc⟩ => .inr ⟨b, off, e, by omega, hc⟩
theorem RowAt.take {n₀ : Nat} {A : World} {a : Option Addr} {l : List Nat} (k : Nat) : RowAt n₀ A a l → RowAt n₀ A a (l.take k)
  | .inl e => .inl (by rw [e]; simp)
  | .inr ⟨b, off, e, hb, hc⟩ => .inr ⟨b, off, e, hb, fun j hj => by
      have hj' : j < l.length := by simp at hj; omega
      have hk : j < k := by simp at hj; omega
      rw [hc j hj', List.getElem?_take, if_pos hk]⟩
def Bytes (l : List Nat) : Prop := ∀ x ∈ l, x < 256
theorem Bytes.at {l : List Nat} (h : Bytes l) (j : Nat) : l[j]?.getD 0 < 256 := by
  by_cases hj : j < l.length
  · rw [List.getElem?_eq_getElem hj]; exact h _ (List.getElem_mem hj)
  · rw [List.getElem?_eq_none (by omega)]; decide
theorem Bytes.take {l : List Nat} (h : Bytes l) (k : Nat) : Bytes (l.take k) := fun x hx => h x (List.mem_of_mem_take hx)

/-! ### slices of the call's own -/
/-- v owns the values us (of one cell each, of type E), in blocks from B on. -/
def Own1 (E : TypeId) (B : Nat) (w : World) (v : Value) (us : List Value) : Prop := w.ownsRow B E 1 v us.length us
/-- v owns the bytes l. -/
def OwnB (B : Nat) (w : World) (v : Value) (l : List Nat) : Prop := Own1 5 B w v (l.map fun n : Nat => Value.int .u8 (n : Int))
/-- two slices of the call's own lie apart. -/
def Sep (v u : Value) : Prop := ∀ g, v.ownBlock = some g → u.ownBlock ≠ some g
theorem Sep.symm {v u : Value} (h : Sep v u) : Sep u v := fun g h1 h2 => h g h2 h1
theorem Sep.nil (u : Value) : Sep (.slice none 0 0) u := fun _ h => by cases h
theorem Own1.nil (E : TypeId) (B : Nat) (w : World) : Own1 E B w (.slice none 0 0) [] := World.ownsRow_nil _ _ _ _
theorem OwnB.nil (B : Nat) (w : World) : OwnB B w (.slice none 0 0) [] := World.ownsRow_nil _ _ _ _
theorem Own1.lt {E : TypeId} {B : Nat} {w : World} {v : Value} {us : List Value} (h : Own1 E B w v us) : ∀ k, v.ownBlock = some k → B ≤ k ∧ k < w.heap.size := World.ownsRow.lt h
theorem Own1.kept {E : TypeId} {B : Nat} {w w' : World} {row : Option Nat} {v : Value} {us : List Value} (h : Own1 E B w v us) (hg : w.grownBy w' row) (hne : v.ownBlock = none ∨ v.ownBlock ≠ row) : Own1 E B w' v us := World.ownsRow.kept h hg hne
theorem Own1.alloc {E : TypeId} {B : Nat} {w : World} {v : Value} {us : List Value} (h : Own1 E B w v us) (o : Obj) : Own1 E B (w.alloc o) v us := World.ownsRow.alloc h o
theorem Own1.below {E : TypeId} {B n₀ : Nat} {w w' : World} {v : Value} {us : List Value} (h : Own1 E B w v us) (hb : Below n₀ w w') (hn : w.heap.size ≤ n₀) : Own1 E B w' v us :=
  Own1.kept (row := none) h ⟨hb.os, hb.tape, hb.output, hb.size, fun k hk _ => hb.block k (by omega)⟩ (by cases v.ownBlock <;> simp)
theorem Own1.drewN {E : TypeId} {B : Nat} {w : World} {v : Value} {us : List Value} (h : Own1 E B w v us) (n : Nat) : Own1 E B (w.drewN n) v us :=
  Own1.kept (row := none) h ⟨rfl, rfl, rfl, Nat.le_refl _, fun _ _ _ => rfl⟩ (by cases v.ownBlock <;> simp)
/-- nil, or a head of a block. -/
theorem Own1.shape {E : TypeId} {B : Nat} {w : World} {v : Value} {us : List Value} (h : Own1 E B w v us) :
    (v = .slice none 0 0 ∧ us = []) ∨ ∃ g cap, v = .slice (some ⟨g, 0, none⟩) us.length cap ∧ B ≤ g ∧ g < w.heap.size ∧ us.length ≤ cap ∧ cap ≤ maxLen ∧ (∀ j, w.frozen? ⟨g, j, none⟩ = false) ∧ ∀ j, j < us.length → w.cell? ⟨g, j, none⟩ = us[j]? := by
  rcases h.2 with ⟨rfl, hn⟩ | ⟨g, cap, cur, rfl, hb, hg, hc, hm, hs, ht⟩
  · exact .inl ⟨rfl, List.length_eq_zero_iff.1 hn⟩
  · have hh : w.ownsRow B E 1 (.slice (some ⟨g, 0, none⟩) us.length cap) us.length us := ⟨h.1, .inr ⟨g, cap, cur, rfl, hb, hg, hc, hm, hs, ht⟩⟩
    exact .inr ⟨g, cap, rfl, hb, (Array.getElem?_eq_some_iff.1 hg).1, hc, hm, fun j => hh.frozenAt j, fun j hj => hh.cellAt j (by simpa using hj)⟩
theorem OwnB.row {B : Nat} {w : World} {v : Value} {l : List Nat} (h : OwnB B w v l) : ∃ a cap, v = .slice a l.length cap ∧ l.length ≤ cap ∧ cap ≤ maxLen ∧ RowAt w.heap.size w a l := by
  rcases Own1.shape h with ⟨rfl, hl⟩ | ⟨g, cap, rfl, _, hg, hc, hm, _, hcell⟩
  · have : l = [] := by simpa using hl
    subst this
    exact ⟨none, 0, rfl, by simp, by simp [maxLen], .inl rfl⟩
  · refine ⟨_, cap, by simp, by simpa using hc, hm, .inr ⟨g, 0, rfl, hg, fun j hj => ?_⟩⟩
    rw [Nat.zero_add, hcell j (by simpa using hj)]
    simp [hj]
theorem World.grownBy.below {B : Nat} {w w' : World} {row : Option Nat} (hg : w.grownBy w' row) (hB : B ≤ w.heap.size) (hr : ∀ k, row = some k → B ≤ k) : Below B w w' := (Below.refl B w).grown hg hB hr

theorem cell_of_heap {w : World} {b : Nat} {cs : Array Value} {t : TypeId} {fz : Nat × Nat} (h : w.heap[b]? = some (.cells cs t fz)) (i : Nat) : w.cell? ⟨b, i, none⟩ = cs[i]? := by
  simp [World.cell?, h]
theorem frozen_of_heap {w : World} {b : Nat} {cs : Array Value} {t : TypeId} (h : w.heap[b]? = some (.cells cs t (0, 0))) (i : Nat) : w.frozen? ⟨b, i, none⟩ = false := by
  simp [World.frozen?, h]
/-- append(s, u), s a slice of the call's own, u of one cell. -/
theorem append_one {P : Program} {ops : Array Oper} {rest : List Oper} {o : Oper} {a : Act} {Q : Exit → Act → World → Prop} {w0 : World} (T E : TypeId) (z : Value) (bytes : Nat) (hT : P.underlying T = some (.slice E))
    (hE : (P.info? E).map (fun i => (i.zero, i.size, i.bytes)) = some (some z, 1, bytes)) (hz : z.cells.size = 1) (s x : Nat) (hgd : o.guard = none)
    (ho : o.op = .call { callee := .builtin .append, args := #[.tmp s, .tmp x], argTypes := #[T, T] }) (B : Nat) (v : Value) (us : List Value) (u : Value) (hu : u.oneCell' = true)
    (hs : a.eval (.tmp s) = v) (hx : a.eval (.tmp x) = .slice (some ⟨w0.heap.size, 0, none⟩) 1 1) (hown : Own1 E B w0 v us) (hl : (us.length + 1) * bytes ≤ 140737488355328) (hl2 : us.length + 1 ≤ maxLen) (hB : B ≤ w0.heap.size)
    (h : ∀ v' w', Own1 E B w' v' (us ++ [u]) → (w0.alloc (.cells #[u] E)).grownBy w' v.ownBlock → (v'.ownBlock = v.ownBlock ∨ v'.ownBlock = some (w0.heap.size + 1)) → wpList P ops Q rest (a.put o.dst v') w') :
    wpList P ops Q (o :: rest) a (w0.alloc (.cells #[u] E)) := by
  obtain ⟨i, hi, hz0, hz1, hz2⟩ := info_parts hE
  refine wpList_append_own_at _ hgd (.tmp s) (.tmp x) T ho B E i z 1 bytes hT hi hz0 hz1 hz2 hz (by decide) v us.length us hs (World.ownsRow.alloc hown _) ⟨w0.heap.size, 0, none⟩ 1 1 [u] hx rfl (cell_one_new _ _ _) (by simpa using hu) hl2 hl (by simp; omega) ?_
  intro v' w' h1 h2 _ h4
  refine h v' w' ?_ h2 (by simpa using h4)
  unfold Own1
  rw [List.length_append]
  exact h1
/-- what an append to v leaves of another one's own. -/
theorem Own1.other {E : TypeId} {B : Nat} {w0 w' : World} {v u : Value} {us : List Value} {o : Obj} (hu : Own1 E B w0 u us) (hs : Sep v u) (hg : (w0.alloc o).grownBy w' v.ownBlock) : Own1 E B w' u us := by
  refine Own1.kept (hu.alloc o) hg ?_
  cases hv : v.ownBlock with
  | none => cases u.ownBlock <;> simp
  | some g =>
    right
    exact hs g hv
theorem Sep.other {E : TypeId} {B : Nat} {w0 : World} {v v' u : Value} {us : List Value} (hu : Own1 E B w0 u us) (hs : Sep v u) (hat : v'.ownBlock = v.ownBlock ∨ v'.ownBlock = some (w0.heap.size + 1)) : Sep v' u := by
  intro g hg hu'
  rcases hat with h | h
  · exact hs g (h ▸ hg) hu'
  · rw [h] at hg
    obtain rfl := Option.some.inj hg
    have := (hu.lt _ hu').2
    omega
theorem info_uint8 : (Tryz.prog.info? 5).map (fun i => (i.zero, i.size, i.bytes)) = some (some (.int .u8 0), 1, 1) := by kernel_rfl
/-- append(s, c) of a byte. -/
theorem append_byte {ops : Array Oper} {rest : List Oper} {o : Oper} {a : Act} {Q : Exit → Act → World → Prop} {w0 : World} (s x : Nat) (hgd : o.guard = none)
    (ho : o.op = .call { callee := .builtin .append, args := #[.tmp s, .tmp x], argTypes := #[92, 92] }) (B : Nat) (v : Value) (l : List Nat) (c : Nat)
    (hs : a.eval (.tmp s) = v) (hx : a.eval (.tmp x) = .slice (some ⟨w0.heap.size, 0, none⟩) 1 1) (hown : OwnB B w0 v l) (hl : l.length + 1 ≤ 140737488355328) (hB : B ≤ w0.heap.size)
    (h : ∀ v' w', OwnB B w' v' (l ++ [c]) → (w0.alloc (.cells #[.int .u8 (c : Int)] 5)).grownBy w' v.ownBlock → (v'.ownBlock = v.ownBlock ∨ v'.ownBlock = some (w0.heap.size + 1)) → wpList Tryz.prog ops Q rest (a.put o.dst v') w') :
    wpList Tryz.prog ops Q (o :: rest) a (w0.alloc (.cells #[.int .u8 (c : Int)] 5)) := by
  refine append_one 92 5 (.int .u8 0) 1 Tryz.underlying92 info_uint8 rfl s x hgd ho B v _ _ rfl hs hx hown (by simpa using hl) (by simp [maxLen]; omega) hB ?_
  intro v' w' h1 h2 h3
  exact h v' w' (by unfold OwnB; rw [List.map_append]; exact h1) h2 h3
end Go.Proofs.YtolbdcmoblcakaaGreatDoor
/- What a row's list of variables gives a walk: each error variable holds a pointer to its own text; the frame of a slice of integers that comes in. -/
namespace Go.Proofs.YtolbdcmoblcakaaGreatDoor
open Go.RowKit Go.ChangeShapes Go.WideShapes

theorem own : ownKnob Tryz.prog.godebug = none := by kernel_rfl
theorem laidOut : laidOutB Tryz.prog = true := by kernel_rfl

def sent (text : List UInt8) : DataW Unit := .iface "*errors.errorString" (.ptr (.agg [.lit (.string text)]))
theorem starName : "*" ++ "errors.errorString" = "*errors.errorString" := by decide
theorem rowErr (u : TypeId) (h : Tryz.prog.typeName? 3 u = some "*errors.errorString") : u = 218 :=
  typeName_ptr_named (nm := "errors.errorString") (by rw [starName]; kernel_rfl) (by kernel_rfl) (by decide) u (by rw [starName]; exact h)
theorem cellsErr : Tryz.prog.cellsOf 237 = 1 := by kernel_rfl
theorem cellsStr : Tryz.prog.cellsOf 9 = 1 := by kernel_rfl

/-- variable g holds a pointer to a text of its own. -/
structure ErrIs (w : World) (g : Nat) (text : List UInt8) (a : Addr) : Prop where
  cell : w.cell? ⟨g, 0, none⟩ = some (.iface 218 (.pointer (some a)))
  text : ∃ s : ByteArray, w.cell? a = some (.string s) ∧ s.data.toList = text
  block : ∃ c t, w.heap[a.block]? = some (.cells c t (0, 0))

theorem ErrIs.ne' {w : World} {g g' : Nat} {t t' : List UInt8} {a a' : Addr} (h : ErrIs w g t a) (h' : ErrIs w g' t' a') (ht : t ≠ t') : a ≠ a' := by
  rintro rfl
  obtain ⟨s, hs, e⟩ := h.text
  obtain ⟨s', hs', e'⟩ := h'.text
  rw [hs] at hs'
  obtain rfl := Value.string.inj (Option.some.inj hs')
  exact ht (e.symm.trans e')

theorem laidVars_mem {W : World} {n : String} {d : DataW Unit} : ∀ {l : List (String × DataW Unit)} {ps : List MemPlace}, DataW.LaidVars Tryz.prog W l ps → (n, d) ∈ l →
    ∃ g t cs fuel p, Tryz.prog.globalNamed n = some g ∧ (Tryz.prog.globals[g]?).map (·.type) = some t ∧ W.var? Tryz.prog n = some cs ∧ DataW.trod (fun _ => ()) Tryz.prog W 0 (fun _ => true) false fuel t cs.toList = some (d, p) ∧
      (∀ x ∈ MemPlace.row ⟨g, 0, none⟩ cs.size, x ∈ ps) ∧ ∀ x ∈ p, x ∈ ps
  | [], _, _, hm => by cases hm
  | (n', d') :: r, ps, h, hm => by
    obtain ⟨g, t, cs, fuel, p, q, hg, ht, hv, hd, hr, rfl⟩ := h
    rcases List.mem_cons.1 hm with e | hm
    · obtain ⟨rfl, rfl⟩ := Prod.mk.inj e
      exact ⟨g, t, cs, fuel, p, hg, ht, hv, hd, fun x hx => by simp [hx], fun x hx => by simp [hx]⟩
    · obtain ⟨g1, t1, cs1, f1, p1, h1, h2, h3, h4, h5, h6⟩ := laidVars_mem hr hm
      exact ⟨g1, t1, cs1, f1, p1, h1, h2, h3, h4, fun x hx => by simp [h5 x hx], fun x hx => by simp [h6 x hx]⟩

set_option maxRecDepth 100000 in
theorem err_of_laidMet {l : List (String × DataW Unit)} {W : World} (h : laidMet Tryz.prog l W) {n : String} {g : Nat} {text : List UInt8} (hm : (n, sent text) ∈ l)
    (hg : Tryz.prog.globalNamed n = some g) (ht : (Tryz.prog.globals[g]?).map (·.type) = some 35) : ∃ a, ErrIs W g text a := by
  obtain ⟨ps, hl, _, hrows⟩ := h
  obtain ⟨g0, t0, cs, fuel, p, hg0, ht0, hv, hd, hr1, hr2⟩ := laidVars_mem hl hm
  obtain rfl := Option.some.inj (hg.symm.trans hg0)
  obtain rfl := Option.some.inj (ht.symm.trans ht0)
  obtain ⟨l0⟩ := cs
  have ok : ∀ u v, l0 = [.iface u v] → Value.okWide Tryz.prog W .any 0 u v := fun u v e => by
    subst e
    exact (hrows g 0 (hr1 _ (by simp [MemPlace.row]))).2 u v (by simpa using World.var?_cell hg0 hv 0)
  obtain ⟨a, s, rfl, hc, hs, _, rfl⟩ := errorString_of_trod Tryz.underlying35 rowErr Tryz.underlying218 Tryz.underlying237 rfl rfl Tryz.underlying9 cellsErr cellsStr hd ok
  exact ⟨a, by simpa using World.var?_cell hg0 hv 0, ⟨s, hc, hs⟩, (hrows a.block a.off (hr2 _ (by simp [MemPlace.row]))).1⟩

theorem err_of_laid {l : List (String × DataW Unit)} {W : World} (h : laidMetH Tryz.prog l W) {n : String} {g : Nat} {text : List UInt8} (hm : (n, sent text) ∈ l)
    (hg : Tryz.prog.globalNamed n = some g) (ht : (Tryz.prog.globals[g]?).map (·.type) = some 35) : ∃ a, ErrIs W g text a := by
  unfold laidMetH at h
  split at h
  · exact err_of_laidMet h hm hg ht
  · refine err_of_laidMet h.1 (List.mem_filter.2 ⟨hm, ?_⟩) hg ht
    rfl

/-- What the walk is told of a slice of integers that came in. -/
def IsRow (k : IntKind) (w : World) (a : Option Addr) (len cap : Nat) (zs : List Int) : Prop :=
  (a = none ∧ len = 0 ∧ cap = 0 ∧ zs = []) ∨
  ∃ x, a = some x ∧ len ≤ cap ∧ cap ≤ maxLen ∧ zs.length = cap ∧ (∀ i, i < zs.length → w.cell? (x.add i) = some (.int k (zs.getD i 0))) ∧ ∀ n ∈ zs, (Lit.int k n).wf = true
theorem row_of_isRow {w : World} {a : Option Addr} {len cap : Nat} {zs : List Int} (h : IsRow .u8 w a len cap zs) :
    ∃ l : List Nat, l.length = len ∧ Bytes l ∧ RowAt w.heap.size w a l ∧ len ≤ maxLen ∧ len ≤ cap := by
  rcases h with ⟨rfl, rfl, rfl, rfl⟩ | ⟨x, rfl, hl, hm, hz, hc, hwf⟩
  · exact ⟨[], rfl, fun _ h => absurd h (by simp), .inl rfl, by simp [maxLen], Nat.le_refl _⟩
  · have hb : ∀ j : Nat, (0 : Int) ≤ zs[j]?.getD 0 ∧ zs[j]?.getD 0 ≤ 255 := fun j => range_u8 hwf j
    refine ⟨(zs.take len).map Int.toNat, by simp; omega, fun y hy => ?_, ?_, by omega, hl⟩
    · obtain ⟨n, hn, rfl⟩ := List.mem_map.1 hy
      obtain ⟨j, hj, rfl⟩ := List.getElem_of_mem (List.mem_of_mem_take hn)
      have := hb j
      rw [List.getElem?_eq_getElem hj] at this
      simp at this
      omega
    · by_cases h0 : zs.length = 0
      · left
        have : zs = [] := List.length_eq_zero_iff.1 h0
        subst this; simp
      · obtain ⟨b, off, rfl, hcell⟩ := ints_at hc (by omega)
        refine .inr ⟨b, off, rfl, ?_, fun j hj => ?_⟩
        · have h1 := hcell 0 (by omega)
          rcases Nat.lt_or_ge b w.heap.size with h | h
          · exact h
          · simp [World.cell?, Array.getElem?_eq_none h] at h1
        · simp at hj
          have hj2 : j < zs.length := by omega
          rw [hcell j hj2]
          have := hb j
          rw [List.getElem?_eq_getElem hj2] at this
          simp at this
          have hjl : j < len := by omega
          rw [List.map_take, List.getElem?_take, if_pos hjl, List.getElem?_map, List.getElem?_eq_getElem hj2]
          simp [hj2]
          omega
end Go.Proofs.YtolbdcmoblcakaaGreatDoor
/- Texts: their bytes; slices of texts that are read, and that are the call's own. -/
namespace Go.Proofs.YtolbdcmoblcakaaGreatDoor
open Go.RowKit

/-- byte i of a text, 0 behind its end. -/
def sb (s : ByteArray) (i : Nat) : Nat := (s.data.toList[i]?.getD 0).toNat
theorem sb_lt (s : ByteArray) (i : Nat) : sb s i < 256 := (s.data.toList[i]?.getD 0).toNat_lt
theorem sb_get (s : ByteArray) (i : Nat) (h : i < s.size) : sb s i = (s[i]'h).toNat := by
  have h2 : i < s.data.toList.length := by simpa using h
  unfold sb
  rw [List.getElem?_eq_getElem h2]
  rfl
theorem sb_out (s : ByteArray) (i : Nat) (h : s.size ≤ i) : sb s i = 0 := by
  unfold sb
  rw [List.getElem?_eq_none (by simpa using h)]
  rfl
/-- so many texts, each of W bytes, in blocks below n₀. -/
structure TxtR (n₀ : Nat) (w : World) (b off k W : Nat) (t : Nat → ByteArray) : Prop where
  lo : b < n₀
  cell : ∀ j, j < k → w.cell? ⟨b, off + j, none⟩ = some (.string (t j))
  size : ∀ j, j < k → (t j).size = W
theorem TxtR.below {n₀ b off k W : Nat} {w w' : World} {t : Nat → ByteArray} (h : TxtR n₀ w b off k W t) (hb : Below n₀ w w') : TxtR n₀ w' b off k W t :=
  ⟨h.lo, fun j hj => (hb.cell (p := ⟨b, off + j, none⟩) h.lo).trans (h.cell j hj), h.size⟩
theorem TxtR.mono {n₀ n₁ b off k W : Nat} {w : World} {t : Nat → ByteArray} (h : TxtR n₀ w b off k W t) (hn : n₀ ≤ n₁) : TxtR n₁ w b off k W t := ⟨by have := h.lo; omega, h.cell, h.size⟩
theorem info_str : (Tryz.prog.info? 9).map (fun i => (i.zero, i.size, i.bytes)) = some (some (.string ⟨#[]⟩), 1, 16) := by kernel_rfl
/-- append(s, t) of a text. -/
theorem append_str {ops : Array Oper} {rest : List Oper} {o : Oper} {a : Act} {Q : Exit → Act → World → Prop} {w0 : World} (s x : Nat) (hgd : o.guard = none)
    (ho : o.op = .call { callee := .builtin .append, args := #[.tmp s, .tmp x], argTypes := #[22, 22] }) (B : Nat) (v : Value) (us : List Value) (t : ByteArray)
    (hs : a.eval (.tmp s) = v) (hx : a.eval (.tmp x) = .slice (some ⟨w0.heap.size, 0, none⟩) 1 1) (hown : Own1 9 B w0 v us) (hl : us.length ≤ 1000000) (hB : B ≤ w0.heap.size)
    (h : ∀ v' w', Own1 9 B w' v' (us ++ [.string t]) → (w0.alloc (.cells #[.string t] 9)).grownBy w' v.ownBlock → (v'.ownBlock = v.ownBlock ∨ v'.ownBlock = some (w0.heap.size + 1)) → wpList Tryz.prog ops Q rest (a.put o.dst v') w') :
    wpList Tryz.prog ops Q (o :: rest) a (w0.alloc (.cells #[.string t] 9)) :=
  append_one 22 9 (.string ⟨#[]⟩) 16 Tryz.underlying22 info_str rfl s x hgd ho B v us _ rfl hs hx hown (by omega) (by unfold maxLen; omega) hB h
/-- the texts of a slice of the call's own, read. -/
theorem txt_of_own {B k W : Nat} {w : World} {v : Value} {t : Nat → ByteArray} (h : Own1 9 B w v ((List.range k).map fun j => Value.string (t j))) (hk : 0 < k) (hW : ∀ j, j < k → (t j).size = W) :
    ∃ g cap, v = .slice (some ⟨g, 0, none⟩) k cap ∧ B ≤ g ∧ k ≤ cap ∧ TxtR w.heap.size w g 0 k W t := by
  rcases h.shape with ⟨_, e⟩ | ⟨g, cap, e, hg, hlt, hc, _, _, hcell⟩
  · have := congrArg List.length e
    simp at this; omega
  · have hl : ((List.range k).map fun j => Value.string (t j)).length = k := by simp
    rw [hl] at e hc hcell
    refine ⟨g, cap, e, hg, hc, hlt, fun j hj => ?_, hW⟩
    rw [Nat.zero_add, hcell j hj]; simp [hj]
end Go.Proofs.YtolbdcmoblcakaaGreatDoor
/- Slices of versions: that are read, and that are the call's own. -/
namespace Go.Proofs.YtolbdcmoblcakaaGreatDoor
open Go.RowKit

/-- a version: its tag's two numbers, its size, its shard's number, its shard's text. -/
abbrev Ver := Int × Int × Int × Int × ByteArray
def ver0 : Ver := (0, 0, 0, 0, ⟨#[]⟩)
def encVr (x : Ver) : List Value := [.int .i64 x.1, .int .i64 x.2.1, .int .i64 x.2.2.1, .int .i64 x.2.2.2.1, .string x.2.2.2.2]
def verV (x : Ver) : Value := .agg #[.int .i64 x.1, .int .i64 x.2.1, .int .i64 x.2.2.1, .int .i64 x.2.2.2.1, .string x.2.2.2.2]
/-- the cells of versions. -/
def vrV : List Ver → List Value
  | [] => []
  | x :: r => encVr x ++ vrV r
theorem vrV_append : ∀ (a b : List Ver), vrV (a ++ b) = vrV a ++ vrV b
  | [], _ => rfl
  | x :: r, b => by show encVr x ++ vrV (r ++ b) = (encVr x ++ vrV r) ++ vrV b; rw [vrV_append r b, List.append_assoc]
theorem vrV_length : ∀ l : List Ver, (vrV l).length = l.length * 5
  | [] => rfl
  | x :: r => by
    show (encVr x ++ vrV r).length = (r.length + 1) * 5
    rw [List.length_append, vrV_length r]
    show 5 + _ = _
    omega
theorem vrV_at : ∀ (l : List Ver) (i j : Nat), i < l.length → j < 5 → (vrV l)[i * 5 + j]? = (encVr (l[i]?.getD ver0))[j]?
  | [], _, _, h, _ => by simp at h
  | x :: r, 0, j, _, hj => by
    show (encVr x ++ vrV r)[0 * 5 + j]? = _
    rw [List.getElem?_append_left (by show 0 * 5 + j < 5; omega)]
    simp
  | x :: r, i + 1, j, h, hj => by
    show (encVr x ++ vrV r)[(i + 1) * 5 + j]? = _
    rw [List.getElem?_append_right (by show 5 ≤ (i + 1) * 5 + j; omega)]
    have := vrV_at r i j (by simpa using h) hj
    have e : (i + 1) * 5 + j - (encVr x).length = i * 5 + j := by show (i + 1) * 5 + j - 5 = _; omega
    rw [e, this]
    simp
theorem vrV_one : ∀ (l : List Ver), ∀ u ∈ vrV l, u.oneCell' = true
  | [], _, h => by cases h
  | x :: r, u, h => by
    rcases List.mem_append.1 (show u ∈ encVr x ++ vrV r from h) with h | h
    · simp [encVr] at h
      rcases h with rfl | rfl | rfl | rfl | rfl <;> rfl
    · exact vrV_one r u h
/-- v owns the versions l. -/
def OwnV (B : Nat) (w : World) (v : Value) (l : List Ver) : Prop := w.ownsRow B 58 5 v l.length (vrV l)
theorem OwnV.nil (B : Nat) (w : World) : OwnV B w (.slice none 0 0) [] := World.ownsRow_nil _ _ _ _
theorem OwnV.lt {B : Nat} {w : World} {v : Value} {l : List Ver} (h : OwnV B w v l) : ∀ k, v.ownBlock = some k → B ≤ k ∧ k < w.heap.size := World.ownsRow.lt h
theorem OwnV.kept {B : Nat} {w w' : World} {row : Option Nat} {v : Value} {l : List Ver} (h : OwnV B w v l) (hg : w.grownBy w' row) (hne : v.ownBlock = none ∨ v.ownBlock ≠ row) : OwnV B w' v l := World.ownsRow.kept h hg hne
theorem OwnV.below {B n₀ : Nat} {w w' : World} {v : Value} {l : List Ver} (h : OwnV B w v l) (hb : Below n₀ w w') (hn : w.heap.size ≤ n₀) : OwnV B w' v l :=
  OwnV.kept (row := none) h ⟨hb.os, hb.tape, hb.output, hb.size, fun k hk _ => hb.block k (by omega)⟩ (by cases v.ownBlock <;> simp)
theorem OwnV.lower {B B' : Nat} {w : World} {v : Value} {l : List Ver} (h : OwnV B w v l) (hB : B' ≤ B) : OwnV B' w v l := by
  unfold OwnV World.ownsRow at *
  refine ⟨h.1, ?_⟩
  rcases h.2 with h2 | ⟨g, cap, cur, e, hb, h3⟩
  · exact .inl h2
  · exact .inr ⟨g, cap, cur, e, Nat.le_trans hB hb, h3⟩
theorem info_version : (Tryz.prog.info? 58).map (fun i => (i.zero, i.size, i.bytes)) = some (some (.agg #[.int .i64 0, .int .i64 0, .int .i64 0, .int .i64 0, .string ⟨#[]⟩]), 5, 48) := by kernel_rfl
/-- versions that are read. -/
def VrR (n₀ : Nat) (w : World) (a : Option Addr) (l : List Ver) : Prop :=
  l = [] ∨ ∃ b off, a = some ⟨b, off, none⟩ ∧ b < n₀ ∧ ∀ i j, i < l.length → j < 5 → w.cell? ⟨b, off + i * 5 + j, none⟩ = (encVr (l[i]?.getD ver0))[j]?
theorem VrR.below {n₀ : Nat} {A B : World} (h : Below n₀ A B) {a : Option Addr} {l : List Ver} : VrR n₀ A a l → VrR n₀ B a l
  | .inl e => .inl e
  | .inr ⟨b, off, e, hb, hc⟩ => .inr ⟨b, off, e, hb, fun i j hi hj => (h.cell (p := ⟨b, off + i * 5 + j, none⟩) hb).trans (hc i j hi hj)⟩
theorem VrR.mono {n₀ n₁ : Nat} {A : World} (h : n₀ ≤ n₁) {a : Option Addr} {l : List Ver} : VrR n₀ A a l → VrR n₁ A a l
  | .inl e => .inl e
  | .inr ⟨b, off, e, hb, hc⟩ => .inr ⟨b, off, e, by omega, hc⟩
theorem OwnV.read {B : Nat} {w : World} {v : Value} {l : List Ver} (h : OwnV B w v l) : ∃ a cap, v = .slice a l.length cap ∧ l.length ≤ cap ∧ cap ≤ maxLen ∧ (a = none → cap = 0) ∧ VrR w.heap.size w a l := by
  rcases h.2 with ⟨rfl, hn⟩ | ⟨g, cap, cur, rfl, hb, hg, hc, hm, hs, ht⟩
  · have : l = [] := List.length_eq_zero_iff.1 hn
    subst this
    exact ⟨none, 0, rfl, Nat.le_refl _, by simp [maxLen], fun _ => rfl, .inl rfl⟩
  · have hh : w.ownsRow B 58 5 (.slice (some ⟨g, 0, none⟩) l.length cap) l.length (vrV l) := ⟨h.1, .inr ⟨g, cap, cur, rfl, hb, hg, hc, hm, hs, ht⟩⟩
    refine ⟨_, cap, rfl, hc, hm, (fun e => by cases e), .inr ⟨g, 0, rfl, (Array.getElem?_eq_some_iff.1 hg).1, fun i j hi hj => ?_⟩⟩
    have hlen := vrV_length l
    rw [Nat.zero_add, ← vrV_at l i j hi hj]
    exact hh.cellAt (i * 5 + j) (by omega)
/-- append(s, l...) of versions. -/
theorem append_vers {ops : Array Oper} {rest : List Oper} {o : Oper} {a : Act} {Q : Exit → Act → World → Prop} {w : World} (s x : Nat) (hgd : o.guard = none)
    (ho : o.op = .call { callee := .builtin .append, args := #[.tmp s, .tmp x], argTypes := #[46, 46] }) (B : Nat) (v : Value) (L : List Ver) (n₀ : Nat) (ad : Option Addr) (len cap : Nat) (M : List Ver)
    (hs : a.eval (.tmp s) = v) (hx : a.eval (.tmp x) = .slice ad len cap) (hown : OwnV B w v L) (hlen : M.length = len) (hl : L.length + M.length ≤ 1000000) (ha : ad = none → cap = 0) (hI : VrR n₀ w ad M) (hB : B ≤ w.heap.size)
    (h : ∀ v' w', OwnV B w' v' (L ++ M) → w.grownBy w' v.ownBlock → (v' = .slice none 0 0 ↔ v = .slice none 0 0 ∧ len = 0) → (v'.ownBlock = v.ownBlock ∨ v'.ownBlock = some w.heap.size) → wpList Tryz.prog ops Q rest (a.put o.dst v') w') :
    wpList Tryz.prog ops Q (o :: rest) a w := by
  obtain ⟨i, hi, hz0, hz1, hz2⟩ := info_parts info_version
  subst hlen
  have at_ : ∀ y : Addr, ad = some y → (∀ j u, (vrV M)[j]? = some u → w.cell? (y.add j) = some u) → wpList Tryz.prog ops Q (o :: rest) a w := fun y e hc => by
    refine wpList_append_own_at _ hgd (.tmp s) (.tmp x) 46 ho B 58 i _ 5 48 Tryz.underlying46 hi hz0 hz1 hz2 rfl (by decide) v L.length (vrV L) hs hown y M.length cap (vrV M) (hx.trans (by rw [e])) (vrV_length M) hc (vrV_one M) (by unfold maxLen; omega) (by omega) hB ?_
    intro v' w' h1 h2 h3 h4
    refine h v' w' ?_ h2 h3 h4
    unfold OwnV
    rw [vrV_append, List.length_append]
    exact h1
  rcases hI with rfl | ⟨b, off, e, _, hcell⟩
  · cases ad with
    | none =>
      obtain rfl := ha rfl
      refine wpList_append_own_none hgd (.tmp s) (.tmp x) 46 ho B 58 i 5 Tryz.underlying46 hi v L.length (vrV L) hs hown hx ?_
      exact h v w (by simpa using hown) (World.grownBy.refl _ _) ⟨fun e => ⟨e, rfl⟩, fun e => e.1⟩ (.inl rfl)
    | some ad => exact at_ ad rfl (fun j u hj => by simp [vrV] at hj)
  · refine at_ _ e (fun j u hj => ?_)
    have hj2 : j < M.length * 5 := by have := (List.getElem?_eq_some_iff.1 hj).1; rw [vrV_length] at this; exact this
    have h9 := vrV_at M (j / 5) (j % 5) (by omega) (by omega)
    have e5 : j / 5 * 5 + j % 5 = j := by omega
    rw [e5, hj] at h9
    rw [Go.WideShapes.add_plain, h9, ← hcell (j / 5) (j % 5) (by omega) (by omega)]
    rw [show off + j / 5 * 5 + j % 5 = off + j by omega]
end Go.Proofs.YtolbdcmoblcakaaGreatDoor
/- Plain: names of nodes and keys; what the check of nodes answers. -/
namespace Go.Proofs.YtolbdcmoblcakaaGreatDoor

instance memText (s : ByteArray) (L : List ByteArray) : Decidable (s ∈ L) := decidable_of_iff (L.any (fun x => decide (x = s)) = true) (by simp)
/-- a byte of a name. -/
def letterB (c : UInt8) : Bool := decide ((97 ≤ c.toNat ∧ c.toNat ≤ 122) ∨ (48 ≤ c.toNat ∧ c.toNat ≤ 57) ∨ c.toNat = 45)
/-- a name. -/
def nameB (s : ByteArray) : Bool := decide (1 ≤ s.size ∧ s.size ≤ 16) && s.data.toList.all letterB
/-- what is wrong with node i: an error's number. -/
def badAt (L : List ByteArray) (i : Nat) : Nat := if nameB (L[i]?.getD ⟨#[]⟩) = true then (if (L[i]?.getD ⟨#[]⟩) ∈ L.take i then 6 else 0) else 4
/-- what the check of nodes answers: an error's number, a place. -/
def nodesF (L : List ByteArray) : Nat × Int :=
  if 1 ≤ L.length ∧ L.length ≤ 16 then
    match (List.range L.length).find? (fun i => decide (badAt L i ≠ 0)) with
    | some i => (badAt L i, (i : Int))
    | none => (0, -1)
  else (2, -1)
theorem nodesF_out {L : List ByteArray} (h : ¬ (1 ≤ L.length ∧ L.length ≤ 16)) : nodesF L = (2, -1) := if_neg h
theorem find_first {n i : Nat} {p : Nat → Bool} (hi : i < n) (h : ∀ j, j < i → p j = false) (hp : p i = true) : (List.range n).find? p = some i := by
  rw [List.find?_eq_some_iff_getElem]
  refine ⟨hp, i, by simpa using hi, by simp, fun j hj => ?_⟩
  simp
  exact h j hj
theorem find_none {n : Nat} {p : Nat → Bool} (h : ∀ j, j < n → p j = false) : (List.range n).find? p = none := by
  rw [List.find?_eq_none]
  intro x hx
  rw [h x (List.mem_range.1 hx)]
  decide
theorem nodesF_at {L : List ByteArray} (h : 1 ≤ L.length ∧ L.length ≤ 16) {i : Nat} (hi : i < L.length) (hj : ∀ j, j < i → badAt L j = 0) (hb : badAt L i ≠ 0) : nodesF L = (badAt L i, (i : Int)) := by
  unfold nodesF
  rw [if_pos h, find_first hi (fun j h1 => by simp [hj j h1]) (by simpa using hb)]
theorem nodesF_ok {L : List ByteArray} (h : 1 ≤ L.length ∧ L.length ≤ 16) (hj : ∀ j, j < L.length → badAt L j = 0) : nodesF L = (0, -1) := by
  unfold nodesF
  rw [if_pos h, find_none (fun j h1 => by simp [hj j h1])]
theorem badAt_name {L : List ByteArray} {i : Nat} (h : nameB (L[i]?.getD ⟨#[]⟩) = false) : badAt L i = 4 := by unfold badAt; rw [h]; rfl
theorem badAt_exist {L : List ByteArray} {i : Nat} (h : nameB (L[i]?.getD ⟨#[]⟩) = true) (hm : (L[i]?.getD ⟨#[]⟩) ∈ L.take i) : badAt L i = 6 := by unfold badAt; rw [if_pos h, if_pos hm]
theorem badAt_ok {L : List ByteArray} {i : Nat} (h : nameB (L[i]?.getD ⟨#[]⟩) = true) (hm : (L[i]?.getD ⟨#[]⟩) ∉ L.take i) : badAt L i = 0 := by unfold badAt; rw [if_pos h, if_neg hm]
theorem badAt_cases (L : List ByteArray) (i : Nat) : badAt L i = 0 ∨ badAt L i = 4 ∨ badAt L i = 6 := by
  unfold badAt
  split
  · split
    · exact .inr (.inr rfl)
    · exact .inl rfl
  · exact .inr (.inl rfl)
/-- what the check says of nodes that pass. -/
theorem nodesF_zero {L : List ByteArray} (h : (nodesF L).1 = 0) : (1 ≤ L.length ∧ L.length ≤ 16) ∧ L.Nodup ∧ (∀ s ∈ L, nameB s = true) ∧ nodesF L = (0, -1) := by
  by_cases hl : 1 ≤ L.length ∧ L.length ≤ 16
  · have hall : ∀ j, j < L.length → badAt L j = 0 := by
      unfold nodesF at h
      rw [if_pos hl] at h
      cases hf : (List.range L.length).find? (fun i => decide (badAt L i ≠ 0)) with
      | none =>
        rw [List.find?_eq_none] at hf
        intro j hj
        have := hf j (List.mem_range.2 hj)
        simpa using this
      | some i =>
        rw [hf] at h
        have := List.find?_some hf
        simp at this
        exact absurd h this
    have hn : ∀ j, j < L.length → nameB (L[j]?.getD ⟨#[]⟩) = true ∧ (L[j]?.getD ⟨#[]⟩) ∉ L.take j := fun j hj => by
      have h0 := hall j hj
      unfold badAt at h0
      split at h0
      · rename_i h1
        split at h0
        · cases h0
        · rename_i h2; exact ⟨h1, h2⟩
      · cases h0
    refine ⟨hl, ?_, fun s hs => ?_, nodesF_ok hl hall⟩
    · rw [List.nodup_iff_pairwise_ne, List.pairwise_iff_getElem]
      intro i j hi hj hij e
      have h1 := (hn j hj).2
      rw [List.getElem?_eq_getElem hj] at h1
      apply h1
      simp only [Option.getD_some]
      rw [← e]
      exact List.mem_take_iff_getElem.2 ⟨i, by omega, rfl⟩
    · obtain ⟨j, hj, rfl⟩ := List.getElem_of_mem hs
      have := (hn j hj).1
      rw [List.getElem?_eq_getElem hj] at this
      exact this
  · rw [nodesF_out hl] at h
    cases h
theorem nodesF_le (L : List ByteArray) : (nodesF L).1 ≤ 12 := by
  unfold nodesF
  split
  · split
    · rename_i i _
      rcases badAt_cases L i with h | h | h <;> simp [h]
    · decide
  · decide
/-- the index of a text in a list, -1: none. -/
def idxT (L : List ByteArray) (s : ByteArray) : Int := match (List.range L.length).find? (fun i => decide ((L[i]?.getD ⟨#[]⟩) = s)) with | some i => (i : Int) | none => -1
theorem idxT_at {L : List ByteArray} {s : ByteArray} {i : Nat} (hi : i < L.length) (hj : ∀ j, j < i → (L[j]?.getD ⟨#[]⟩) ≠ s) (h : (L[i]?.getD ⟨#[]⟩) = s) : idxT L s = (i : Int) := by
  unfold idxT
  rw [find_first hi (fun j h1 => by simp [hj j h1]) (by simpa using h)]
theorem idxT_none {L : List ByteArray} {s : ByteArray} (hj : ∀ j, j < L.length → (L[j]?.getD ⟨#[]⟩) ≠ s) : idxT L s = -1 := by
  unfold idxT
  rw [find_none (fun j h1 => by simp [hj j h1])]
theorem idxT_range (L : List ByteArray) (s : ByteArray) : -1 ≤ idxT L s ∧ idxT L s < L.length ∧ (0 ≤ idxT L s ↔ s ∈ L) := by
  by_cases h : ∃ i, i < L.length ∧ (L[i]?.getD ⟨#[]⟩) = s
  · unfold idxT
    cases hf : (List.range L.length).find? (fun i => decide ((L[i]?.getD ⟨#[]⟩) = s)) with
    | none =>
      rw [List.find?_eq_none] at hf
      obtain ⟨i, hi, he⟩ := h
      have := hf i (List.mem_range.2 hi)
      simp [he] at this
    | some i =>
      have h1 := List.find?_some hf
      have h2 := List.mem_range.1 (List.mem_of_find?_eq_some hf)
      simp only [decide_eq_true_eq] at h1
      rw [List.getElem?_eq_getElem h2] at h1
      simp only [Option.getD_some] at h1
      refine ⟨by simp only; omega, by simp only; omega, fun _ => h1 ▸ List.getElem_mem h2, fun _ => by simp only; omega⟩
  · have hn : ∀ j, j < L.length → (L[j]?.getD ⟨#[]⟩) ≠ s := fun j hj e => h ⟨j, hj, e⟩
    rw [idxT_none hn]
    refine ⟨by omega, by omega, fun h => by omega, fun hs => ?_⟩
    obtain ⟨j, hj, rfl⟩ := List.getElem_of_mem hs
    exact absurd (by rw [List.getElem?_eq_getElem hj]; rfl) (hn j hj)
theorem idxT_pos {L : List ByteArray} {s : ByteArray} : decide (0 ≤ idxT L s) = decide (s ∈ L) := by
  rw [decide_eq_decide]; exact (idxT_range L s).2.2

/-! ### members that two lists share -/
/-- any two lists of unlike members of a list of N have at least |a| + |b| - N members in common. -/
theorem shared {α : Type} [DecidableEq α] {l a b : List α} (hl : l.Nodup) (ha : a.Nodup) (hb : b.Nodup) (hal : ∀ x ∈ a, x ∈ l) (hbl : ∀ x ∈ b, x ∈ l) :
    a.length + b.length ≤ l.length + (l.filter (fun x => decide (x ∈ a) && decide (x ∈ b))).length := by
  have hfa : (l.filter (fun x => decide (x ∈ a))).length = a.length := by
    apply List.Perm.length_eq
    rw [List.perm_ext_iff_of_nodup (hl.filter _) ha]
    intro x
    simp
    exact fun h => hal x h
  have hfb : (l.filter (fun x => decide (x ∈ b))).length = b.length := by
    apply List.Perm.length_eq
    rw [List.perm_ext_iff_of_nodup (hl.filter _) hb]
    intro x
    simp
    exact fun h => hbl x h
  rw [← hfa, ← hfb]
  clear hfa hfb ha hb hal hbl hl
  induction l with
  | nil => simp
  | cons x r ih =>
    by_cases h1 : x ∈ a <;> by_cases h2 : x ∈ b <;> simp [h1, h2] <;> omega
end Go.Proofs.YtolbdcmoblcakaaGreatDoor
