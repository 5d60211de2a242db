/- What a row's list of variables gives a walk: each error variable holds a pointer to its own text; the frame of a slice of integers that comes in. -/
import Derived.Test.YthdicfcgkbepdaaGreatDoorRows
import Derived.Test.YthdicfcgkbepdaaGreatDoorBytes
import Derived.WalkKit
import Derived.ProofKit
import Derived.OpenShut
import Derived.ShutString
import Derived.ChangeOld
import Derived.Below
import Derived.LaidLaws
import Derived.LaidMore
import Derived.LaidHandle
import Derived.LaidEql
import Derived.RowKitTokens
import Derived.Deep.DeepHandedRow
import Derived.Deep.DeepWitnessRowRef
import Derived.SevenTiedAt
namespace Go.Proofs.YthdicfcgkbepdaaGreatDoor
open Go.RowKit Go.ChangeShapes Go.WideShapes

theorem own : ownKnob Tryz.prog.godebug = none := by kernel_rfl
theorem laidOut : laidOutB Tryz.prog = true := by kernel_rfl

def sent (text : List UInt8) : DataW Unit := .iface "*errors.errorString" (.ptr (.agg [.lit (.string text)]))
theorem starName : "*" ++ "errors.errorString" = "*errors.errorString" := by decide
theorem rowErr (u : TypeId) (h : Tryz.prog.typeName? 3 u = some "*errors.errorString") : u = 171 :=
  typeName_ptr_named (nm := "errors.errorString") (by rw [starName]; kernel_rfl) (by kernel_rfl) (by decide) u (by rw [starName]; exact h)
theorem cellsErr : Tryz.prog.cellsOf 173 = 1 := by kernel_rfl
theorem cellsStr : Tryz.prog.cellsOf 9 = 1 := by kernel_rfl

/-- variable g holds a pointer to a text of its own. -/
structure ErrIs (w : World) (g : Nat) (text : List UInt8) (a : Addr) : Prop where
  cell : w.cell? ⟨g, 0, none⟩ = some (.iface 171 (.pointer (some a)))
  text : ∃ s : ByteArray, w.cell? a = some (.string s) ∧ s.data.toList = text
  block : ∃ c t, w.heap[a.block]? = some (.cells c t (0, 0))

theorem ErrIs.ne' {w : World} {g g' : Nat} {t t' : List UInt8} {a a' : Addr} (h : ErrIs w g t a) (h' : ErrIs w g' t' a') (ht : t ≠ t') : a ≠ a' := by
  rintro rfl
  obtain ⟨s, hs, e⟩ := h.text
  obtain ⟨s', hs', e'⟩ := h'.text
  rw [hs] at hs'
  obtain rfl := Value.string.inj (Option.some.inj hs')
  exact ht (e.symm.trans e')

theorem laidVars_mem {W : World} {n : String} {d : DataW Unit} : ∀ {l : List (String × DataW Unit)} {ps : List MemPlace}, DataW.LaidVars Tryz.prog W l ps → (n, d) ∈ l →
    ∃ g t cs fuel p, Tryz.prog.globalNamed n = some g ∧ (Tryz.prog.globals[g]?).map (·.type) = some t ∧ W.var? Tryz.prog n = some cs ∧ DataW.trod (fun _ => ()) Tryz.prog W 0 (fun _ => true) false fuel t cs.toList = some (d, p) ∧
      (∀ x ∈ MemPlace.row ⟨g, 0, none⟩ cs.size, x ∈ ps) ∧ ∀ x ∈ p, x ∈ ps
  | [], _, _, hm => by cases hm
  | (n', d') :: r, ps, h, hm => by
    obtain ⟨g, t, cs, fuel, p, q, hg, ht, hv, hd, hr, rfl⟩ := h
    rcases List.mem_cons.1 hm with e | hm
    · obtain ⟨rfl, rfl⟩ := Prod.mk.inj e
      exact ⟨g, t, cs, fuel, p, hg, ht, hv, hd, fun x hx => by simp [hx], fun x hx => by simp [hx]⟩
    · obtain ⟨g1, t1, cs1, f1, p1, h1, h2, h3, h4, h5, h6⟩ := laidVars_mem hr hm
      exact ⟨g1, t1, cs1, f1, p1, h1, h2, h3, h4, fun x hx => by simp [h5 x hx], fun x hx => by simp [h6 x hx]⟩

set_option maxRecDepth 100000 in
theorem err_of_laidMet {l : List (String × DataW Unit)} {W : World} (h : laidMet Tryz.prog l W) {n : String} {g : Nat} {text : List UInt8} (hm : (n, sent text) ∈ l)
    (hg : Tryz.prog.globalNamed n = some g) (ht : (Tryz.prog.globals[g]?).map (·.type) = some 25) : ∃ a, ErrIs W g text a := by
  obtain ⟨ps, hl, _, hrows⟩ := h
  obtain ⟨g0, t0, cs, fuel, p, hg0, ht0, hv, hd, hr1, hr2⟩ := laidVars_mem hl hm
  obtain rfl := Option.some.inj (hg.symm.trans hg0)
  obtain rfl := Option.some.inj (ht.symm.trans ht0)
  obtain ⟨l0⟩ := cs
  have ok : ∀ u v, l0 = [.iface u v] → Value.okWide Tryz.prog W .any 0 u v := fun u v e => by
    subst e
    exact (hrows g 0 (hr1 _ (by simp [MemPlace.row]))).2 u v (by simpa using World.var?_cell hg0 hv 0)
  obtain ⟨a, s, rfl, hc, hs, _, rfl⟩ := errorString_of_trod Tryz.underlying25 rowErr Tryz.underlying171 Tryz.underlying173 rfl rfl Tryz.underlying9 cellsErr cellsStr hd ok
  exact ⟨a, by simpa using World.var?_cell hg0 hv 0, ⟨s, hc, hs⟩, (hrows a.block a.off (hr2 _ (by simp [MemPlace.row]))).1⟩

theorem err_of_laid {l : List (String × DataW Unit)} {W : World} (h : laidMetH Tryz.prog l W) {n : String} {g : Nat} {text : List UInt8} (hm : (n, sent text) ∈ l)
    (hg : Tryz.prog.globalNamed n = some g) (ht : (Tryz.prog.globals[g]?).map (·.type) = some 25) : ∃ a, ErrIs W g text a := by
  unfold laidMetH at h
  split at h
  · exact err_of_laidMet h hm hg ht
  · refine err_of_laidMet h.1 (List.mem_filter.2 ⟨hm, ?_⟩) hg ht
    rfl

/-- What the walk is told of a slice of integers that came in. -/
def IsRow (k : IntKind) (w : World) (a : Option Addr) (len cap : Nat) (zs : List Int) : Prop :=
  (a = none ∧ len = 0 ∧ cap = 0 ∧ zs = []) ∨
  ∃ x, a = some x ∧ len ≤ cap ∧ cap ≤ maxLen ∧ zs.length = cap ∧ (∀ i, i < zs.length → w.cell? (x.add i) = some (.int k (zs.getD i 0))) ∧ ∀ n ∈ zs, (Lit.int k n).wf = true
theorem row_of_isRow {w : World} {a : Option Addr} {len cap : Nat} {zs : List Int} (h : IsRow .u8 w a len cap zs) :
    ∃ l : List Nat, l.length = len ∧ Bytes l ∧ RowAt w.heap.size w a l ∧ len ≤ maxLen ∧ len ≤ cap := by
  rcases h with ⟨rfl, rfl, rfl, rfl⟩ | ⟨x, rfl, hl, hm, hz, hc, hwf⟩
  · exact ⟨[], rfl, fun _ h => absurd h (by simp), .inl rfl, by simp [maxLen], Nat.le_refl _⟩
  · have hb : ∀ j : Nat, (0 : Int) ≤ zs[j]?.getD 0 ∧ zs[j]?.getD 0 ≤ 255 := fun j => range_u8 hwf j
    refine ⟨(zs.take len).map Int.toNat, by simp; omega, fun y hy => ?_, ?_, by omega, hl⟩
    · obtain ⟨n, hn, rfl⟩ := List.mem_map.1 hy
      obtain ⟨j, hj, rfl⟩ := List.getElem_of_mem (List.mem_of_mem_take hn)
      have := hb j
      rw [List.getElem?_eq_getElem hj] at this
      simp at this
      omega
    · by_cases h0 : zs.length = 0
      · left
        have : zs = [] := List.length_eq_zero_iff.1 h0
        subst this; simp
      · obtain ⟨b, off, rfl, hcell⟩ := ints_at hc (by omega)
        refine .inr ⟨b, off, rfl, ?_, fun j hj => ?_⟩
        · have h1 := hcell 0 (by omega)
          rcases Nat.lt_or_ge b w.heap.size with h | h
          · exact h
          · simp [World.cell?, Array.getElem?_eq_none h] at h1
        · simp at hj
          have hj2 : j < zs.length := by omega
          rw [hcell j hj2]
          have := hb j
          rw [List.getElem?_eq_getElem hj2] at this
          simp at this
          have hjl : j < len := by omega
          rw [List.map_take, List.getElem?_take, if_pos hjl, List.getElem?_map, List.getElem?_eq_getElem hj2]
          simp [hj2]
          omega
end Go.Proofs.YthdicfcgkbepdaaGreatDoor
