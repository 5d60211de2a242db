/- A node's hold in memory: a map from keys to rows of versions. -/
import Derived.Test.YthdicfcgkbepdaaGreatDoorVerB
import Derived.Test.YthdicfcgkbepdaaGreatDoorCode
import Derived.Maps.OwnOps
import Derived.Maps.OwnSet
import Derived.Maps.RangeWalk
namespace Go.Proofs.YthdicfcgkbepdaaGreatDoor
open Go.RowKit Go.Maps

/-- a map's element, as it stands. -/
def Rv (v : Value) : Option (DataW Value × List MemPlace) := some (.held v, [])
theorem keyedS : Keyed Tryz.prog 9 := string_keyed Tryz.underlying9
def litS (k : ByteArray) : Lit := .string k.data.toList
theorem litS_inj {a b : ByteArray} (h : litS a = litS b) : a = b := by
  unfold litS at h
  simp only [Lit.string.injEq] at h
  cases a; cases b
  simpa using h
theorem keyS {k : ByteArray} (hk : k.size ≤ maxLen) : keyOf Tryz.prog 9 (.string k) = some (litS k) := Go.WideMaps.keyOf_string_mk Tryz.underlying9 hk
theorem zeroRow (w : World) : (zeroValue 57).run Tryz.prog w = .ok (.slice none 0 0) w := by kernel_rfl
theorem ownsMap_tight {H : Type} {P : Program} {k : TypeId} {R : Value → Option (DataW H × List MemPlace)} {w : World} {b n : Nat} {D : DataW H} (h : w.ownsMap P k R b n D) : w.ownsMap P k R b (Maps.size D) D := by
  obtain ⟨es, clock, hb, F, _, rfl⟩ := h
  refine ⟨es, clock, hb, F, ?_, rfl⟩
  rw [Maps.size_eq, length_sorted]
  simp
/-- nothing but the blocks F has turned. -/
structure KeptBut (F : Nat → Prop) (w w' : World) : Prop where
  os : w'.os = w.os
  tape : w'.tape = w.tape
  output : w'.output = w.output
  size : w.heap.size ≤ w'.heap.size
  block : ∀ k, k < w.heap.size → ¬ F k → w'.heap[k]? = w.heap[k]?
theorem KeptBut.refl (F : Nat → Prop) (w : World) : KeptBut F w w := ⟨rfl, rfl, rfl, Nat.le_refl _, fun _ _ _ => rfl⟩
theorem KeptBut.trans {F : Nat → Prop} {a b c : World} (h : KeptBut F a b) (k : KeptBut F b c) : KeptBut F a c :=
  ⟨k.os.trans h.os, k.tape.trans h.tape, k.output.trans h.output, Nat.le_trans h.size k.size, fun i hi hf => (k.block i (Nat.lt_of_lt_of_le hi h.size) hf).trans (h.block i hi hf)⟩
theorem KeptBut.mono {F G : Nat → Prop} {a b : World} (h : KeptBut F a b) (hF : ∀ k, k < a.heap.size → F k → G k) : KeptBut G a b :=
  ⟨h.os, h.tape, h.output, h.size, fun i hi hg => h.block i hi (fun e => hg (hF i hi e))⟩
theorem KeptBut.of_below {F : Nat → Prop} {n : Nat} {a b : World} (h : Below n a b) (hn : ∀ k, k < a.heap.size → n ≤ k → F k) : KeptBut F a b :=
  ⟨h.os, h.tape, h.output, h.size, fun i hi hf => h.block i (Nat.lt_of_not_le (fun e => hf (hn i hi e)))⟩
theorem KeptBut.of_grown {F : Nat → Prop} {r : Option Nat} {a b : World} (h : a.grownBy b r) (hr : ∀ k, r = some k → F k) : KeptBut F a b :=
  ⟨h.os, h.tape, h.output, h.size, fun i hi hf => h.block i hi (fun e => hf (hr i e.symm))⟩
theorem KeptBut.below {n : Nat} {F : Nat → Prop} {a b : World} (h : KeptBut F a b) (hn : n ≤ a.heap.size) (hF : ∀ k, F k → n ≤ k) : Below n a b :=
  ⟨h.os, h.tape, h.output, h.size, fun i hi => h.block i (by omega) (fun e => by have := hF i e; omega)⟩
theorem KeptBut.cell {F : Nat → Prop} {a b : World} (h : KeptBut F a b) {p : Addr} {v : Value} (hc : a.cell? p = some v) (hp : ¬ F p.block) : b.cell? p = some v :=
  (World.cell?_of_block (h.block p.block (lt_of_cell hc) hp)).trans hc
theorem OwnV.heap {B : Nat} {w w' : World} {v : Value} {l : List Ver} (h : OwnV B w v l) (hg : ∀ g, v.ownBlock = some g → w'.heap[g]? = w.heap[g]?) : OwnV B w' v l := by
  refine ⟨h.1, ?_⟩
  rcases h.2 with hn | ⟨g, cap, cur, rfl, hb, hgg, rest⟩
  · exact .inl hn
  · exact .inr ⟨g, cap, cur, rfl, hb, (hg g rfl).trans hgg, rest⟩
/-- a hold lies at hb: sealed or not; by each key its versions; the keys; the rows' headers; its blocks are among F. -/
structure HoldAt (F : Nat → Prop) (w : World) (hb : Nat) (sd : Bool) (C : ByteArray → List Ver) (ks : List ByteArray) (S : ByteArray → Value) : Prop where
  hF : F hb
  hlt : hb < w.heap.size
  c1 : w.cell? ⟨hb, 1, none⟩ = some (.bool sd)
  f0 : w.frozen? ⟨hb, 0, none⟩ = false
  f1 : w.frozen? ⟨hb, 1, none⟩ = false
  map : (w.cell? ⟨hb, 0, none⟩ = some (.map none) ∧ ks = []) ∨ ∃ (bm : Nat) (D : DataW Value), w.cell? ⟨hb, 0, none⟩ = some (.map (some bm)) ∧ F bm ∧ bm ≠ hb ∧ w.ownsMap Tryz.prog 9 Rv bm ks.length D ∧
    (∀ k, D.atKey (litS k) (.held (.slice none 0 0)) = .held (S k)) ∧ (∀ k, Maps.has D (litS k) = decide (k ∈ ks)) ∧ (∀ k g, (S k).ownBlock = some g → g ≠ bm) ∧ Maps.size D = ks.length
  row : ∀ k, OwnV 0 w (S k) (C k)
  rowF : ∀ k g, (S k).ownBlock = some g → F g ∧ g ≠ hb
  apart : ∀ k k' g, k ≠ k' → (S k).ownBlock = some g → (S k').ownBlock ≠ some g
  nodup : ks.Nodup
  mem : ∀ k, k ∈ ks ↔ C k ≠ []
  no : ∀ k, k ∉ ks → S k = .slice none 0 0
  kz : ∀ k ∈ ks, k.size ≤ maxLen
theorem HoldAt.rowLt {F : Nat → Prop} {w : World} {hb : Nat} {sd : Bool} {C : ByteArray → List Ver} {ks : List ByteArray} {S : ByteArray → Value} (h : HoldAt F w hb sd C ks S) {k : ByteArray} {g : Nat} (hg : (S k).ownBlock = some g) : g < w.heap.size :=
  ((h.row k).lt g hg).2
theorem HoldAt.kept {F G : Nat → Prop} {w w' : World} {hb : Nat} {sd : Bool} {C : ByteArray → List Ver} {ks : List ByteArray} {S : ByteArray → Value} (h : HoldAt F w hb sd C ks S) (hk : KeptBut G w w') (hFG : ∀ b, b < w.heap.size → F b → ¬ G b) : HoldAt F w' hb sd C ks S := by
  have eb : w'.heap[hb]? = w.heap[hb]? := hk.block hb h.hlt (hFG hb h.hlt h.hF)
  have ec : ∀ j, w'.cell? ⟨hb, j, none⟩ = w.cell? ⟨hb, j, none⟩ := fun j => World.cell?_of_block (a := ⟨hb, j, none⟩) eb
  have ef : ∀ j, w'.frozen? ⟨hb, j, none⟩ = w.frozen? ⟨hb, j, none⟩ := fun j => World.frozen?_of_block (a := ⟨hb, j, none⟩) eb
  refine ⟨h.hF, Nat.lt_of_lt_of_le h.hlt hk.size, (ec 1).trans h.c1, (ef 0).trans h.f0, (ef 1).trans h.f1, ?_, fun k => ?_, h.rowF, h.apart, h.nodup, h.mem, h.no, h.kz⟩
  · rcases h.map with ⟨h1, h2⟩ | ⟨bm, D, h1, h2, h3, h4, h5⟩
    · exact .inl ⟨(ec 0).trans h1, h2⟩
    · refine .inr ⟨bm, D, (ec 0).trans h1, h2, h3, ?_, h5⟩
      obtain ⟨es, clock, hm, hr⟩ := h4
      have hlt : bm < w.heap.size := (Array.getElem?_eq_some_iff.1 hm).1
      exact ⟨es, clock, (hk.block bm hlt (hFG bm hlt h2)).trans hm, hr⟩
  · exact (h.row k).heap (fun g hg => hk.block g (h.rowLt hg) (hFG g (h.rowLt hg) (h.rowF k g hg).1))
theorem HoldAt.mono {F G : Nat → Prop} {w : World} {hb : Nat} {sd : Bool} {C : ByteArray → List Ver} {ks : List ByteArray} {S : ByteArray → Value} (h : HoldAt F w hb sd C ks S) (hFG : ∀ b, F b → G b) : HoldAt G w hb sd C ks S :=
  ⟨hFG _ h.hF, h.hlt, h.c1, h.f0, h.f1, h.map.imp id (fun ⟨bm, D, h1, h2, h3⟩ => ⟨bm, D, h1, hFG _ h2, h3⟩), h.row, fun k g e => ⟨hFG _ (h.rowF k g e).1, (h.rowF k g e).2⟩, h.apart, h.nodup, h.mem, h.no, h.kz⟩
/-- h.l[key]. -/
theorem HoldAt.look {F : Nat → Prop} {w : World} {hb : Nat} {sd : Bool} {C : ByteArray → List Ver} {ks : List ByteArray} {S : ByteArray → Value} (h : HoldAt F w hb sd C ks S) {k : ByteArray} (hk : k.size ≤ maxLen) :
    ∃ m, w.cell? ⟨hb, 0, none⟩ = some (.map m) ∧ (Instr.lookup 36 (.map m) (.string k) false).run Tryz.prog w = .ok (S k) w := by
  rcases h.map with ⟨h1, h2⟩ | ⟨bm, D, h1, h2, h3, h4, h5, _⟩
  · refine ⟨none, h1, ?_⟩
    rw [Maps.look_nil false keyedS Tryz.underlying36 (zeroRow w) (keyS hk), h.no k (by rw [h2]; simp)]
    rfl
  · refine ⟨some bm, h1, ?_⟩
    obtain ⟨v, ps, hr, hv⟩ := h4.lookup keyedS Tryz.underlying36 (zeroRow w) (z := .slice none 0 0) (zd := .held (.slice none 0 0)) (zp := []) rfl (keyS hk)
    rw [hr]
    unfold Rv at hv
    rw [h5 k] at hv
    simp at hv
    rw [hv.1]
theorem HoldAt.below {F : Nat → Prop} {w w' : World} {hb : Nat} {sd : Bool} {C : ByteArray → List Ver} {ks : List ByteArray} {S : ByteArray → Value} (h : HoldAt F w hb sd C ks S) {n : Nat} (hk : Below n w w') (hn : w.heap.size ≤ n) : HoldAt F w' hb sd C ks S :=
  h.kept (KeptBut.of_below (F := fun b => n ≤ b) hk (fun _ _ h => h)) (fun _ hb _ => Nat.not_le_of_lt (Nat.lt_of_lt_of_le hb hn))
/-- .. in every world that has grown. -/
theorem HoldAt.lookAll {F : Nat → Prop} {w : World} {hb : Nat} {sd : Bool} {C : ByteArray → List Ver} {ks : List ByteArray} {S : ByteArray → Value} (h : HoldAt F w hb sd C ks S) {k : ByteArray} (hk : k.size ≤ maxLen) :
    ∃ m, w.cell? ⟨hb, 0, none⟩ = some (.map m) ∧ ∀ w', Below w.heap.size w w' → (Instr.lookup 36 (.map m) (.string k) false).run Tryz.prog w' = .ok (S k) w' := by
  obtain ⟨m, h1, _⟩ := h.look hk
  refine ⟨m, h1, fun w' hb' => ?_⟩
  obtain ⟨m', h3, h4⟩ := (h.below hb' (Nat.le_refl _)).look hk
  rw [(hb'.cell h.hlt).trans h1] at h3
  cases h3
  exact h4
/-- how many versions. -/
def totC (C : ByteArray → List Ver) (ks : List ByteArray) : Nat := (ks.map fun k => (C k).length).sum
end Go.Proofs.YthdicfcgkbepdaaGreatDoor
