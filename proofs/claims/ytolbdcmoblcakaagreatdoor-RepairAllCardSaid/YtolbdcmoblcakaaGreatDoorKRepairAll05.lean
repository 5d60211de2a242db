/- A node's hold in memory: a map from keys to rows of versions. -/
import Derived.Test.YtolbdcmoblcakaaGreatDoorKRepairAll03
import Derived.Test.YtolbdcmoblcakaaGreatDoorKRepairAll04
import Derived.Maps.OwnOps
import Derived.Maps.OwnSet
import Derived.Maps.RangeWalk
import Derived.Deep.SlicePairs
import Derived.Deep.QuietTactic
import Derived.BigQuiet
import Derived.Lib.SmallJoins
import Derived.SizedLaws
import Derived.Test.YtolbdcmoblcakaaGreatDoorKRepairAll01
import Derived.Test.YtolbdcmoblcakaaGreatDoorKRepairAll02
namespace Go.Proofs.YtolbdcmoblcakaaGreatDoor
open Go.RowKit Go.Maps

/-- a map's element, as it stands. -/
def Rv (v : Value) : Option (DataW Value × List MemPlace) := some (.held v, [])
theorem keyedS : Keyed Tryz.prog 9 := string_keyed Tryz.underlying9
def litS (k : ByteArray) : Lit := .string k.data.toList
theorem litS_inj {a b : ByteArray} (h : litS a = litS b) : a = b := by
  unfold litS at h
  simp only [Lit.string.injEq] at h
  cases a; cases b
  simpa using h
theorem keyS {k : ByteArray} (hk : k.size ≤ maxLen) : keyOf Tryz.prog 9 (.string k) = some (litS k) := Go.WideMaps.keyOf_string_mk Tryz.underlying9 hk
theorem zeroRow (w : World) : (zeroValue 46).run Tryz.prog w = .ok (.slice none 0 0) w := by kernel_rfl
theorem ownsMap_tight {H : Type} {P : Program} {k : TypeId} {R : Value → Option (DataW H × List MemPlace)} {w : World} {b n : Nat} {D : DataW H} (h : w.ownsMap P k R b n D) : w.ownsMap P k R b (Maps.size D) D := by
  obtain ⟨es, clock, hb, F, _, rfl⟩ := h
  refine ⟨es, clock, hb, F, ?_, rfl⟩
  rw [Maps.size_eq, length_sorted]
  simp
/-- nothing but the blocks F has turned. -/
structure KeptBut (F : Nat → Prop) (w w' : World) : Prop where
  os : w'.os = w.os
  tape : w'.tape = w.tape
  output : w'.output = w.output
  size : w.heap.size ≤ w'.heap.size
  block : ∀ k, k < w.heap.size → ¬ F k → w'.heap[k]? = w.heap[k]?
theorem KeptBut.refl (F : Nat → Prop) (w : World) : KeptBut F w w := ⟨rfl, rfl, rfl, Nat.le_refl _, fun _ _ _ => rfl⟩
theorem KeptBut.trans {F : Nat → Prop} {a b c : World} (h : KeptBut F a b) (k : KeptBut F b c) : KeptBut F a c :=
  ⟨k.os.trans h.os, k.tape.trans h.tape, k.output.trans h.output, Nat.le_trans h.size k.size, fun i hi hf => (k.block i (Nat.lt_of_lt_of_le hi h.size) hf).trans (h.block i hi hf)⟩
theorem KeptBut.mono {F G : Nat → Prop} {a b : World} (h : KeptBut F a b) (hF : ∀ k, k < a.heap.size → F k → G k) : KeptBut G a b :=
  ⟨h.os, h.tape, h.output, h.size, fun i hi hg => h.block i hi (fun e => hg (hF i hi e))⟩
theorem KeptBut.of_below {F : Nat → Prop} {n : Nat} {a b : World} (h : Below n a b) (hn : ∀ k, k < a.heap.size → n ≤ k → F k) : KeptBut F a b :=
  ⟨h.os, h.tape, h.output, h.size, fun i hi hf => h.block i (Nat.lt_of_not_le (fun e => hf (hn i hi e)))⟩
theorem KeptBut.of_grown {F : Nat → Prop} {r : Option Nat} {a b : World} (h : a.grownBy b r) (hr : ∀ k, r = some k → F k) : KeptBut F a b :=
  ⟨h.os, h.tape, h.output, h.size, fun i hi hf => h.block i hi (fun e => hf (hr i e.symm))⟩
theorem KeptBut.below {n : Nat} {F : Nat → Prop} {a b : World} (h : KeptBut F a b) (hn : n ≤ a.heap.size) (hF : ∀ k, F k → n ≤ k) : Below n a b :=
  ⟨h.os, h.tape, h.output, h.size, fun i hi => h.block i (by omega) (fun e => by have := hF i e; omega)⟩
theorem KeptBut.cell {F : Nat → Prop} {a b : World} (h : KeptBut F a b) {p : Addr} {v : Value} (hc : a.cell? p = some v) (hp : ¬ F p.block) : b.cell? p = some v :=
  (World.cell?_of_block (h.block p.block (lt_of_cell hc) hp)).trans hc
theorem OwnV.heap {B : Nat} {w w' : World} {v : Value} {l : List Ver} (h : OwnV B w v l) (hg : ∀ g, v.ownBlock = some g → w'.heap[g]? = w.heap[g]?) : OwnV B w' v l := by
  refine ⟨h.1, ?_⟩
  rcases h.2 with hn | ⟨g, cap, cur, rfl, hb, hgg, rest⟩
  · exact .inl hn
  · exact .inr ⟨g, cap, cur, rfl, hb, (hg g rfl).trans hgg, rest⟩
/-- a hold lies at hb: sealed or not; by each key its versions; the keys; the rows' headers; its blocks are among F. -/
structure HoldAt (F : Nat → Prop) (w : World) (hb : Nat) (sd : Bool) (C : ByteArray → List Ver) (ks : List ByteArray) (S : ByteArray → Value) : Prop where
  hF : F hb
  hlt : hb < w.heap.size
  c1 : w.cell? ⟨hb, 1, none⟩ = some (.bool sd)
  f0 : w.frozen? ⟨hb, 0, none⟩ = false
  f1 : w.frozen? ⟨hb, 1, none⟩ = false
  map : (w.cell? ⟨hb, 0, none⟩ = some (.map none) ∧ ks = []) ∨ ∃ (bm : Nat) (D : DataW Value), w.cell? ⟨hb, 0, none⟩ = some (.map (some bm)) ∧ F bm ∧ bm ≠ hb ∧ w.ownsMap Tryz.prog 9 Rv bm ks.length D ∧
    (∀ k, D.atKey (litS k) (.held (.slice none 0 0)) = .held (S k)) ∧ (∀ k, Maps.has D (litS k) = decide (k ∈ ks)) ∧ (∀ k g, (S k).ownBlock = some g → g ≠ bm) ∧ Maps.size D = ks.length
  row : ∀ k, OwnV 0 w (S k) (C k)
  rowF : ∀ k g, (S k).ownBlock = some g → F g ∧ g ≠ hb
  apart : ∀ k k' g, k ≠ k' → (S k).ownBlock = some g → (S k').ownBlock ≠ some g
  nodup : ks.Nodup
  mem : ∀ k, k ∈ ks ↔ C k ≠ []
  no : ∀ k, k ∉ ks → S k = .slice none 0 0
  kz : ∀ k ∈ ks, k.size ≤ maxLen
theorem HoldAt.rowLt {F : Nat → Prop} {w : World} {hb : Nat} {sd : Bool} {C : ByteArray → List Ver} {ks : List ByteArray} {S : ByteArray → Value} (h : HoldAt F w hb sd C ks S) {k : ByteArray} {g : Nat} (hg : (S k).ownBlock = some g) : g < w.heap.size :=
  ((h.row k).lt g hg).2
theorem HoldAt.kept {F G : Nat → Prop} {w w' : World} {hb : Nat} {sd : Bool} {C : ByteArray → List Ver} {ks : List ByteArray} {S : ByteArray → Value} (h : HoldAt F w hb sd C ks S) (hk : KeptBut G w w') (hFG : ∀ b, b < w.heap.size → F b → ¬ G b) : HoldAt F w' hb sd C ks S := by
  have eb : w'.heap[hb]? = w.heap[hb]? := hk.block hb h.hlt (hFG hb h.hlt h.hF)
  have ec : ∀ j, w'.cell? ⟨hb, j, none⟩ = w.cell? ⟨hb, j, none⟩ := fun j => World.cell?_of_block (a := ⟨hb, j, none⟩) eb
  have ef : ∀ j, w'.frozen? ⟨hb, j, none⟩ = w.frozen? ⟨hb, j, none⟩ := fun j => World.frozen?_of_block (a := ⟨hb, j, none⟩) eb
  refine ⟨h.hF, Nat.lt_of_lt_of_le h.hlt hk.size, (ec 1).trans h.c1, (ef 0).trans h.f0, (ef 1).trans h.f1, ?_, fun k => ?_, h.rowF, h.apart, h.nodup, h.mem, h.no, h.kz⟩
  · rcases h.map with ⟨h1, h2⟩ | ⟨bm, D, h1, h2, h3, h4, h5⟩
    · exact .inl ⟨(ec 0).trans h1, h2⟩
    · refine .inr ⟨bm, D, (ec 0).trans h1, h2, h3, ?_, h5⟩
      obtain ⟨es, clock, hm, hr⟩ := h4
      have hlt : bm < w.heap.size := (Array.getElem?_eq_some_iff.1 hm).1
      exact ⟨es, clock, (hk.block bm hlt (hFG bm hlt h2)).trans hm, hr⟩
  · exact (h.row k).heap (fun g hg => hk.block g (h.rowLt hg) (hFG g (h.rowLt hg) (h.rowF k g hg).1))
theorem HoldAt.mono {F G : Nat → Prop} {w : World} {hb : Nat} {sd : Bool} {C : ByteArray → List Ver} {ks : List ByteArray} {S : ByteArray → Value} (h : HoldAt F w hb sd C ks S) (hFG : ∀ b, F b → G b) : HoldAt G w hb sd C ks S :=
  ⟨hFG _ h.hF, h.hlt, h.c1, h.f0, h.f1, h.map.imp id (fun ⟨bm, D, h1, h2, h3⟩ => ⟨bm, D, h1, hFG _ h2, h3⟩), h.row, fun k g e => ⟨hFG _ (h.rowF k g e).1, (h.rowF k g e).2⟩, h.apart, h.nodup, h.mem, h.no, h.kz⟩
/-- h.l[key]. -/
theorem HoldAt.look {F : Nat → Prop} {w : World} {hb : Nat} {sd : Bool} {C : ByteArray → List Ver} {ks : List ByteArray} {S : ByteArray → Value} (h : HoldAt F w hb sd C ks S) {k : ByteArray} (hk : k.size ≤ maxLen) :
    ∃ m, w.cell? ⟨hb, 0, none⟩ = some (.map m) ∧ (Instr.lookup 66 (.map m) (.string k) false).run Tryz.prog w = .ok (S k) w := by
  rcases h.map with ⟨h1, h2⟩ | ⟨bm, D, h1, h2, h3, h4, h5, _⟩
  · refine ⟨none, h1, ?_⟩
    rw [Maps.look_nil false keyedS Tryz.underlying66 (zeroRow w) (keyS hk), h.no k (by rw [h2]; simp)]
    rfl
  · refine ⟨some bm, h1, ?_⟩
    obtain ⟨v, ps, hr, hv⟩ := h4.lookup keyedS Tryz.underlying66 (zeroRow w) (z := .slice none 0 0) (zd := .held (.slice none 0 0)) (zp := []) rfl (keyS hk)
    rw [hr]
    unfold Rv at hv
    rw [h5 k] at hv
    simp at hv
    rw [hv.1]
theorem HoldAt.below {F : Nat → Prop} {w w' : World} {hb : Nat} {sd : Bool} {C : ByteArray → List Ver} {ks : List ByteArray} {S : ByteArray → Value} (h : HoldAt F w hb sd C ks S) {n : Nat} (hk : Below n w w') (hn : w.heap.size ≤ n) : HoldAt F w' hb sd C ks S :=
  h.kept (KeptBut.of_below (F := fun b => n ≤ b) hk (fun _ _ h => h)) (fun _ hb _ => Nat.not_le_of_lt (Nat.lt_of_lt_of_le hb hn))
/-- .. in every world that has grown. -/
theorem HoldAt.lookAll {F : Nat → Prop} {w : World} {hb : Nat} {sd : Bool} {C : ByteArray → List Ver} {ks : List ByteArray} {S : ByteArray → Value} (h : HoldAt F w hb sd C ks S) {k : ByteArray} (hk : k.size ≤ maxLen) :
    ∃ m, w.cell? ⟨hb, 0, none⟩ = some (.map m) ∧ ∀ w', Below w.heap.size w w' → (Instr.lookup 66 (.map m) (.string k) false).run Tryz.prog w' = .ok (S k) w' := by
  obtain ⟨m, h1, _⟩ := h.look hk
  refine ⟨m, h1, fun w' hb' => ?_⟩
  obtain ⟨m', h3, h4⟩ := (h.below hb' (Nat.le_refl _)).look hk
  rw [(hb'.cell h.hlt).trans h1] at h3
  cases h3
  exact h4
/-- how many versions. -/
def totC (C : ByteArray → List Ver) (ks : List ByteArray) : Nat := (ks.map fun k => (C k).length).sum
end Go.Proofs.YtolbdcmoblcakaaGreatDoor
/- Acts on a hold that come in. -/
namespace Go.Proofs.YtolbdcmoblcakaaGreatDoor
open Go.RowKit

/-- an act: kind, key, version, number. -/
abbrev HAct := ByteArray × ByteArray × Ver × Int
def act0 : HAct := (⟨#[]⟩, ⟨#[]⟩, ver0, 0)
def ActOk (x : HAct) : Prop := x.1.size ≤ maxLen ∧ x.2.1.size ≤ maxLen ∧ x.2.2.1.2.2.2.2.size ≤ maxLen ∧ x.2.2.2 ≤ 9223372036854775807
def ActR (n₀ : Nat) (w : World) (a : Option Addr) (l : List HAct) : Prop :=
  l = [] ∨ ∃ b off, a = some ⟨b, off, none⟩ ∧ b < n₀ ∧ ∀ i, i < l.length → w.cell? ⟨b, off + i * 8, none⟩ = some (.string (l[i]?.getD act0).1) ∧ w.cell? ⟨b, off + i * 8 + 1, none⟩ = some (.string (l[i]?.getD act0).2.1) ∧
    w.cell? ⟨b, off + i * 8 + 2, none⟩ = some (.int .i64 (l[i]?.getD act0).2.2.1.1) ∧ w.cell? ⟨b, off + i * 8 + 3, none⟩ = some (.int .i64 (l[i]?.getD act0).2.2.1.2.1) ∧ w.cell? ⟨b, off + i * 8 + 4, none⟩ = some (.int .i64 (l[i]?.getD act0).2.2.1.2.2.1) ∧
    w.cell? ⟨b, off + i * 8 + 5, none⟩ = some (.int .i64 (l[i]?.getD act0).2.2.1.2.2.2.1) ∧ w.cell? ⟨b, off + i * 8 + 6, none⟩ = some (.string (l[i]?.getD act0).2.2.1.2.2.2.2) ∧ w.cell? ⟨b, off + i * 8 + 7, none⟩ = some (.int .i64 (l[i]?.getD act0).2.2.2)
theorem ActR.below {n₀ : Nat} {A B : World} (h : Below n₀ A B) {a : Option Addr} {l : List HAct} : ActR n₀ A a l → ActR n₀ B a l
  | .inl e => .inl e
  | .inr ⟨b, off, e, hb, hc⟩ => .inr ⟨b, off, e, hb, fun i hi => by
    obtain ⟨h0, h1, h2, h3, h4, h5, h6, h7⟩ := hc i hi
    have c : ∀ {o v}, A.cell? ⟨b, o, none⟩ = some v → B.cell? ⟨b, o, none⟩ = some v := fun {o v} h9 => (h.cell (p := ⟨b, o, none⟩) hb).trans h9
    exact ⟨c h0, c h1, c h2, c h3, c h4, c h5, c h6, c h7⟩⟩
/-- what is known of acts that came in. -/
def ActsIn (w : World) (a : Option Addr) (len cap : Nat) (l : List HAct) : Prop := l.length = len ∧ len ≤ cap ∧ cap ≤ maxLen ∧ (a = none → cap = 0) ∧ ActR w.heap.size w a l ∧ ∀ i, i < len → ActOk (l[i]?.getD act0)
theorem list2 {α : Type} {l : List α} (h : l.length = 2) : ∃ a b, l = [a, b] := by
  match l, h with
  | [a, b], _ => exact ⟨a, b, rfl⟩
theorem list3 {α : Type} {l : List α} (h : l.length = 3) : ∃ a b c, l = [a, b, c] := by
  match l, h with
  | [a, b, c], _ => exact ⟨a, b, c, rfl⟩
theorem list4 {α : Type} {l : List α} (h : l.length = 4) : ∃ a b c d, l = [a, b, c, d] := by
  match l, h with
  | [a, b, c, d], _ => exact ⟨a, b, c, d, rfl⟩
theorem list5 {α : Type} {l : List α} (h : l.length = 5) : ∃ a b c d e, l = [a, b, c, d, e] := by
  match l, h with
  | [a, b, c, d, e], _ => exact ⟨a, b, c, d, e, rfl⟩
theorem list8 {α : Type} {l : List α} (h : l.length = 8) : ∃ a b c d e f g i, l = [a, b, c, d, e, f, g, i] := by
  match l, h with
  | [a, b, c, d, e, f, g, i], _ => exact ⟨a, b, c, d, e, f, g, i, rfl⟩
section
variable {H : Type} {enc : TypeId × Value → H} {W : World}
set_option maxRecDepth 10000 in
theorem ver_trod {n : Nat} {cs : List Value} {y : DataW H × List MemPlace} (h : DataW.trod enc Tryz.prog W 0 (fun _ => true) true n 58 cs = some y) : ∃ x : Ver, cs = encVr x ∧ x.2.2.2.2.size ≤ maxLen := by
  obtain ⟨xs, k, hk, hxy, hcl, hxl, hf⟩ := DataW.trod_struct Tryz.underlying58 h
  have ec : Tryz.prog.cellsOf 58 = 5 := by kernel_rfl
  rw [ec] at hcl
  obtain ⟨v0, v1, v2, v3, v4, rfl⟩ := list5 hcl
  obtain ⟨y0, y1, y2, rfl⟩ := list3 hxl
  have cT : Tryz.prog.cellsOf 54 = 2 := by kernel_rfl
  have cS : Tryz.prog.cellsOf 56 = 2 := by kernel_rfl
  have cI : Tryz.prog.cellsOf 3 = 1 := by kernel_rfl
  have cX : Tryz.prog.cellsOf 9 = 1 := by kernel_rfl
  have g0 : DataW.trod enc Tryz.prog W 0 (fun _ => true) true k 54 ((([v0, v1, v2, v3, v4] : List Value).drop 0).take (Tryz.prog.cellsOf 54)) = some y0 := hf 0 _ rfl
  have g1 : DataW.trod enc Tryz.prog W 0 (fun _ => true) true k 3 ((([v0, v1, v2, v3, v4] : List Value).drop 2).take (Tryz.prog.cellsOf 3)) = some y1 := hf 1 _ rfl
  have g2 : DataW.trod enc Tryz.prog W 0 (fun _ => true) true k 56 ((([v0, v1, v2, v3, v4] : List Value).drop 3).take (Tryz.prog.cellsOf 56)) = some y2 := hf 2 _ rfl
  rw [cT] at g0
  rw [cI] at g1
  rw [cS] at g2
  have g0' : DataW.trod enc Tryz.prog W 0 (fun _ => true) true k 54 [v0, v1] = some y0 := g0
  have g1' : DataW.trod enc Tryz.prog W 0 (fun _ => true) true k 3 [v2] = some y1 := g1
  have g2' : DataW.trod enc Tryz.prog W 0 (fun _ => true) true k 56 [v3, v4] = some y2 := g2
  obtain ⟨xs, k1, hk1, _, _, hxl1, hf1⟩ := DataW.trod_struct Tryz.underlying54 g0'
  obtain ⟨z0, z1, rfl⟩ := list2 hxl1
  obtain ⟨xs, k2, hk2, _, _, hxl2, hf2⟩ := DataW.trod_struct Tryz.underlying56 g2'
  obtain ⟨z2, z3, rfl⟩ := list2 hxl2
  have e0 : DataW.trod enc Tryz.prog W 0 (fun _ => true) true k1 3 ((([v0, v1] : List Value).drop 0).take (Tryz.prog.cellsOf 3)) = some z0 := hf1 0 _ rfl
  have e1 : DataW.trod enc Tryz.prog W 0 (fun _ => true) true k1 3 ((([v0, v1] : List Value).drop 1).take (Tryz.prog.cellsOf 3)) = some z1 := hf1 1 _ rfl
  have e2 : DataW.trod enc Tryz.prog W 0 (fun _ => true) true k2 3 ((([v3, v4] : List Value).drop 0).take (Tryz.prog.cellsOf 3)) = some z2 := hf2 0 _ rfl
  have e3 : DataW.trod enc Tryz.prog W 0 (fun _ => true) true k2 9 ((([v3, v4] : List Value).drop 1).take (Tryz.prog.cellsOf 9)) = some z3 := hf2 1 _ rfl
  rw [cI] at e0 e1 e2
  rw [cX] at e3
  obtain ⟨n0, q0, _, _⟩ := DataW.trod_int Tryz.underlying3 (show DataW.trod enc Tryz.prog W 0 (fun _ => true) true k1 3 [v0] = some z0 from e0)
  obtain ⟨n1, q1, _, _⟩ := DataW.trod_int Tryz.underlying3 (show DataW.trod enc Tryz.prog W 0 (fun _ => true) true k1 3 [v1] = some z1 from e1)
  obtain ⟨n2, q2, _, _⟩ := DataW.trod_int Tryz.underlying3 g1'
  obtain ⟨n3, q3, _, _⟩ := DataW.trod_int Tryz.underlying3 (show DataW.trod enc Tryz.prog W 0 (fun _ => true) true k2 3 [v3] = some z2 from e2)
  obtain ⟨s4, q4, _, hs⟩ := DataW.trod_string Tryz.underlying9 (show DataW.trod enc Tryz.prog W 0 (fun _ => true) true k2 9 [v4] = some z3 from e3)
  simp at q0 q1 q2 q3 q4
  subst q0 q1 q2 q3 q4
  exact ⟨(n0, n1, n2, n3, s4), rfl, hs⟩
end
section
end
end Go.Proofs.YtolbdcmoblcakaaGreatDoor
/- Messages: that are read, that come in. -/
namespace Go.Proofs.YtolbdcmoblcakaaGreatDoor
section
open Go.RowKit

/-- an int that can be. -/
def Int64 (c : Int) : Prop := -9223372036854775808 ≤ c ∧ c ≤ 9223372036854775807
/-- a message. -/
structure Msg where
  fr : ByteArray
  dst : ByteArray
  kind : ByteArray
  key : ByteArray
  op : Int
  cf : Int
  sl : Bool
  L : List Ver
def msg0 : Msg := ⟨⟨#[]⟩, ⟨#[]⟩, ⟨#[]⟩, ⟨#[]⟩, 0, 0, false, []⟩
instance : Inhabited Msg := ⟨msg0⟩
def VerOk (x : Ver) : Prop := Int64 x.1 ∧ Int64 x.2.1 ∧ Int64 x.2.2.1 ∧ Int64 x.2.2.2.1 ∧ x.2.2.2.2.size ≤ maxLen
structure MsgOk (m : Msg) : Prop where
  fr : m.fr.size ≤ maxLen
  dst : m.dst.size ≤ maxLen
  kind : m.kind.size ≤ maxLen
  key : m.key.size ≤ maxLen
  op : Int64 m.op
  cf : Int64 m.cf
  L : ∀ x ∈ m.L, VerOk x
/-- a message lies at b, from o on. -/
def MsgAt (n₀ : Nat) (w : World) (b o : Nat) (m : Msg) : Prop :=
  w.cell? ⟨b, o, none⟩ = some (.string m.fr) ∧ w.cell? ⟨b, o + 1, none⟩ = some (.string m.dst) ∧ w.cell? ⟨b, o + 2, none⟩ = some (.string m.kind) ∧ w.cell? ⟨b, o + 3, none⟩ = some (.string m.key) ∧
  w.cell? ⟨b, o + 4, none⟩ = some (.int .i64 m.op) ∧ w.cell? ⟨b, o + 5, none⟩ = some (.int .i64 m.cf) ∧ w.cell? ⟨b, o + 6, none⟩ = some (.bool m.sl) ∧
  ∃ ad cap, w.cell? ⟨b, o + 7, none⟩ = some (.slice ad m.L.length cap) ∧ m.L.length ≤ cap ∧ cap ≤ maxLen ∧ (ad = none → cap = 0) ∧ VrR n₀ w ad m.L
theorem MsgAt.below {n₀ : Nat} {A B : World} (h : Below n₀ A B) {b o : Nat} {m : Msg} (hb : b < n₀) (hm : MsgAt n₀ A b o m) : MsgAt n₀ B b o m := by
  obtain ⟨h0, h1, h2, h3, h4, h5, h6, ad, cap, h7, h8, h9, h10, h11⟩ := hm
  have c : ∀ {o v}, A.cell? ⟨b, o, none⟩ = some v → B.cell? ⟨b, o, none⟩ = some v := fun {o v} h9 => (h.cell (p := ⟨b, o, none⟩) hb).trans h9
  exact ⟨c h0, c h1, c h2, c h3, c h4, c h5, c h6, ad, cap, c h7, h8, h9, h10, h11.below h⟩
theorem MsgAt.mono {n₀ n₁ : Nat} (h : n₀ ≤ n₁) {w : World} {b o : Nat} {m : Msg} (hm : MsgAt n₀ w b o m) : MsgAt n₁ w b o m := by
  obtain ⟨h0, h1, h2, h3, h4, h5, h6, ad, cap, h7, h8, h9, h10, h11⟩ := hm
  exact ⟨h0, h1, h2, h3, h4, h5, h6, ad, cap, h7, h8, h9, h10, h11.mono h⟩
/-- messages that are read. -/
def MsgsR (n₀ : Nat) (w : World) (a : Option Addr) (l : List Msg) : Prop :=
  l = [] ∨ ∃ b off, a = some ⟨b, off, none⟩ ∧ b < n₀ ∧ ∀ i, i < l.length → MsgAt n₀ w b (off + i * 8) (l[i]?.getD msg0)
theorem MsgsR.below {n₀ : Nat} {A B : World} (h : Below n₀ A B) {a : Option Addr} {l : List Msg} : MsgsR n₀ A a l → MsgsR n₀ B a l
  | .inl e => .inl e
  | .inr ⟨b, off, e, hb, hc⟩ => .inr ⟨b, off, e, hb, fun i hi => (hc i hi).below h hb⟩
theorem MsgsR.mono {n₀ n₁ : Nat} {A : World} (h : n₀ ≤ n₁) {a : Option Addr} {l : List Msg} : MsgsR n₀ A a l → MsgsR n₁ A a l
  | .inl e => .inl e
  | .inr ⟨b, off, e, hb, hc⟩ => .inr ⟨b, off, e, by omega, fun i hi => (hc i hi).mono h⟩
/-- what is known of versions that came in. -/
def VersIn (w : World) (a : Option Addr) (len cap : Nat) (l : List Ver) : Prop := l.length = len ∧ len ≤ cap ∧ cap ≤ maxLen ∧ (a = none → cap = 0) ∧ VrR w.heap.size w a l ∧ ∀ x ∈ l, VerOk x
/-- what is known of messages that came in. -/
def MsgsIn (w : World) (a : Option Addr) (len cap : Nat) (l : List Msg) : Prop := l.length = len ∧ len ≤ cap ∧ cap ≤ maxLen ∧ (a = none → cap = 0) ∧ MsgsR w.heap.size w a l ∧ ∀ i, i < len → MsgOk (l[i]?.getD msg0)
theorem weights_in {H : Type} {P : Program} {e : TypeId} {n : Nat} : ∀ {l : List (DataW H)} {d : DataW H}, d ∈ l → n ∈ d.weights P e → n ∈ DataW.weightsAll P e l
  | x :: r, d, hd, hn => by
    unfold DataW.weightsAll
    rcases List.mem_cons.1 hd with rfl | hd
    · exact List.mem_append.2 (.inl hn)
    · exact List.mem_append.2 (.inr (weights_in hd hn))
variable {H : Type} {enc : TypeId × Value → H} {W : World}
set_option maxRecDepth 10000 in
theorem ver_trodI {n : Nat} {cs : List Value} {y : DataW H × List MemPlace} (h : DataW.trod enc Tryz.prog W 0 (fun _ => true) true n 58 cs = some y) : ∃ x : Ver, cs = encVr x ∧ VerOk x := by
  obtain ⟨xs, k, hk, hxy, hcl, hxl, hf⟩ := DataW.trod_struct Tryz.underlying58 h
  have ec : Tryz.prog.cellsOf 58 = 5 := by kernel_rfl
  rw [ec] at hcl
  obtain ⟨v0, v1, v2, v3, v4, rfl⟩ := list5 hcl
  obtain ⟨y0, y1, y2, rfl⟩ := list3 hxl
  have cT : Tryz.prog.cellsOf 54 = 2 := by kernel_rfl
  have cS : Tryz.prog.cellsOf 56 = 2 := by kernel_rfl
  have cI : Tryz.prog.cellsOf 3 = 1 := by kernel_rfl
  have cX : Tryz.prog.cellsOf 9 = 1 := by kernel_rfl
  have g0 : DataW.trod enc Tryz.prog W 0 (fun _ => true) true k 54 ((([v0, v1, v2, v3, v4] : List Value).drop 0).take (Tryz.prog.cellsOf 54)) = some y0 := hf 0 _ rfl
  have g1 : DataW.trod enc Tryz.prog W 0 (fun _ => true) true k 3 ((([v0, v1, v2, v3, v4] : List Value).drop 2).take (Tryz.prog.cellsOf 3)) = some y1 := hf 1 _ rfl
  have g2 : DataW.trod enc Tryz.prog W 0 (fun _ => true) true k 56 ((([v0, v1, v2, v3, v4] : List Value).drop 3).take (Tryz.prog.cellsOf 56)) = some y2 := hf 2 _ rfl
  rw [cT] at g0
  rw [cI] at g1
  rw [cS] at g2
  have g0' : DataW.trod enc Tryz.prog W 0 (fun _ => true) true k 54 [v0, v1] = some y0 := g0
  have g1' : DataW.trod enc Tryz.prog W 0 (fun _ => true) true k 3 [v2] = some y1 := g1
  have g2' : DataW.trod enc Tryz.prog W 0 (fun _ => true) true k 56 [v3, v4] = some y2 := g2
  obtain ⟨xs, k1, hk1, _, _, hxl1, hf1⟩ := DataW.trod_struct Tryz.underlying54 g0'
  obtain ⟨z0, z1, rfl⟩ := list2 hxl1
  obtain ⟨xs, k2, hk2, _, _, hxl2, hf2⟩ := DataW.trod_struct Tryz.underlying56 g2'
  obtain ⟨z2, z3, rfl⟩ := list2 hxl2
  have e0 : DataW.trod enc Tryz.prog W 0 (fun _ => true) true k1 3 ((([v0, v1] : List Value).drop 0).take (Tryz.prog.cellsOf 3)) = some z0 := hf1 0 _ rfl
  have e1 : DataW.trod enc Tryz.prog W 0 (fun _ => true) true k1 3 ((([v0, v1] : List Value).drop 1).take (Tryz.prog.cellsOf 3)) = some z1 := hf1 1 _ rfl
  have e2 : DataW.trod enc Tryz.prog W 0 (fun _ => true) true k2 3 ((([v3, v4] : List Value).drop 0).take (Tryz.prog.cellsOf 3)) = some z2 := hf2 0 _ rfl
  have e3 : DataW.trod enc Tryz.prog W 0 (fun _ => true) true k2 9 ((([v3, v4] : List Value).drop 1).take (Tryz.prog.cellsOf 9)) = some z3 := hf2 1 _ rfl
  rw [cI] at e0 e1 e2
  rw [cX] at e3
  obtain ⟨n0, q0, _, w0⟩ := DataW.trod_int Tryz.underlying3 (show DataW.trod enc Tryz.prog W 0 (fun _ => true) true k1 3 [v0] = some z0 from e0)
  obtain ⟨n1, q1, _, w1⟩ := DataW.trod_int Tryz.underlying3 (show DataW.trod enc Tryz.prog W 0 (fun _ => true) true k1 3 [v1] = some z1 from e1)
  obtain ⟨n2, q2, _, w2⟩ := DataW.trod_int Tryz.underlying3 g1'
  obtain ⟨n3, q3, _, w3⟩ := DataW.trod_int Tryz.underlying3 (show DataW.trod enc Tryz.prog W 0 (fun _ => true) true k2 3 [v3] = some z2 from e2)
  obtain ⟨s4, q4, _, hs⟩ := DataW.trod_string Tryz.underlying9 (show DataW.trod enc Tryz.prog W 0 (fun _ => true) true k2 9 [v4] = some z3 from e3)
  simp at q0 q1 q2 q3 q4
  subst q0 q1 q2 q3 q4
  exact ⟨(n0, n1, n2, n3, s4), rfl, bounds_i64 w0, bounds_i64 w1, bounds_i64 w2, bounds_i64 w3, hs⟩
set_option maxRecDepth 10000 in
theorem vers_trod {n : Nat} {v : Value} {y : DataW H × List MemPlace} (h : DataW.trod enc Tryz.prog W 0 (fun _ => true) true n 46 [v] = some y) :
    ∃ a len cap L, v = .slice a len cap ∧ VersIn W a len cap L ∧ ((y.1 = .nil ∧ len = 0) ∨ ∃ es sp, y.1 = .slice es sp ∧ es.length = len) := by
  rcases Go.Deep.open_slice Tryz.underlying46 h with ⟨hcs, rfl⟩ | ⟨x, len, cap, m, n, D, Pl, hcs, _, hl, hm, hmm, hy, hr⟩
  · simp at hcs
    subst hcs
    exact ⟨none, 0, 0, [], rfl, ⟨rfl, Nat.le_refl _, by simp [maxLen], fun _ => rfl, .inl rfl, fun x hx => (by cases hx)⟩, .inl ⟨rfl, rfl⟩⟩
  · simp at hcs
    subst hcs
    rw [if_pos rfl] at hmm
    subst hmm
    have ec : Tryz.prog.cellsOf 58 = 5 := by kernel_rfl
    rw [ec] at hr
    have each : ∀ i, i < m → ∃ z : Ver, VerOk z ∧ ∀ j, j < 5 → W.cell? ((x.add (i * 5)).add j) = (encVr z)[j]? := fun i hi => by
      obtain ⟨cs', h3, h4⟩ := hr i hi
      obtain ⟨z, e, hz⟩ := ver_trodI h4
      obtain ⟨_, hlen, hcell⟩ := World.cells?_some h3
      exact ⟨z, hz, fun j hj => by rw [hcell j hj, e]⟩
    obtain ⟨f, hff⟩ := Go.Deep.choose_lt each
    refine ⟨_, len, m, (List.range len).map f, rfl, ⟨by simp, hl, hm, (fun e => by cases e), ?_, fun z hz => ?_⟩, .inr ⟨_, _, by rw [hy], by simp⟩⟩
    · by_cases h0 : len = 0
      · left; subst h0; rfl
      · obtain ⟨b, off, spot⟩ := x
        have h00 := (hff 0 (by omega)).2 0 (by omega)
        have hspot : spot = none := by
          have h00' : W.cell? ((Addr.add ⟨b, off, spot⟩ (0 * 5)).add 0) = some (.int .i64 (f 0).1) := h00
          simpa [Addr.add] using World.cell?_spot h00'
        subst hspot
        have hb : b < W.heap.size := by
          have h00' : W.cell? ((Addr.add ⟨b, off, none⟩ (0 * 5)).add 0) = some (.int .i64 (f 0).1) := h00
          simpa [Addr.add] using lt_of_cell h00'
        refine .inr ⟨b, off, rfl, hb, fun i j hi hj => ?_⟩
        have hi2 : i < len := by simpa using hi
        have e : ((List.range len).map f)[i]?.getD ver0 = f i := by simp [hi2]
        rw [e, ← (hff i (by omega)).2 j hj, Go.WideShapes.add_plain, Go.WideShapes.add_plain]
    · obtain ⟨i, hi, rfl⟩ := List.mem_map.1 hz
      exact (hff i (by have := List.mem_range.1 hi; omega)).1
theorem bytes_ver : Tryz.prog.bytesOf 58 = 48 := by kernel_rfl
end
end Go.Proofs.YtolbdcmoblcakaaGreatDoor
/- Shelves that come in. -/
namespace Go.Proofs.YtolbdcmoblcakaaGreatDoor
section
open Go.RowKit

/-- a shelf: no hold, or versions. -/
abbrev ShelfS := Bool × List Ver
def shelf0 : ShelfS := (false, [])
/-- a shelf lies at b, from o on. -/
def ShelfAt (n₀ : Nat) (w : World) (b o : Nat) (x : ShelfS) : Prop :=
  w.cell? ⟨b, o, none⟩ = some (.bool x.1) ∧ ∃ ad cap, w.cell? ⟨b, o + 1, none⟩ = some (.slice ad x.2.length cap) ∧ x.2.length ≤ cap ∧ cap ≤ maxLen ∧ (ad = none → cap = 0) ∧ VrR n₀ w ad x.2
theorem ShelfAt.below {n₀ : Nat} {A B : World} (h : Below n₀ A B) {b o : Nat} {x : ShelfS} (hb : b < n₀) (hm : ShelfAt n₀ A b o x) : ShelfAt n₀ B b o x := by
  obtain ⟨h0, ad, cap, h7, h8, h9, h10, h11⟩ := hm
  have c : ∀ {o v}, A.cell? ⟨b, o, none⟩ = some v → B.cell? ⟨b, o, none⟩ = some v := fun {o v} h9 => (h.cell (p := ⟨b, o, none⟩) hb).trans h9
  exact ⟨c h0, ad, cap, c h7, h8, h9, h10, h11.below h⟩
theorem ShelfAt.mono {n₀ n₁ : Nat} (h : n₀ ≤ n₁) {w : World} {b o : Nat} {x : ShelfS} (hm : ShelfAt n₀ w b o x) : ShelfAt n₁ w b o x := by
  obtain ⟨h0, ad, cap, h7, h8, h9, h10, h11⟩ := hm
  exact ⟨h0, ad, cap, h7, h8, h9, h10, h11.mono h⟩
/-- shelves that are read. -/
def ShsR (n₀ : Nat) (w : World) (a : Option Addr) (l : List ShelfS) : Prop :=
  l = [] ∨ ∃ b off, a = some ⟨b, off, none⟩ ∧ b < n₀ ∧ ∀ i, i < l.length → ShelfAt n₀ w b (off + i * 2) (l[i]?.getD shelf0)
theorem ShsR.below {n₀ : Nat} {A B : World} (h : Below n₀ A B) {a : Option Addr} {l : List ShelfS} : ShsR n₀ A a l → ShsR n₀ B a l
  | .inl e => .inl e
  | .inr ⟨b, off, e, hb, hc⟩ => .inr ⟨b, off, e, hb, fun i hi => (hc i hi).below h hb⟩
theorem ShsR.mono {n₀ n₁ : Nat} {A : World} (h : n₀ ≤ n₁) {a : Option Addr} {l : List ShelfS} : ShsR n₀ A a l → ShsR n₁ A a l
  | .inl e => .inl e
  | .inr ⟨b, off, e, hb, hc⟩ => .inr ⟨b, off, e, by omega, fun i hi => (hc i hi).mono h⟩
/-- what is known of shelves that came in. -/
def ShsIn (w : World) (a : Option Addr) (len cap : Nat) (l : List ShelfS) : Prop := l.length = len ∧ len ≤ cap ∧ cap ≤ maxLen ∧ (a = none → cap = 0) ∧ ShsR w.heap.size w a l ∧ ∀ i, i < len → ∀ v ∈ (l[i]?.getD shelf0).2, VerOk v
variable {H : Type} {enc : TypeId × Value → H} {W : World}
set_option maxRecDepth 10000 in
theorem shelf_trod {n : Nat} {cs : List Value} {y : DataW H × List MemPlace} (h : DataW.trod enc Tryz.prog W 0 (fun _ => true) true n 72 cs = some y) :
    ∃ (x : ShelfS) (a : Option Addr) (cap : Nat), cs = [.bool x.1, .slice a x.2.length cap] ∧ VersIn W a x.2.length cap x.2 := by
  obtain ⟨xs, k, hk, hxy, hcl, hxl, hf⟩ := DataW.trod_struct Tryz.underlying72 h
  have ec : Tryz.prog.cellsOf 72 = 2 := by kernel_rfl
  rw [ec] at hcl
  obtain ⟨v0, v1, rfl⟩ := list2 hcl
  obtain ⟨y0, y1, rfl⟩ := list2 hxl
  have cB : Tryz.prog.cellsOf 4 = 1 := by kernel_rfl
  have cL : Tryz.prog.cellsOf 46 = 1 := by kernel_rfl
  have g0 : DataW.trod enc Tryz.prog W 0 (fun _ => true) true k 4 ((([v0, v1] : List Value).drop 0).take (Tryz.prog.cellsOf 4)) = some y0 := hf 0 _ rfl
  have g1 : DataW.trod enc Tryz.prog W 0 (fun _ => true) true k 46 ((([v0, v1] : List Value).drop 1).take (Tryz.prog.cellsOf 46)) = some y1 := hf 1 _ rfl
  rw [cB] at g0
  rw [cL] at g1
  obtain ⟨b0, q0, _⟩ := DataW.trod_bool Tryz.underlying4 (show DataW.trod enc Tryz.prog W 0 (fun _ => true) true k 4 [v0] = some y0 from g0)
  obtain ⟨a, len, cap, L, q1, hL, _⟩ := vers_trod (show DataW.trod enc Tryz.prog W 0 (fun _ => true) true k 46 [v1] = some y1 from g1)
  simp at q0
  subst q0 q1
  have hlen := hL.1
  subst hlen
  exact ⟨(b0, L), a, cap, rfl, hL⟩
set_option maxRecDepth 10000 in
theorem open_shelves {a : Option Addr} {len cap : Nat} {d : DataW H} {p : List MemPlace} (h : DataW.Trod enc Tryz.prog W 0 (fun _ => true) true 25 (.slice a len cap) d p) : ∃ l, ShsIn W a len cap l := by
  obtain ⟨fuel, hf⟩ := h
  rcases Go.Deep.open_slice Tryz.underlying25 hf with ⟨hcs, _⟩ | ⟨x, l, c, m, n, D, Pl, hcs, _, hl, hm, hmm, hy, hr⟩
  · simp [Value.cells] at hcs
    obtain ⟨rfl, rfl, rfl⟩ := hcs
    exact ⟨[], rfl, Nat.le_refl _, by simp [maxLen], fun _ => rfl, .inl rfl, fun i hi => by omega⟩
  · simp [Value.cells] at hcs
    obtain ⟨rfl, rfl, rfl⟩ := hcs
    rw [if_pos rfl] at hmm
    subst hmm
    have ec : Tryz.prog.cellsOf 72 = 2 := by kernel_rfl
    rw [ec] at hr
    have each : ∀ i, i < m → ∃ z : ShelfS × Option Addr × Nat, VersIn W z.2.1 z.1.2.length z.2.2 z.1.2 ∧ ∀ j, j < 2 → W.cell? ((x.add (i * 2)).add j) = ([.bool z.1.1, .slice z.2.1 z.1.2.length z.2.2] : List Value)[j]? := fun i hi => by
      obtain ⟨cs', h3, h4⟩ := hr i hi
      obtain ⟨z, za, zc, e, hv⟩ := shelf_trod h4
      obtain ⟨_, hlen, hcell⟩ := World.cells?_some h3
      exact ⟨(z, za, zc), hv, fun j hj => by rw [hcell j hj, e]⟩
    obtain ⟨f, hff⟩ := Go.Deep.choose_lt each
    have eg : ∀ i, i < len → ((List.range len).map fun i => (f i).1)[i]?.getD shelf0 = (f i).1 := fun i hi => by simp [hi]
    refine ⟨(List.range len).map fun i => (f i).1, by simp, hl, hm, (fun e => by cases e), ?_, fun i hi => ?_⟩
    · by_cases h0 : len = 0
      · left; subst h0; rfl
      · obtain ⟨b, off, spot⟩ := x
        have h00 := (hff 0 (by omega)).2 0 (by omega)
        have hspot : spot = none := by simpa [Addr.add] using World.cell?_spot h00
        subst hspot
        have hb : b < W.heap.size := by simpa [Addr.add] using lt_of_cell h00
        refine .inr ⟨b, off, rfl, hb, fun i hi => ?_⟩
        have hi2 : i < len := by simpa using hi
        rw [eg i hi2]
        obtain ⟨k2, k4⟩ := hff i (by omega)
        have c : ∀ j, j < 2 → W.cell? ⟨b, off + i * 2 + j, none⟩ = ([.bool (f i).1.1, .slice (f i).2.1 (f i).1.2.length (f i).2.2] : List Value)[j]? := fun j hj => by
          rw [← k4 j hj, Go.WideShapes.add_plain, Go.WideShapes.add_plain]
        exact ⟨c 0 (by omega), _, _, c 1 (by omega), k2.2.1, k2.2.2.1, k2.2.2.2.1, k2.2.2.2.2.1⟩
    · rw [eg i hi]
      exact (hff i (by omega)).1.2.2.2.2.2
end
end Go.Proofs.YtolbdcmoblcakaaGreatDoor
/- Appends of one pointer to a hold, to a model. -/
namespace Go.Proofs.YtolbdcmoblcakaaGreatDoor
open Go.RowKit

/-- a slice of pointers that is the call's own. -/
abbrev OwnH (B : Nat) (w : World) (v : Value) (l : List (Option Addr)) : Prop := Own1 59 B w v (l.map Value.pointer)
abbrev OwnN (B : Nat) (w : World) (v : Value) (l : List (Option Addr)) : Prop := Own1 51 B w v (l.map Value.pointer)
theorem info_hold : (Tryz.prog.info? 59).map (fun i => (i.zero, i.size, i.bytes)) = some (some (.pointer none), 1, 8) := by kernel_rfl
theorem info_model : (Tryz.prog.info? 51).map (fun i => (i.zero, i.size, i.bytes)) = some (some (.pointer none), 1, 8) := by kernel_rfl
/-- append(s, p) of a pointer to a hold. -/
theorem append_hold {ops : Array Oper} {rest : List Oper} {o : Oper} {a : Act} {Q : Exit → Act → World → Prop} {w0 : World} (s x : Nat) (hgd : o.guard = none)
    (ho : o.op = .call { callee := .builtin .append, args := #[.tmp s, .tmp x], argTypes := #[29, 29] }) (B : Nat) (v : Value) (l : List (Option Addr)) (p : Option Addr)
    (hs : a.eval (.tmp s) = v) (hx : a.eval (.tmp x) = .slice (some ⟨w0.heap.size, 0, none⟩) 1 1) (hown : OwnH B w0 v l) (hl : (l.length + 1) * 8 ≤ 140737488355328) (hB : B ≤ w0.heap.size)
    (h : ∀ v' w', OwnH B w' v' (l ++ [p]) → (w0.alloc (.cells #[.pointer p] 59)).grownBy w' v.ownBlock → (v'.ownBlock = v.ownBlock ∨ v'.ownBlock = some (w0.heap.size + 1)) → wpList Tryz.prog ops Q rest (a.put o.dst v') w') :
    wpList Tryz.prog ops Q (o :: rest) a (w0.alloc (.cells #[.pointer p] 59)) := by
  refine append_one 29 59 (.pointer none) 8 Tryz.underlying29 info_hold rfl s x hgd ho B v _ _ rfl hs hx hown (by simpa using hl) (by simp [maxLen]; omega) hB ?_
  intro v' w' h1 h2 h3
  exact h v' w' (by first | (unfold OwnH; rw [List.map_append]; exact h1) | (unfold OwnN; rw [List.map_append]; exact h1)) h2 h3
/-- append(s, p) of a pointer to a model. -/
theorem append_model {ops : Array Oper} {rest : List Oper} {o : Oper} {a : Act} {Q : Exit → Act → World → Prop} {w0 : World} (s x : Nat) (hgd : o.guard = none)
    (ho : o.op = .call { callee := .builtin .append, args := #[.tmp s, .tmp x], argTypes := #[30, 30] }) (B : Nat) (v : Value) (l : List (Option Addr)) (p : Option Addr)
    (hs : a.eval (.tmp s) = v) (hx : a.eval (.tmp x) = .slice (some ⟨w0.heap.size, 0, none⟩) 1 1) (hown : OwnN B w0 v l) (hl : (l.length + 1) * 8 ≤ 140737488355328) (hB : B ≤ w0.heap.size)
    (h : ∀ v' w', OwnN B w' v' (l ++ [p]) → (w0.alloc (.cells #[.pointer p] 51)).grownBy w' v.ownBlock → (v'.ownBlock = v.ownBlock ∨ v'.ownBlock = some (w0.heap.size + 1)) → wpList Tryz.prog ops Q rest (a.put o.dst v') w') :
    wpList Tryz.prog ops Q (o :: rest) a (w0.alloc (.cells #[.pointer p] 51)) := by
  refine append_one 30 51 (.pointer none) 8 Tryz.underlying30 info_model rfl s x hgd ho B v _ _ rfl hs hx hown (by simpa using hl) (by simp [maxLen]; omega) hB ?_
  intro v' w' h1 h2 h3
  exact h v' w' (by first | (unfold OwnH; rw [List.map_append]; exact h1) | (unfold OwnN; rw [List.map_append]; exact h1)) h2 h3
end Go.Proofs.YtolbdcmoblcakaaGreatDoor
/- The walks of hold.Tag, the document's IsTag. -/
namespace Go.Proofs.YtolbdcmoblcakaaGreatDoor
section
open Go.RowKit

def tagB (n m : Int) : Bool := decide (0 ≤ n ∧ n ≤ 1099511627776 ∧ 0 ≤ m ∧ m ≤ 1099511627776)
set_option maxRecDepth 100000 in
set_option maxHeartbeats 2000000 in
theorem tagb_walk (n m : Int) (w : World) :
    Calls Tryz.prog 59 #[.agg #[.int .i64 n, .int .i64 m]] w fun e w' => e = .returned (.bool (tagB n m)) ∧ Below w.heap.size w w' := by
  have hB : Below w.heap.size w (w.alloc (.cells #[.int .i64 n, .int .i64 m] 54)) := (Below.refl _ w).alloc (Nat.le_refl _) _
  have HB := Lib.hid hB
  clear hB
  have hcs : (¬ 0 ≤ n ∧ tagB n m = false) ∨ (0 ≤ n ∧ ¬ n ≤ 1099511627776 ∧ tagB n m = false) ∨ (0 ≤ n ∧ n ≤ 1099511627776 ∧ ¬ 0 ≤ m ∧ tagB n m = false) ∨ (0 ≤ n ∧ n ≤ 1099511627776 ∧ 0 ≤ m ∧ ¬ m ≤ 1099511627776 ∧ tagB n m = false) ∨ (0 ≤ n ∧ n ≤ 1099511627776 ∧ 0 ≤ m ∧ m ≤ 1099511627776 ∧ tagB n m = true) := by
    unfold tagB
    simp only [decide_eq_false_iff_not, decide_eq_true_eq]
    omega
  rcases hcs with ⟨h1, hr⟩ | ⟨h1, h2, hr⟩ | ⟨h1, h2, h3, hr⟩ | ⟨h1, h2, h3, h4, hr⟩ | ⟨h1, h2, h3, h4, hr⟩
  all_goals
    rw [hr]
    clear hr
    go_enter Tryz.func59, Tryz.ntmps59
    go_wp2
    go_ret
    exact ⟨by simp, HB.out⟩
set_option maxRecDepth 100000 in
set_option maxHeartbeats 2000000 in
theorem rtag_walk (n m : Int) (w : World) :
    Calls Tryz.prog 54 #[.agg #[.int .i64 n, .int .i64 m]] w fun e w' => e = .returned (.bool (tagB n m)) ∧ Below w.heap.size w w' := by
  have hB : Below w.heap.size w (w.alloc (.cells #[.int .i64 n, .int .i64 m] 54)) := (Below.refl _ w).alloc (Nat.le_refl _) _
  have HB := Lib.hid hB
  clear hB
  have hcs : (¬ 0 ≤ n ∧ tagB n m = false) ∨ (0 ≤ n ∧ ¬ n ≤ 1099511627776 ∧ tagB n m = false) ∨ (0 ≤ n ∧ n ≤ 1099511627776 ∧ ¬ 0 ≤ m ∧ tagB n m = false) ∨ (0 ≤ n ∧ n ≤ 1099511627776 ∧ 0 ≤ m ∧ ¬ m ≤ 1099511627776 ∧ tagB n m = false) ∨ (0 ≤ n ∧ n ≤ 1099511627776 ∧ 0 ≤ m ∧ m ≤ 1099511627776 ∧ tagB n m = true) := by
    unfold tagB
    simp only [decide_eq_false_iff_not, decide_eq_true_eq]
    omega
  rcases hcs with ⟨h1, hr⟩ | ⟨h1, h2, hr⟩ | ⟨h1, h2, h3, hr⟩ | ⟨h1, h2, h3, h4, hr⟩ | ⟨h1, h2, h3, h4, hr⟩
  all_goals
    rw [hr]
    clear hr
    go_enter Tryz.func54, Tryz.ntmps54
    go_wp2
    go_ret
    exact ⟨by simp, HB.out⟩
end
end Go.Proofs.YtolbdcmoblcakaaGreatDoor
