/- errors.Is at errors of errors.New's make; plain.Code and the laws' coded, at nil and at the program's own errors. -/
import Derived.Test.YtjhjpijjfpfjeaaGreatDoorKQuorumBest05
import Derived.Test.YtjhjpijjfpfjeaaGreatDoorKQuorumBest06
import Derived.Test.YtjhjpijjfpfjeaaGreatDoorKQuorumBest01
import Derived.Test.YtjhjpijjfpfjeaaGreatDoorKQuorumBest04
import Derived.Maps.OwnOps
import Derived.Maps.OwnSet
import Derived.Maps.RangeWalk
import Derived.Deep.SlicePairs
import Derived.Deep.QuietTactic
import Derived.BigQuiet
namespace Go.Proofs.YtjhjpijjfpfjeaaGreatDoor
open Go.RowKit Go.Extern.Stop Go.Stop Go.Extern

theorem is_comparable (w : World) : ((Extern.ReflectliteType.method fun t => do Rtype.noPackHeld "Comparable" t; (fun a => Value.bool a.comparable) <$> typeInfo t) #[.agg #[.pointer (some ⟨14, 165, none⟩)]]).run Tryz.prog w = .ok (.bool true) w := by kernel_rfl
theorem is_methodComparable (v : Value) (w : World) : (Go.method 297 148 v "Comparable").run Tryz.prog w = .ok (119, v) w := by kernel_rfl
theorem is_comp : (Tryz.prog.info? 165).map (·.comparable) = some true := by kernel_rfl
theorem is_size : (Tryz.prog.info? 185).map (·.size) = some 1 := by kernel_rfl

theorem eql_same (a : Addr) (w : World) : (binOp .eql 32 (errV a) (errV a)).run Tryz.prog w = .ok (.bool true) w := by
  obtain ⟨i, hi, hc⟩ := Option.map_eq_some_iff.1 is_comp
  obtain ⟨j, hj, _⟩ := Option.map_eq_some_iff.1 is_size
  exact run_eql_iface_ptr_same w a Tryz.underlying32 Tryz.underlying165 hi hc hj
/-- the block of an error's text. -/
def Blk (w : World) (a : Addr) : Prop := ∃ c t, w.heap[a.block]? = some (.cells c t (0, 0))
theorem eql_other {a b : Addr} (w : World) (hne : a ≠ b) (ha : Blk w a) (hb : Blk w b) : (binOp .eql 32 (errV a) (errV b)).run Tryz.prog w = .ok (.bool false) w := by
  obtain ⟨i, hi, hc⟩ := Option.map_eq_some_iff.1 is_comp
  obtain ⟨j, hj, hs⟩ := Option.map_eq_some_iff.1 is_size
  obtain ⟨ca, ta, ha⟩ := ha
  obtain ⟨cb, tb, hb⟩ := hb
  exact run_eql_iface_ptr_other w Tryz.underlying32 Tryz.underlying165 hi hc hj (by rw [hs]; decide) hne ha hb

set_option maxRecDepth 100000 in
set_option maxHeartbeats 1000000 in
theorem is_same (a : Addr) (w : World) :
    Calls Tryz.prog 43 #[errV a, errV a] w fun e w' => e = .returned (.bool true) ∧ w = w' := by
  have h10 := @run_callFunc_extern Tryz.prog 71 _ ReflectliteType.typeOf Tryz.func71 (by kernel_rfl) (by kernel_rfl) (by kernel_rfl) (by kernel_rfl)
  have h30 := @run_callFunc_extern Tryz.prog 119 _ (Extern.ReflectliteType.method fun t => do Rtype.noPackHeld "Comparable" t; pure (.bool (← typeInfo t).comparable)) Tryz.func119 (by kernel_rfl) (by kernel_rfl) (by kernel_rfl) (by kernel_rfl)
  have tO := as_typeOfE
  have mC := is_methodComparable
  have cC := is_comparable
  have he := fun w => eql_same a w
  go_enter Tryz.func43, Tryz.ntmps43
  go_wp2
  refine wp_loop_rounds 1 ?_
  rw [rounds_succ]
  go_wp2
  go_ret
  exact ⟨rfl, rfl⟩
set_option maxRecDepth 100000 in
set_option maxHeartbeats 1000000 in
theorem is_other {a b : Addr} (w : World) (hne : a ≠ b) (ha : Blk w a) (hb : Blk w b) :
    Calls Tryz.prog 43 #[errV a, errV b] w fun e w' => e = .returned (.bool false) ∧ w = w' := by
  have h10 := @run_callFunc_extern Tryz.prog 71 _ ReflectliteType.typeOf Tryz.func71 (by kernel_rfl) (by kernel_rfl) (by kernel_rfl) (by kernel_rfl)
  have h30 := @run_callFunc_extern Tryz.prog 119 _ (Extern.ReflectliteType.method fun t => do Rtype.noPackHeld "Comparable" t; pure (.bool (← typeInfo t).comparable)) Tryz.func119 (by kernel_rfl) (by kernel_rfl) (by kernel_rfl) (by kernel_rfl)
  have tO := as_typeOfE
  have mC := is_methodComparable
  have cC := is_comparable
  have he := eql_other w hne ha hb
  have nI := noIsE
  have nU := noUnwrapE
  have nUs := noUnwrapsE
  clear hne ha hb
  go_enter Tryz.func43, Tryz.ntmps43
  go_wp2
  refine wp_loop_rounds 1 ?_
  rw [rounds_succ]
  go_wp2
  go_ret
  exact ⟨rfl, rfl⟩

/-- the twelve errors of package api: where their texts lie. -/
structure ErrEnv (w : World) (E : Nat → Addr) : Prop where
  c0 : w.cell? ⟨1, 0, none⟩ = some (errV (E 0))
  c1 : w.cell? ⟨2, 0, none⟩ = some (errV (E 1))
  c2 : w.cell? ⟨0, 0, none⟩ = some (errV (E 2))
  c3 : w.cell? ⟨3, 0, none⟩ = some (errV (E 3))
  c4 : w.cell? ⟨4, 0, none⟩ = some (errV (E 4))
  c5 : w.cell? ⟨5, 0, none⟩ = some (errV (E 5))
  c6 : w.cell? ⟨6, 0, none⟩ = some (errV (E 6))
  c7 : w.cell? ⟨7, 0, none⟩ = some (errV (E 7))
  c8 : w.cell? ⟨8, 0, none⟩ = some (errV (E 8))
  c9 : w.cell? ⟨9, 0, none⟩ = some (errV (E 9))
  c10 : w.cell? ⟨10, 0, none⟩ = some (errV (E 10))
  c11 : w.cell? ⟨11, 0, none⟩ = some (errV (E 11))
  hnd : w.cell? ⟨12, 0, none⟩ = some (.iface 148 (.agg #[.pointer (some ⟨14, 32, none⟩)]))
  blk : ∀ k, k < 12 → Blk w (E k)
  ne : ∀ i j, i < 12 → j < 12 → i ≠ j → E i ≠ E j
theorem lt_of_cell {w : World} {p : Addr} {v : Value} (h : w.cell? p = some v) : p.block < w.heap.size := by
  rcases Nat.lt_or_ge p.block w.heap.size with h1 | h1
  · exact h1
  · simp [World.cell?, Array.getElem?_eq_none h1] at h
theorem Blk.below {n : Nat} {w w' : World} {a : Addr} (hb : Below n w w') (hn : w.heap.size ≤ n) (h : Blk w a) : Blk w' a := by
  obtain ⟨c, t, h⟩ := h
  exact ⟨c, t, (hb.block _ (Nat.lt_of_lt_of_le (Array.getElem?_eq_some_iff.1 h).1 hn)).trans h⟩
theorem ErrEnv.below {n : Nat} {w w' : World} {E : Nat → Addr} (hb : Below n w w') (hn : w.heap.size ≤ n) (h : ErrEnv w E) : ErrEnv w' E := by
  have c : ∀ {p v}, w.cell? p = some v → w'.cell? p = some v := fun {p v} h => (hb.cell (Nat.lt_of_lt_of_le (lt_of_cell h) hn)).trans h
  exact ⟨c h.c0, c h.c1, c h.c2, c h.c3, c h.c4, c h.c5, c h.c6, c h.c7, c h.c8, c h.c9, c h.c10, c h.c11, c h.hnd, fun k hk => (h.blk k hk).below hb hn, h.ne⟩

/-- the list that Code builds. -/
def errCells (E : Nat → Addr) : Array Value := #[errV (E 0), errV (E 1), errV (E 2), errV (E 3), errV (E 4), errV (E 5), errV (E 6), errV (E 7), errV (E 8), errV (E 9), errV (E 10), errV (E 11)]
theorem errCells_at (E : Nat → Addr) {k : Nat} (hk : k < 12) : (errCells E)[k]? = some (errV (E k)) := by
  rcases (show k = 0 ∨ k = 1 ∨ k = 2 ∨ k = 3 ∨ k = 4 ∨ k = 5 ∨ k = 6 ∨ k = 7 ∨ k = 8 ∨ k = 9 ∨ k = 10 ∨ k = 11 by omega) with rfl | rfl | rfl | rfl | rfl | rfl | rfl | rfl | rfl | rfl | rfl | rfl <;> rfl

set_option maxHeartbeats 1000000 in
theorem code_nil (w : World) :
    Calls Tryz.prog 21 #[.nilIface] w fun e w' => e = .returned (.tuple #[.int .i64 0, .int .i64 (-1)]) ∧ w = w' := by
  go_enter Tryz.func21, Tryz.ntmps21
  go_wp2
  go_ret2
  exact ⟨rfl, rfl⟩

set_option maxRecDepth 100000 in
set_option maxHeartbeats 2000000 in
theorem code_err (E : Nat → Addr) (i : Nat) (hi : i < 12) (w : World) (hE : ErrEnv w E) :
    Calls Tryz.prog 21 #[errV (E i)] w fun e w' => e = .returned (.tuple #[.int .i64 ((i : Int) + 1), .int .i64 (-1)]) ∧ Below w.heap.size w w' := by
  go_enter Tryz.func21, Tryz.ntmps21
  go_wp2_with fail
  refine (as_miss (E i) ⟨w.heap.size, 0, none⟩ (.pointer none) _ ?_ ?_).mono ?_
  · exact (World.cell?_alloc_lt _ _ _ (lt_of_cell hE.hnd)).trans hE.hnd
  · simp
  rintro e w1 ⟨rfl, hb⟩
  simp only [World.size_alloc] at hb
  have hB : Below w.heap.size w w1 := ((Below.refl _ w).alloc (Nat.le_refl _) _).trans (hb.mono (by omega))
  have hE1 := hE.below hB (Nat.le_refl _)
  have hsz := hB.size
  obtain ⟨d0, d1, d2, d3, d4, d5, d6, d7, d8, d9, d10, d11, _, hblk, hne⟩ := hE1
  have Hblk := Lib.hid hblk; clear hblk
  have Hne := Lib.hid hne; clear hne
  clear hE hb
  go_wp2
  clear d0 d1 d2 d3 d4 d5 d6 d7 d8 d9 d10 d11
  obtain ⟨W, hW⟩ : ∃ W, w1.alloc (.cells #[errV (E 0), errV (E 1), errV (E 2), errV (E 3), errV (E 4), errV (E 5), errV (E 6), errV (E 7), errV (E 8), errV (E 9), errV (E 10), errV (E 11)] 32) = W := ⟨_, rfl⟩
  rw [hW]
  have hcs : ∀ k, k < 12 → W.cell? ⟨w1.heap.size, k, none⟩ = some (errV (E k)) := fun k hk => by
    rw [← hW, World.cell?_alloc_at _ _ _ _ rfl]
    exact errCells_at E hk
  have hBW : Below w.heap.size w W := by rw [← hW]; exact hB.alloc hsz _
  have hbk : ∀ k, k < 12 → Blk W (E k) := fun k hk => by
    rw [← hW]
    exact (Hblk.out k hk).below ((Below.refl w1.heap.size w1).alloc (Nat.le_refl _) _) (Nat.le_refl _)
  have Hcs := Lib.hid hcs; clear hcs
  have Hbk := Lib.hid hbk; clear hbk
  clear hW hB Hblk
  go_loop [30, 3] (fun vk va => ∃ k : Nat, k ≤ i ∧ vk = .int .i64 k ∧ va = .int .i64 (-1)) (fun k _ => 12 - (intOf k).toNat)
  case atStart => exact ⟨0, by omega, rfl, rfl⟩
  case round =>
    obtain ⟨k, hk, rfl, rfl⟩ := hrel
    have hck := Hcs.out k (by omega)
    have hk12 : (k : Int) < 12 := by omega
    by_cases hki : k = i
    · subst hki
      have His := Lib.hid (is_same (E k) W)
      go_wp2_with fail
      refine His.out.mono ?_
      rintro e w' ⟨rfl, rfl⟩
      go_wp2
      go_ret2
      exact ⟨rfl, hBW⟩
    · have His := Lib.hid (is_other (a := E i) (b := E k) W (Hne.out i k hi (by omega) (Ne.symm hki)) (Hbk.out i hi) (Hbk.out k (by omega)))
      go_wp2_with fail
      refine His.out.mono ?_
      rintro e w' ⟨rfl, rfl⟩
      go_wp2
      go_round
      case rel => exact ⟨k + 1, by omega, by go_num, rfl⟩
      case measure => simp [intOf]; omega

/-! ### the laws' coded -/
end Go.Proofs.YtjhjpijjfpfjeaaGreatDoor
/- A node's hold in memory: a map from keys to rows of versions. -/
namespace Go.Proofs.YtjhjpijjfpfjeaaGreatDoor
open Go.RowKit Go.Maps

/-- a map's element, as it stands. -/
def Rv (v : Value) : Option (DataW Value × List MemPlace) := some (.held v, [])
theorem keyedS : Keyed Tryz.prog 9 := string_keyed Tryz.underlying9
def litS (k : ByteArray) : Lit := .string k.data.toList
theorem litS_inj {a b : ByteArray} (h : litS a = litS b) : a = b := by
  unfold litS at h
  simp only [Lit.string.injEq] at h
  cases a; cases b
  simpa using h
theorem keyS {k : ByteArray} (hk : k.size ≤ maxLen) : keyOf Tryz.prog 9 (.string k) = some (litS k) := Go.WideMaps.keyOf_string_mk Tryz.underlying9 hk
theorem zeroRow (w : World) : (zeroValue 47).run Tryz.prog w = .ok (.slice none 0 0) w := by kernel_rfl
theorem ownsMap_tight {H : Type} {P : Program} {k : TypeId} {R : Value → Option (DataW H × List MemPlace)} {w : World} {b n : Nat} {D : DataW H} (h : w.ownsMap P k R b n D) : w.ownsMap P k R b (Maps.size D) D := by
  obtain ⟨es, clock, hb, F, _, rfl⟩ := h
  refine ⟨es, clock, hb, F, ?_, rfl⟩
  rw [Maps.size_eq, length_sorted]
  simp
/-- nothing but the blocks F has turned. -/
structure KeptBut (F : Nat → Prop) (w w' : World) : Prop where
  os : w'.os = w.os
  tape : w'.tape = w.tape
  output : w'.output = w.output
  size : w.heap.size ≤ w'.heap.size
  block : ∀ k, k < w.heap.size → ¬ F k → w'.heap[k]? = w.heap[k]?
theorem KeptBut.refl (F : Nat → Prop) (w : World) : KeptBut F w w := ⟨rfl, rfl, rfl, Nat.le_refl _, fun _ _ _ => rfl⟩
theorem KeptBut.trans {F : Nat → Prop} {a b c : World} (h : KeptBut F a b) (k : KeptBut F b c) : KeptBut F a c :=
  ⟨k.os.trans h.os, k.tape.trans h.tape, k.output.trans h.output, Nat.le_trans h.size k.size, fun i hi hf => (k.block i (Nat.lt_of_lt_of_le hi h.size) hf).trans (h.block i hi hf)⟩
theorem KeptBut.mono {F G : Nat → Prop} {a b : World} (h : KeptBut F a b) (hF : ∀ k, k < a.heap.size → F k → G k) : KeptBut G a b :=
  ⟨h.os, h.tape, h.output, h.size, fun i hi hg => h.block i hi (fun e => hg (hF i hi e))⟩
theorem KeptBut.of_below {F : Nat → Prop} {n : Nat} {a b : World} (h : Below n a b) (hn : ∀ k, k < a.heap.size → n ≤ k → F k) : KeptBut F a b :=
  ⟨h.os, h.tape, h.output, h.size, fun i hi hf => h.block i (Nat.lt_of_not_le (fun e => hf (hn i hi e)))⟩
theorem KeptBut.of_grown {F : Nat → Prop} {r : Option Nat} {a b : World} (h : a.grownBy b r) (hr : ∀ k, r = some k → F k) : KeptBut F a b :=
  ⟨h.os, h.tape, h.output, h.size, fun i hi hf => h.block i hi (fun e => hf (hr i e.symm))⟩
theorem KeptBut.below {n : Nat} {F : Nat → Prop} {a b : World} (h : KeptBut F a b) (hn : n ≤ a.heap.size) (hF : ∀ k, F k → n ≤ k) : Below n a b :=
  ⟨h.os, h.tape, h.output, h.size, fun i hi => h.block i (by omega) (fun e => by have := hF i e; omega)⟩
theorem KeptBut.cell {F : Nat → Prop} {a b : World} (h : KeptBut F a b) {p : Addr} {v : Value} (hc : a.cell? p = some v) (hp : ¬ F p.block) : b.cell? p = some v :=
  (World.cell?_of_block (h.block p.block (lt_of_cell hc) hp)).trans hc
theorem OwnV.heap {B : Nat} {w w' : World} {v : Value} {l : List Ver} (h : OwnV B w v l) (hg : ∀ g, v.ownBlock = some g → w'.heap[g]? = w.heap[g]?) : OwnV B w' v l := by
  refine ⟨h.1, ?_⟩
  rcases h.2 with hn | ⟨g, cap, cur, rfl, hb, hgg, rest⟩
  · exact .inl hn
  · exact .inr ⟨g, cap, cur, rfl, hb, (hg g rfl).trans hgg, rest⟩
/-- a hold lies at hb: sealed or not; by each key its versions; the keys; the rows' headers; its blocks are among F. -/
structure HoldAt (F : Nat → Prop) (w : World) (hb : Nat) (sd : Bool) (C : ByteArray → List Ver) (ks : List ByteArray) (S : ByteArray → Value) : Prop where
  hF : F hb
  hlt : hb < w.heap.size
  c1 : w.cell? ⟨hb, 1, none⟩ = some (.bool sd)
  f0 : w.frozen? ⟨hb, 0, none⟩ = false
  f1 : w.frozen? ⟨hb, 1, none⟩ = false
  map : (w.cell? ⟨hb, 0, none⟩ = some (.map none) ∧ ks = []) ∨ ∃ (bm : Nat) (D : DataW Value), w.cell? ⟨hb, 0, none⟩ = some (.map (some bm)) ∧ F bm ∧ bm ≠ hb ∧ w.ownsMap Tryz.prog 9 Rv bm ks.length D ∧
    (∀ k, D.atKey (litS k) (.held (.slice none 0 0)) = .held (S k)) ∧ (∀ k, Maps.has D (litS k) = decide (k ∈ ks)) ∧ (∀ k g, (S k).ownBlock = some g → g ≠ bm) ∧ Maps.size D = ks.length
  row : ∀ k, OwnV 0 w (S k) (C k)
  rowF : ∀ k g, (S k).ownBlock = some g → F g ∧ g ≠ hb
  apart : ∀ k k' g, k ≠ k' → (S k).ownBlock = some g → (S k').ownBlock ≠ some g
  nodup : ks.Nodup
  mem : ∀ k, k ∈ ks ↔ C k ≠ []
  no : ∀ k, k ∉ ks → S k = .slice none 0 0
  kz : ∀ k ∈ ks, k.size ≤ maxLen
theorem HoldAt.rowLt {F : Nat → Prop} {w : World} {hb : Nat} {sd : Bool} {C : ByteArray → List Ver} {ks : List ByteArray} {S : ByteArray → Value} (h : HoldAt F w hb sd C ks S) {k : ByteArray} {g : Nat} (hg : (S k).ownBlock = some g) : g < w.heap.size :=
  ((h.row k).lt g hg).2
theorem HoldAt.kept {F G : Nat → Prop} {w w' : World} {hb : Nat} {sd : Bool} {C : ByteArray → List Ver} {ks : List ByteArray} {S : ByteArray → Value} (h : HoldAt F w hb sd C ks S) (hk : KeptBut G w w') (hFG : ∀ b, b < w.heap.size → F b → ¬ G b) : HoldAt F w' hb sd C ks S := by
  have eb : w'.heap[hb]? = w.heap[hb]? := hk.block hb h.hlt (hFG hb h.hlt h.hF)
  have ec : ∀ j, w'.cell? ⟨hb, j, none⟩ = w.cell? ⟨hb, j, none⟩ := fun j => World.cell?_of_block (a := ⟨hb, j, none⟩) eb
  have ef : ∀ j, w'.frozen? ⟨hb, j, none⟩ = w.frozen? ⟨hb, j, none⟩ := fun j => World.frozen?_of_block (a := ⟨hb, j, none⟩) eb
  refine ⟨h.hF, Nat.lt_of_lt_of_le h.hlt hk.size, (ec 1).trans h.c1, (ef 0).trans h.f0, (ef 1).trans h.f1, ?_, fun k => ?_, h.rowF, h.apart, h.nodup, h.mem, h.no, h.kz⟩
  · rcases h.map with ⟨h1, h2⟩ | ⟨bm, D, h1, h2, h3, h4, h5⟩
    · exact .inl ⟨(ec 0).trans h1, h2⟩
    · refine .inr ⟨bm, D, (ec 0).trans h1, h2, h3, ?_, h5⟩
      obtain ⟨es, clock, hm, hr⟩ := h4
      have hlt : bm < w.heap.size := (Array.getElem?_eq_some_iff.1 hm).1
      exact ⟨es, clock, (hk.block bm hlt (hFG bm hlt h2)).trans hm, hr⟩
  · exact (h.row k).heap (fun g hg => hk.block g (h.rowLt hg) (hFG g (h.rowLt hg) (h.rowF k g hg).1))
theorem HoldAt.mono {F G : Nat → Prop} {w : World} {hb : Nat} {sd : Bool} {C : ByteArray → List Ver} {ks : List ByteArray} {S : ByteArray → Value} (h : HoldAt F w hb sd C ks S) (hFG : ∀ b, F b → G b) : HoldAt G w hb sd C ks S :=
  ⟨hFG _ h.hF, h.hlt, h.c1, h.f0, h.f1, h.map.imp id (fun ⟨bm, D, h1, h2, h3⟩ => ⟨bm, D, h1, hFG _ h2, h3⟩), h.row, fun k g e => ⟨hFG _ (h.rowF k g e).1, (h.rowF k g e).2⟩, h.apart, h.nodup, h.mem, h.no, h.kz⟩
theorem HoldAt.below {F : Nat → Prop} {w w' : World} {hb : Nat} {sd : Bool} {C : ByteArray → List Ver} {ks : List ByteArray} {S : ByteArray → Value} (h : HoldAt F w hb sd C ks S) {n : Nat} (hk : Below n w w') (hn : w.heap.size ≤ n) : HoldAt F w' hb sd C ks S :=
  h.kept (KeptBut.of_below (F := fun b => n ≤ b) hk (fun _ _ h => h)) (fun _ hb _ => Nat.not_le_of_lt (Nat.lt_of_lt_of_le hb hn))
/-- how many versions. -/
def totC (C : ByteArray → List Ver) (ks : List ByteArray) : Nat := (ks.map fun k => (C k).length).sum
end Go.Proofs.YtjhjpijjfpfjeaaGreatDoor
/- Acts on a hold that come in. -/
namespace Go.Proofs.YtjhjpijjfpfjeaaGreatDoor
open Go.RowKit

/-- an act: kind, key, version, number. -/
abbrev HAct := ByteArray × ByteArray × Ver × Int
def act0 : HAct := (⟨#[]⟩, ⟨#[]⟩, ver0, 0)
def ActOk (x : HAct) : Prop := x.1.size ≤ maxLen ∧ x.2.1.size ≤ maxLen ∧ x.2.2.1.2.2.2.2.size ≤ maxLen ∧ x.2.2.2 ≤ 9223372036854775807
def ActR (n₀ : Nat) (w : World) (a : Option Addr) (l : List HAct) : Prop :=
  l = [] ∨ ∃ b off, a = some ⟨b, off, none⟩ ∧ b < n₀ ∧ ∀ i, i < l.length → w.cell? ⟨b, off + i * 8, none⟩ = some (.string (l[i]?.getD act0).1) ∧ w.cell? ⟨b, off + i * 8 + 1, none⟩ = some (.string (l[i]?.getD act0).2.1) ∧
    w.cell? ⟨b, off + i * 8 + 2, none⟩ = some (.int .i64 (l[i]?.getD act0).2.2.1.1) ∧ w.cell? ⟨b, off + i * 8 + 3, none⟩ = some (.int .i64 (l[i]?.getD act0).2.2.1.2.1) ∧ w.cell? ⟨b, off + i * 8 + 4, none⟩ = some (.int .i64 (l[i]?.getD act0).2.2.1.2.2.1) ∧
    w.cell? ⟨b, off + i * 8 + 5, none⟩ = some (.int .i64 (l[i]?.getD act0).2.2.1.2.2.2.1) ∧ w.cell? ⟨b, off + i * 8 + 6, none⟩ = some (.string (l[i]?.getD act0).2.2.1.2.2.2.2) ∧ w.cell? ⟨b, off + i * 8 + 7, none⟩ = some (.int .i64 (l[i]?.getD act0).2.2.2)
theorem ActR.below {n₀ : Nat} {A B : World} (h : Below n₀ A B) {a : Option Addr} {l : List HAct} : ActR n₀ A a l → ActR n₀ B a l
  | .inl e => .inl e
  | .inr ⟨b, off, e, hb, hc⟩ => .inr ⟨b, off, e, hb, fun i hi => by
    obtain ⟨h0, h1, h2, h3, h4, h5, h6, h7⟩ := hc i hi
    have c : ∀ {o v}, A.cell? ⟨b, o, none⟩ = some v → B.cell? ⟨b, o, none⟩ = some v := fun {o v} h9 => (h.cell (p := ⟨b, o, none⟩) hb).trans h9
    exact ⟨c h0, c h1, c h2, c h3, c h4, c h5, c h6, c h7⟩⟩
/-- what is known of acts that came in. -/
def ActsIn (w : World) (a : Option Addr) (len cap : Nat) (l : List HAct) : Prop := l.length = len ∧ len ≤ cap ∧ cap ≤ maxLen ∧ (a = none → cap = 0) ∧ ActR w.heap.size w a l ∧ ∀ i, i < len → ActOk (l[i]?.getD act0)
theorem list2 {α : Type} {l : List α} (h : l.length = 2) : ∃ a b, l = [a, b] := by
  match l, h with
  | [a, b], _ => exact ⟨a, b, rfl⟩
theorem list3 {α : Type} {l : List α} (h : l.length = 3) : ∃ a b c, l = [a, b, c] := by
  match l, h with
  | [a, b, c], _ => exact ⟨a, b, c, rfl⟩
theorem list4 {α : Type} {l : List α} (h : l.length = 4) : ∃ a b c d, l = [a, b, c, d] := by
  match l, h with
  | [a, b, c, d], _ => exact ⟨a, b, c, d, rfl⟩
theorem list5 {α : Type} {l : List α} (h : l.length = 5) : ∃ a b c d e, l = [a, b, c, d, e] := by
  match l, h with
  | [a, b, c, d, e], _ => exact ⟨a, b, c, d, e, rfl⟩
theorem list8 {α : Type} {l : List α} (h : l.length = 8) : ∃ a b c d e f g i, l = [a, b, c, d, e, f, g, i] := by
  match l, h with
  | [a, b, c, d, e, f, g, i], _ => exact ⟨a, b, c, d, e, f, g, i, rfl⟩
section
variable {H : Type} {enc : TypeId × Value → H} {W : World}
set_option maxRecDepth 10000 in
theorem ver_trod {n : Nat} {cs : List Value} {y : DataW H × List MemPlace} (h : DataW.trod enc Tryz.prog W 0 (fun _ => true) true n 51 cs = some y) : ∃ x : Ver, cs = encVr x ∧ x.2.2.2.2.size ≤ maxLen := by
  obtain ⟨xs, k, hk, hxy, hcl, hxl, hf⟩ := DataW.trod_struct Tryz.underlying51 h
  have ec : Tryz.prog.cellsOf 51 = 5 := by kernel_rfl
  rw [ec] at hcl
  obtain ⟨v0, v1, v2, v3, v4, rfl⟩ := list5 hcl
  obtain ⟨y0, y1, y2, rfl⟩ := list3 hxl
  have cT : Tryz.prog.cellsOf 30 = 2 := by kernel_rfl
  have cS : Tryz.prog.cellsOf 49 = 2 := by kernel_rfl
  have cI : Tryz.prog.cellsOf 3 = 1 := by kernel_rfl
  have cX : Tryz.prog.cellsOf 9 = 1 := by kernel_rfl
  have g0 : DataW.trod enc Tryz.prog W 0 (fun _ => true) true k 30 ((([v0, v1, v2, v3, v4] : List Value).drop 0).take (Tryz.prog.cellsOf 30)) = some y0 := hf 0 _ rfl
  have g1 : DataW.trod enc Tryz.prog W 0 (fun _ => true) true k 3 ((([v0, v1, v2, v3, v4] : List Value).drop 2).take (Tryz.prog.cellsOf 3)) = some y1 := hf 1 _ rfl
  have g2 : DataW.trod enc Tryz.prog W 0 (fun _ => true) true k 49 ((([v0, v1, v2, v3, v4] : List Value).drop 3).take (Tryz.prog.cellsOf 49)) = some y2 := hf 2 _ rfl
  rw [cT] at g0
  rw [cI] at g1
  rw [cS] at g2
  have g0' : DataW.trod enc Tryz.prog W 0 (fun _ => true) true k 30 [v0, v1] = some y0 := g0
  have g1' : DataW.trod enc Tryz.prog W 0 (fun _ => true) true k 3 [v2] = some y1 := g1
  have g2' : DataW.trod enc Tryz.prog W 0 (fun _ => true) true k 49 [v3, v4] = some y2 := g2
  obtain ⟨xs, k1, hk1, _, _, hxl1, hf1⟩ := DataW.trod_struct Tryz.underlying30 g0'
  obtain ⟨z0, z1, rfl⟩ := list2 hxl1
  obtain ⟨xs, k2, hk2, _, _, hxl2, hf2⟩ := DataW.trod_struct Tryz.underlying49 g2'
  obtain ⟨z2, z3, rfl⟩ := list2 hxl2
  have e0 : DataW.trod enc Tryz.prog W 0 (fun _ => true) true k1 3 ((([v0, v1] : List Value).drop 0).take (Tryz.prog.cellsOf 3)) = some z0 := hf1 0 _ rfl
  have e1 : DataW.trod enc Tryz.prog W 0 (fun _ => true) true k1 3 ((([v0, v1] : List Value).drop 1).take (Tryz.prog.cellsOf 3)) = some z1 := hf1 1 _ rfl
  have e2 : DataW.trod enc Tryz.prog W 0 (fun _ => true) true k2 3 ((([v3, v4] : List Value).drop 0).take (Tryz.prog.cellsOf 3)) = some z2 := hf2 0 _ rfl
  have e3 : DataW.trod enc Tryz.prog W 0 (fun _ => true) true k2 9 ((([v3, v4] : List Value).drop 1).take (Tryz.prog.cellsOf 9)) = some z3 := hf2 1 _ rfl
  rw [cI] at e0 e1 e2
  rw [cX] at e3
  obtain ⟨n0, q0, _, _⟩ := DataW.trod_int Tryz.underlying3 (show DataW.trod enc Tryz.prog W 0 (fun _ => true) true k1 3 [v0] = some z0 from e0)
  obtain ⟨n1, q1, _, _⟩ := DataW.trod_int Tryz.underlying3 (show DataW.trod enc Tryz.prog W 0 (fun _ => true) true k1 3 [v1] = some z1 from e1)
  obtain ⟨n2, q2, _, _⟩ := DataW.trod_int Tryz.underlying3 g1'
  obtain ⟨n3, q3, _, _⟩ := DataW.trod_int Tryz.underlying3 (show DataW.trod enc Tryz.prog W 0 (fun _ => true) true k2 3 [v3] = some z2 from e2)
  obtain ⟨s4, q4, _, hs⟩ := DataW.trod_string Tryz.underlying9 (show DataW.trod enc Tryz.prog W 0 (fun _ => true) true k2 9 [v4] = some z3 from e3)
  simp at q0 q1 q2 q3 q4
  subst q0 q1 q2 q3 q4
  exact ⟨(n0, n1, n2, n3, s4), rfl, hs⟩
end
section
end
end Go.Proofs.YtjhjpijjfpfjeaaGreatDoor
