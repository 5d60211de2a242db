/- errors.Is and plain.Code at an api.Fault, and at an error that is none of the twelve. -/
import Derived.Test.YtolbdcmoblcakaaGreatDoorKRepairAll04
import Derived.Test.YtolbdcmoblcakaaGreatDoorKRepairAll01
import Derived.Test.YtolbdcmoblcakaaGreatDoorKRepairAll06
import Derived.Test.YtolbdcmoblcakaaGreatDoorKRepairAll07
namespace Go.Proofs.YtolbdcmoblcakaaGreatDoor
open Go.RowKit Go.Extern.Stop Go.Stop Go.Extern

/-- an api.Fault, its block being n. -/
def faultV (n : Nat) : Value := .iface 109 (.pointer (some ⟨n, 0, none⟩))
structure FaultAt (w : World) (n : Nat) (at' : Int) (a : Addr) : Prop where
  c0 : w.cell? ⟨n, 0, none⟩ = some (.int .i64 at')
  c1 : w.cell? ⟨n, 1, none⟩ = some (errV a)
theorem FaultAt.below {n k : Nat} {w w' : World} {at' : Int} {a : Addr} (hb : Below k w w') (hn : w.heap.size ≤ k) (h : FaultAt w n at' a) : FaultAt w' n at' a := by
  have c : ∀ {p v}, w.cell? p = some v → w'.cell? p = some v := fun {p v} h => (hb.cell (Nat.lt_of_lt_of_le (lt_of_cell h) hn)).trans h
  exact ⟨c h.c0, c h.c1⟩
theorem noIsF (v : Value) (xT : TypeId) (w : World) : (Instr.typeAssert (.iface 109 v) xT 194 true).run Tryz.prog w = .ok (.tuple #[.nilIface, .bool false]) w := run_typeAssert_lacksB Tryz.underlying194 (by kernel_rfl) (by kernel_rfl) v xT w
theorem isUnwrapF (v : Value) (xT : TypeId) (w : World) : (Instr.typeAssert (.iface 109 v) xT 190 true).run Tryz.prog w = .ok (.tuple #[.iface 109 v, .bool true]) w := run_typeAssert_hasB Tryz.underlying190 (by kernel_rfl) v xT w
theorem method_unwrapF (v : Value) (w : World) : (Go.method 349 109 v "Unwrap").run Tryz.prog w = .ok (150, v) w := by kernel_rfl
theorem eql_fault (v x : Value) (w : World) : (binOp .eql 35 (.iface 109 v) (.iface 218 x)).run Tryz.prog w = .ok (.bool false) w :=
  run_eql_iface_types _ _ v x Tryz.underlying35 (by decide) w

theorem unwrap_walk (n : Nat) (a : Addr) (w : World) (h : w.cell? ⟨n, 1, none⟩ = some (errV a)) :
    Calls Tryz.prog 150 #[.pointer (some ⟨n, 0, none⟩)] w fun e w' => e = .returned (errV a) ∧ w = w' := by
  go_enter Tryz.func150, Tryz.ntmps150
  go_wp2
  go_ret
  exact ⟨rfl, rfl⟩
set_option maxRecDepth 100000 in
set_option maxHeartbeats 1000000 in
theorem is_faultSame (n : Nat) (a : Addr) (w : World) (h : w.cell? ⟨n, 1, none⟩ = some (errV a)) :
    Calls Tryz.prog 51 #[faultV n, errV a] w fun e w' => e = .returned (.bool true) ∧ w = w' := by
  have h10 := @run_callFunc_extern Tryz.prog 78 _ ReflectliteType.typeOf Tryz.func78 (by kernel_rfl) (by kernel_rfl) (by kernel_rfl) (by kernel_rfl)
  have h30 := @run_callFunc_extern Tryz.prog 157 _ (Extern.ReflectliteType.method fun t => do Rtype.noPackHeld "Comparable" t; pure (.bool (← typeInfo t).comparable)) Tryz.func157 (by kernel_rfl) (by kernel_rfl) (by kernel_rfl) (by kernel_rfl)
  have tO := as_typeOfE
  have mC := is_methodComparable
  have cC := is_comparable
  have he := fun w => eql_same a w
  have hf := eql_fault
  have nI := noIsF
  have iU := isUnwrapF
  have mU := method_unwrapF
  have hu := Lib.hid (unwrap_walk n a w h)
  clear h
  unfold faultV
  go_enter Tryz.func51, Tryz.ntmps51
  go_wp2
  refine wp_loop_rounds 2 ?_
  rw [rounds_succ]
  go_wp2_with (refine hu.out.mono ?_; rintro e w' ⟨rfl, rfl⟩)
  rw [rounds_succ]
  go_wp2
  go_ret
  exact ⟨rfl, rfl⟩
set_option maxRecDepth 100000 in
set_option maxHeartbeats 1000000 in
theorem is_faultOther (n : Nat) {a b : Addr} (w : World) (h : w.cell? ⟨n, 1, none⟩ = some (errV a)) (hne : a ≠ b) (ha : Blk w a) (hb : Blk w b) :
    Calls Tryz.prog 51 #[faultV n, errV b] w fun e w' => e = .returned (.bool false) ∧ w = w' := by
  have h10 := @run_callFunc_extern Tryz.prog 78 _ ReflectliteType.typeOf Tryz.func78 (by kernel_rfl) (by kernel_rfl) (by kernel_rfl) (by kernel_rfl)
  have h30 := @run_callFunc_extern Tryz.prog 157 _ (Extern.ReflectliteType.method fun t => do Rtype.noPackHeld "Comparable" t; pure (.bool (← typeInfo t).comparable)) Tryz.func157 (by kernel_rfl) (by kernel_rfl) (by kernel_rfl) (by kernel_rfl)
  have tO := as_typeOfE
  have mC := is_methodComparable
  have cC := is_comparable
  have he := eql_other w hne ha hb
  have hf := eql_fault
  have nI := noIsF
  have nE := noIsE
  have nU := noUnwrapE
  have nUs := noUnwrapsE
  have iU := isUnwrapF
  have mU := method_unwrapF
  have hu := Lib.hid (unwrap_walk n a w h)
  clear h hne ha hb
  unfold faultV
  go_enter Tryz.func51, Tryz.ntmps51
  go_wp2
  refine wp_loop_rounds 2 ?_
  rw [rounds_succ]
  go_wp2_with (refine hu.out.mono ?_; rintro e w' ⟨rfl, rfl⟩)
  rw [rounds_succ]
  go_wp2
  go_ret
  exact ⟨rfl, rfl⟩

set_option maxRecDepth 100000 in
set_option maxHeartbeats 2000000 in
theorem code_fault (E : Nat → Addr) (i : Nat) (hi : i < 12) (n : Nat) (at' : Int) (w : World) (hE : ErrEnv w E) (hF : FaultAt w n at' (E i)) :
    Calls Tryz.prog 29 #[faultV n] w fun e w' => e = .returned (.tuple #[.int .i64 ((i : Int) + 1), .int .i64 at']) ∧ Below w.heap.size w w' := by
  go_enter Tryz.func29, Tryz.ntmps29
  unfold faultV
  go_wp2_with fail
  obtain ⟨W0, hW0⟩ : ∃ W0, w.alloc (.cells #[.pointer none] 109) = W0 := ⟨_, rfl⟩
  refine (as_hit ⟨n, 0, none⟩ ⟨w.heap.size, 0, none⟩ (.pointer none) _ ?_ ?_ ?_).mono ?_
  · exact (World.cell?_alloc_lt _ _ _ (lt_of_cell hE.hnd)).trans hE.hnd
  · simp
  · simp
  rintro e w1 ⟨rfl, hw1⟩
  have hB0 : Below w.heap.size w (w.alloc (.cells #[.pointer none] 109)) := (Below.refl _ w).alloc (Nat.le_refl _) _
  have hB : Below w.heap.size w w1 := by
    rw [hw1]
    refine Below.setCell ((((hB0.alloc (by simp) _).alloc (by simp; omega) _).alloc (by simp; omega) _).alloc (by simp; omega) _) (Nat.le_refl _) _
  have hE1 := hE.below hB (Nat.le_refl _)
  have hF1 := hF.below hB (Nat.le_refl _)
  have hT : w1.cell? ⟨w.heap.size, 0, none⟩ = some (.pointer (some ⟨n, 0, none⟩)) := by
    rw [hw1]
    refine World.cell?_setCell_same' _ _ _ ?_
    rw [World.cell?_alloc_lt _ _ _ (by simp only [World.size_alloc]; omega), World.cell?_alloc_lt _ _ _ (by simp only [World.size_alloc]; omega), World.cell?_alloc_lt _ _ _ (by simp only [World.size_alloc]; omega), World.cell?_alloc_lt _ _ _ (by simp only [World.size_alloc]; omega)]
    simp
  have hsz := hB.size
  have hF0 := hF1.c0
  have hF1' := Lib.hid hF1; clear hF1
  obtain ⟨d0, d1, d2, d3, d4, d5, d6, d7, d8, d9, d10, d11, _, hblk, hne⟩ := hE1
  have Hblk := Lib.hid hblk; clear hblk
  have Hne := Lib.hid hne; clear hne
  clear hE hw1 hF hB0 hW0
  go_wp2
  clear d0 d1 d2 d3 d4 d5 d6 d7 d8 d9 d10 d11 hF0 hT
  obtain ⟨W, hW⟩ : ∃ W, w1.alloc (.cells #[errV (E 0), errV (E 1), errV (E 2), errV (E 3), errV (E 4), errV (E 5), errV (E 6), errV (E 7), errV (E 8), errV (E 9), errV (E 10), errV (E 11)] 35) = W := ⟨_, rfl⟩
  rw [hW]
  have hcs : ∀ k, k < 12 → W.cell? ⟨w1.heap.size, k, none⟩ = some (errV (E k)) := fun k hk => by
    rw [← hW, World.cell?_alloc_at _ _ _ _ rfl]
    exact errCells_at E hk
  have hBW : Below w.heap.size w W := by rw [← hW]; exact hB.alloc hsz _
  have hFW : FaultAt W n at' (E i) := by
    rw [← hW]
    exact hF1'.out.below ((Below.refl w1.heap.size w1).alloc (Nat.le_refl _) _) (Nat.le_refl _)
  have hbk : ∀ k, k < 12 → Blk W (E k) := fun k hk => by
    rw [← hW]
    exact (Hblk.out k hk).below ((Below.refl w1.heap.size w1).alloc (Nat.le_refl _) _) (Nat.le_refl _)
  have Hcs := Lib.hid hcs; clear hcs
  have Hbk := Lib.hid hbk; clear hbk
  have HF := Lib.hid hFW; clear hFW
  clear hW hB Hblk hF1'
  go_loop [30, 3] (fun vk va => ∃ k : Nat, k ≤ i ∧ vk = .int .i64 k ∧ va = .int .i64 at') (fun k _ => 12 - (intOf k).toNat)
  case atStart => exact ⟨0, by omega, rfl, rfl⟩
  case round =>
    obtain ⟨k, hk, rfl, rfl⟩ := hrel
    have hck := Hcs.out k (by omega)
    have hk12 : (k : Int) < 12 := by omega
    by_cases hki : k = i
    · subst hki
      have His := Lib.hid (is_faultSame n (E k) W HF.out.c1)
      go_wp2_with fail
      refine His.out.mono ?_
      rintro e w' ⟨rfl, rfl⟩
      go_wp2
      go_ret2
      exact ⟨rfl, hBW⟩
    · have His := Lib.hid (is_faultOther n (a := E i) (b := E k) W HF.out.c1 (Hne.out i k hi (by omega) (Ne.symm hki)) (Hbk.out i hi) (Hbk.out k (by omega)))
      go_wp2_with fail
      refine His.out.mono ?_
      rintro e w' ⟨rfl, rfl⟩
      go_wp2
      go_round
      case rel => exact ⟨k + 1, by omega, by go_num, rfl⟩
      case measure => simp [intOf]; omega

set_option maxRecDepth 100000 in
set_option maxHeartbeats 2000000 in
theorem code_another (E : Nat → Addr) (x : Addr) (w : World) (hE : ErrEnv w E) (hx : Blk w x) (hxE : ∀ k, k < 12 → x ≠ E k) :
    Calls Tryz.prog 29 #[errV x] w fun e w' => e = .returned (.tuple #[.int .i64 (-1), .int .i64 (-1)]) ∧ Below w.heap.size w w' := by
  go_enter Tryz.func29, Tryz.ntmps29
  go_wp2_with fail
  refine (as_miss x ⟨w.heap.size, 0, none⟩ (.pointer none) _ ?_ ?_).mono ?_
  · exact (World.cell?_alloc_lt _ _ _ (lt_of_cell hE.hnd)).trans hE.hnd
  · simp
  rintro e w1 ⟨rfl, hb⟩
  simp only [World.size_alloc] at hb
  have hB : Below w.heap.size w w1 := ((Below.refl _ w).alloc (Nat.le_refl _) _).trans (hb.mono (by omega))
  have hE1 := hE.below hB (Nat.le_refl _)
  have hx1 := hx.below hB (Nat.le_refl _)
  have hsz := hB.size
  obtain ⟨d0, d1, d2, d3, d4, d5, d6, d7, d8, d9, d10, d11, _, hblk, hne⟩ := hE1
  have Hblk := Lib.hid hblk; clear hblk
  have Hx := Lib.hid hx1; clear hx1
  have HxE := Lib.hid hxE; clear hxE
  clear hE hb hne hx
  go_wp2
  clear d0 d1 d2 d3 d4 d5 d6 d7 d8 d9 d10 d11
  obtain ⟨W, hW⟩ : ∃ W, w1.alloc (.cells #[errV (E 0), errV (E 1), errV (E 2), errV (E 3), errV (E 4), errV (E 5), errV (E 6), errV (E 7), errV (E 8), errV (E 9), errV (E 10), errV (E 11)] 35) = W := ⟨_, rfl⟩
  rw [hW]
  have hcs : ∀ k, k < 12 → W.cell? ⟨w1.heap.size, k, none⟩ = some (errV (E k)) := fun k hk => by
    rw [← hW, World.cell?_alloc_at _ _ _ _ rfl]
    exact errCells_at E hk
  have hBW : Below w.heap.size w W := by rw [← hW]; exact hB.alloc hsz _
  have hxW : Blk W x := by rw [← hW]; exact Hx.out.below ((Below.refl w1.heap.size w1).alloc (Nat.le_refl _) _) (Nat.le_refl _)
  have hbk : ∀ k, k < 12 → Blk W (E k) := fun k hk => by
    rw [← hW]
    exact (Hblk.out k hk).below ((Below.refl w1.heap.size w1).alloc (Nat.le_refl _) _) (Nat.le_refl _)
  have Hcs := Lib.hid hcs; clear hcs
  have Hbk := Lib.hid hbk; clear hbk
  have HX := Lib.hid hxW; clear hxW
  clear hW hB Hblk Hx
  go_loop [30, 3] (fun vk va => ∃ k : Nat, k ≤ 12 ∧ vk = .int .i64 k ∧ va = .int .i64 (-1)) (fun k _ => 12 - (intOf k).toNat)
  case atStart => exact ⟨0, by omega, rfl, rfl⟩
  case round =>
    obtain ⟨k, hk, rfl, rfl⟩ := hrel
    have hk2 : k < 12 ∨ k = 12 := by omega
    rcases hk2 with hlt | rfl
    · have hck := Hcs.out k (by omega)
      have hk12 : (k : Int) < 12 := by omega
      have His := Lib.hid (is_other (a := x) (b := E k) W (HxE.out k hlt) HX.out (Hbk.out k (by omega)))
      go_wp2_with fail
      refine His.out.mono ?_
      rintro e w' ⟨rfl, rfl⟩
      go_wp2
      go_round
      case rel => exact ⟨k + 1, by omega, by go_num, rfl⟩
      case measure => simp [intOf]; omega
    · go_wp2
      go_ret2
      exact ⟨rfl, hBW⟩
theorem new_walk (s : ByteArray) (w : World) :
    Calls Tryz.prog 168 #[.string s] w fun e w' => e = .returned (errV ⟨w.heap.size, 0, none⟩) ∧ Below w.heap.size w w' ∧ Blk w' ⟨w.heap.size, 0, none⟩ := by
  go_enter Tryz.func168, Tryz.ntmps168
  go_wp2
  go_ret
  exact ⟨rfl, (Below.refl _ _).alloc (Nat.le_refl _) _, ⟨#[.string s], 237, by show (w.heap.push _)[w.heap.size]? = _; simp⟩⟩
end Go.Proofs.YtolbdcmoblcakaaGreatDoor
/- Errors with a number and a place: what a walk is told of them. -/
namespace Go.Proofs.YtolbdcmoblcakaaGreatDoor
open Go.RowKit

/-- the errors that the checks of nodes hand back. -/
structure ErrNx (w : World) (E : Nat → Addr) : Prop where
  c1 : w.cell? ⟨3, 0, none⟩ = some (errV (E 1))
  c3 : w.cell? ⟨2, 0, none⟩ = some (errV (E 3))
  c5 : w.cell? ⟨4, 0, none⟩ = some (errV (E 5))
theorem ErrNx.below {n : Nat} {w w' : World} {E : Nat → Addr} (hb : Below n w w') (hn : w.heap.size ≤ n) (h : ErrNx w E) : ErrNx w' E := by
  have c : ∀ {p v}, w.cell? p = some v → w'.cell? p = some v := fun {p v} h => (hb.cell (Nat.lt_of_lt_of_le (lt_of_cell h) hn)).trans h
  exact ⟨c h.c1, c h.c3, c h.c5⟩
theorem ErrEnv.nx {w : World} {E : Nat → Addr} (h : ErrEnv w E) : ErrNx w E := ⟨h.c1, h.c3, h.c5⟩
/-- the error v bears the number and the place f (0: none). -/
def FltV (w : World) (E : Nat → Addr) (f : Nat × Int) (v : Value) : Prop :=
  (f = (0, -1) ∧ v = .nilIface) ∨ (∃ i, i < 12 ∧ f = (i + 1, -1) ∧ v = errV (E i)) ∨ (∃ i n, i < 12 ∧ f.1 = i + 1 ∧ v = faultV n ∧ FaultAt w n f.2 (E i))
theorem FltV.below {n : Nat} {w w' : World} {E : Nat → Addr} {f : Nat × Int} {v : Value} (hb : Below n w w') (hn : w.heap.size ≤ n) (h : FltV w E f v) : FltV w' E f v := by
  rcases h with h | h | ⟨i, m, h1, h2, h3, h4⟩
  · exact .inl h
  · exact .inr (.inl h)
  · exact .inr (.inr ⟨i, m, h1, h2, h3, h4.below hb hn⟩)
/-- an error, or none. -/
theorem FltV.nil {w : World} {E : Nat → Addr} {f : Nat × Int} {v : Value} (h : FltV w E f v) (h0 : f.1 = 0) : f = (0, -1) ∧ v = .nilIface := by
  rcases h with h | ⟨i, _, h2, _⟩ | ⟨i, m, _, h2, _⟩
  · exact h
  · rw [h2] at h0; simp at h0
  · omega
/-- an error's value: one of the two makes. -/
theorem FltV.some_ {w : World} {E : Nat → Addr} {f : Nat × Int} {v : Value} (h : FltV w E f v) (h0 : f.1 ≠ 0) : (∃ a, v = errV a) ∨ ∃ n, v = faultV n := by
  rcases h with ⟨h, _⟩ | ⟨i, _, _, h2⟩ | ⟨i, m, _, _, h2, _⟩
  · rw [h] at h0; exact absurd rfl h0
  · exact .inl ⟨_, h2⟩
  · exact .inr ⟨_, h2⟩
theorem code_flt {w : World} {E : Nat → Addr} {f : Nat × Int} {v : Value} (hE : ErrEnv w E) (h : FltV w E f v) :
    Calls Tryz.prog 29 #[v] w fun e w' => e = .returned (.tuple #[.int .i64 (f.1 : Nat), .int .i64 f.2]) ∧ Below w.heap.size w w' := by
  rcases h with ⟨rfl, rfl⟩ | ⟨i, hi, rfl, rfl⟩ | ⟨i, m, hi, h1, rfl, hF⟩
  · exact (code_nil w).mono fun e w' ⟨he, hw⟩ => ⟨he, hw ▸ Below.refl _ _⟩
  · exact (code_err E i hi w hE).mono fun e w' ⟨he, hw⟩ => ⟨by rw [he]; simp, hw⟩
  · exact (code_fault E i hi m f.2 w hE hF).mono fun e w' ⟨he, hw⟩ => ⟨by rw [he, h1]; simp, hw⟩
end Go.Proofs.YtolbdcmoblcakaaGreatDoor
/- The walks of the checks of nodes: slices.Contains of texts, ring.Check, the document's Index, NodesFault. -/
namespace Go.Proofs.YtolbdcmoblcakaaGreatDoor
open Go.RowKit

theorem ret_i {a b : Int} (h : a = b) : Ending.returned (.int .i64 a) = .returned (.int .i64 b) := by rw [h]
theorem txt_inj {a b : ByteArray} (h : a.toList = b.toList) : a = b := by
  rw [ByteArray.toList_eq, ByteArray.toList_eq] at h
  obtain ⟨a⟩ := a
  obtain ⟨b⟩ := b
  exact congrArg ByteArray.mk (Array.toList_inj.1 h)
theorem txt_ne {a b : ByteArray} (h : a ≠ b) : (a.toList == b.toList) = false := by
  rw [beq_eq_false_iff_ne]; exact fun e => h (txt_inj e)
theorem at_take {L : List ByteArray} {k : Nat} (hk : k ≤ L.length) : (L.take k).length = k := by simp; omega

set_option maxRecDepth 100000 in
set_option maxHeartbeats 1000000 in
theorem idxS_walk (n₀ : Nat) (a : Option Addr) (len cap : Nat) (L : List ByteArray) (s : ByteArray) (w : World) (hlen : L.length = len) (hl : len ≤ maxLen) (hI : TxsAt n₀ w a L) :
    Calls Tryz.prog 109 #[.slice a len cap, .string s] w fun e w' => e = .returned (.int .i64 (idxT L s)) ∧ w = w' := by
  have hm' : len ≤ 9223372036854775807 := hl
  obtain ⟨r, hr⟩ : ∃ r, idxT L s = r := ⟨_, rfl⟩
  have Hr := Lib.hid hr
  rw [hr]
  have Hl := Lib.hid hlen
  have HI := Lib.hid hI
  clear hr hlen hI hl
  go_enter Tryz.func109, Tryz.ntmps109
  go_wp2
  go_loop [8] (fun vi => ∃ k : Nat, k ≤ len ∧ vi = .int .i64 k ∧ Hid (∀ j, j < k → (L[j]?.getD ⟨#[]⟩) ≠ s)) (fun i => len - (intOf i).toNat)
  case atStart => exact ⟨0, by omega, rfl, Lib.hid (fun j hj => by omega)⟩
  case round =>
    obtain ⟨k, hk, rfl, Hz⟩ := hrel
    have hk2 : k < len ∨ k = len := by omega
    rcases hk2 with hlt | rfl
    · have hlt2 : (k : Int) < len := by omega
      rcases HI.out with he | ⟨b, off, rfl, _, hc⟩
      · exfalso
        have := Hl.out
        rw [he] at this; simp at this; omega
      have h1 := hc k (by have := Hl.out; omega)
      obtain ⟨x, hx⟩ : ∃ x, L[k]?.getD ⟨#[]⟩ = x := ⟨_, rfl⟩
      rw [hx] at h1
      have Hx := Lib.hid hx
      clear hc hx
      by_cases he : x = s
      · subst he
        go_wp2
        go_ret
        exact ⟨ret_i (by rw [← Hr.out, idxT_at (by have := Hl.out; omega) Hz.out Hx.out]), rfl⟩
      · have e1 := txt_ne (Ne.symm he)
        have He := Lib.hid he
        clear he
        go_wp2
        go_round
        case rel => exact ⟨k + 1, by omega, by go_num, Lib.hid (fun j hj => by
          by_cases e : j = k
          · rw [e, Hx.out]; exact He.out
          · exact Hz.out j (by omega))⟩
        case measure => simp [intOf]; omega
    · go_wp2
      go_ret
      exact ⟨ret_i (by rw [← Hr.out, idxT_none (fun j hj => Hz.out j (by have := Hl.out; omega))]), rfl⟩
set_option maxRecDepth 100000 in
theorem contS_walk (n₀ : Nat) (a : Option Addr) (len cap : Nat) (L : List ByteArray) (s : ByteArray) (r : Bool) (w : World) (hlen : L.length = len) (hl : len ≤ maxLen) (hI : TxsAt n₀ w a L) (hr : decide (s ∈ L) = r) :
    Calls Tryz.prog 87 #[.slice a len cap, .string s] w fun e w' => e = .returned (.bool r) ∧ w = w' := by
  have Hi := Lib.hid (idxS_walk n₀ a len cap L s w hlen hl hI)
  have h0 := idxT_pos (L := L) (s := s)
  rw [hr] at h0
  obtain ⟨x, hx⟩ : ∃ x, idxT L s = x := ⟨_, rfl⟩
  rw [hx] at Hi h0
  clear hlen hl hI hr hx
  cases r with
  | true =>
    have h1 : 0 ≤ x := by simpa using h0
    clear h0
    go_enter Tryz.func87, Tryz.ntmps87
    go_wp2_with fail
    refine Hi.out.mono ?_
    rintro e w' ⟨rfl, rfl⟩
    go_wp2
    go_ret
    exact ⟨by simp, rfl⟩
  | false =>
    have h1 : ¬ 0 ≤ x := by simpa using h0
    clear h0
    go_enter Tryz.func87, Tryz.ntmps87
    go_wp2_with fail
    refine Hi.out.mono ?_
    rintro e w' ⟨rfl, rfl⟩
    go_wp2
    go_ret
    exact ⟨by simp; omega, rfl⟩
set_option maxRecDepth 100000 in
set_option maxHeartbeats 1000000 in
theorem ridx_walk (n₀ : Nat) (a : Option Addr) (len cap : Nat) (L : List ByteArray) (s : ByteArray) (w : World) (hlen : L.length = len) (hl : len ≤ maxLen) (hI : TxsAt n₀ w a L) :
    Calls Tryz.prog 48 #[.slice a len cap, .string s] w fun e w' => e = .returned (.int .i64 (idxT L s)) ∧ w = w' := by
  have hm' : len ≤ 9223372036854775807 := hl
  obtain ⟨r, hr⟩ : ∃ r, idxT L s = r := ⟨_, rfl⟩
  have Hr := Lib.hid hr
  rw [hr]
  have Hl := Lib.hid hlen
  have HI := Lib.hid hI
  clear hr hlen hI hl
  go_enter Tryz.func48, Tryz.ntmps48
  go_wp2
  go_loop [5] (fun vi => ∃ k : Nat, k ≤ len ∧ vi = .int .i64 k ∧ Hid (∀ j, j < k → (L[j]?.getD ⟨#[]⟩) ≠ s)) (fun i => len - (intOf i).toNat)
  case atStart => exact ⟨0, by omega, rfl, Lib.hid (fun j hj => by omega)⟩
  case round =>
    obtain ⟨k, hk, rfl, Hz⟩ := hrel
    have hk2 : k < len ∨ k = len := by omega
    rcases hk2 with hlt | rfl
    · have hlt2 : (k : Int) < len := by omega
      rcases HI.out with he | ⟨b, off, rfl, _, hc⟩
      · exfalso
        have := Hl.out
        rw [he] at this; simp at this; omega
      have h1 := hc k (by have := Hl.out; omega)
      obtain ⟨x, hx⟩ : ∃ x, L[k]?.getD ⟨#[]⟩ = x := ⟨_, rfl⟩
      rw [hx] at h1
      have Hx := Lib.hid hx
      clear hc hx
      by_cases he : x = s
      · subst he
        go_wp2
        go_ret
        exact ⟨ret_i (by rw [← Hr.out, idxT_at (by have := Hl.out; omega) Hz.out Hx.out]), rfl⟩
      · have e1 := txt_ne he
        have He := Lib.hid he
        clear he
        go_wp2
        go_round
        case rel => exact ⟨k + 1, by omega, by go_num, Lib.hid (fun j hj => by
          by_cases e : j = k
          · rw [e, Hx.out]; exact He.out
          · exact Hz.out j (by omega))⟩
        case measure => simp [intOf]; omega
    · go_wp2
      go_ret
      exact ⟨ret_i (by rw [← Hr.out, idxT_none (fun j hj => Hz.out j (by have := Hl.out; omega))]), rfl⟩

set_option maxRecDepth 100000 in
set_option maxHeartbeats 2000000 in
/-- ring.Check. -/
theorem check_walk (n₀ : Nat) (a : Option Addr) (len cap : Nat) (L : List ByteArray) (w : World) (E : Nat → Addr) (hE : ErrNx w E) (hlen : L.length = len) (hcap : len ≤ cap) (hsz : ∀ j : Nat, (L[j]?.getD (⟨#[]⟩ : ByteArray)).size ≤ maxLen) (hI : TxsAt n₀ w a L) (hn : n₀ ≤ w.heap.size) :
    Calls Tryz.prog 65 #[.slice a len cap] w fun e w' => (∃ v, e = .returned v ∧ FltV w' E (nodesF L) v) ∧ Below w.heap.size w w' := by
  by_cases hb : 1 ≤ len ∧ len ≤ 16
  · have hm' : len ≤ 9223372036854775807 := by omega
    have hb' : 1 ≤ L.length ∧ L.length ≤ 16 := by rw [hlen]; exact hb
    have g1 : ¬ (len : Int) < 1 := by omega
    have g1d : decide (len < 1) = false := decide_eq_false (by omega)
    have g2 : ¬ (16 : Int) < len := by omega
    have g2d : decide (16 < len) = false := decide_eq_false (by omega)
    have hcap2 : (len : Int) ≤ cap := by omega
    have Hl := Lib.hid (And.intro hlen hb')
    have HI := Lib.hid (hI.mono hn)
    have HE := Lib.hid hE
    have Hs := Lib.hid hsz
    obtain ⟨F, hF⟩ : ∃ F, nodesF L = F := ⟨_, rfl⟩
    have HF := Lib.hid hF
    rw [hF]
    have hfin : ∀ (V V' : World), Below w.heap.size w V → ∀ k i, k < len → (∀ j, j < k → badAt L j = 0) → badAt L k = i + 1 → i < 12 → V' = V.alloc (.cells #[.int .i64 (k : Int), errV (E i)] 113) →
        FltV V' E F (.iface 109 (.pointer (some ⟨V.heap.size, 0, none⟩))) ∧ Below w.heap.size w V' := fun V V' hB k i hk hj hbk hi hV => by
      subst hV
      refine ⟨.inr (.inr ⟨i, V.heap.size, hi, ?_, rfl, ?_⟩), hB.alloc hB.size _⟩
      · rw [← hF, nodesF_at hb' (by omega) hj (by omega), hbk]
      · rw [← hF, nodesF_at hb' (by omega) hj (by omega)]
        exact ⟨by simp, by simp⟩
    have Hfin := Lib.hid hfin
    clear hb hlen hI hE hsz hcap hb' hF hfin
    go_enter Tryz.func65, Tryz.ntmps65
    go_wp2
    go_loopw [16] (fun vi wr => ∃ k : Nat, k ≤ len ∧ vi = .int .i64 k ∧ Hid ((∀ j, j < k → badAt L j = 0) ∧ Below w.heap.size w wr)) (fun i _ => len - (intOf i).toNat)
    case atStart => exact ⟨0, by omega, rfl, Lib.hid ⟨fun j hj => by omega, Below.refl _ _⟩⟩
    case round =>
      obtain ⟨k, hk, rfl, Hz⟩ := hrel
      have hk2 : k < len ∨ k = len := by omega
      rcases hk2 with hlt | rfl
      · have hlt2 : (k : Int) < len := by omega
        rcases HI.out.below Hz.out.2 with he | ⟨b, off, rfl, hbl, hc⟩
        · exfalso
          have := Hl.out.1
          rw [he] at this; simp at this; omega
        have h1 := hc k (by have := Hl.out.1; omega)
        have hk3 : (k : Int) ≤ cap := by omega
        obtain ⟨x, hx⟩ : ∃ x, L[k]?.getD ⟨#[]⟩ = x := ⟨_, rfl⟩
        have hxs := Hs.out k
        rw [hx] at h1 hxs
        have Hx := Lib.hid hx
        have Hn := Lib.hid (name_walk x wr hxs)
        clear hc hx hxs
        cases hnb : nameB x with
        | false =>
          rw [hnb] at Hn
          have hbad : badAt L k = 3 + 1 := badAt_name (by rw [Hx.out]; exact hnb)
          have Hbad := Lib.hid hbad
          clear hnb hbad
          go_wp2_with fail
          refine Hn.out.mono ?_
          rintro e w1 ⟨rfl, hb1⟩
          have HB := Lib.hid (Hz.out.2.trans (hb1.mono Hz.out.2.size))
          have hc3 := (HE.out.below HB.out (Nat.le_refl _)).c3
          clear hb1
          go_wp2
          go_ret
          obtain ⟨f1, f2⟩ := Hfin.out w1 _ HB.out k 3 hlt Hz.out.1 Hbad.out (by decide) rfl
          exact ⟨⟨_, rfl, f1⟩, f2⟩
        | true =>
          rw [hnb] at Hn
          have Hnb := Lib.hid hnb
          clear hnb
          go_wp2_with fail
          refine Hn.out.mono ?_
          rintro e w1 ⟨rfl, hb1⟩
          have HB := Lib.hid (Hz.out.2.trans (hb1.mono Hz.out.2.size))
          have hc5 := (HE.out.below HB.out (Nat.le_refl _)).c5
          have hT : TxsAt w.heap.size w1 (some ⟨b, off, none⟩) (L.take k) := (HI.out.below HB.out).take k
          obtain ⟨r, hr⟩ : ∃ r, decide (x ∈ L.take k) = r := ⟨_, rfl⟩
          have Hr := Lib.hid hr
          have Hcs := Lib.hid (fun c => contS_walk w.heap.size (some ⟨b, off, none⟩) k c (L.take k) x r w1 (at_take (by have := Hl.out.1; omega)) (by have := Hl.out; unfold maxLen; omega) hT hr)
          clear hb1 hT hr
          cases r with
          | true =>
            have hbad : badAt L k = 5 + 1 := badAt_exist (by rw [Hx.out]; exact Hnb.out) (by rw [Hx.out]; exact of_decide_eq_true Hr.out)
            have Hbad := Lib.hid hbad
            clear hbad
            go_wp2_with fail
            refine (Hcs.out _).mono ?_
            rintro e w' ⟨rfl, rfl⟩
            go_wp2
            go_ret
            obtain ⟨f1, f2⟩ := Hfin.out w1 _ HB.out k 5 hlt Hz.out.1 Hbad.out (by decide) rfl
            exact ⟨⟨_, rfl, f1⟩, f2⟩
          | false =>
            have hbad : badAt L k = 0 := badAt_ok (by rw [Hx.out]; exact Hnb.out) (by rw [Hx.out]; exact of_decide_eq_false Hr.out)
            have Hbad := Lib.hid hbad
            clear hbad
            go_wp2_with fail
            refine (Hcs.out _).mono ?_
            rintro e w' ⟨rfl, rfl⟩
            go_wp2
            go_roundw
            case rel => exact ⟨k + 1, by omega, by go_num, Lib.hid ⟨fun j hj => by
              by_cases e : j = k
              · rw [e]; exact Hbad.out
              · exact Hz.out.1 j (by omega), HB.out⟩⟩
            case measure => simp [intOf]; omega
      · go_wp2
        go_ret
        exact ⟨⟨_, rfl, .inl ⟨by rw [← HF.out, nodesF_ok Hl.out.2 (fun j hj => Hz.out.1 j (by have := Hl.out.1; omega))], rfl⟩⟩, Hz.out.2⟩
  · have hF : nodesF L = (2, -1) := nodesF_out (by rw [hlen]; exact hb)
    have hc1 := hE.c1
    rw [hF]
    have hcase : len < 1 ∨ (¬ len < 1 ∧ 16 < len) := by omega
    rcases hcase with h1 | ⟨h1, h2⟩
    case' inl =>
      have g1 : (len : Int) < 1 := by omega
      have g1d : decide (len < 1) = true := decide_eq_true h1
    case' inr =>
      have g1 : ¬ (len : Int) < 1 := by omega
      have g1d : decide (len < 1) = false := decide_eq_false h1
      have g2 : (16 : Int) < len := by omega
      have g2d : decide (16 < len) = true := decide_eq_true h2
    all_goals
      clear hb hlen hI hE hsz hcap hF h1
      try clear h2
      go_enter Tryz.func65, Tryz.ntmps65
      go_wp2
      go_ret
      exact ⟨⟨_, rfl, .inr (.inl ⟨1, by decide, rfl, rfl⟩)⟩, Below.refl _ _⟩

/-! ### the document's -/
/-- two cells of a block of the call's own. -/
structure Pair (w : World) (b : Nat) (x y : Value) : Prop where
  c0 : w.cell? ⟨b, 0, none⟩ = some x
  c1 : w.cell? ⟨b, 1, none⟩ = some y
  f0 : w.frozen? ⟨b, 0, none⟩ = false
  f1 : w.frozen? ⟨b, 1, none⟩ = false
theorem Pair.new (w : World) (x y : Value) (T : TypeId) : Pair (w.alloc (.cells #[x, y] T)) w.heap.size x y := ⟨by simp, by simp, by simp, by simp⟩
theorem Pair.drewN {w : World} {b : Nat} {x y : Value} (h : Pair w b x y) (n : Nat) : Pair (w.drewN n) b x y := ⟨h.c0, h.c1, h.f0, h.f1⟩
theorem Pair.below {n : Nat} {w w' : World} {b : Nat} {x y : Value} (h : Pair w b x y) (hb : Below n w w') (hn : b < n) : Pair w' b x y :=
  ⟨(hb.cell (p := ⟨b, 0, none⟩) hn).trans h.c0, (hb.cell (p := ⟨b, 1, none⟩) hn).trans h.c1, (hb.frozen (p := ⟨b, 0, none⟩) hn).trans h.f0, (hb.frozen (p := ⟨b, 1, none⟩) hn).trans h.f1⟩
theorem bare_walk (c : Int) (w : World) :
    Calls Tryz.prog 13 #[.int .i64 c] w fun e w' => e = .returned (.agg #[.int .i64 c, .int .i64 (-1)]) ∧ Below w.heap.size w w' := by
  go_enter Tryz.func13, Tryz.ntmps13
  go_wp2
  exact bodyPost_ret (v := .agg #[.int .i64 c, .int .i64 (-1)]) (by simp [results, Tryz.results13, go_sem]) rfl ⟨rfl, (Below.refl _ _).alloc (Nat.le_refl _) _⟩
theorem fine_walk (w : World) :
    Calls Tryz.prog 49 #[] w fun e w' => e = .returned (.agg #[.int .i64 0, .int .i64 (-1)]) ∧ Below w.heap.size w w' := by
  go_enter Tryz.func49, Tryz.ntmps49
  go_wp2
  exact bodyPost_ret (v := .agg #[.int .i64 0, .int .i64 (-1)]) (by simp [results, Tryz.results49, go_sem]) rfl ⟨rfl, (Below.refl _ _).alloc (Nat.le_refl _) _⟩
end Go.Proofs.YtolbdcmoblcakaaGreatDoor
