/- errors.Is and plain.Code at an api.Fault, and at an error that is none of the twelve. -/
import Derived.Test.YtabboioamdphmaaGreatDoorKAskHears08
import Derived.Test.YtabboioamdphmaaGreatDoorKAskHears14
import Derived.Test.YtabboioamdphmaaGreatDoorKAskHears01
import Derived.SliceStrings
import Derived.Maps.AppendAt
import Derived.Laws.AppendOwnNone
namespace Go.Proofs.YtabboioamdphmaaGreatDoor
open Go.RowKit Go.Extern.Stop Go.Stop Go.Extern

/-- an api.Fault, its block being n. -/
def faultV (n : Nat) : Value := .iface 116 (.pointer (some ⟨n, 0, none⟩))
structure FaultAt (w : World) (n : Nat) (at' : Int) (a : Addr) : Prop where
  c0 : w.cell? ⟨n, 0, none⟩ = some (.int .i64 at')
  c1 : w.cell? ⟨n, 1, none⟩ = some (errV a)
theorem FaultAt.below {n k : Nat} {w w' : World} {at' : Int} {a : Addr} (hb : Below k w w') (hn : w.heap.size ≤ k) (h : FaultAt w n at' a) : FaultAt w' n at' a := by
  have c : ∀ {p v}, w.cell? p = some v → w'.cell? p = some v := fun {p v} h => (hb.cell (Nat.lt_of_lt_of_le (lt_of_cell h) hn)).trans h
  exact ⟨c h.c0, c h.c1⟩
theorem noIsF (v : Value) (xT : TypeId) (w : World) : (Instr.typeAssert (.iface 116 v) xT 196 true).run Tryz.prog w = .ok (.tuple #[.nilIface, .bool false]) w := run_typeAssert_lacksB Tryz.underlying196 (by kernel_rfl) (by kernel_rfl) v xT w
theorem isUnwrapF (v : Value) (xT : TypeId) (w : World) : (Instr.typeAssert (.iface 116 v) xT 192 true).run Tryz.prog w = .ok (.tuple #[.iface 116 v, .bool true]) w := run_typeAssert_hasB Tryz.underlying192 (by kernel_rfl) v xT w
theorem method_unwrapF (v : Value) (w : World) : (Go.method 377 116 v "Unwrap").run Tryz.prog w = .ok (177, v) w := by kernel_rfl
theorem eql_fault (v x : Value) (w : World) : (binOp .eql 31 (.iface 116 v) (.iface 247 x)).run Tryz.prog w = .ok (.bool false) w :=
  run_eql_iface_types _ _ v x Tryz.underlying31 (by decide) w

theorem unwrap_walk (n : Nat) (a : Addr) (w : World) (h : w.cell? ⟨n, 1, none⟩ = some (errV a)) :
    Calls Tryz.prog 177 #[.pointer (some ⟨n, 0, none⟩)] w fun e w' => e = .returned (errV a) ∧ w = w' := by
  go_enter Tryz.func177, Tryz.ntmps177
  go_wp2
  go_ret
  exact ⟨rfl, rfl⟩
set_option maxRecDepth 100000 in
set_option maxHeartbeats 1000000 in
theorem is_faultSame (n : Nat) (a : Addr) (w : World) (h : w.cell? ⟨n, 1, none⟩ = some (errV a)) :
    Calls Tryz.prog 63 #[faultV n, errV a] w fun e w' => e = .returned (.bool true) ∧ w = w' := by
  have h10 := @run_callFunc_extern Tryz.prog 87 _ ReflectliteType.typeOf Tryz.func87 (by kernel_rfl) (by kernel_rfl) (by kernel_rfl) (by kernel_rfl)
  have h30 := @run_callFunc_extern Tryz.prog 183 _ (Extern.ReflectliteType.method fun t => do Rtype.noPackHeld "Comparable" t; pure (.bool (← typeInfo t).comparable)) Tryz.func183 (by kernel_rfl) (by kernel_rfl) (by kernel_rfl) (by kernel_rfl)
  have tO := as_typeOfE
  have mC := is_methodComparable
  have cC := is_comparable
  have he := fun w => eql_same a w
  have hf := eql_fault
  have nI := noIsF
  have iU := isUnwrapF
  have mU := method_unwrapF
  have hu := Lib.hid (unwrap_walk n a w h)
  clear h
  unfold faultV
  go_enter Tryz.func63, Tryz.ntmps63
  go_wp2
  refine wp_loop_rounds 2 ?_
  rw [rounds_succ]
  go_wp2_with (refine hu.out.mono ?_; rintro e w' ⟨rfl, rfl⟩)
  rw [rounds_succ]
  go_wp2
  go_ret
  exact ⟨rfl, rfl⟩
set_option maxRecDepth 100000 in
set_option maxHeartbeats 1000000 in
theorem is_faultOther (n : Nat) {a b : Addr} (w : World) (h : w.cell? ⟨n, 1, none⟩ = some (errV a)) (hne : a ≠ b) (ha : Blk w a) (hb : Blk w b) :
    Calls Tryz.prog 63 #[faultV n, errV b] w fun e w' => e = .returned (.bool false) ∧ w = w' := by
  have h10 := @run_callFunc_extern Tryz.prog 87 _ ReflectliteType.typeOf Tryz.func87 (by kernel_rfl) (by kernel_rfl) (by kernel_rfl) (by kernel_rfl)
  have h30 := @run_callFunc_extern Tryz.prog 183 _ (Extern.ReflectliteType.method fun t => do Rtype.noPackHeld "Comparable" t; pure (.bool (← typeInfo t).comparable)) Tryz.func183 (by kernel_rfl) (by kernel_rfl) (by kernel_rfl) (by kernel_rfl)
  have tO := as_typeOfE
  have mC := is_methodComparable
  have cC := is_comparable
  have he := eql_other w hne ha hb
  have hf := eql_fault
  have nI := noIsF
  have nE := noIsE
  have nU := noUnwrapE
  have nUs := noUnwrapsE
  have iU := isUnwrapF
  have mU := method_unwrapF
  have hu := Lib.hid (unwrap_walk n a w h)
  clear h hne ha hb
  unfold faultV
  go_enter Tryz.func63, Tryz.ntmps63
  go_wp2
  refine wp_loop_rounds 2 ?_
  rw [rounds_succ]
  go_wp2_with (refine hu.out.mono ?_; rintro e w' ⟨rfl, rfl⟩)
  rw [rounds_succ]
  go_wp2
  go_ret
  exact ⟨rfl, rfl⟩

set_option maxRecDepth 100000 in
set_option maxHeartbeats 2000000 in
theorem code_fault (E : Nat → Addr) (i : Nat) (hi : i < 12) (n : Nat) (at' : Int) (w : World) (hE : ErrEnv w E) (hF : FaultAt w n at' (E i)) :
    Calls Tryz.prog 39 #[faultV n] w fun e w' => e = .returned (.tuple #[.int .i64 ((i : Int) + 1), .int .i64 at']) ∧ Below w.heap.size w w' := by
  go_enter Tryz.func39, Tryz.ntmps39
  unfold faultV
  go_wp2_with fail
  obtain ⟨W0, hW0⟩ : ∃ W0, w.alloc (.cells #[.pointer none] 116) = W0 := ⟨_, rfl⟩
  refine (as_hit ⟨n, 0, none⟩ ⟨w.heap.size, 0, none⟩ (.pointer none) _ ?_ ?_ ?_).mono ?_
  · exact (World.cell?_alloc_lt _ _ _ (lt_of_cell hE.hnd)).trans hE.hnd
  · simp
  · simp
  rintro e w1 ⟨rfl, hw1⟩
  have hB0 : Below w.heap.size w (w.alloc (.cells #[.pointer none] 116)) := (Below.refl _ w).alloc (Nat.le_refl _) _
  have hB : Below w.heap.size w w1 := by
    rw [hw1]
    refine Below.setCell ((((hB0.alloc (by simp) _).alloc (by simp; omega) _).alloc (by simp; omega) _).alloc (by simp; omega) _) (Nat.le_refl _) _
  have hE1 := hE.below hB (Nat.le_refl _)
  have hF1 := hF.below hB (Nat.le_refl _)
  have hT : w1.cell? ⟨w.heap.size, 0, none⟩ = some (.pointer (some ⟨n, 0, none⟩)) := by
    rw [hw1]
    refine World.cell?_setCell_same' _ _ _ ?_
    rw [World.cell?_alloc_lt _ _ _ (by simp only [World.size_alloc]; omega), World.cell?_alloc_lt _ _ _ (by simp only [World.size_alloc]; omega), World.cell?_alloc_lt _ _ _ (by simp only [World.size_alloc]; omega), World.cell?_alloc_lt _ _ _ (by simp only [World.size_alloc]; omega)]
    simp
  have hsz := hB.size
  have hF0 := hF1.c0
  have hF1' := Lib.hid hF1; clear hF1
  obtain ⟨d0, d1, d2, d3, d4, d5, d6, d7, d8, d9, d10, d11, _, hblk, hne⟩ := hE1
  have Hblk := Lib.hid hblk; clear hblk
  have Hne := Lib.hid hne; clear hne
  clear hE hw1 hF hB0 hW0
  go_wp2
  clear d0 d1 d2 d3 d4 d5 d6 d7 d8 d9 d10 d11 hF0 hT
  obtain ⟨W, hW⟩ : ∃ W, w1.alloc (.cells #[errV (E 0), errV (E 1), errV (E 2), errV (E 3), errV (E 4), errV (E 5), errV (E 6), errV (E 7), errV (E 8), errV (E 9), errV (E 10), errV (E 11)] 31) = W := ⟨_, rfl⟩
  rw [hW]
  have hcs : ∀ k, k < 12 → W.cell? ⟨w1.heap.size, k, none⟩ = some (errV (E k)) := fun k hk => by
    rw [← hW, World.cell?_alloc_at _ _ _ _ rfl]
    exact errCells_at E hk
  have hBW : Below w.heap.size w W := by rw [← hW]; exact hB.alloc hsz _
  have hFW : FaultAt W n at' (E i) := by
    rw [← hW]
    exact hF1'.out.below ((Below.refl w1.heap.size w1).alloc (Nat.le_refl _) _) (Nat.le_refl _)
  have hbk : ∀ k, k < 12 → Blk W (E k) := fun k hk => by
    rw [← hW]
    exact (Hblk.out k hk).below ((Below.refl w1.heap.size w1).alloc (Nat.le_refl _) _) (Nat.le_refl _)
  have Hcs := Lib.hid hcs; clear hcs
  have Hbk := Lib.hid hbk; clear hbk
  have HF := Lib.hid hFW; clear hFW
  clear hW hB Hblk hF1'
  go_loop [30, 3] (fun vk va => ∃ k : Nat, k ≤ i ∧ vk = .int .i64 k ∧ va = .int .i64 at') (fun k _ => 12 - (intOf k).toNat)
  case atStart => exact ⟨0, by omega, rfl, rfl⟩
  case round =>
    obtain ⟨k, hk, rfl, rfl⟩ := hrel
    have hck := Hcs.out k (by omega)
    have hk12 : (k : Int) < 12 := by omega
    by_cases hki : k = i
    · subst hki
      have His := Lib.hid (is_faultSame n (E k) W HF.out.c1)
      go_wp2_with fail
      refine His.out.mono ?_
      rintro e w' ⟨rfl, rfl⟩
      go_wp2
      go_ret2
      exact ⟨rfl, hBW⟩
    · have His := Lib.hid (is_faultOther n (a := E i) (b := E k) W HF.out.c1 (Hne.out i k hi (by omega) (Ne.symm hki)) (Hbk.out i hi) (Hbk.out k (by omega)))
      go_wp2_with fail
      refine His.out.mono ?_
      rintro e w' ⟨rfl, rfl⟩
      go_wp2
      go_round
      case rel => exact ⟨k + 1, by omega, by go_num, rfl⟩
      case measure => simp [intOf]; omega

set_option maxRecDepth 100000 in
set_option maxHeartbeats 2000000 in
theorem code_another (E : Nat → Addr) (x : Addr) (w : World) (hE : ErrEnv w E) (hx : Blk w x) (hxE : ∀ k, k < 12 → x ≠ E k) :
    Calls Tryz.prog 39 #[errV x] w fun e w' => e = .returned (.tuple #[.int .i64 (-1), .int .i64 (-1)]) ∧ Below w.heap.size w w' := by
  go_enter Tryz.func39, Tryz.ntmps39
  go_wp2_with fail
  refine (as_miss x ⟨w.heap.size, 0, none⟩ (.pointer none) _ ?_ ?_).mono ?_
  · exact (World.cell?_alloc_lt _ _ _ (lt_of_cell hE.hnd)).trans hE.hnd
  · simp
  rintro e w1 ⟨rfl, hb⟩
  simp only [World.size_alloc] at hb
  have hB : Below w.heap.size w w1 := ((Below.refl _ w).alloc (Nat.le_refl _) _).trans (hb.mono (by omega))
  have hE1 := hE.below hB (Nat.le_refl _)
  have hx1 := hx.below hB (Nat.le_refl _)
  have hsz := hB.size
  obtain ⟨d0, d1, d2, d3, d4, d5, d6, d7, d8, d9, d10, d11, _, hblk, hne⟩ := hE1
  have Hblk := Lib.hid hblk; clear hblk
  have Hx := Lib.hid hx1; clear hx1
  have HxE := Lib.hid hxE; clear hxE
  clear hE hb hne hx
  go_wp2
  clear d0 d1 d2 d3 d4 d5 d6 d7 d8 d9 d10 d11
  obtain ⟨W, hW⟩ : ∃ W, w1.alloc (.cells #[errV (E 0), errV (E 1), errV (E 2), errV (E 3), errV (E 4), errV (E 5), errV (E 6), errV (E 7), errV (E 8), errV (E 9), errV (E 10), errV (E 11)] 31) = W := ⟨_, rfl⟩
  rw [hW]
  have hcs : ∀ k, k < 12 → W.cell? ⟨w1.heap.size, k, none⟩ = some (errV (E k)) := fun k hk => by
    rw [← hW, World.cell?_alloc_at _ _ _ _ rfl]
    exact errCells_at E hk
  have hBW : Below w.heap.size w W := by rw [← hW]; exact hB.alloc hsz _
  have hxW : Blk W x := by rw [← hW]; exact Hx.out.below ((Below.refl w1.heap.size w1).alloc (Nat.le_refl _) _) (Nat.le_refl _)
  have hbk : ∀ k, k < 12 → Blk W (E k) := fun k hk => by
    rw [← hW]
    exact (Hblk.out k hk).below ((Below.refl w1.heap.size w1).alloc (Nat.le_refl _) _) (Nat.le_refl _)
  have Hcs := Lib.hid hcs; clear hcs
  have Hbk := Lib.hid hbk; clear hbk
  have HX := Lib.hid hxW; clear hxW
  clear hW hB Hblk Hx
  go_loop [30, 3] (fun vk va => ∃ k : Nat, k ≤ 12 ∧ vk = .int .i64 k ∧ va = .int .i64 (-1)) (fun k _ => 12 - (intOf k).toNat)
  case atStart => exact ⟨0, by omega, rfl, rfl⟩
  case round =>
    obtain ⟨k, hk, rfl, rfl⟩ := hrel
    have hk2 : k < 12 ∨ k = 12 := by omega
    rcases hk2 with hlt | rfl
    · have hck := Hcs.out k (by omega)
      have hk12 : (k : Int) < 12 := by omega
      have His := Lib.hid (is_other (a := x) (b := E k) W (HxE.out k hlt) HX.out (Hbk.out k (by omega)))
      go_wp2_with fail
      refine His.out.mono ?_
      rintro e w' ⟨rfl, rfl⟩
      go_wp2
      go_round
      case rel => exact ⟨k + 1, by omega, by go_num, rfl⟩
      case measure => simp [intOf]; omega
    · go_wp2
      go_ret2
      exact ⟨rfl, hBW⟩
theorem new_walk (s : ByteArray) (w : World) :
    Calls Tryz.prog 195 #[.string s] w fun e w' => e = .returned (errV ⟨w.heap.size, 0, none⟩) ∧ Below w.heap.size w w' ∧ Blk w' ⟨w.heap.size, 0, none⟩ := by
  go_enter Tryz.func195, Tryz.ntmps195
  go_wp2
  go_ret
  exact ⟨rfl, (Below.refl _ _).alloc (Nat.le_refl _) _, ⟨#[.string s], 265, by show (w.heap.push _)[w.heap.size]? = _; simp⟩⟩
end Go.Proofs.YtabboioamdphmaaGreatDoor
/- Errors with a number and a place: what a walk is told of them. -/
namespace Go.Proofs.YtabboioamdphmaaGreatDoor
open Go.RowKit

/-- the errors that the checks of nodes hand back. -/
structure ErrNx (w : World) (E : Nat → Addr) : Prop where
  c1 : w.cell? ⟨1, 0, none⟩ = some (errV (E 1))
  c3 : w.cell? ⟨0, 0, none⟩ = some (errV (E 3))
  c5 : w.cell? ⟨5, 0, none⟩ = some (errV (E 5))
theorem ErrNx.below {n : Nat} {w w' : World} {E : Nat → Addr} (hb : Below n w w') (hn : w.heap.size ≤ n) (h : ErrNx w E) : ErrNx w' E := by
  have c : ∀ {p v}, w.cell? p = some v → w'.cell? p = some v := fun {p v} h => (hb.cell (Nat.lt_of_lt_of_le (lt_of_cell h) hn)).trans h
  exact ⟨c h.c1, c h.c3, c h.c5⟩
theorem ErrEnv.nx {w : World} {E : Nat → Addr} (h : ErrEnv w E) : ErrNx w E := ⟨h.c1, h.c3, h.c5⟩
/-- the error v bears the number and the place f (0: none). -/
def FltV (w : World) (E : Nat → Addr) (f : Nat × Int) (v : Value) : Prop :=
  (f = (0, -1) ∧ v = .nilIface) ∨ (∃ i, i < 12 ∧ f = (i + 1, -1) ∧ v = errV (E i)) ∨ (∃ i n, i < 12 ∧ f.1 = i + 1 ∧ v = faultV n ∧ FaultAt w n f.2 (E i))
theorem FltV.below {n : Nat} {w w' : World} {E : Nat → Addr} {f : Nat × Int} {v : Value} (hb : Below n w w') (hn : w.heap.size ≤ n) (h : FltV w E f v) : FltV w' E f v := by
  rcases h with h | h | ⟨i, m, h1, h2, h3, h4⟩
  · exact .inl h
  · exact .inr (.inl h)
  · exact .inr (.inr ⟨i, m, h1, h2, h3, h4.below hb hn⟩)
/-- an error, or none. -/
theorem FltV.nil {w : World} {E : Nat → Addr} {f : Nat × Int} {v : Value} (h : FltV w E f v) (h0 : f.1 = 0) : f = (0, -1) ∧ v = .nilIface := by
  rcases h with h | ⟨i, _, h2, _⟩ | ⟨i, m, _, h2, _⟩
  · exact h
  · rw [h2] at h0; simp at h0
  · omega
/-- an error's value: one of the two makes. -/
theorem FltV.some_ {w : World} {E : Nat → Addr} {f : Nat × Int} {v : Value} (h : FltV w E f v) (h0 : f.1 ≠ 0) : (∃ a, v = errV a) ∨ ∃ n, v = faultV n := by
  rcases h with ⟨h, _⟩ | ⟨i, _, _, h2⟩ | ⟨i, m, _, _, h2, _⟩
  · rw [h] at h0; exact absurd rfl h0
  · exact .inl ⟨_, h2⟩
  · exact .inr ⟨_, h2⟩
theorem code_flt {w : World} {E : Nat → Addr} {f : Nat × Int} {v : Value} (hE : ErrEnv w E) (h : FltV w E f v) :
    Calls Tryz.prog 39 #[v] w fun e w' => e = .returned (.tuple #[.int .i64 (f.1 : Nat), .int .i64 f.2]) ∧ Below w.heap.size w w' := by
  rcases h with ⟨rfl, rfl⟩ | ⟨i, hi, rfl, rfl⟩ | ⟨i, m, hi, h1, rfl, hF⟩
  · exact (code_nil w).mono fun e w' ⟨he, hw⟩ => ⟨he, hw ▸ Below.refl _ _⟩
  · exact (code_err E i hi w hE).mono fun e w' ⟨he, hw⟩ => ⟨by rw [he]; simp, hw⟩
  · exact (code_fault E i hi m f.2 w hE hF).mono fun e w' ⟨he, hw⟩ => ⟨by rw [he, h1]; simp, hw⟩
end Go.Proofs.YtabboioamdphmaaGreatDoor
/- Slices of texts: that are read, that come in, that are the call's own. -/
namespace Go.Proofs.YtabboioamdphmaaGreatDoor
open Go.RowKit Go.ChangeShapes Go.WideShapes

/-- The slice at address a reads as the texts L, in a block below n₀. -/
def TxsAt (n₀ : Nat) (w : World) (a : Option Addr) (L : List ByteArray) : Prop :=
  L = [] ∨ ∃ b off, a = some ⟨b, off, none⟩ ∧ b < n₀ ∧ ∀ j, j < L.length → w.cell? ⟨b, off + j, none⟩ = some (.string (L[j]?.getD ⟨#[]⟩))
theorem TxsAt.below {n₀ : Nat} {A B : World} (h : Below n₀ A B) {a : Option Addr} {L : List ByteArray} : TxsAt n₀ A a L → TxsAt n₀ B a L
  | .inl e => .inl e
  | .inr ⟨b, off, e, hb, hc⟩ => .inr ⟨b, off, e, hb, fun j hj => (h.cell (p := ⟨b, off + j, none⟩) hb).trans (hc j hj)⟩
theorem TxsAt.mono {n₀ n₁ : Nat} {A : World} (h : n₀ ≤ n₁) {a : Option Addr} {L : List ByteArray} : TxsAt n₀ A a L → TxsAt n₁ A a L
  | .inl e => .inl e
  | .inr ⟨b, off, e, hb, hc⟩ => .inr ⟨b, off, e, by omega, hc⟩
theorem TxsAt.take {n₀ : Nat} {A : World} {a : Option Addr} {L : List ByteArray} (k : Nat) : TxsAt n₀ A a L → TxsAt n₀ A a (L.take k)
  | .inl e => .inl (by rw [e]; simp)
  | .inr ⟨b, off, e, hb, hc⟩ => .inr ⟨b, off, e, hb, fun j hj => by
      have hj' : j < L.length := by simp at hj; omega
      have hk : j < k := by simp at hj; omega
      rw [hc j hj', List.getElem?_take, if_pos hk]⟩
/-- What the walk is told of a slice of texts that came in. -/
structure TxsIn (w : World) (a : Option Addr) (len cap : Nat) (L : List ByteArray) : Prop where
  len_ : L.length = len
  cap_ : len ≤ cap
  max_ : cap ≤ maxLen
  nil_ : a = none → cap = 0
  siz_ : ∀ s ∈ L, s.size ≤ maxLen
  txs : TxsAt w.heap.size w a L
theorem TxsIn.sizeAt {w : World} {a : Option Addr} {len cap : Nat} {L : List ByteArray} (h : TxsIn w a len cap L) (j : Nat) : (L[j]?.getD ⟨#[]⟩).size ≤ maxLen := by
  by_cases hj : j < L.length
  · rw [List.getElem?_eq_getElem hj]; exact h.siz_ _ (List.getElem_mem hj)
  · rw [List.getElem?_eq_none (by omega)]; exact Nat.zero_le _
theorem cellsOfStr : Tryz.prog.cellsOf 9 = 1 := by kernel_rfl
theorem text_at {w : World} {x : Addr} {n : Nat} {V : Nat → Value} (h : ∀ i, i < n → w.cell? (x.add i) = some (V i)) (hp : 0 < n) : ∃ b off, x = ⟨b, off, none⟩ ∧ b < w.heap.size ∧ ∀ j, j < n → w.cell? ⟨b, off + j, none⟩ = some (V j) := by
  obtain ⟨b, off, spot⟩ := x
  have hspot : spot = none := by simpa [Addr.add] using World.cell?_spot (h 0 hp)
  subst hspot
  have hc : ∀ j, j < n → w.cell? ⟨b, off + j, none⟩ = some (V j) := fun j hj => by rw [← Go.WideShapes.add_plain]; exact h j hj
  refine ⟨b, off, rfl, ?_, hc⟩
  have h1 := hc 0 hp
  rcases Nat.lt_or_ge b w.heap.size with h | h
  · exact h
  · simp [World.cell?, Array.getElem?_eq_none h] at h1
theorem texts_of_trod {H : Type} {enc : TypeId × Value → H} {W : World} {v : Value} {fuel : Nat} {x : DataW H × List MemPlace} (h : DataW.trod enc Tryz.prog W 0 (fun _ => true) true fuel 22 [v] = some x) :
    ∃ a len cap L, v = .slice a len cap ∧ TxsIn W a len cap L := by
  rcases open_strings Tryz.underlying22 Tryz.underlying9 cellsOfStr h with ⟨hcs, _⟩ | ⟨x, l, c, ss, hcs, _, hl, hm, hz, _, hcell, hsz⟩
  · simp at hcs
    subst hcs
    exact ⟨none, 0, 0, [], rfl, rfl, Nat.le_refl _, by simp [maxLen], fun _ => rfl, (fun _ h => by cases h), .inl rfl⟩
  · simp at hcs
    subst hcs
    rw [if_pos rfl] at hz
    subst hz
    refine ⟨some x, l, ss.length, ss.take l, rfl, by simp; omega, hl, hm, (fun e => by cases e), fun s hs => hsz s (List.mem_of_mem_take hs), ?_⟩
    by_cases h0 : l = 0
    · left; subst h0; simp
    · obtain ⟨b, off, rfl, hb, hc⟩ := text_at hcell (by omega)
      refine .inr ⟨b, off, rfl, hb, fun j hj => ?_⟩
      have hj2 : j < l := by simp at hj; omega
      have hj3 : j < ss.length := by omega
      rw [hc j hj3, List.getElem?_take, if_pos hj2]
      simp [List.getD, List.getElem?_eq_getElem hj3]
theorem open_texts {H : Type} {enc : TypeId × Value → H} {W : World} {a : Option Addr} {len cap : Nat} {d : DataW H} {p : List MemPlace} (h : DataW.Trod enc Tryz.prog W 0 (fun _ => true) true 22 (.slice a len cap) d p) :
    ∃ L, TxsIn W a len cap L := by
  obtain ⟨fuel, hf⟩ := h
  obtain ⟨a', len', cap', L, e, hL⟩ := texts_of_trod (v := .slice a len cap) (by simpa [Value.cells] using hf)
  obtain ⟨rfl, rfl, rfl⟩ := Value.slice.inj e
  exact ⟨L, hL⟩

/-- v owns the texts L. -/
def OwnT (B : Nat) (w : World) (v : Value) (L : List ByteArray) : Prop := Own1 9 B w v (L.map Value.string)
theorem OwnT.nil (B : Nat) (w : World) : OwnT B w (.slice none 0 0) [] := World.ownsRow_nil _ _ _ _
theorem OwnT.read {B : Nat} {w : World} {v : Value} {L : List ByteArray} (h : OwnT B w v L) : ∃ a cap, v = .slice a L.length cap ∧ L.length ≤ cap ∧ cap ≤ maxLen ∧ (a = none → cap = 0) ∧ TxsAt w.heap.size w a L := by
  rcases Own1.shape h with ⟨rfl, hl⟩ | ⟨g, cap, rfl, _, hg, hc, hm, _, hcell⟩
  · have : L = [] := by simpa using hl
    subst this
    exact ⟨none, 0, rfl, by simp, by simp [maxLen], fun _ => rfl, .inl rfl⟩
  · refine ⟨_, cap, by simp, by simpa using hc, hm, (fun e => by cases e), .inr ⟨g, 0, rfl, hg, fun j hj => ?_⟩⟩
    rw [Nat.zero_add, hcell j (by simpa using hj)]
    simp [hj]
theorem info_text : (Tryz.prog.info? 9).map (fun i => (i.zero, i.size, i.bytes)) = some (some (.string ⟨#[]⟩), 1, 16) := by kernel_rfl
/-- append(s, t) of a text. -/
theorem append_txt {ops : Array Oper} {rest : List Oper} {o : Oper} {a : Act} {Q : Exit → Act → World → Prop} {w0 : World} (s x : Nat) (hgd : o.guard = none)
    (ho : o.op = .call { callee := .builtin .append, args := #[.tmp s, .tmp x], argTypes := #[22, 22] }) (B : Nat) (v : Value) (L : List ByteArray) (t : ByteArray)
    (hs : a.eval (.tmp s) = v) (hx : a.eval (.tmp x) = .slice (some ⟨w0.heap.size, 0, none⟩) 1 1) (hown : OwnT B w0 v L) (hl : L.length ≤ 1000000) (hB : B ≤ w0.heap.size)
    (h : ∀ v' w', OwnT B w' v' (L ++ [t]) → (w0.alloc (.cells #[.string t] 9)).grownBy w' v.ownBlock → (v'.ownBlock = v.ownBlock ∨ v'.ownBlock = some (w0.heap.size + 1)) → wpList Tryz.prog ops Q rest (a.put o.dst v') w') :
    wpList Tryz.prog ops Q (o :: rest) a (w0.alloc (.cells #[.string t] 9)) := by
  refine append_one 22 9 (.string ⟨#[]⟩) 16 Tryz.underlying22 info_text rfl s x hgd ho B v _ _ rfl hs hx hown (by simp; omega) (by simp [maxLen]; omega) hB ?_
  intro v' w' h1 h2 h3
  exact h v' w' (by unfold OwnT; rw [List.map_append]; exact h1) h2 h3
/-- append(s, l...) of texts. -/
theorem append_txts {ops : Array Oper} {rest : List Oper} {o : Oper} {a : Act} {Q : Exit → Act → World → Prop} {w : World} (s x : Nat) (hgd : o.guard = none)
    (ho : o.op = .call { callee := .builtin .append, args := #[.tmp s, .tmp x], argTypes := #[22, 22] }) (B : Nat) (v : Value) (L : List ByteArray) (n₀ : Nat) (ad : Option Addr) (len cap : Nat) (M : List ByteArray)
    (hs : a.eval (.tmp s) = v) (hx : a.eval (.tmp x) = .slice ad len cap) (hown : OwnT B w v L) (hlen : M.length = len) (hl : L.length + M.length ≤ 1000000) (ha : ad = none → cap = 0) (hI : TxsAt n₀ w ad M) (hB : B ≤ w.heap.size)
    (h : ∀ v' w', OwnT B w' v' (L ++ M) → w.grownBy w' v.ownBlock → (v'.ownBlock = v.ownBlock ∨ v'.ownBlock = some w.heap.size) → wpList Tryz.prog ops Q rest (a.put o.dst v') w') :
    wpList Tryz.prog ops Q (o :: rest) a w := by
  obtain ⟨i, hi, hz0, hz1, hz2⟩ := info_parts info_text
  subst hlen
  have hown' : w.ownsRow B 9 1 v L.length (L.map Value.string) := by
    have h0 := hown
    unfold OwnT Own1 at h0
    simpa using h0
  have at_ : ∀ y : Addr, ad = some y → (∀ j u, (M.map Value.string)[j]? = some u → w.cell? (y.add j) = some u) → wpList Tryz.prog ops Q (o :: rest) a w := fun y e hc => by
    refine wpList_append_own_at _ hgd (.tmp s) (.tmp x) 22 ho B 9 i _ 1 16 Tryz.underlying22 hi hz0 hz1 hz2 rfl (by decide) v L.length (L.map Value.string) hs hown' y M.length cap (M.map Value.string) (hx.trans (by rw [e])) (by simp) hc (fun u hu => ?_) (by unfold maxLen; omega) (by omega) hB ?_
    · obtain ⟨t, _, rfl⟩ := List.mem_map.1 hu
      rfl
    · intro v' w' h1 h2 _ h4
      refine h v' w' ?_ h2 h4
      unfold OwnT Own1
      rw [List.map_append]
      simpa using h1
  rcases hI with rfl | ⟨b, off, e, _, hcell⟩
  · cases ad with
    | none =>
      obtain rfl := ha rfl
      refine wpList_append_own_none hgd (.tmp s) (.tmp x) 22 ho B 9 i 1 Tryz.underlying22 hi v L.length (L.map Value.string) hs hown' hx ?_
      exact h v w (by simpa using hown) (World.grownBy.refl _ _) (.inl rfl)
    | some ad => exact at_ ad rfl (fun j u hj => by simp at hj)
  · refine at_ _ e (fun j u hj => ?_)
    have hj2 : j < M.length := by have := (List.getElem?_eq_some_iff.1 hj).1; simpa using this
    rw [Go.WideShapes.add_plain, hcell j hj2, ← hj]
    simp [List.getElem?_eq_getElem hj2]
end Go.Proofs.YtabboioamdphmaaGreatDoor
