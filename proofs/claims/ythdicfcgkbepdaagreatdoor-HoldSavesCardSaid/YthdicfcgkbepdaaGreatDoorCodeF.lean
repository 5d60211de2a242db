/- errors.Is and plain.Code at an api.Fault, and at an error that is none of the twelve. -/
import Derived.Test.YthdicfcgkbepdaaGreatDoorCode
namespace Go.Proofs.YthdicfcgkbepdaaGreatDoor
open Go.RowKit Go.Extern.Stop Go.Stop Go.Extern

/-- an api.Fault, its block being n. -/
def faultV (n : Nat) : Value := .iface 100 (.pointer (some ⟨n, 0, none⟩))
structure FaultAt (w : World) (n : Nat) (at' : Int) (a : Addr) : Prop where
  c0 : w.cell? ⟨n, 0, none⟩ = some (.int .i64 at')
  c1 : w.cell? ⟨n, 1, none⟩ = some (errV a)
theorem FaultAt.below {n k : Nat} {w w' : World} {at' : Int} {a : Addr} (hb : Below k w w') (hn : w.heap.size ≤ k) (h : FaultAt w n at' a) : FaultAt w' n at' a := by
  have c : ∀ {p v}, w.cell? p = some v → w'.cell? p = some v := fun {p v} h => (hb.cell (Nat.lt_of_lt_of_le (lt_of_cell h) hn)).trans h
  exact ⟨c h.c0, c h.c1⟩
theorem noIsF (v : Value) (xT : TypeId) (w : World) : (Instr.typeAssert (.iface 100 v) xT 162 true).run Tryz.prog w = .ok (.tuple #[.nilIface, .bool false]) w := run_typeAssert_lacksB Tryz.underlying162 (by kernel_rfl) (by kernel_rfl) v xT w
theorem isUnwrapF (v : Value) (xT : TypeId) (w : World) : (Instr.typeAssert (.iface 100 v) xT 158 true).run Tryz.prog w = .ok (.tuple #[.iface 100 v, .bool true]) w := run_typeAssert_hasB Tryz.underlying158 (by kernel_rfl) v xT w
theorem method_unwrapF (v : Value) (w : World) : (Go.method 326 100 v "Unwrap").run Tryz.prog w = .ok (149, v) w := by kernel_rfl
theorem eql_fault (v x : Value) (w : World) : (binOp .eql 25 (.iface 100 v) (.iface 171 x)).run Tryz.prog w = .ok (.bool false) w :=
  run_eql_iface_types _ _ v x Tryz.underlying25 (by decide) w

theorem unwrap_walk (n : Nat) (a : Addr) (w : World) (h : w.cell? ⟨n, 1, none⟩ = some (errV a)) :
    Calls Tryz.prog 149 #[.pointer (some ⟨n, 0, none⟩)] w fun e w' => e = .returned (errV a) ∧ w = w' := by
  go_enter Tryz.func149, Tryz.ntmps149
  go_wp2
  go_ret
  exact ⟨rfl, rfl⟩
set_option maxRecDepth 100000 in
set_option maxHeartbeats 1000000 in
theorem is_faultSame (n : Nat) (a : Addr) (w : World) (h : w.cell? ⟨n, 1, none⟩ = some (errV a)) :
    Calls Tryz.prog 52 #[faultV n, errV a] w fun e w' => e = .returned (.bool true) ∧ w = w' := by
  have h10 := @run_callFunc_extern Tryz.prog 77 _ ReflectliteType.typeOf Tryz.func77 (by kernel_rfl) (by kernel_rfl) (by kernel_rfl) (by kernel_rfl)
  have h30 := @run_callFunc_extern Tryz.prog 158 _ (Extern.ReflectliteType.method fun t => do Rtype.noPackHeld "Comparable" t; pure (.bool (← typeInfo t).comparable)) Tryz.func158 (by kernel_rfl) (by kernel_rfl) (by kernel_rfl) (by kernel_rfl)
  have tO := as_typeOfE
  have mC := is_methodComparable
  have cC := is_comparable
  have he := fun w => eql_same a w
  have hf := eql_fault
  have nI := noIsF
  have iU := isUnwrapF
  have mU := method_unwrapF
  have hu := Lib.hid (unwrap_walk n a w h)
  clear h
  unfold faultV
  go_enter Tryz.func52, Tryz.ntmps52
  go_wp2
  refine wp_loop_rounds 2 ?_
  rw [rounds_succ]
  go_wp2_with (refine hu.out.mono ?_; rintro e w' ⟨rfl, rfl⟩)
  rw [rounds_succ]
  go_wp2
  go_ret
  exact ⟨rfl, rfl⟩
set_option maxRecDepth 100000 in
set_option maxHeartbeats 1000000 in
theorem is_faultOther (n : Nat) {a b : Addr} (w : World) (h : w.cell? ⟨n, 1, none⟩ = some (errV a)) (hne : a ≠ b) (ha : Blk w a) (hb : Blk w b) :
    Calls Tryz.prog 52 #[faultV n, errV b] w fun e w' => e = .returned (.bool false) ∧ w = w' := by
  have h10 := @run_callFunc_extern Tryz.prog 77 _ ReflectliteType.typeOf Tryz.func77 (by kernel_rfl) (by kernel_rfl) (by kernel_rfl) (by kernel_rfl)
  have h30 := @run_callFunc_extern Tryz.prog 158 _ (Extern.ReflectliteType.method fun t => do Rtype.noPackHeld "Comparable" t; pure (.bool (← typeInfo t).comparable)) Tryz.func158 (by kernel_rfl) (by kernel_rfl) (by kernel_rfl) (by kernel_rfl)
  have tO := as_typeOfE
  have mC := is_methodComparable
  have cC := is_comparable
  have he := eql_other w hne ha hb
  have hf := eql_fault
  have nI := noIsF
  have nE := noIsE
  have nU := noUnwrapE
  have nUs := noUnwrapsE
  have iU := isUnwrapF
  have mU := method_unwrapF
  have hu := Lib.hid (unwrap_walk n a w h)
  clear h hne ha hb
  unfold faultV
  go_enter Tryz.func52, Tryz.ntmps52
  go_wp2
  refine wp_loop_rounds 2 ?_
  rw [rounds_succ]
  go_wp2_with (refine hu.out.mono ?_; rintro e w' ⟨rfl, rfl⟩)
  rw [rounds_succ]
  go_wp2
  go_ret
  exact ⟨rfl, rfl⟩

set_option maxRecDepth 100000 in
set_option maxHeartbeats 2000000 in
theorem code_fault (E : Nat → Addr) (i : Nat) (hi : i < 12) (n : Nat) (at' : Int) (w : World) (hE : ErrEnv w E) (hF : FaultAt w n at' (E i)) :
    Calls Tryz.prog 25 #[faultV n] w fun e w' => e = .returned (.tuple #[.int .i64 ((i : Int) + 1), .int .i64 at']) ∧ Below w.heap.size w w' := by
  go_enter Tryz.func25, Tryz.ntmps25
  unfold faultV
  go_wp2_with fail
  obtain ⟨W0, hW0⟩ : ∃ W0, w.alloc (.cells #[.pointer none] 100) = W0 := ⟨_, rfl⟩
  refine (as_hit ⟨n, 0, none⟩ ⟨w.heap.size, 0, none⟩ (.pointer none) _ ?_ ?_ ?_).mono ?_
  · exact (World.cell?_alloc_lt _ _ _ (lt_of_cell hE.hnd)).trans hE.hnd
  · simp
  · simp
  rintro e w1 ⟨rfl, hw1⟩
  have hB0 : Below w.heap.size w (w.alloc (.cells #[.pointer none] 100)) := (Below.refl _ w).alloc (Nat.le_refl _) _
  have hB : Below w.heap.size w w1 := by
    rw [hw1]
    refine Below.setCell ((((hB0.alloc (by simp) _).alloc (by simp; omega) _).alloc (by simp; omega) _).alloc (by simp; omega) _) (Nat.le_refl _) _
  have hE1 := hE.below hB (Nat.le_refl _)
  have hF1 := hF.below hB (Nat.le_refl _)
  have hT : w1.cell? ⟨w.heap.size, 0, none⟩ = some (.pointer (some ⟨n, 0, none⟩)) := by
    rw [hw1]
    refine World.cell?_setCell_same' _ _ _ ?_
    rw [World.cell?_alloc_lt _ _ _ (by simp only [World.size_alloc]; omega), World.cell?_alloc_lt _ _ _ (by simp only [World.size_alloc]; omega), World.cell?_alloc_lt _ _ _ (by simp only [World.size_alloc]; omega), World.cell?_alloc_lt _ _ _ (by simp only [World.size_alloc]; omega)]
    simp
  have hsz := hB.size
  have hF0 := hF1.c0
  have hF1' := Lib.hid hF1; clear hF1
  obtain ⟨d0, d1, d2, d3, d4, d5, d6, d7, d8, d9, d10, d11, _, hblk, hne⟩ := hE1
  have Hblk := Lib.hid hblk; clear hblk
  have Hne := Lib.hid hne; clear hne
  clear hE hw1 hF hB0 hW0
  go_wp2
  clear d0 d1 d2 d3 d4 d5 d6 d7 d8 d9 d10 d11 hF0 hT
  obtain ⟨W, hW⟩ : ∃ W, w1.alloc (.cells #[errV (E 0), errV (E 1), errV (E 2), errV (E 3), errV (E 4), errV (E 5), errV (E 6), errV (E 7), errV (E 8), errV (E 9), errV (E 10), errV (E 11)] 25) = W := ⟨_, rfl⟩
  rw [hW]
  have hcs : ∀ k, k < 12 → W.cell? ⟨w1.heap.size, k, none⟩ = some (errV (E k)) := fun k hk => by
    rw [← hW, World.cell?_alloc_at _ _ _ _ rfl]
    exact errCells_at E hk
  have hBW : Below w.heap.size w W := by rw [← hW]; exact hB.alloc hsz _
  have hFW : FaultAt W n at' (E i) := by
    rw [← hW]
    exact hF1'.out.below ((Below.refl w1.heap.size w1).alloc (Nat.le_refl _) _) (Nat.le_refl _)
  have hbk : ∀ k, k < 12 → Blk W (E k) := fun k hk => by
    rw [← hW]
    exact (Hblk.out k hk).below ((Below.refl w1.heap.size w1).alloc (Nat.le_refl _) _) (Nat.le_refl _)
  have Hcs := Lib.hid hcs; clear hcs
  have Hbk := Lib.hid hbk; clear hbk
  have HF := Lib.hid hFW; clear hFW
  clear hW hB Hblk hF1'
  go_loop [30, 3] (fun vk va => ∃ k : Nat, k ≤ i ∧ vk = .int .i64 k ∧ va = .int .i64 at') (fun k _ => 12 - (intOf k).toNat)
  case atStart => exact ⟨0, by omega, rfl, rfl⟩
  case round =>
    obtain ⟨k, hk, rfl, rfl⟩ := hrel
    have hck := Hcs.out k (by omega)
    have hk12 : (k : Int) < 12 := by omega
    by_cases hki : k = i
    · subst hki
      have His := Lib.hid (is_faultSame n (E k) W HF.out.c1)
      go_wp2_with fail
      refine His.out.mono ?_
      rintro e w' ⟨rfl, rfl⟩
      go_wp2
      go_ret2
      exact ⟨rfl, hBW⟩
    · have His := Lib.hid (is_faultOther n (a := E i) (b := E k) W HF.out.c1 (Hne.out i k hi (by omega) (Ne.symm hki)) (Hbk.out i hi) (Hbk.out k (by omega)))
      go_wp2_with fail
      refine His.out.mono ?_
      rintro e w' ⟨rfl, rfl⟩
      go_wp2
      go_round
      case rel => exact ⟨k + 1, by omega, by go_num, rfl⟩
      case measure => simp [intOf]; omega

set_option maxRecDepth 100000 in
set_option maxHeartbeats 2000000 in
theorem code_another (E : Nat → Addr) (x : Addr) (w : World) (hE : ErrEnv w E) (hx : Blk w x) (hxE : ∀ k, k < 12 → x ≠ E k) :
    Calls Tryz.prog 25 #[errV x] w fun e w' => e = .returned (.tuple #[.int .i64 (-1), .int .i64 (-1)]) ∧ Below w.heap.size w w' := by
  go_enter Tryz.func25, Tryz.ntmps25
  go_wp2_with fail
  refine (as_miss x ⟨w.heap.size, 0, none⟩ (.pointer none) _ ?_ ?_).mono ?_
  · exact (World.cell?_alloc_lt _ _ _ (lt_of_cell hE.hnd)).trans hE.hnd
  · simp
  rintro e w1 ⟨rfl, hb⟩
  simp only [World.size_alloc] at hb
  have hB : Below w.heap.size w w1 := ((Below.refl _ w).alloc (Nat.le_refl _) _).trans (hb.mono (by omega))
  have hE1 := hE.below hB (Nat.le_refl _)
  have hx1 := hx.below hB (Nat.le_refl _)
  have hsz := hB.size
  obtain ⟨d0, d1, d2, d3, d4, d5, d6, d7, d8, d9, d10, d11, _, hblk, hne⟩ := hE1
  have Hblk := Lib.hid hblk; clear hblk
  have Hx := Lib.hid hx1; clear hx1
  have HxE := Lib.hid hxE; clear hxE
  clear hE hb hne hx
  go_wp2
  clear d0 d1 d2 d3 d4 d5 d6 d7 d8 d9 d10 d11
  obtain ⟨W, hW⟩ : ∃ W, w1.alloc (.cells #[errV (E 0), errV (E 1), errV (E 2), errV (E 3), errV (E 4), errV (E 5), errV (E 6), errV (E 7), errV (E 8), errV (E 9), errV (E 10), errV (E 11)] 25) = W := ⟨_, rfl⟩
  rw [hW]
  have hcs : ∀ k, k < 12 → W.cell? ⟨w1.heap.size, k, none⟩ = some (errV (E k)) := fun k hk => by
    rw [← hW, World.cell?_alloc_at _ _ _ _ rfl]
    exact errCells_at E hk
  have hBW : Below w.heap.size w W := by rw [← hW]; exact hB.alloc hsz _
  have hxW : Blk W x := by rw [← hW]; exact Hx.out.below ((Below.refl w1.heap.size w1).alloc (Nat.le_refl _) _) (Nat.le_refl _)
  have hbk : ∀ k, k < 12 → Blk W (E k) := fun k hk => by
    rw [← hW]
    exact (Hblk.out k hk).below ((Below.refl w1.heap.size w1).alloc (Nat.le_refl _) _) (Nat.le_refl _)
  have Hcs := Lib.hid hcs; clear hcs
  have Hbk := Lib.hid hbk; clear hbk
  have HX := Lib.hid hxW; clear hxW
  clear hW hB Hblk Hx
  go_loop [30, 3] (fun vk va => ∃ k : Nat, k ≤ 12 ∧ vk = .int .i64 k ∧ va = .int .i64 (-1)) (fun k _ => 12 - (intOf k).toNat)
  case atStart => exact ⟨0, by omega, rfl, rfl⟩
  case round =>
    obtain ⟨k, hk, rfl, rfl⟩ := hrel
    have hk2 : k < 12 ∨ k = 12 := by omega
    rcases hk2 with hlt | rfl
    · have hck := Hcs.out k (by omega)
      have hk12 : (k : Int) < 12 := by omega
      have His := Lib.hid (is_other (a := x) (b := E k) W (HxE.out k hlt) HX.out (Hbk.out k (by omega)))
      go_wp2_with fail
      refine His.out.mono ?_
      rintro e w' ⟨rfl, rfl⟩
      go_wp2
      go_round
      case rel => exact ⟨k + 1, by omega, by go_num, rfl⟩
      case measure => simp [intOf]; omega
    · go_wp2
      go_ret2
      exact ⟨rfl, hBW⟩
theorem new_walk (s : ByteArray) (w : World) :
    Calls Tryz.prog 92 #[.string s] w fun e w' => e = .returned (errV ⟨w.heap.size, 0, none⟩) ∧ Below w.heap.size w w' ∧ Blk w' ⟨w.heap.size, 0, none⟩ := by
  go_enter Tryz.func92, Tryz.ntmps92
  go_wp2
  go_ret
  exact ⟨rfl, (Below.refl _ _).alloc (Nat.le_refl _) _, ⟨#[.string s], 173, by show (w.heap.push _)[w.heap.size]? = _; simp⟩⟩
end Go.Proofs.YthdicfcgkbepdaaGreatDoor
