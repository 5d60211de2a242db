/- Rows of one's own that are written in place: the walks of matrix.scale and matrix.add. -/
import Derived.Test.YtabboioamdphmaaGreatDoorSCarryHears02
import Derived.Test.YtabboioamdphmaaGreatDoorSCarryHears01
import Derived.Test.YtabboioamdphmaaGreatDoorSCarryHears04
import Derived.Deep.QuietTactic
import Derived.BigQuiet
import Derived.Deep.RegionWith
import Derived.Deep.RegionHeld
namespace Go.Proofs.YtabboioamdphmaaGreatDoor
open Go.RowKit

structure OnlyB (b : Nat) (w w' : World) : Prop where
  os : w'.os = w.os
  tape : w'.tape = w.tape
  output : w'.output = w.output
  size : w'.heap.size = w.heap.size
  block : ∀ k, k ≠ b → w'.heap[k]? = w.heap[k]?
theorem OnlyB.refl (b : Nat) (w : World) : OnlyB b w w := ⟨rfl, rfl, rfl, rfl, fun _ _ => rfl⟩
theorem OnlyB.trans {b : Nat} {u v w : World} (h : OnlyB b u v) (h' : OnlyB b v w) : OnlyB b u w :=
  ⟨h'.os.trans h.os, h'.tape.trans h.tape, h'.output.trans h.output, h'.size.trans h.size, fun k hk => (h'.block k hk).trans (h.block k hk)⟩
theorem OnlyB.drewN (b : Nat) (w : World) (n : Nat) : OnlyB b w (w.drewN n) := ⟨rfl, rfl, rfl, rfl, fun _ _ => rfl⟩
theorem OnlyB.setCell (b o : Nat) (w : World) (v : Value) : OnlyB b w (w.setCell ⟨b, o, none⟩ v) :=
  ⟨rfl, rfl, rfl, by simp [World.setCell], fun k hk => Below.heap_setCell _ _ _ _ hk⟩
theorem OnlyB.cell {b : Nat} {w w' : World} (h : OnlyB b w w') {p : Addr} (hp : p.block ≠ b) : w'.cell? p = w.cell? p := by
  unfold World.cell?; rw [h.block _ hp]
theorem OnlyB.frozen {b : Nat} {w w' : World} (h : OnlyB b w w') {p : Addr} (hp : p.block ≠ b) : w'.frozen? p = w.frozen? p := by
  unfold World.frozen?; rw [h.block _ hp]
theorem OnlyB.below {n b : Nat} {w w' : World} (h : OnlyB b w w') (hb : n ≤ b) : Below n w w' :=
  ⟨h.os, h.tape, h.output, Nat.le_of_eq h.size.symm, fun k hk => h.block k (by omega)⟩

structure RowV (w : World) (b C : Nat) (f : Nat → Nat) : Prop where
  cell : ∀ j, j < C → w.cell? ⟨b, j, none⟩ = some (.int .u8 (f j : Nat))
  free : ∀ j, j < C → w.frozen? ⟨b, j, none⟩ = false
theorem RowV.other {b d C : Nat} {w w' : World} {f : Nat → Nat} (h : OnlyB b w w') (hd : d ≠ b) (hr : RowV w d C f) : RowV w' d C f :=
  ⟨fun j hj => (h.cell (p := ⟨d, j, none⟩) hd).trans (hr.cell j hj), fun j hj => (h.frozen (p := ⟨d, j, none⟩) hd).trans (hr.free j hj)⟩
theorem RowV.congr {b C : Nat} {w : World} {f g : Nat → Nat} (h : ∀ j, j < C → f j = g j) (hr : RowV w b C f) : RowV w b C g :=
  ⟨fun j hj => by rw [← h j hj]; exact hr.cell j hj, hr.free⟩
theorem RowV.set {b C k x : Nat} {w : World} {f : Nat → Nat} (hk : k < C) (hr : RowV w b C f) : RowV (w.setCell ⟨b, k, none⟩ (.int .u8 (x : Nat))) b C (Mx.upd f k x) := by
  refine ⟨fun j hj => ?_, fun j hj => by rw [World.frozen?_setCell]; exact hr.free j hj⟩
  unfold Mx.upd
  by_cases e : j = k
  · subst e; rw [World.cell?_setCell_same _ _ _ (hr.cell j hj), if_pos rfl]
  · have hne : (⟨b, k, none⟩ : Addr) ≠ ⟨b, j, none⟩ := by
      intro he
      exact e (Addr.mk.inj he).2.1.symm
    rw [World.cell?_setCell_other _ _ _ _ hne, if_neg e]; exact hr.cell j hj
theorem RowV.drewN {b C : Nat} {w : World} {f : Nat → Nat} (n : Nat) (hr : RowV w b C f) : RowV (w.drewN n) b C f := ⟨hr.cell, hr.free⟩

def firstK (k : Nat) (g f : Nat → Nat) : Nat → Nat := fun j => if j < k then g j else f j

set_option maxRecDepth 100000 in
set_option maxHeartbeats 1000000 in
theorem scale_walk (b C cap x : Nat) (f : Nat → Nat) (w : World) (hf : Mx.By f) (hx : x < 256) (hC : C ≤ maxLen) (hr : RowV w b C f) :
    Calls Tryz.prog 139 #[.slice (some ⟨b, 0, none⟩) C cap, .int .u8 x] w fun e w' => e = .returned (.tuple #[]) ∧ OnlyB b w w' ∧ RowV w' b C (fun j => Gf.mul (f j) x) := by
  have hm : C ≤ 9223372036854775807 := hC
  go_enter Tryz.func139, Tryz.ntmps139
  go_wp2
  go_loopw [7] (fun vi wr => ∃ k : Nat, k ≤ C ∧ vi = .int .i64 k ∧ Hid (OnlyB b w wr) ∧ Hid (RowV wr b C (firstK k (fun j => Gf.mul (f j) x) f))) (fun i _ => C - (intOf i).toNat)
  case atStart => exact ⟨0, by omega, rfl, Lib.hid (OnlyB.refl _ _), Lib.hid (hr.congr fun j _ => by unfold firstK; rw [if_neg (by omega)])⟩
  case round =>
    obtain ⟨k, hk, rfl, Ho, Hr⟩ := hrel
    have hk2 : k < C ∨ k = C := by omega
    rcases hk2 with hlt | rfl
    · have hlt2 : (k : Int) < C := by omega
      have hcell : wr.cell? ⟨b, k, none⟩ = some (.int .u8 (f k : Nat)) := by
        have := Hr.out.cell k hlt
        unfold firstK at this; rwa [if_neg (by omega)] at this
      have hfr := Hr.out.free k hlt
      have hw := fun W => mul_walk (f k) x W (hf k) hx
      have Hw := Lib.hid hw; clear hw
      obtain ⟨c, hc⟩ : ∃ c, f k = c := ⟨_, rfl⟩
      obtain ⟨y, hy⟩ : ∃ y, Gf.mul (f k) x = y := ⟨_, rfl⟩
      rw [hc] at hcell
      rw [hy, hc] at Hw
      have Hy := Lib.hid hy; clear hy hc
      have hy2 : y < 256 := by rw [← Hy.out]; exact Gf.mul_lt _ (hf k)
      go_wp2_with fail
      refine (Hw.out _).mono ?_
      rintro e w' ⟨rfl, rfl⟩
      go_wp2
      go_round
      case rel =>
        refine ⟨k + 1, by omega, by go_num, Lib.hid (Ho.out.trans (OnlyB.setCell _ _ _ _)), Lib.hid ((Hr.out.set (x := y) hlt).congr fun j hj => ?_)⟩
        unfold Mx.upd firstK
        by_cases e : j = k
        · subst e; rw [if_pos rfl, if_pos (by omega)]; exact Hy.out.symm
        · rw [if_neg e]
          by_cases e2 : j < k
          · rw [if_pos e2, if_pos (by omega)]
          · rw [if_neg e2, if_neg (by omega)]
      case measure => simp [intOf]; omega
    · go_wp2
      go_end0
      exact ⟨rfl, Ho.out, Hr.out.congr fun j hj => by unfold firstK; rw [if_pos hj]⟩
set_option maxRecDepth 100000 in
set_option maxHeartbeats 2000000 in
theorem add_walk_rows (b d C cap cap' x : Nat) (f g : Nat → Nat) (w : World) (hf : Mx.By f) (hg : Mx.By g) (hx : x < 256) (hC : C ≤ maxLen) (hbd : d ≠ b) (hr : RowV w b C f) (hs : RowV w d C g) :
    Calls Tryz.prog 140 #[.slice (some ⟨b, 0, none⟩) C cap, .slice (some ⟨d, 0, none⟩) C cap', .int .u8 x] w fun e w' => e = .returned (.tuple #[]) ∧ OnlyB b w w' ∧ RowV w' b C (fun j => f j ^^^ Gf.mul (g j) x) := by
  have hm : C ≤ 9223372036854775807 := hC
  go_enter Tryz.func140, Tryz.ntmps140
  go_wp2
  go_loopw [9] (fun vi wr => ∃ k : Nat, k ≤ C ∧ vi = .int .i64 k ∧ Hid (OnlyB b w wr) ∧ Hid (RowV wr b C (firstK k (fun j => f j ^^^ Gf.mul (g j) x) f))) (fun i _ => C - (intOf i).toNat)
  case atStart => exact ⟨0, by omega, rfl, Lib.hid (OnlyB.refl _ _), Lib.hid (hr.congr fun j _ => by unfold firstK; rw [if_neg (by omega)])⟩
  case round =>
    obtain ⟨k, hk, rfl, Ho, Hr⟩ := hrel
    have hk2 : k < C ∨ k = C := by omega
    rcases hk2 with hlt | rfl
    · have hlt2 : (k : Int) < C := by omega
      have hcell : wr.cell? ⟨b, k, none⟩ = some (.int .u8 (f k : Nat)) := by
        have := Hr.out.cell k hlt
        unfold firstK at this; rwa [if_neg (by omega)] at this
      have hcell2 : wr.cell? ⟨d, k, none⟩ = some (.int .u8 (g k : Nat)) := (Ho.out.cell (p := ⟨d, k, none⟩) hbd).trans (hs.cell k hlt)
      have hfr := Hr.out.free k hlt
      have hw := fun W => mul_walk (g k) x W (hg k) hx
      have Hw := Lib.hid hw; clear hw
      have hc1 := hf k
      obtain ⟨c, hc⟩ : ∃ c, f k = c := ⟨_, rfl⟩
      obtain ⟨c2, hc2⟩ : ∃ c, g k = c := ⟨_, rfl⟩
      obtain ⟨y, hy⟩ : ∃ y, Gf.mul (g k) x = y := ⟨_, rfl⟩
      have hy2 : y < 256 := by rw [← hy]; exact Gf.mul_lt _ (hg k)
      have hz : bits .xor .u8 (c : Int) (y : Int) = ((f k ^^^ Gf.mul (g k) x : Nat) : Int) := by
        rw [u8_xor_nat _ _ (by omega) hy2, hc, hy]
      rw [hc] at hcell hc1
      rw [hc2] at hcell2
      rw [hy, hc2] at Hw
      have Hz := Lib.hid hz; clear hz hy hc hc2
      go_wp2
      go_region_with (first | (go_at_call 126; refine (Hw.out _).mono ?_; rintro e w' ⟨rfl, rfl⟩))
      all_goals
        go_wp2
        go_round
        case rel =>
          refine ⟨k + 1, by omega, by go_num, Lib.hid ((Ho.out.trans (OnlyB.setCell _ _ _ _)).trans (OnlyB.drewN _ _ 1)), Lib.hid (RowV.drewN 1 ?_)⟩
          rw [Hz.out]
          refine (Hr.out.set (x := f k ^^^ Gf.mul (g k) x) hlt).congr fun j hj => ?_
          unfold Mx.upd firstK
          by_cases e : j = k
          · subst e; rw [if_pos rfl, if_pos (by omega)]
          · rw [if_neg e]
            by_cases e2 : j < k
            · rw [if_pos e2, if_pos (by omega)]
            · rw [if_neg e2, if_neg (by omega)]
        case measure => simp [intOf]; omega
    · go_wp2
      go_end0
      exact ⟨rfl, Ho.out, Hr.out.congr fun j hj => by unfold firstK; rw [if_pos hj]⟩
end Go.Proofs.YtabboioamdphmaaGreatDoor
/- The walks of matrix.reduced's search: slices.IndexFunc and its function. -/
namespace Go.Proofs.YtabboioamdphmaaGreatDoor
open Go.RowKit

set_option maxRecDepth 100000 in
theorem pred_walk (b C cap c x : Nat) (box : Addr) (w : World) (hc : c < C) (hC : C ≤ maxLen) (hb : w.cell? box = some (.int .i64 c)) (hr : w.cell? ⟨b, c, none⟩ = some (.int .u8 (x : Nat))) :
    Calls Tryz.prog 137 #[.slice (some ⟨b, 0, none⟩) C cap, .pointer (some box)] w fun e w' => e = .returned (.bool (decide (x ≠ 0))) ∧ w = w' := by
  have hm : C ≤ 9223372036854775807 := hC
  have hlt : (c : Int) < C := by omega
  by_cases hx : x = 0
  · subst hx
    go_enter Tryz.func137, Tryz.ntmps137
    go_wp2
    go_ret
    exact ⟨rfl, rfl⟩
  · have hx0 : ((x : Int) == 0) = false := by simp; omega
    go_enter Tryz.func137, Tryz.ntmps137
    go_wp2
    go_ret
    exact ⟨by simp [hx], rfl⟩
set_option maxRecDepth 100000 in
set_option maxHeartbeats 1000000 in
theorem find_walk (g off m cap C c : Nat) (bs caps f : Nat → Nat) (box : Addr) (w : World) (hm : m ≤ maxLen) (hc : c < C) (hC : C ≤ maxLen) (hb : w.cell? box = some (.int .i64 c))
    (hh : ∀ j, j < m → w.cell? ⟨g, off + j, none⟩ = some (.slice (some ⟨bs j, 0, none⟩) C (caps j))) (hr : ∀ j, j < m → w.cell? ⟨bs j, c, none⟩ = some (.int .u8 (f j : Nat))) :
    Calls Tryz.prog 136 #[.slice (some ⟨g, off, none⟩) m cap, .func (.func 137) #[] #[.pointer (some box)]] w
      fun e w' => (((∀ j, j < m → f j = 0) ∧ e = .returned (.int .i64 (-1))) ∨ ∃ k, k < m ∧ f k ≠ 0 ∧ e = .returned (.int .i64 (k : Nat))) ∧ w = w' := by
  have hm' : m ≤ 9223372036854775807 := hm
  have Hh := Lib.hid hh; clear hh
  have Hr := Lib.hid hr; clear hr
  go_enter Tryz.func136, Tryz.ntmps136
  go_wp2
  go_loop [8] (fun vi => ∃ k : Nat, k ≤ m ∧ vi = .int .i64 k ∧ ∀ j, j < k → f j = 0) (fun i => m - (intOf i).toNat)
  case atStart => exact ⟨0, by omega, rfl, fun j hj => by omega⟩
  case round =>
    obtain ⟨k, hk, rfl, hz⟩ := hrel
    have Hz := Lib.hid hz; clear hz
    have hk2 : k < m ∨ k = m := by omega
    rcases hk2 with hlt | rfl
    · have hlt2 : (k : Int) < m := by omega
      have h1 := Hh.out k hlt
      have Hp := Lib.hid (pred_walk (bs k) C (caps k) c (f k) box w hc hC hb (Hr.out k hlt))
      by_cases hx : f k = 0
      · have e1 : decide (f k ≠ 0) = false := by simp [hx]
        rw [e1] at Hp
        go_wp2_with (go_at_call 137; refine Hp.out.mono ?_; rintro e w' ⟨rfl, rfl⟩)
        go_round
        case rel => exact ⟨k + 1, by omega, by go_num, fun j hj => by
          by_cases e : j = k
          · rw [e, hx]
          · exact Hz.out j (by omega)⟩
        case measure => simp [intOf]; omega
      · have e1 : decide (f k ≠ 0) = true := by simp [hx]
        rw [e1] at Hp
        go_wp2_with (go_at_call 137; refine Hp.out.mono ?_; rintro e w' ⟨rfl, rfl⟩)
        go_ret
        exact ⟨.inr ⟨k, hlt, hx, rfl⟩, rfl⟩
    · go_wp2
      go_ret
      exact ⟨.inl ⟨Hz.out, rfl⟩, rfl⟩
end Go.Proofs.YtabboioamdphmaaGreatDoor
