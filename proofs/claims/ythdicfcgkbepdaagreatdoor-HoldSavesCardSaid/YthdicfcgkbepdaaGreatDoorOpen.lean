/- The walks of sums.Open and of the document's Open. -/
import Derived.Test.YthdicfcgkbepdaaGreatDoorSums
import Derived.Deep.QuietTactic
import Derived.BigQuiet
import Derived.Deep.RegionWith
namespace Go.Proofs.YthdicfcgkbepdaaGreatDoor
open Go.RowKit

theorem crc_lt (s : ByteArray) : Sm.crc (Sm.nats s) < 4294967296 := Sm.xor_lt32 (Sm.crcN_lt (Sm.nats_lt s) _) (by decide)
/-- four bytes as a text. -/
def fourS (n : Nat) : ByteArray := ⟨(fourL n).toArray⟩
/-- the text without its last four bytes; these. -/
def bodyOf (s : ByteArray) : ByteArray := s.extract 0 (s.size - 4)
def tailOf (s : ByteArray) : ByteArray := s.extract (s.size - 4) s.size

theorem toList_inj {a b : ByteArray} (h : a.toList = b.toList) : a = b := by
  rw [ByteArray.toList_eq, ByteArray.toList_eq] at h
  obtain ⟨a⟩ := a
  obtain ⟨b⟩ := b
  exact congrArg ByteArray.mk (Array.toList_inj.1 h)
theorem ne_list {a b : ByteArray} (h : a ≠ b) : (a.toList == b.toList) = false := by
  rw [beq_eq_false_iff_ne]; exact fun e => h (toList_inj e)
theorem drew_below {W : World} : Below W.heap.size W W.drew := (Below.refl _ _).drew
set_option maxHeartbeats 1000000 in
theorem open_short (s : ByteArray) (w : World) (ez : Value) (hs : s.size < 4) (hz : w.cell? ⟨0, 0, none⟩ = some ez) :
    Calls Tryz.prog 19 #[.string s] w fun e w' => e = .returned (.tuple #[.string ⟨#[]⟩, ez]) ∧ Below w.heap.size w w' := by
  go_enter Tryz.func19, Tryz.ntmps19
  go_wp2
  go_quiet (fail)
  go_wp2
  go_ret2
  exact ⟨rfl, rfl, rfl, rfl, Nat.le_refl _, fun _ _ => rfl⟩

set_option maxRecDepth 100000 in
set_option maxHeartbeats 2000000 in
theorem open_sum (s : ByteArray) (w : World) (ez : Value) (hs : 4 ≤ s.size) (hs2 : s.size ≤ 140737488351232) (hz : w.cell? ⟨6, 0, none⟩ = some ez) (hne : fourS (Sm.crc (Sm.nats (bodyOf s))) ≠ tailOf s) :
    Calls Tryz.prog 19 #[.string s] w fun e w' => e = .returned (.tuple #[.string ⟨#[]⟩, ez]) ∧ Below w.heap.size w w' := by
  have ht : ((s.size : Int) - 4).toNat = s.size - 4 := by omega
  have hc : ∀ W, Calls Tryz.prog 24 #[.string (s.extract 0 (s.size - 4))] W fun e w' => e = .returned (.int .u32 (Sm.crc (Sm.nats (bodyOf s)) : Nat)) ∧ W = w' := fun W => crc_walk _ W (by simp [maxLen]; omega)
  have hf : ∀ W, Calls Tryz.prog 23 #[.int .u32 (Sm.crc (Sm.nats (bodyOf s)) : Nat)] W fun e w' => e = .returned (.string (fourS (Sm.crc (Sm.nats (bodyOf s))))) ∧ Below W.heap.size W w' := fun W => four_walk _ W (crc_lt _)
  have hlt := crc_lt (bodyOf s)
  generalize fourS (Sm.crc (Sm.nats (bodyOf s))) = f at hne hf
  generalize Sm.crc (Sm.nats (bodyOf s)) = c at hc hf hlt
  unfold tailOf at hne
  have hb1 := ne_list hne
  have Hc := Lib.hid hc
  have Hf := Lib.hid hf
  clear hc hf hne
  go_enter Tryz.func19, Tryz.ntmps19
  go_wp2
  go_region_with (first | (go_at_call 24; refine (Hc.out _).mono ?_; rintro e w' ⟨rfl, rfl⟩) | (go_at_call 23; refine (Hf.out _).mono ?_; rintro e w1 ⟨rfl, hb⟩))
  all_goals
    have hz2 : w1.cell? ⟨6, 0, none⟩ = some ez := by
      refine (hb.cell ?_).trans hz
      rcases Nat.lt_or_ge 6 w.heap.size with h | h
      · exact h
      · simp [World.cell?, Array.getElem?_eq_none h] at hz
    go_wp2
    go_quiet (fail)
    go_wp2
    go_ret2
    exact ⟨rfl, hb.os, hb.tape, hb.output, hb.size, hb.block⟩
set_option maxRecDepth 100000 in
set_option maxHeartbeats 2000000 in
theorem open_ok (s : ByteArray) (w : World) (hs : 4 ≤ s.size) (hs2 : s.size ≤ 140737488351232) (hne : fourS (Sm.crc (Sm.nats (bodyOf s))) = tailOf s) :
    Calls Tryz.prog 19 #[.string s] w fun e w' => e = .returned (.tuple #[.string (bodyOf s), .nilIface]) ∧ Below w.heap.size w w' := by
  have ht : ((s.size : Int) - 4).toNat = s.size - 4 := by omega
  have hc : ∀ W, Calls Tryz.prog 24 #[.string (s.extract 0 (s.size - 4))] W fun e w' => e = .returned (.int .u32 (Sm.crc (Sm.nats (bodyOf s)) : Nat)) ∧ W = w' := fun W => crc_walk _ W (by simp [maxLen]; omega)
  have hf : ∀ W, Calls Tryz.prog 23 #[.int .u32 (Sm.crc (Sm.nats (bodyOf s)) : Nat)] W fun e w' => e = .returned (.string (fourS (Sm.crc (Sm.nats (bodyOf s))))) ∧ Below W.heap.size W w' := fun W => four_walk _ W (crc_lt _)
  have hlt := crc_lt (bodyOf s)
  generalize fourS (Sm.crc (Sm.nats (bodyOf s))) = f at hne hf
  generalize Sm.crc (Sm.nats (bodyOf s)) = c at hc hf hlt
  unfold tailOf at hne
  have hb1 : (f.toList == (s.extract (s.size - 4) s.size).toList) = true := by rw [hne]; simp
  have Hc := Lib.hid hc
  have Hf := Lib.hid hf
  clear hc hf hne
  go_enter Tryz.func19, Tryz.ntmps19
  go_wp2
  go_region_with (first | (go_at_call 24; refine (Hc.out _).mono ?_; rintro e w' ⟨rfl, rfl⟩) | (go_at_call 23; refine (Hf.out _).mono ?_; rintro e w1 ⟨rfl, hb⟩))
  all_goals
    go_wp2
    go_ret2
    exact ⟨rfl, hb.os, hb.tape, hb.output, hb.size, hb.block⟩

theorem slice_tail (s : ByteArray) (W : World) (hs : 4 ≤ s.size) : (Instr.slice 9 (.string s) (some (.int .i64 ((s.size : Int) - 4))) none none).run Tryz.prog W = .ok (.string (s.extract (s.size - 4) s.size)) W := by
  have h := run_slice_string_from_if (P := Tryz.prog) (w := W) 9 s .i64 ((s.size : Int) - 4) Tryz.underlying9
  rw [if_pos (by omega)] at h
  have e : ((s.size : Int) - 4).toNat = s.size - 4 := by omega
  rw [e] at h
  exact h
/-! ### the document's -/
end Go.Proofs.YthdicfcgkbepdaaGreatDoor
