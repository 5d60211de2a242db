/- The walks of sums.CRC, sums.Hash, sums.Four and of the document's. -/
import Derived.Test.YthdicfcgkbepdaaGreatDoorProg
import Derived.Test.YthdicfcgkbepdaaGreatDoorFieldA
import Derived.Laws.BitsAllLaws
namespace Go.Proofs.YthdicfcgkbepdaaGreatDoor
open Go.RowKit

namespace Sm
/-- the bytes of a text. -/
def nats (s : ByteArray) : List Nat := s.data.toList.map UInt8.toNat
theorem nats_length (s : ByteArray) : (nats s).length = s.size := by simp [nats]
theorem nats_at {s : ByteArray} {k : Nat} (h : k < s.size) : (nats s)[k]?.getD 0 = s[k].toNat := by
  have h' : k < s.data.toList.length := by simpa using h
  simp only [nats, List.getElem?_map, List.getElem?_eq_getElem h']
  rfl
/-- one bit. -/
def cstep (c : Nat) : Nat := (c / 2) ^^^ (3988292384 * (c % 2))
def cstepN : Nat → Nat → Nat
  | 0, c => c
  | n + 1, c => cstepN n (cstep c)
def crcN (l : List Nat) : Nat → Nat
  | 0 => 4294967295
  | k + 1 => cstepN 8 (crcN l k ^^^ l[k]?.getD 0)
def crc (l : List Nat) : Nat := crcN l l.length ^^^ 4294967295
theorem xor_lt32 {a b : Nat} (ha : a < 4294967296) (hb : b < 4294967296) : a ^^^ b < 4294967296 := Nat.xor_lt_two_pow (n := 32) ha hb
theorem cstep_lt {c : Nat} (h : c < 4294967296) : cstep c < 4294967296 := by
  unfold cstep
  exact xor_lt32 (by omega) (by omega)
theorem cstepN_lt : ∀ (n : Nat) {c : Nat}, c < 4294967296 → cstepN n c < 4294967296
  | 0, _, h => h
  | n + 1, _, h => cstepN_lt n (cstep_lt h)
theorem crcN_lt {l : List Nat} (hl : ∀ j : Nat, l[j]?.getD 0 < 256) : ∀ k, crcN l k < 4294967296
  | 0 => (by decide : 4294967295 < 4294967296)
  | k + 1 => cstepN_lt 8 (xor_lt32 (crcN_lt hl k) (Nat.lt_trans (hl k) (by decide)))
theorem nats_lt (s : ByteArray) (j : Nat) : (nats s)[j]?.getD 0 < 256 := by
  by_cases h : j < (nats s).length
  · rw [nats_at (by rwa [nats_length] at h)]
    exact UInt8.toNat_lt _
  · rw [List.getElem?_eq_none (by omega)]; decide
end Sm

set_option maxHeartbeats 1000000 in
theorem crc_walk (s : ByteArray) (w : World) (hs : s.size ≤ maxLen) :
    Calls Tryz.prog 24 #[.string s] w fun e w' => e = .returned (.int .u32 (Sm.crc (Sm.nats s) : Nat)) ∧ w = w' := by
  unfold maxLen at hs
  go_enter Tryz.func24, Tryz.ntmps24
  go_wp2
  go_loop [7, 3] (fun vi vc => ∃ k : Nat, k ≤ s.size ∧ vi = .int .i64 k ∧ vc = .int .u32 (Sm.crcN (Sm.nats s) k : Nat)) (fun i _ => s.size - (intOf i).toNat)
  case atStart => exact ⟨0, by omega, rfl, rfl⟩
  case round =>
    obtain ⟨k, hk, rfl, rfl⟩ := hrel
    have hc := Sm.crcN_lt (Sm.nats_lt s) k
    by_cases hlt : k < s.size
    · have hn := Sm.nats_at hlt
      have hb := UInt8.toNat_lt s[k]
      have hs2 : Sm.crcN (Sm.nats s) (k + 1) = Sm.cstepN 8 (Sm.crcN (Sm.nats s) k ^^^ s[k].toNat) := by rw [← hn]; rfl
      have Hs := Lib.hid hs2; clear hs2 hn
      generalize Sm.crcN (Sm.nats s) k = c at hc Hs
      go_wp2
      go_loop [16, 3] (fun vi vc => ∃ i d : Nat, i ≤ 8 ∧ vi = .int .i64 i ∧ vc = .int .u32 (d : Int) ∧ d < 4294967296 ∧ Sm.cstepN (8 - i) d = Sm.cstepN 8 (c ^^^ s[k].toNat)) (fun i _ => 8 - (intOf i).toNat)
      case atStart => exact ⟨0, c ^^^ s[k].toNat, by omega, rfl, by rw [u32_xor_nat _ _ hc (by omega)], Sm.xor_lt32 hc (by omega), rfl⟩
      case round =>
        obtain ⟨i, d, hi, rfl, rfl, hd, hm⟩ := hrel
        have Hm := Lib.hid hm; clear hm
        by_cases hlt8 : i < 8
        · have e1 : bits .and .u32 (d : Int) 1 = ((d % 2 : Nat) : Int) := by
            rw [show (1 : Int) = ((1 : Nat) : Int) from rfl, u32_and_nat _ _ hd (by omega), nat_mask1]
          have e8 : 8 - i = (8 - (i + 1)) + 1 := by omega
          have E8 := Lib.hid e8; clear e8
          go_wp2
          go_round
          case rel => exact ⟨i + 1, Sm.cstep d, by omega, by go_num, by
            have e3 : (d : Int) / 2 = ((d / 2 : Nat) : Int) := by omega
            have e4 : (3988292384 : Int) * ((d : Int) % 2) = ((3988292384 * (d % 2) : Nat) : Int) := by omega
            rw [e3, e4, u32_xor_nat _ _ (by omega) (by omega)]; rfl, Sm.cstep_lt hd, by rw [← Hm.out, E8.out]; rfl⟩
          case measure => simp [intOf]; omega
        · obtain rfl : i = 8 := by omega
          go_wp2
          go_round
          case rel => exact ⟨k + 1, by omega, by go_num, by rw [Hs.out, ← Hm.out]; rfl⟩
          case measure => simp [intOf]; omega
    · go_wp2
      go_ret
      obtain rfl : k = s.size := by omega
      refine ⟨ret_int ?_, rfl⟩
      have em : IntKind.u32.max = ((4294967295 : Nat) : Int) := by decide
      rw [em, u32_xor_nat _ _ (by decide) hc, Nat.xor_comm]
      unfold Sm.crc
      rw [Sm.nats_length]

/-- four bytes of a number, the highest first. -/
def fourL (n : Nat) : List UInt8 := [UInt8.ofNat (n / 16777216), UInt8.ofNat (n / 65536 % 256), UInt8.ofNat (n / 256 % 256), UInt8.ofNat (n % 256)]
theorem string_of_four (n : Nat) (hn : n < 4294967296) (w : World) :
    (convert 53 9 (.slice (some ⟨w.heap.size, 0, none⟩) 4 4)).run Tryz.prog (w.alloc (.cells #[.int .u8 ((n : Int) / 16777216), .int .u8 ((n : Int) / 65536 % 256), .int .u8 ((n : Int) / 256 % 256), .int .u8 ((n : Int) % 256)] 5))
      = .ok (.string ⟨(fourL n).toArray⟩) (w.alloc (.cells #[.int .u8 ((n : Int) / 16777216), .int .u8 ((n : Int) / 65536 % 256), .int .u8 ((n : Int) / 256 % 256), .int .u8 ((n : Int) % 256)] 5)) := by
  refine run_convert_bytes_back _ 53 9 5 ⟨w.heap.size, 0, none⟩ 4 (fourL n) Tryz.underlying53 Tryz.underlying5 Tryz.underlying9 (fun j hj => ?_)
  have hj4 : j < 4 := hj
  rw [Go.WideShapes.add_plain, Nat.zero_add, World.cell?_alloc_at _ _ _ _ rfl]
  rcases (show j = 0 ∨ j = 1 ∨ j = 2 ∨ j = 3 by omega) with rfl | rfl | rfl | rfl <;> simp [fourL] <;> omega
set_option maxRecDepth 100000 in
set_option maxHeartbeats 1000000 in
theorem four_walk (n : Nat) (w : World) (hn : n < 4294967296) :
    Calls Tryz.prog 23 #[.int .u32 n] w fun e w' => e = .returned (.string ⟨(fourL n).toArray⟩) ∧ Below w.heap.size w w' := by
  have hc := string_of_four n hn w
  go_enter Tryz.func23, Tryz.ntmps23
  go_wp2
  go_ret
  exact ⟨rfl, (Below.refl _ _).alloc (Nat.le_refl _) _⟩
theorem string_of_byte (x : Int) (hx : 0 ≤ x ∧ x < 256) (w : World) :
    (convert 53 9 (.slice (some ⟨w.heap.size, 0, none⟩) 1 1)).run Tryz.prog (w.alloc (.cells #[.int .u8 x] 5)) = .ok (.string ⟨#[UInt8.ofNat x.toNat]⟩) (w.alloc (.cells #[.int .u8 x] 5)) := by
  have h := run_convert_bytes_back (P := Tryz.prog) (w.alloc (.cells #[.int .u8 x] 5)) 53 9 5 ⟨w.heap.size, 0, none⟩ 1 [UInt8.ofNat x.toNat] Tryz.underlying53 Tryz.underlying5 Tryz.underlying9 (fun j hj => by
    have hj1 : j < 1 := hj
    obtain rfl : j = 0 := by omega
    rw [Go.WideShapes.add_plain, Nat.zero_add, World.cell?_alloc_at _ _ _ _ rfl]
    simp
    omega)
  exact h
theorem seal_walk (s : ByteArray) (w : World) (hs : s.size ≤ 140737488351232) :
    Calls Tryz.prog 7 #[.string s] w fun e w' => e = .returned (.string (s ++ ⟨(fourL (Sm.crc (Sm.nats s))).toArray⟩)) ∧ Below w.heap.size w w' := by
  have hc := Lib.hid (crc_walk s w (by unfold maxLen; omega))
  have hlt : Sm.crc (Sm.nats s) < 4294967296 := Sm.xor_lt32 (Sm.crcN_lt (Sm.nats_lt s) _) (by decide)
  generalize Sm.crc (Sm.nats s) = c at hc hlt
  have h4 : (fourL c).length ≤ 4 := Nat.le_refl 4
  go_enter Tryz.func7, Tryz.ntmps7
  go_wp2_with fail
  refine hc.out.mono ?_
  rintro e w' ⟨rfl, rfl⟩
  go_wp2_with fail
  refine (four_walk _ _ hlt).mono ?_
  rintro e w1 ⟨rfl, hb⟩
  go_wp2
  go_ret
  exact ⟨rfl, hb⟩

/-! ### the document's CRC; both Hash -/
namespace Sm
/-- one bit of the document's, b the byte, k the bit. -/
def rstep (b k c : Nat) : Nat := if (c ^^^ b / 2 ^ k) % 2 = 1 then (c / 2) ^^^ 3988292384 else c / 2
def rstepN (b : Nat) : Nat → Nat → Nat
  | 0, c => c
  | k + 1, c => rstep b k (rstepN b k c)
theorem rstep_lt {b k c : Nat} (h : c < 4294967296) : rstep b k c < 4294967296 := by
  unfold rstep
  split
  · exact xor_lt32 (by omega) (by decide)
  · omega
theorem rstepN_lt {b c : Nat} (h : c < 4294967296) : ∀ k, rstepN b k c < 4294967296
  | 0 => h
  | k + 1 => rstep_lt (rstepN_lt h k)
theorem cstepN_succ (n c : Nat) : cstepN (n + 1) c = cstep (cstepN n c) := by
  induction n generalizing c with
  | zero => rfl
  | succ n ih => exact ih (cstep c)
/-- the program puts the byte in at once, the document bit by bit. -/
theorem steps_eq (b c : Nat) : ∀ k, cstepN k (c ^^^ b) = rstepN b k c ^^^ b / 2 ^ k
  | 0 => by show c ^^^ b = c ^^^ b / 2 ^ 0; simp
  | k + 1 => by
    rw [cstepN_succ, steps_eq b c k]
    show cstep _ = rstep b k (rstepN b k c) ^^^ b / 2 ^ (k + 1)
    have e2 : b / 2 ^ (k + 1) = b / 2 ^ k / 2 := by rw [Nat.pow_succ, Nat.div_div_eq_div_mul]
    rw [e2]
    generalize rstepN b k c = r
    have er : rstep b k r = if (r ^^^ b / 2 ^ k) % 2 = 1 then (r / 2) ^^^ 3988292384 else r / 2 := rfl
    rw [er]
    generalize b / 2 ^ k = d
    unfold cstep
    rw [Gf.xor_div_two]
    rcases (show (r ^^^ d) % 2 = 0 ∨ (r ^^^ d) % 2 = 1 by omega) with h | h
    · rw [h, if_neg (by decide)]; simp
    · rw [h, if_pos rfl]
      show (r / 2 ^^^ d / 2) ^^^ 3988292384 = (r / 2 ^^^ 3988292384) ^^^ d / 2
      rw [Nat.xor_assoc, Nat.xor_comm (d / 2), ← Nat.xor_assoc]
theorem steps8 {b : Nat} (hb : b < 256) (c : Nat) : cstepN 8 (c ^^^ b) = rstepN b 8 c := by
  rw [steps_eq b c 8]
  have : b / 2 ^ 8 = 0 := by omega
  rw [this, Nat.xor_zero]
def hashN (l : List Nat) : Nat → Nat
  | 0 => 2166136261
  | k + 1 => (hashN l k ^^^ l[k]?.getD 0) * 16777619 % 4294967296
def hash (l : List Nat) : Nat := hashN l l.length
theorem hashN_lt (l : List Nat) : ∀ k, hashN l k < 4294967296
  | 0 => (by decide : 2166136261 < 4294967296)
  | k + 1 => Nat.mod_lt _ (by decide)
end Sm
theorem xor_i64_32 (a b : Nat) (ha : a < 4294967296) (hb : b < 4294967296) : bits .xor .i64 (a : Int) (b : Int) = ((a ^^^ b : Nat) : Int) := by
  have hx : a ^^^ b < 4294967296 := Sm.xor_lt32 ha hb
  have e : ∀ n : Nat, n < 4294967296 → (BitVec.ofInt 64 (n : Int)).toNat = n := fun n hn => by
    rw [BitVec.toNat_ofInt]; omega
  show IntKind.i64.wrap ((BitVec.ofInt 64 (a : Int) ^^^ BitVec.ofInt 64 (b : Int)).toNat : Nat) = _
  rw [BitVec.toNat_xor, e a ha, e b hb, IntKind.wrap_i64]
  omega

end Go.Proofs.YthdicfcgkbepdaaGreatDoor
