/- The walks of sums.CRC, sums.Hash, sums.Four and of the document's. -/
import Derived.Test.YtjgllhnecoibkaaGreatDoorProg
import Derived.Test.YtjgllhnecoibkaaGreatDoorFieldA
import Derived.Laws.BitsAllLaws
namespace Go.Proofs.YtjgllhnecoibkaaGreatDoor
open Go.RowKit

namespace Sm
/-- the bytes of a text. -/
def nats (s : ByteArray) : List Nat := s.data.toList.map UInt8.toNat
theorem nats_length (s : ByteArray) : (nats s).length = s.size := by simp [nats]
theorem nats_at {s : ByteArray} {k : Nat} (h : k < s.size) : (nats s)[k]?.getD 0 = s[k].toNat := by
  have h' : k < s.data.toList.length := by simpa using h
  simp only [nats, List.getElem?_map, List.getElem?_eq_getElem h']
  rfl
/-- one bit. -/
def cstep (c : Nat) : Nat := (c / 2) ^^^ (3988292384 * (c % 2))
def cstepN : Nat → Nat → Nat
  | 0, c => c
  | n + 1, c => cstepN n (cstep c)
def crcN (l : List Nat) : Nat → Nat
  | 0 => 4294967295
  | k + 1 => cstepN 8 (crcN l k ^^^ l[k]?.getD 0)
def crc (l : List Nat) : Nat := crcN l l.length ^^^ 4294967295
theorem xor_lt32 {a b : Nat} (ha : a < 4294967296) (hb : b < 4294967296) : a ^^^ b < 4294967296 := Nat.xor_lt_two_pow (n := 32) ha hb
theorem cstep_lt {c : Nat} (h : c < 4294967296) : cstep c < 4294967296 := by
  unfold cstep
  exact xor_lt32 (by omega) (by omega)
theorem cstepN_lt : ∀ (n : Nat) {c : Nat}, c < 4294967296 → cstepN n c < 4294967296
  | 0, _, h => h
  | n + 1, _, h => cstepN_lt n (cstep_lt h)
theorem crcN_lt {l : List Nat} (hl : ∀ j : Nat, l[j]?.getD 0 < 256) : ∀ k, crcN l k < 4294967296
  | 0 => (by decide : 4294967295 < 4294967296)
  | k + 1 => cstepN_lt 8 (xor_lt32 (crcN_lt hl k) (Nat.lt_trans (hl k) (by decide)))
theorem nats_lt (s : ByteArray) (j : Nat) : (nats s)[j]?.getD 0 < 256 := by
  by_cases h : j < (nats s).length
  · rw [nats_at (by rwa [nats_length] at h)]
    exact UInt8.toNat_lt _
  · rw [List.getElem?_eq_none (by omega)]; decide
end Sm

/-- four bytes of a number, the highest first. -/
def fourL (n : Nat) : List UInt8 := [UInt8.ofNat (n / 16777216), UInt8.ofNat (n / 65536 % 256), UInt8.ofNat (n / 256 % 256), UInt8.ofNat (n % 256)]
theorem string_of_four (n : Nat) (hn : n < 4294967296) (w : World) :
    (convert 113 9 (.slice (some ⟨w.heap.size, 0, none⟩) 4 4)).run Tryz.prog (w.alloc (.cells #[.int .u8 ((n : Int) / 16777216), .int .u8 ((n : Int) / 65536 % 256), .int .u8 ((n : Int) / 256 % 256), .int .u8 ((n : Int) % 256)] 5))
      = .ok (.string ⟨(fourL n).toArray⟩) (w.alloc (.cells #[.int .u8 ((n : Int) / 16777216), .int .u8 ((n : Int) / 65536 % 256), .int .u8 ((n : Int) / 256 % 256), .int .u8 ((n : Int) % 256)] 5)) := by
  refine run_convert_bytes_back _ 113 9 5 ⟨w.heap.size, 0, none⟩ 4 (fourL n) Tryz.underlying113 Tryz.underlying5 Tryz.underlying9 (fun j hj => ?_)
  have hj4 : j < 4 := hj
  rw [Go.WideShapes.add_plain, Nat.zero_add, World.cell?_alloc_at _ _ _ _ rfl]
  rcases (show j = 0 ∨ j = 1 ∨ j = 2 ∨ j = 3 by omega) with rfl | rfl | rfl | rfl <;> simp [fourL] <;> omega
theorem string_of_byte (x : Int) (hx : 0 ≤ x ∧ x < 256) (w : World) :
    (convert 113 9 (.slice (some ⟨w.heap.size, 0, none⟩) 1 1)).run Tryz.prog (w.alloc (.cells #[.int .u8 x] 5)) = .ok (.string ⟨#[UInt8.ofNat x.toNat]⟩) (w.alloc (.cells #[.int .u8 x] 5)) := by
  have h := run_convert_bytes_back (P := Tryz.prog) (w.alloc (.cells #[.int .u8 x] 5)) 113 9 5 ⟨w.heap.size, 0, none⟩ 1 [UInt8.ofNat x.toNat] Tryz.underlying113 Tryz.underlying5 Tryz.underlying9 (fun j hj => by
    have hj1 : j < 1 := hj
    obtain rfl : j = 0 := by omega
    rw [Go.WideShapes.add_plain, Nat.zero_add, World.cell?_alloc_at _ _ _ _ rfl]
    simp
    omega)
  exact h
set_option maxRecDepth 100000 in
set_option maxHeartbeats 1000000 in
theorem rbyte_walk (n : Nat) (w : World) (_hn : n < 9223372036854775808) :
    Calls Tryz.prog 95 #[.int .i64 n] w fun e w' => e = .returned (.string ⟨#[UInt8.ofNat (n % 256)]⟩) ∧ Below w.heap.size w w' := by
  have hc := string_of_byte ((n : Int) % 256) (by omega) w
  have ht : ((n : Int) % 256).toNat = n % 256 := by omega
  go_enter Tryz.func95, Tryz.ntmps95
  go_wp2
  go_ret
  exact ⟨rfl, (Below.refl _ _).alloc (Nat.le_refl _) _⟩
/-! ### the document's CRC; both Hash -/
namespace Sm
/-- one bit of the document's, b the byte, k the bit. -/
def rstep (b k c : Nat) : Nat := if (c ^^^ b / 2 ^ k) % 2 = 1 then (c / 2) ^^^ 3988292384 else c / 2
def rstepN (b : Nat) : Nat → Nat → Nat
  | 0, c => c
  | k + 1, c => rstep b k (rstepN b k c)
theorem rstep_lt {b k c : Nat} (h : c < 4294967296) : rstep b k c < 4294967296 := by
  unfold rstep
  split
  · exact xor_lt32 (by omega) (by decide)
  · omega
theorem rstepN_lt {b c : Nat} (h : c < 4294967296) : ∀ k, rstepN b k c < 4294967296
  | 0 => h
  | k + 1 => rstep_lt (rstepN_lt h k)
theorem cstepN_succ (n c : Nat) : cstepN (n + 1) c = cstep (cstepN n c) := by
  induction n generalizing c with
  | zero => rfl
  | succ n ih => exact ih (cstep c)
/-- the program puts the byte in at once, the document bit by bit. -/
theorem steps_eq (b c : Nat) : ∀ k, cstepN k (c ^^^ b) = rstepN b k c ^^^ b / 2 ^ k
  | 0 => by show c ^^^ b = c ^^^ b / 2 ^ 0; simp
  | k + 1 => by
    rw [cstepN_succ, steps_eq b c k]
    show cstep _ = rstep b k (rstepN b k c) ^^^ b / 2 ^ (k + 1)
    have e2 : b / 2 ^ (k + 1) = b / 2 ^ k / 2 := by rw [Nat.pow_succ, Nat.div_div_eq_div_mul]
    rw [e2]
    generalize rstepN b k c = r
    have er : rstep b k r = if (r ^^^ b / 2 ^ k) % 2 = 1 then (r / 2) ^^^ 3988292384 else r / 2 := rfl
    rw [er]
    generalize b / 2 ^ k = d
    unfold cstep
    rw [Gf.xor_div_two]
    rcases (show (r ^^^ d) % 2 = 0 ∨ (r ^^^ d) % 2 = 1 by omega) with h | h
    · rw [h, if_neg (by decide)]; simp
    · rw [h, if_pos rfl]
      show (r / 2 ^^^ d / 2) ^^^ 3988292384 = (r / 2 ^^^ 3988292384) ^^^ d / 2
      rw [Nat.xor_assoc, Nat.xor_comm (d / 2), ← Nat.xor_assoc]
theorem steps8 {b : Nat} (hb : b < 256) (c : Nat) : cstepN 8 (c ^^^ b) = rstepN b 8 c := by
  rw [steps_eq b c 8]
  have : b / 2 ^ 8 = 0 := by omega
  rw [this, Nat.xor_zero]
def hashN (l : List Nat) : Nat → Nat
  | 0 => 2166136261
  | k + 1 => (hashN l k ^^^ l[k]?.getD 0) * 16777619 % 4294967296
def hash (l : List Nat) : Nat := hashN l l.length
theorem hashN_lt (l : List Nat) : ∀ k, hashN l k < 4294967296
  | 0 => (by decide : 2166136261 < 4294967296)
  | k + 1 => Nat.mod_lt _ (by decide)
end Sm
theorem xor_i64_32 (a b : Nat) (ha : a < 4294967296) (hb : b < 4294967296) : bits .xor .i64 (a : Int) (b : Int) = ((a ^^^ b : Nat) : Int) := by
  have hx : a ^^^ b < 4294967296 := Sm.xor_lt32 ha hb
  have e : ∀ n : Nat, n < 4294967296 → (BitVec.ofInt 64 (n : Int)).toNat = n := fun n hn => by
    rw [BitVec.toNat_ofInt]; omega
  show IntKind.i64.wrap ((BitVec.ofInt 64 (a : Int) ^^^ BitVec.ofInt 64 (b : Int)).toNat : Nat) = _
  rw [BitVec.toNat_xor, e a ha, e b hb, IntKind.wrap_i64]
  omega

set_option maxHeartbeats 1000000 in
theorem hash_walk (s : ByteArray) (w : World) (hs : s.size ≤ maxLen) :
    Calls Tryz.prog 35 #[.string s] w fun e w' => e = .returned (.int .u32 (Sm.hash (Sm.nats s) : Nat)) ∧ w = w' := by
  unfold maxLen at hs
  go_enter Tryz.func35, Tryz.ntmps35
  go_wp2
  go_loop [7, 3] (fun vi vc => ∃ k : Nat, k ≤ s.size ∧ vi = .int .i64 k ∧ vc = .int .u32 (Sm.hashN (Sm.nats s) k : Nat)) (fun i _ => s.size - (intOf i).toNat)
  case atStart => exact ⟨0, by omega, rfl, rfl⟩
  case round =>
    obtain ⟨k, hk, rfl, rfl⟩ := hrel
    have hc := Sm.hashN_lt (Sm.nats s) k
    by_cases hlt : k < s.size
    · have hn := Sm.nats_at hlt
      have hb := UInt8.toNat_lt s[k]
      have hs2 : Sm.hashN (Sm.nats s) (k + 1) = (Sm.hashN (Sm.nats s) k ^^^ s[k].toNat) * 16777619 % 4294967296 := by rw [← hn]; rfl
      have Hs := Lib.hid hs2; clear hs2 hn
      generalize Sm.hashN (Sm.nats s) k = c at hc Hs
      have e1 := u32_xor_nat c s[k].toNat hc (by omega)
      have Hx := Sm.xor_lt32 hc (show s[k].toNat < 4294967296 by omega)
      go_wp2
      go_round
      case rel => exact ⟨k + 1, by omega, by go_num, by
        rw [Hs.out]
        generalize c ^^^ s[k].toNat = x
        congr 1⟩
      case measure => simp [intOf]; omega
    · go_wp2
      go_ret
      obtain rfl : k = s.size := by omega
      exact ⟨ret_int (by unfold Sm.hash; rw [Sm.nats_length]), rfl⟩

set_option maxHeartbeats 1000000 in
theorem rhash_walk (s : ByteArray) (w : World) (hs : s.size ≤ maxLen) :
    Calls Tryz.prog 38 #[.string s] w fun e w' => e = .returned (.int .i64 (Sm.hash (Sm.nats s) : Nat)) ∧ w = w' := by
  unfold maxLen at hs
  go_enter Tryz.func38, Tryz.ntmps38
  go_wp2
  go_loop [4, 3] (fun vi vc => ∃ k : Nat, k ≤ s.size ∧ vi = .int .i64 k ∧ vc = .int .i64 (Sm.hashN (Sm.nats s) k : Nat)) (fun i _ => s.size - (intOf i).toNat)
  case atStart => exact ⟨0, by omega, rfl, rfl⟩
  case round =>
    obtain ⟨k, hk, rfl, rfl⟩ := hrel
    have hc := Sm.hashN_lt (Sm.nats s) k
    by_cases hlt : k < s.size
    · have hn := Sm.nats_at hlt
      have hb := UInt8.toNat_lt s[k]
      have hs2 : Sm.hashN (Sm.nats s) (k + 1) = (Sm.hashN (Sm.nats s) k ^^^ s[k].toNat) * 16777619 % 4294967296 := by rw [← hn]; rfl
      have Hs := Lib.hid hs2; clear hs2 hn
      generalize Sm.hashN (Sm.nats s) k = c at hc Hs
      have e1 := xor_i64_32 c s[k].toNat hc (by omega)
      have hx := Sm.xor_lt32 hc (show s[k].toNat < 4294967296 by omega)
      go_wp2
      go_round
      case rel => exact ⟨k + 1, by omega, by go_num, by
        rw [Hs.out]
        generalize c ^^^ s[k].toNat = x
        congr 1⟩
      case measure => simp [intOf]; omega
    · go_wp2
      go_ret
      obtain rfl : k = s.size := by omega
      exact ⟨ret_int (by unfold Sm.hash; rw [Sm.nats_length]), rfl⟩

end Go.Proofs.YtjgllhnecoibkaaGreatDoor
