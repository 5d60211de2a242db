/- The document's Wire. -/
import Derived.Test.YtgcnohejmofhkaaDoorWrM
namespace Go.Proofs.YtgcnohejmofhkaaDoor
section
open Go.RowKit Go.BigFrame

/-- the last i of a number's eight bytes. -/
def tailS (n i : Nat) : ByteArray := strOf ((nbytes (n : Int)).drop (8 - i))
theorem tailS_zero (n : Nat) : tailS n 0 = ⟨#[]⟩ := rfl
theorem tailS_full (n : Nat) : tailS n 8 = strOf (nbytes (n : Int)) := rfl
theorem strOf_append (a b : List Nat) : strOf a ++ strOf b = strOf (a ++ b) := by
  apply data_inj
  rw [append_list]
  unfold strOf
  simp
theorem tailS_succ (n : Nat) : ∀ i, i < 8 → ((⟨#[UInt8.ofNat (n / 256 ^ i % 256 % 256)]⟩ : ByteArray) ++ tailS n i) = tailS n (i + 1) := by
  intro i hi
  have e : (⟨#[UInt8.ofNat (n / 256 ^ i % 256 % 256)]⟩ : ByteArray) = strOf [nbyte (n : Int) i] := by
    rw [nbyte_nat, Nat.mod_mod, Nat.pow_mul]
    rfl
  rw [e]
  unfold tailS
  rw [strOf_append]
  congr 1
  have hc : i = 0 ∨ i = 1 ∨ i = 2 ∨ i = 3 ∨ i = 4 ∨ i = 5 ∨ i = 6 ∨ i = 7 := by omega
  rcases hc with rfl | rfl | rfl | rfl | rfl | rfl | rfl | rfl <;> rfl
theorem tailS_size (n i : Nat) : (tailS n i).size ≤ 8 := by
  unfold tailS
  rw [strOf_size, List.length_drop]
  show 8 - (8 - i) ≤ 8
  omega
set_option maxRecDepth 100000 in
set_option maxHeartbeats 4000000 in
theorem eight_walk (n : Nat) (w : World) (hn : n < 9223372036854775808) :
    Calls Tryd.prog 18 #[.int .i64 (n : Int)] w fun e w' => e = .returned (.string (strOf (nbytes (n : Int)))) ∧ Below w.heap.size w w' := by
  go_enter Tryd.func18, Tryd.ntmps18
  go_wp2
  go_loopw [0, 3, 4] (fun vn vo vi wr => ∃ i : Nat, i ≤ 8 ∧ vi = .int .i64 i ∧ vn = .int .i64 ((n / 256 ^ i : Nat) : Int) ∧ vo = .string (tailS n i) ∧ Hid (Below w.heap.size w wr)) (fun _ _ vi _ => 8 - (intOf vi).toNat)
  case atStart => exact ⟨0, by omega, rfl, by simp, rfl, Lib.hid (Below.refl _ _)⟩
  case round =>
    obtain ⟨i, hi, rfl, rfl, rfl, Hb⟩ := hrel
    have hi2 : i < 8 ∨ i = 8 := by omega
    rcases hi2 with hlt | rfl
    · have hlti : (i : Int) < 8 := by omega
      have hts := Lib.hid (tailS_succ n i hlt)
      have hpow : n / 256 ^ i / 256 = n / 256 ^ (i + 1) := by rw [Nat.div_div_eq_div_mul, Nat.pow_succ]
      have Hpow := Lib.hid hpow
      have hmn : n / 256 ^ i ≤ n := Nat.div_le_self _ _
      clear hpow
      obtain ⟨m, hm⟩ : ∃ m, n / 256 ^ i = m := ⟨_, rfl⟩
      rw [hm] at hts Hpow hmn ⊢
      have htz := tailS_size n i
      obtain ⟨t, ht⟩ : ∃ t, tailS n i = t := ⟨_, rfl⟩
      rw [ht] at hts htz ⊢
      clear hm ht
      obtain ⟨q, hq⟩ : ∃ q : Nat, (m : Int) % 256 = (q : Int) := ⟨m % 256, by omega⟩
      obtain ⟨d, hd⟩ : ∃ d : Nat, (m : Int) / 256 = (d : Int) := ⟨m / 256, by omega⟩
      have HQ := Lib.hid (show q = m % 256 by omega)
      have HD := Lib.hid (show d = m / 256 by omega)
      have hq2 : q < 256 := by omega
      have hm0 : (0 : Int) ≤ m := by omega
      go_wp2_with fail
      refine (rbyte_walk q _ (by omega)).mono ?_
      rintro e w1 ⟨rfl, hb⟩
      have HB := Lib.hid (Hb.out.trans (hb.mono Hb.out.size))
      clear hb
      go_wp2
      go_roundw
      case rel => exact ⟨i + 1, by omega, by go_num, by rw [HD.out, Hpow.out], by rw [← hts.out, HQ.out], HB⟩
      case measure => simp [intOf]; omega
    · go_wp2
      go_ret
      exact ⟨by rw [tailS_full]; rfl, Hb.out⟩
end
end Go.Proofs.YtgcnohejmofhkaaDoor
