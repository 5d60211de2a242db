/- The walks of slices.Index and slices.Contains at bytes, and of field.Between. -/
import Derived.Test.YtfojimaafhpgbaaDoorFieldB
import Derived.Test.YtfojimaafhpgbaaDoorBytes
namespace Go.Proofs.YtfojimaafhpgbaaDoor
open Go.RowKit

/-- where c stands in l, or -1. -/
def idxI (c : Nat) (l : List Nat) : Int := if c ∈ l then (l.findIdx (· == c) : Int) else -1
theorem idxI_hit {c : Nat} {l : List Nat} {k : Nat} (hk : k < l.length) (h : l[k]?.getD 0 = c) (hn : ∀ j, j < k → l[j]?.getD 0 ≠ c) : idxI c l = k := by
  have e : l[k] = c := by rw [List.getElem?_eq_getElem hk] at h; exact h
  have hm : c ∈ l := e ▸ List.getElem_mem hk
  unfold idxI
  rw [if_pos hm]
  have h2 : l.findIdx (· == c) = k := by
    rw [List.findIdx_eq hk]
    refine ⟨by simp [e], fun j hj => ?_⟩
    have := hn j hj
    rw [List.getElem?_eq_getElem (by omega)] at this
    simpa using this
  rw [h2]
theorem idxI_miss {c : Nat} {l : List Nat} (hn : ∀ j, j < l.length → l[j]?.getD 0 ≠ c) : idxI c l = -1 := by
  unfold idxI
  rw [if_neg]
  intro hm
  obtain ⟨j, hj, e⟩ := List.getElem_of_mem hm
  exact hn j hj (by rw [List.getElem?_eq_getElem hj]; exact e)

set_option maxHeartbeats 400000 in
theorem index_walk (n₀ : Nat) (a : Option Addr) (cap : Nat) (l : List Nat) (c : Nat) (w : World) (hl : l.length ≤ maxLen) (hI : RowAt n₀ w a l) :
    Calls Tryd.prog 95 #[.slice a l.length cap, .int .u8 c] w fun e w' => e = .returned (.int .i64 (idxI c l)) ∧ w = w' := by
  unfold maxLen at hl
  obtain ⟨len, hlen⟩ : ∃ len, len = l.length := ⟨_, rfl⟩
  rw [← hlen] at hl ⊢
  have Hlen := Lib.hid hlen; clear hlen
  go_enter Tryd.func95, Tryd.ntmps95
  go_wp2
  go_loop [8] (fun vi => ∃ k : Nat, k ≤ len ∧ vi = .int .i64 k ∧ Hid (∀ j, j < k → l[j]?.getD 0 ≠ c)) (fun i => len - (intOf i).toNat)
  case atStart => exact ⟨0, by omega, rfl, Lib.hid (fun j hj => by omega)⟩
  case round =>
    obtain ⟨k, hk, rfl, Hn⟩ := hrel
    by_cases hlt : k < len
    · rcases hI with rfl | ⟨b, off, rfl, hb, hc⟩
      · exfalso; have := Hlen.out; simp at this; omega
      have hck := hc k (by have := Hlen.out; omega)
      clear hc
      generalize hv : l[k]?.getD 0 = v at hck
      have Hv := Lib.hid hv; clear hv
      by_cases he : v = c
      · have ht : ((c : Int) == (v : Int)) = true := by rw [he]; simp
        go_wp2
        go_ret
        exact ⟨ret_int (by rw [idxI_hit (by have := Hlen.out; omega) (Hv.out.trans he) Hn.out]), rfl⟩
      · have ht : ((c : Int) == (v : Int)) = false := by simp; omega
        go_wp2
        go_round
        case rel => exact ⟨k + 1, by omega, by go_num, Lib.hid (fun j hj => by
            rcases Nat.lt_or_ge j k with h | h
            · exact Hn.out j h
            · obtain rfl : j = k := by omega
              rw [Hv.out]; exact he)⟩
        case measure => simp [intOf]; omega
    · go_wp2
      go_ret
      exact ⟨ret_int (by rw [idxI_miss (fun j hj => Hn.out j (by have := Hlen.out; omega))]), rfl⟩

set_option maxHeartbeats 400000 in
theorem contains_walk (n₀ : Nat) (a : Option Addr) (cap : Nat) (l : List Nat) (c : Nat) (w : World) (hl : l.length ≤ maxLen) (hI : RowAt n₀ w a l) :
    Calls Tryd.prog 73 #[.slice a l.length cap, .int .u8 c] w fun e w' => e = .returned (.bool (decide (c ∈ l))) ∧ w = w' := by
  by_cases hm : c ∈ l
  · have h0 : (0 : Int) ≤ idxI c l := by unfold idxI; rw [if_pos hm]; omega
    go_enter Tryd.func73, Tryd.ntmps73
    go_wp2_with fail
    refine (index_walk n₀ a cap l c _ hl hI).mono ?_
    rintro e w' ⟨rfl, rfl⟩
    go_wp2
    go_ret
    exact ⟨by simp [hm], rfl⟩
  · have h0 : ¬ (0 : Int) ≤ idxI c l := by unfold idxI; rw [if_neg hm]; omega
    go_enter Tryd.func73, Tryd.ntmps73
    go_wp2_with fail
    refine (index_walk n₀ a cap l c _ hl hI).mono ?_
    rintro e w' ⟨rfl, rfl⟩
    go_wp2
    go_ret
    exact ⟨by simp [hm, h0], rfl⟩

/-- the two products of the i-th point, when k points are over. -/
def lagN (xs : List Nat) (i x a y : Nat) : Nat → Nat × Nat
  | 0 => (y, 1)
  | k + 1 => if k = i then lagN xs i x a y k else (Gf.mul (lagN xs i x a y k).1 (x ^^^ xs[k]?.getD 0), Gf.mul (lagN xs i x a y k).2 (a ^^^ xs[k]?.getD 0))
theorem lagN_lt {xs : List Nat} (hx : Bytes xs) {i x a y : Nat} (hy : y < 256) : ∀ k, (lagN xs i x a y k).1 < 256 ∧ (lagN xs i x a y k).2 < 256
  | 0 => ⟨hy, (by decide : (1 : Nat) < 256)⟩
  | k + 1 => by
    unfold lagN
    split
    · exact lagN_lt hx hy k
    · exact ⟨Gf.mul_lt _ (lagN_lt hx hy k).1, Gf.mul_lt _ (lagN_lt hx hy k).2⟩
theorem lagN_skip {xs : List Nat} {i x a y k : Nat} (h : k = i) : lagN xs i x a y (k + 1) = lagN xs i x a y k := by rw [lagN, if_pos h]
theorem lagN_step {xs : List Nat} {i x a y k : Nat} (h : k ≠ i) : lagN xs i x a y (k + 1) = (Gf.mul (lagN xs i x a y k).1 (x ^^^ xs[k]?.getD 0), Gf.mul (lagN xs i x a y k).2 (a ^^^ xs[k]?.getD 0)) := by rw [lagN, if_neg h]
/-- the i-th term. -/
def lagT (xs ys : List Nat) (x i : Nat) : Nat :=
  let p := lagN xs i x (xs[i]?.getD 0) (ys[i]?.getD 0) xs.length
  Gf.mul p.1 (Gf.inv p.2)
/-- the sum of the first i terms. -/
def btwN (xs ys : List Nat) (x : Nat) : Nat → Nat
  | 0 => 0
  | i + 1 => btwN xs ys x i ^^^ lagT xs ys x i
theorem lagT_lt {xs ys : List Nat} (hx : Bytes xs) (hy : Bytes ys) (x i : Nat) : lagT xs ys x i < 256 := Gf.mul_lt _ (lagN_lt hx (hy.at i) _).1
theorem btwN_lt {xs ys : List Nat} (hx : Bytes xs) (hy : Bytes ys) (x : Nat) : ∀ i, btwN xs ys x i < 256
  | 0 => (by decide : 0 < 256)
  | i + 1 => Gf.xor_lt (btwN_lt hx hy x i) (lagT_lt hx hy x i)

set_option maxHeartbeats 1000000 in
theorem between_walk (n₀ : Nat) (ax ay : Option Addr) (capx capy : Nat) (xs ys : List Nat) (x : Nat) (w : World) (hx : Bytes xs) (hy : Bytes ys) (hxx : x < 256) (hl : xs.length ≤ maxLen) (hcap : xs.length ≤ capx) (hlen : ys.length = xs.length)
    (hI : RowAt n₀ w ax xs) (hJ : RowAt n₀ w ay ys) (hnd : ∀ i, i < xs.length → xs[i]?.getD 0 ∉ xs.take i) (hdn : ∀ i, i < xs.length → (lagN xs i x (xs[i]?.getD 0) (ys[i]?.getD 0) xs.length).2 ≠ 0) :
    Calls Tryd.prog 24 #[.slice ax xs.length capx, .slice ay xs.length capy, .int .u8 x] w fun e w' => e = .returned (.tuple #[.int .u8 (btwN xs ys x xs.length : Nat), .nilIface]) ∧ w = w' := by
  unfold maxLen at hl
  obtain ⟨len, hle⟩ : ∃ len, len = xs.length := ⟨_, rfl⟩
  have Hle := Lib.hid hle
  have Hnd := Lib.hid hnd; clear hnd
  have Hdn := Lib.hid hdn; clear hdn
  rw [← hle] at hl hcap ⊢
  clear hle
  go_enter Tryd.func24, Tryd.ntmps24
  go_wp2
  go_loop [27] (fun vi => ∃ k : Nat, k ≤ len ∧ vi = .int .i64 k) (fun i => len - (intOf i).toNat)
  case atStart => exact ⟨0, by omega, rfl⟩
  case round =>
    obtain ⟨k, hk, rfl⟩ := hrel
    by_cases hlt : k < len
    · rcases hI with rfl | ⟨b, off, rfl, hb, hc⟩
      · exfalso; have := Hle.out; simp at this; omega
      have hck := hc k (by have := Hle.out; omega)
      have hI' : RowAt n₀ w (some ⟨b, off, none⟩) xs := .inr ⟨b, off, rfl, hb, hc⟩
      clear hc
      have hnm : xs[k]?.getD 0 ∉ xs.take k := Hnd.out k (by have := Hle.out; omega)
      have Hnm := Lib.hid hnm; clear hnm
      generalize hv : xs[k]?.getD 0 = v at hck Hnm
      clear hv
      have hkl : (xs.take k).length = k := by have := Hle.out; simp; omega
      have hcw := contains_walk n₀ (some ⟨b, off, none⟩) capx (xs.take k) v w (by rw [hkl]; unfold maxLen; omega) (hI'.take k)
      rw [hkl] at hcw
      have e0 : decide (v ∈ xs.take k) = false := by simpa using Hnm.out
      rw [e0] at hcw
      have Hcw := Lib.hid hcw; clear hcw hkl e0 hI'
      go_wp2_with fail
      refine Hcw.out.mono ?_
      rintro e w' ⟨rfl, rfl⟩
      go_wp2
      go_round
      case rel => exact ⟨k + 1, by omega, by go_num⟩
      case measure => simp [intOf]; omega
    · go_wp2
      clear hlt hk
      go_loop [41, 10] (fun vi vo => ∃ i : Nat, i ≤ len ∧ vi = .int .i64 i ∧ vo = .int .u8 (btwN xs ys x i : Nat)) (fun i _ => len - (intOf i).toNat)
      case atStart => exact ⟨0, by omega, rfl, rfl⟩
      case round =>
        obtain ⟨i, hi, rfl, rfl⟩ := hrel
        have hbt := btwN_lt hx hy x i
        by_cases hlt : i < len
        · have hlx : 0 < xs.length := by have := Hle.out; omega
          rcases hI with rfl | ⟨b, off, rfl, hb, hc⟩
          · exfalso; simp at hlx
          rcases hJ with rfl | ⟨b2, off2, rfl, hb2, hc2⟩
          · exfalso; simp at hlen; have := Hle.out; omega
          have hci := hc i (by have := Hle.out; omega)
          have hdi := hc2 i (by have := Hle.out; omega)
          have Hc := Lib.hid hc; clear hc hc2 hlx
          have hdn := Hdn.out i (by have := Hle.out; omega)
          have htl := lagT_lt hx hy x i
          have Hbt : Hid (btwN xs ys x (i + 1) = btwN xs ys x i ^^^ lagT xs ys x i) := Lib.hid rfl
          have ht : lagT xs ys x i = Gf.mul (lagN xs i x (xs[i]?.getD 0) (ys[i]?.getD 0) xs.length).1 (Gf.inv (lagN xs i x (xs[i]?.getD 0) (ys[i]?.getD 0) xs.length).2) := rfl
          have hay : ys[i]?.getD 0 < 256 := hy.at i
          have hax : xs[i]?.getD 0 < 256 := hx.at i
          generalize xs[i]?.getD 0 = a at hci hdn ht hax
          generalize ys[i]?.getD 0 = y at hdi hdn ht hay
          have Hdn1 := Lib.hid hdn; clear hdn
          have Ht := Lib.hid ht; clear ht
          go_wp2
          go_loop [52, 13, 14] (fun vk vu vd => ∃ k : Nat, k ≤ len ∧ vk = .int .i64 k ∧ vu = .int .u8 ((lagN xs i x a y k).1 : Nat) ∧ vd = .int .u8 ((lagN xs i x a y k).2 : Nat)) (fun k _ _ => len - (intOf k).toNat)
          case atStart => exact ⟨0, by omega, rfl, rfl, rfl⟩
          case round =>
            obtain ⟨k, hk, rfl, rfl, rfl⟩ := hrel
            have hlu := (lagN_lt hx (i := i) (x := x) (a := a) hay k).1
            have hld := (lagN_lt hx (i := i) (x := x) (a := a) hay k).2
            by_cases hlk : k < len
            · have hck := Hc.out k (by have := Hle.out; omega)
              have hcx : xs[k]?.getD 0 < 256 := hx.at k
              by_cases hki : k = i
              · have hs := lagN_skip (xs := xs) (x := x) (a := a) (y := y) hki
                have Hs := Lib.hid hs; clear hs
                generalize xs[k]?.getD 0 = c at hck hcx
                have hki2 : ((k : Int) != (i : Int)) = false := by rw [hki]; simp
                clear hki
                go_wp2
                go_round
                case rel => exact ⟨k + 1, by omega, by go_num, by rw [Hs.out], by rw [Hs.out]⟩
                case measure => simp [intOf]; omega
              · have hs := lagN_step (xs := xs) (x := x) (a := a) (y := y) hki
                generalize xs[k]?.getD 0 = c at hck hcx hs
                have Hs := Lib.hid hs; clear hs
                have hki2 : ((k : Int) != (i : Int)) = true := by simp; omega
                clear hki
                have e1 := u8_xor_nat x c hxx hcx
                have e2 := u8_xor_nat a c hax hcx
                have E1 := Gf.xor_lt hxx hcx
                have E2 := Gf.xor_lt hax hcx
                go_wp2_with fail
                refine (mul_walk _ _ _ hlu E1).mono ?_
                rintro e w' ⟨rfl, rfl⟩
                go_wp2_with fail
                refine (mul_walk _ _ _ hld E2).mono ?_
                rintro e w' ⟨rfl, rfl⟩
                go_wp2_with fail
                go_round
                case rel => exact ⟨k + 1, by omega, by go_num, by rw [Hs.out], by rw [Hs.out]⟩
                case measure => simp [intOf]; omega
            · obtain rfl : k = len := by omega
              have hd0 : (lagN xs i x a y k).2 ≠ 0 := by have h1 := Hdn1.out; rw [← Hle.out] at h1; exact h1
              have Hd0 := Lib.hid hd0; clear hd0
              go_wp2_with fail
              refine (div_walk _ _ _ hlu hld Hd0.out).mono ?_
              rintro e w' ⟨rfl, rfl⟩
              go_wp2
              go_round
              case rel => exact ⟨i + 1, by omega, by go_num, by rw [Hbt.out, Ht.out, ← Hle.out, u8_xor_nat _ _ hbt (Gf.mul_lt _ hlu)]⟩
              case measure => simp [intOf]; omega
        · go_wp2
          go_ret2
          obtain rfl : i = len := by omega
          exact ⟨rfl, rfl⟩
end Go.Proofs.YtfojimaafhpgbaaDoor
