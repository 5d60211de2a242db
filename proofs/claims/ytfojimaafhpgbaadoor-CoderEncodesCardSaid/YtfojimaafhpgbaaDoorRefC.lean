/- The walk of the document's Between: the three ways; and the program's Between where it is an error. -/
import Derived.Test.YtfojimaafhpgbaaDoorRefB
namespace Go.Proofs.YtfojimaafhpgbaaDoor
open Go.RowKit

theorem basis_q (n₀ : Nat) (ax : Option Addr) (cap : Nat) (xs : List Nat) (i x : Nat) (w : World) (n : Nat) (hx : Bytes xs) (hu : Unlike xs) (hxx : x < 256) (hl : xs.length ≤ maxLen) (hi : i < xs.length) (hI : RowAt n₀ (w.drewN n) ax xs) :
    Calls Tryd.prog 80 #[.slice ax xs.length cap, .int .i64 i, .int .u8 x] (w.drewN n) fun e w'' => e = .returned (.int .u8 (bas xs i x : Nat)) ∧ ∃ m, w'' = w.drewN m :=
  Calls.quiet_of (basis_walk n₀ ax cap xs i x (w.drewN n) hx hu hxx hl hi hI)
theorem RowAt.drewN {n₀ : Nat} {w : World} {a : Option Addr} {l : List Nat} (n : Nat) (h : RowAt n₀ w a l) : RowAt n₀ (w.drewN n) a l := h

/-- the sum of the first i terms. -/
def rbtN (xs ys : List Nat) (x : Nat) : Nat → Nat
  | 0 => 0
  | i + 1 => rbtN xs ys x i ^^^ Gf.mul (ys[i]?.getD 0) (bas xs i x)
theorem rbtN_lt {xs ys : List Nat} (hy : Bytes ys) (x : Nat) : ∀ i, rbtN xs ys x i < 256
  | 0 => (by decide : 0 < 256)
  | i + 1 => Gf.xor_lt (rbtN_lt hy x i) (Gf.mul_lt _ (hy.at i))
theorem rbtN_eq {xs ys : List Nat} (hx : Bytes xs) (hy : Bytes ys) (hu : Unlike xs) {x : Nat} (hxx : x < 256) : ∀ i, i ≤ xs.length → rbtN xs ys x i = btwN xs ys x i
  | 0, _ => rfl
  | i + 1, hi => by
    show rbtN xs ys x i ^^^ _ = btwN xs ys x i ^^^ _
    rw [rbtN_eq hx hy hu hxx i (by omega), lagT_bas hx hy hu hxx (by omega)]

theorem rbtw_shape (ax ay : Option Addr) (lx ly capx capy : Nat) (x : Int) (w : World) (h : ((lx : Int) != (ly : Int)) = true) :
    Calls Tryd.prog 50 #[.slice ax lx capx, .slice ay ly capy, .int .u8 x] w fun e w' => e = .returned (.tuple #[.int .u8 0, .int .i64 3]) ∧ w = w' := by
  go_enter Tryd.func50, Tryd.ntmps50
  go_wp2
  go_ret2
  exact ⟨rfl, rfl⟩
theorem btw_shape (ax ay : Option Addr) (lx ly capx capy : Nat) (x : Int) (w : World) (es : Value) (hz : w.cell? ⟨2, 0, none⟩ = some es) (h : ((lx : Int) != (ly : Int)) = true) :
    Calls Tryd.prog 24 #[.slice ax lx capx, .slice ay ly capy, .int .u8 x] w fun e w' => e = .returned (.tuple #[.int .u8 0, es]) ∧ ∃ nq, w' = w.drewN nq := by
  go_enter Tryd.func24, Tryd.ntmps24
  go_wp2
  go_quiet (fail)
  go_wp2
  go_ret2
  exact ⟨rfl, _, rfl⟩

set_option maxHeartbeats 1000000 in
theorem btw_dup (n₀ : Nat) (ax ay : Option Addr) (capx capy : Nat) (xs : List Nat) (x : Int) (w : World) (es : Value) (hz : w.cell? ⟨5, 0, none⟩ = some es) (hl : xs.length ≤ maxLen) (hcap : xs.length ≤ capx)
    (hI : RowAt n₀ w ax xs) (d : Nat) (hd : d < xs.length) (hdup : xs[d]?.getD 0 ∈ xs.take d) (hnd : ∀ i, i < d → xs[i]?.getD 0 ∉ xs.take i) :
    Calls Tryd.prog 24 #[.slice ax xs.length capx, .slice ay xs.length capy, .int .u8 x] w fun e w' => e = .returned (.tuple #[.int .u8 0, es]) ∧ ∃ nq, w' = w.drewN nq := by
  unfold maxLen at hl
  rcases hI with rfl | ⟨b, off, rfl, hb, hc⟩
  · simp at hd
  have hcw : ∀ k, k < xs.length → Calls Tryd.prog 73 #[.slice (some ⟨b, off, none⟩) k capx, .int .u8 ((xs[k]?.getD 0 : Nat) : Int)] w fun e w' => e = .returned (.bool (decide (xs[k]?.getD 0 ∈ xs.take k))) ∧ w = w' := fun k hk => by
    have hI' : RowAt n₀ w (some ⟨b, off, none⟩) xs := .inr ⟨b, off, rfl, hb, hc⟩
    have hkl : (xs.take k).length = k := by simp; omega
    have h := contains_walk n₀ (some ⟨b, off, none⟩) capx (xs.take k) (xs[k]?.getD 0) w (by rw [hkl]; unfold maxLen; omega) (hI'.take k)
    rwa [hkl] at h
  have Hcw := Lib.hid hcw; clear hcw
  have Hc := Lib.hid hc; clear hc
  have Hnd := Lib.hid hnd; clear hnd
  have Hdup := Lib.hid hdup; clear hdup
  obtain ⟨len, hle⟩ : ∃ len, len = xs.length := ⟨_, rfl⟩
  have Hle := Lib.hid hle
  rw [← hle] at hl hcap hd ⊢
  clear hle
  go_enter Tryd.func24, Tryd.ntmps24
  go_wp2
  go_loop [27] (fun vi => ∃ k : Nat, k ≤ d ∧ vi = .int .i64 k) (fun i => len - (intOf i).toNat)
  case atStart => exact ⟨0, by omega, rfl⟩
  case round =>
    obtain ⟨k, hk, rfl⟩ := hrel
    have hck := Hc.out k (by have := Hle.out; omega)
    have hkl : (k : Int) < (len : Int) := by omega
    have hcw := Hcw.out k (by have := Hle.out; omega)
    by_cases hkd : k = d
    · have e0 : decide (xs[k]?.getD 0 ∈ xs.take k) = true := by rw [hkd]; simpa using Hdup.out
      rw [e0] at hcw
      clear hkd e0
      generalize xs[k]?.getD 0 = v at hck hcw
      have Hw := Lib.hid hcw; clear hcw
      go_wp2_with fail
      refine Hw.out.mono ?_
      rintro e w' ⟨rfl, rfl⟩
      go_wp2
      go_quiet (fail)
      go_wp2
      go_ret2
      exact ⟨rfl, _, rfl⟩
    · have e0 : decide (xs[k]?.getD 0 ∈ xs.take k) = false := by simpa using Hnd.out k (by omega)
      rw [e0] at hcw
      clear e0
      generalize xs[k]?.getD 0 = v at hck hcw
      have Hw := Lib.hid hcw; clear hcw
      go_wp2_with fail
      refine Hw.out.mono ?_
      rintro e w' ⟨rfl, rfl⟩
      go_wp2
      go_round
      case rel => exact ⟨k + 1, by omega, by go_num⟩
      case measure => simp [intOf]; omega

/-- the first of xs that stands there before, if there is one. -/
theorem first_dup (xs : List Nat) : (∀ i, i < xs.length → xs[i]?.getD 0 ∉ xs.take i) ∨ ∃ d, d < xs.length ∧ xs[d]?.getD 0 ∈ xs.take d ∧ ∀ i, i < d → xs[i]?.getD 0 ∉ xs.take i := by
  suffices h : ∀ n, n ≤ xs.length → (∀ i, i < n → xs[i]?.getD 0 ∉ xs.take i) ∨ ∃ d, d < xs.length ∧ xs[d]?.getD 0 ∈ xs.take d ∧ ∀ i, i < d → xs[i]?.getD 0 ∉ xs.take i from h xs.length (Nat.le_refl _)
  intro n
  induction n with
  | zero => intro _; left; intro i hi; omega
  | succ n ih =>
    intro hn
    rcases ih (by omega) with h | h
    · by_cases hm : xs[n]?.getD 0 ∈ xs.take n
      · exact .inr ⟨n, by omega, hm, h⟩
      · left
        intro i hi
        rcases Nat.lt_or_ge i n with h1 | h1
        · exact h i h1
        · obtain rfl : i = n := by omega
          exact hm
    · exact .inr h
theorem mem_take_iff {xs : List Nat} {v k : Nat} (hk : k ≤ xs.length) : v ∈ xs.take k ↔ ∃ j, j < k ∧ xs[j]?.getD 0 = v := by
  constructor
  · intro h
    obtain ⟨j, hj, e⟩ := List.getElem_of_mem h
    have hj1 : j < k := by simp at hj; omega
    have hj2 : j < xs.length := by simp at hj; omega
    refine ⟨j, hj1, ?_⟩
    rw [List.getElem?_eq_getElem hj2, ← e, List.getElem_take]; rfl
  · rintro ⟨j, hj, rfl⟩
    rw [List.getElem?_eq_getElem (by omega)]
    exact List.mem_iff_getElem.2 ⟨j, by simp; omega, by rw [List.getElem_take]; rfl⟩
theorem unlike_of {xs : List Nat} (h : ∀ i, i < xs.length → xs[i]?.getD 0 ∉ xs.take i) : Unlike xs := by
  intro i k hi hk hne e
  rcases Nat.lt_or_ge i k with h1 | h1
  · exact h k hk ((mem_take_iff (by omega)).2 ⟨i, h1, e⟩)
  · exact h i hi ((mem_take_iff (by omega)).2 ⟨k, by omega, e.symm⟩)

set_option maxHeartbeats 2000000 in
theorem rbtw_walk (n₀ : Nat) (ax ay : Option Addr) (capx capy : Nat) (xs ys : List Nat) (x : Nat) (w : World) (hx : Bytes xs) (hy : Bytes ys) (hxx : x < 256) (hl : xs.length ≤ maxLen) (hlen : ys.length = xs.length)
    (hI : RowAt n₀ w ax xs) (hJ : RowAt n₀ w ay ys) (hnd : ∀ i, i < xs.length → xs[i]?.getD 0 ∉ xs.take i) :
    Calls Tryd.prog 50 #[.slice ax xs.length capx, .slice ay xs.length capy, .int .u8 x] w fun e w' => e = .returned (.tuple #[.int .u8 (btwN xs ys x xs.length : Nat), .int .i64 0]) ∧ ∃ nq, w' = w.drewN nq := by
  have hl0 := hl
  unfold maxLen at hl
  have hu := unlike_of hnd
  rw [← rbtN_eq hx hy hu hxx _ (Nat.le_refl _)]
  obtain ⟨len, hle⟩ : ∃ len, len = xs.length := ⟨_, rfl⟩
  have Hle := Lib.hid hle
  rw [← hle] at hl ⊢
  have hbw : ∀ (i : Nat) (W : World) (n : Nat), i < len → (∃ m, W = w.drewN m) → Calls Tryd.prog 80 #[.slice ax len capx, .int .i64 i, .int .u8 x] (W.drewN n) fun e w'' => e = .returned (.int .u8 (bas xs i x : Nat)) ∧ ∃ m, w'' = W.drewN m := fun i W n hi ⟨m, hW⟩ => by
    rw [hle]
    exact basis_q n₀ ax capx xs i x W n hx hu hxx hl0 (by omega) (by rw [hW]; exact hI)
  have Hbw := Lib.hid hbw; clear hbw
  have Hu := Lib.hid hu; clear hu
  clear hle hl0
  go_enter Tryd.func50, Tryd.ntmps50
  go_wp2
  go_loopw [8, 9] (fun vi _ wr => ∃ k nq : Nat, k ≤ len ∧ vi = .int .i64 k ∧ wr = w.drewN nq) (fun i _ _ => len - (intOf i).toNat)
  case atStart => exact ⟨0, 0, by omega, rfl, rfl⟩
  case round =>
    obtain ⟨i, nq, hi, rfl, hw⟩ := hrel
    obtain ⟨w1, rfl⟩ : ∃ w1 : World, w1 = wr := ⟨_, rfl⟩
    by_cases hlt : i < len
    · rcases hI with rfl | ⟨b, off, rfl, hb, hc⟩
      · exfalso; have := Hle.out; simp at this; omega
      have Hc := Lib.hid hc
      have hci : w1.cell? ⟨b, off + i, none⟩ = some (.int .u8 ((xs[i]?.getD 0 : Nat) : Int)) := by rw [hw]; exact hc i (by have := Hle.out; omega)
      have Hn := Lib.hid (hnd i (by have := Hle.out; omega))
      generalize hv : xs[i]?.getD 0 = v at hci Hn
      have Hw := Lib.hid hw
      clear hw hc hv hnd hJ
      go_wp2
      go_loopw [9] (fun vk W => ∃ k nq : Nat, k ≤ i ∧ vk = .int .i64 k ∧ W = w1.drewN nq) (fun k _ => i - (intOf k).toNat)
      case atStart => exact ⟨0, 0, by omega, rfl, rfl⟩
      case round =>
        obtain ⟨k, nq2, hk, rfl, hW⟩ := hrel
        by_cases hlk : k < i
        · have hck : wr.cell? ⟨b, off + k, none⟩ = some (.int .u8 ((xs[k]?.getD 0 : Nat) : Int)) := by rw [hW, Hw.out]; exact Hc.out k (by have := Hle.out; omega)
          have hci2 : wr.cell? ⟨b, off + i, none⟩ = some (.int .u8 (v : Int)) := by rw [hW]; exact hci
          have hne : xs[k]?.getD 0 ≠ v := fun e => Hn.out ((mem_take_iff (by have := Hle.out; omega)).2 ⟨k, hlk, e⟩)
          generalize xs[k]?.getD 0 = u at hck hne
          have hb1 : ((u : Int) == (v : Int)) = false := by simp; omega
          have HW := Lib.hid hW
          have hki : (k : Int) < (len : Int) := by omega
          clear hW hci hne
          go_wp2
          go_quiet (fail)
          go_wp2
          go_roundw
          case rel => exact ⟨k + 1, _, by omega, by go_num, by rw [HW.out, World.drewN_drewN]⟩
          case measure => simp [intOf]; omega
        · clear hci
          have HW := Lib.hid hW; clear hW
          go_wp2
          go_roundw
          case rel => exact ⟨i + 1, _, by omega, by go_num, by rw [HW.out, Hw.out, World.drewN_drewN]⟩
          case measure => simp [intOf]; omega
    · clear hi
      have Hw := Lib.hid hw
      have hI' : RowAt n₀ w1 ax xs := by rw [hw]; exact hI
      have hJ' : RowAt n₀ w1 ay ys := by rw [hw]; exact hJ
      clear hw hI hJ hnd
      go_wp2
      go_loopw [11, 10] (fun vi vo W => ∃ i nq : Nat, i ≤ len ∧ vi = .int .i64 i ∧ vo = .int .u8 (rbtN xs ys x i : Nat) ∧ W = w.drewN nq) (fun i _ _ => len - (intOf i).toNat)
      case atStart => exact ⟨0, _, by omega, rfl, rfl, Hw.out⟩
      case round =>
        obtain ⟨i, nq2, hi, rfl, rfl, hW⟩ := hrel
        have hbt := rbtN_lt (xs := xs) hy x i
        by_cases hlt : i < len
        · rcases hJ' with rfl | ⟨b2, off2, rfl, hb2, hc2⟩
          · exfalso; simp at hlen; have := Hle.out; omega
          have hdi : wr.cell? ⟨b2, off2 + i, none⟩ = some (.int .u8 ((ys[i]?.getD 0 : Nat) : Int)) := by
            rw [hW]
            have := hc2 i (by have := Hle.out; omega)
            rw [Hw.out] at this
            exact this
          have hbs : bas xs i x < 256 := basN_lt _ _ _ _ _
          have hs : rbtN xs ys x (i + 1) = rbtN xs ys x i ^^^ Gf.mul (ys[i]?.getD 0) (bas xs i x) := rfl
          have hay : ys[i]?.getD 0 < 256 := hy.at i
          have hlen2 : i < ys.length := by have := Hle.out; omega
          generalize ys[i]?.getD 0 = y at hdi hs hay
          have Hs := Lib.hid hs; clear hs
          have HW := Lib.hid hW; clear hW hc2
          have hml := Gf.mul_lt (bas xs i x) hay
          have hilen : (i : Int) < (len : Int) := by omega
          go_wp2
          go_quiet ((first | (go_at_call 80; exact Hbw.out i wr _ hlt ⟨_, HW.out⟩) | (go_at_call 47; exact Calls.quiet_of_same (rmul_q _ _ _ (by assumption) (by assumption)))))
          go_wp2
          go_roundw
          case rel => exact ⟨i + 1, _, by omega, by go_num, by rw [Hs.out, u8_xor_nat _ _ hbt hml], by rw [HW.out, World.drewN_drewN]⟩
          case measure => simp [intOf]; omega
        · have HW := Lib.hid hW; clear hW
          go_wp2
          go_ret2
          obtain rfl : i = len := by omega
          exact ⟨rfl, _, HW.out⟩

set_option maxHeartbeats 2000000 in
theorem rbtw_dup (n₀ : Nat) (ax ay : Option Addr) (capx capy : Nat) (xs : List Nat) (x : Int) (w : World) (hl : xs.length ≤ maxLen)
    (hI : RowAt n₀ w ax xs) (d : Nat) (hd : d < xs.length) (hdup : xs[d]?.getD 0 ∈ xs.take d) (hnd : ∀ i, i < d → xs[i]?.getD 0 ∉ xs.take i) :
    Calls Tryd.prog 50 #[.slice ax xs.length capx, .slice ay xs.length capy, .int .u8 x] w fun e w' => e = .returned (.tuple #[.int .u8 0, .int .i64 6]) ∧ ∃ nq, w' = w.drewN nq := by
  unfold maxLen at hl
  rcases hI with rfl | ⟨b, off, rfl, hb, hc⟩
  · simp at hd
  -- the first place that is like d's
  obtain ⟨f, hf, hfe, hfn⟩ : ∃ f, f < d ∧ xs[f]?.getD 0 = xs[d]?.getD 0 ∧ ∀ j, j < f → xs[j]?.getD 0 ≠ xs[d]?.getD 0 := by
    obtain ⟨j, hj, e⟩ := (mem_take_iff (by omega)).1 hdup
    suffices h : ∀ n, (∃ f, f < d ∧ xs[f]?.getD 0 = xs[d]?.getD 0 ∧ ∀ j, j < f → xs[j]?.getD 0 ≠ xs[d]?.getD 0) ∨ ∀ j, j < n → j < d → xs[j]?.getD 0 ≠ xs[d]?.getD 0 by
      rcases h (j + 1) with h | h
      · exact h
      · exact absurd e (h j (by omega) hj)
    intro n
    induction n with
    | zero => right; intro j hj; omega
    | succ n ih =>
      rcases ih with h | h
      · exact .inl h
      · by_cases hn : n < d ∧ xs[n]?.getD 0 = xs[d]?.getD 0
        · exact .inl ⟨n, hn.1, hn.2, fun j hj => h j hj (by omega)⟩
        · right
          intro j hj hjd
          rcases Nat.lt_or_ge j n with h1 | h1
          · exact h j h1 hjd
          · obtain rfl : j = n := by omega
            exact fun e => hn ⟨hjd, e⟩
  have Hc := Lib.hid hc; clear hc
  have Hnd := Lib.hid hnd; clear hnd
  have Hfn := Lib.hid hfn; clear hfn
  have Hfe := Lib.hid hfe; clear hfe
  clear hdup
  obtain ⟨len, hle⟩ : ∃ len, len = xs.length := ⟨_, rfl⟩
  have Hle := Lib.hid hle
  rw [← hle] at hl hd ⊢
  clear hle
  go_enter Tryd.func50, Tryd.ntmps50
  go_wp2
  go_loopw [8, 9, 6, 7] (fun vi _ _ _ wr => ∃ k nq : Nat, k ≤ d ∧ vi = .int .i64 k ∧ wr = w.drewN nq) (fun i _ _ _ _ => len - (intOf i).toNat)
  case atStart => exact ⟨0, 0, by omega, rfl, rfl⟩
  case round =>
    obtain ⟨i, nq, hi, rfl, hw⟩ := hrel
    obtain ⟨w1, rfl⟩ : ∃ w1 : World, w1 = wr := ⟨_, rfl⟩
    have hci : w1.cell? ⟨b, off + i, none⟩ = some (.int .u8 ((xs[i]?.getD 0 : Nat) : Int)) := by rw [hw]; exact Hc.out i (by have := Hle.out; omega)
    have Hw := Lib.hid hw; clear hw
    have hil : (i : Int) < (len : Int) := by omega
    by_cases hid : i = d
    · have Hid2 := Lib.hid hid
      have hv := Hfe.out
      rw [hid] at hci
      have hfi : f < i := by omega
      have Hn : Hid (∀ j, j < f → xs[j]?.getD 0 ≠ xs[d]?.getD 0) := Lib.hid Hfn.out
      generalize hvv : xs[d]?.getD 0 = v at hci hv Hn
      clear hvv
      have Hv := Lib.hid hv; clear hv
      rw [← hid] at hci
      clear hid
      go_wp2
      go_loopw [9] (fun vk W => ∃ k nq : Nat, k ≤ f ∧ vk = .int .i64 k ∧ W = w1.drewN nq) (fun k _ => i - (intOf k).toNat)
      case atStart => exact ⟨0, 0, by omega, rfl, rfl⟩
      case round =>
        obtain ⟨k, nq2, hk, rfl, hW⟩ := hrel
        have hck : wr.cell? ⟨b, off + k, none⟩ = some (.int .u8 ((xs[k]?.getD 0 : Nat) : Int)) := by rw [hW, Hw.out]; exact Hc.out k (by have := Hle.out; omega)
        have hci2 : wr.cell? ⟨b, off + i, none⟩ = some (.int .u8 (v : Int)) := by rw [hW]; exact hci
        have HW := Lib.hid hW
        have hki : (k : Int) < (len : Int) := by omega
        have hki2 : (k : Int) < (i : Int) := by omega
        clear hW hci
        by_cases hkf : k = f
        · have hu : xs[k]?.getD 0 = v := by rw [hkf]; exact Hv.out
          rw [hu] at hck
          clear hu hkf
          go_wp2
          go_quiet (fail)
          go_wp2
          go_ret2
          exact ⟨rfl, _, by rw [HW.out, Hw.out, World.drewN_drewN, World.drewN_drewN]⟩
        · have hne : xs[k]?.getD 0 ≠ v := Hn.out k (by omega)
          generalize xs[k]?.getD 0 = u at hck hne
          have hb1 : ((u : Int) == (v : Int)) = false := by simp; omega
          clear hne
          go_wp2
          go_quiet (fail)
          go_wp2
          go_roundw
          case rel => exact ⟨k + 1, _, by omega, by go_num, by rw [HW.out, World.drewN_drewN]⟩
          case measure => simp [intOf]; omega
    · have Hn := Lib.hid (Hnd.out i (by omega))
      generalize hv : xs[i]?.getD 0 = v at hci Hn
      clear hv
      go_wp2
      go_loopw [9] (fun vk W => ∃ k nq : Nat, k ≤ i ∧ vk = .int .i64 k ∧ W = w1.drewN nq) (fun k _ => i - (intOf k).toNat)
      case atStart => exact ⟨0, 0, by omega, rfl, rfl⟩
      case round =>
        obtain ⟨k, nq2, hk, rfl, hW⟩ := hrel
        by_cases hlk : k < i
        · have hck : wr.cell? ⟨b, off + k, none⟩ = some (.int .u8 ((xs[k]?.getD 0 : Nat) : Int)) := by rw [hW, Hw.out]; exact Hc.out k (by have := Hle.out; omega)
          have hci2 : wr.cell? ⟨b, off + i, none⟩ = some (.int .u8 (v : Int)) := by rw [hW]; exact hci
          have hne : xs[k]?.getD 0 ≠ v := fun e => Hn.out ((mem_take_iff (by have := Hle.out; omega)).2 ⟨k, hlk, e⟩)
          generalize xs[k]?.getD 0 = u at hck hne
          have hb1 : ((u : Int) == (v : Int)) = false := by simp; omega
          have HW := Lib.hid hW
          have hki : (k : Int) < (len : Int) := by omega
          clear hW hci hne
          go_wp2
          go_quiet (fail)
          go_wp2
          go_roundw
          case rel => exact ⟨k + 1, _, by omega, by go_num, by rw [HW.out, World.drewN_drewN]⟩
          case measure => simp [intOf]; omega
        · clear hci
          have HW := Lib.hid hW; clear hW
          go_wp2
          go_roundw
          case rel => exact ⟨i + 1, _, by omega, by go_num, by rw [HW.out, Hw.out, World.drewN_drewN]⟩
          case measure => simp [intOf]; omega
end Go.Proofs.YtfojimaafhpgbaaDoor
