/- The walks of the document's Eval, Basis and Between. -/
import Derived.Test.YtmaalkjimppnkaaDoorRef
import Derived.Test.YtmaalkjimppnkaaDoorPoly
import Derived.Deep.QuietTactic
import Derived.BigQuiet
namespace Go.Proofs.YtmaalkjimppnkaaDoor
open Go.RowKit

theorem rmul_q (a b : Nat) (w : World) (ha : a < 256) (hb : b < 256) : Calls Tryd.prog 100 #[.int .u8 a, .int .u8 b] w fun e w' => e = .returned (.int .u8 (Gf.mul a b : Nat)) ∧ w' = w :=
  (rmul_walk a b w ha hb).mono fun _ _ ⟨h1, h2⟩ => ⟨h1, h2.symm⟩
theorem rinv_q (a : Nat) (w : World) (ha : a < 256) (h0 : a ≠ 0) : Calls Tryd.prog 143 #[.int .u8 a] w fun e w' => e = .returned (.int .u8 (Gf.inv a : Nat)) ∧ w' = w :=
  (rinv_walk a w ha h0).mono fun _ _ ⟨h1, h2⟩ => ⟨h1, h2.symm⟩

/-- the sum of the first k terms. -/
def revN (p : List Nat) (x : Nat) : Nat → Nat
  | 0 => 0
  | k + 1 => revN p x k ^^^ Gf.mul (p[k]?.getD 0) (Gf.pow x k)
theorem revN_lt {p : List Nat} (hp : Bytes p) (x : Nat) : ∀ k, revN p x k < 256
  | 0 => (by decide : 0 < 256)
  | k + 1 => Gf.xor_lt (revN_lt hp x k) (Gf.mul_lt _ (hp.at k))
/-- Horner's way comes to the same. -/
theorem revN_cons {c : Nat} {p : List Nat} (hc : c < 256) (hp : Bytes p) {x : Nat} (hx : x < 256) : ∀ k, revN (c :: p) x (k + 1) = Gf.mul (revN p x k) x ^^^ c
  | 0 => by
    show 0 ^^^ Gf.mul c (Gf.pow x 0) = Gf.mul 0 x ^^^ c
    rw [Gf.zero_mul, Nat.zero_xor, Nat.zero_xor]
    exact Gf.mul_one c hc
  | k + 1 => by
    show revN (c :: p) x (k + 1) ^^^ Gf.mul (p[k]?.getD 0) (Gf.mul (Gf.pow x k) x) = Gf.mul (revN p x k ^^^ Gf.mul (p[k]?.getD 0) (Gf.pow x k)) x ^^^ c
    rw [revN_cons hc hp hx k, Gf.mul_xor_left x (revN_lt hp x k) (Gf.mul_lt _ (hp.at k)), Gf.mul_assoc x (hp.at k) (Gf.pow_lt hx k) hx, Nat.xor_assoc, Nat.xor_assoc]
    congr 1
    exact Nat.xor_comm _ _
theorem revN_all {p : List Nat} (hp : Bytes p) {x : Nat} (hx : x < 256) : revN p x p.length = Gf.horner x p := by
  induction p with
  | nil => rfl
  | cons c p ih =>
    have hp' : Bytes p := fun y hy => hp y (List.mem_cons_of_mem _ hy)
    rw [List.length_cons, revN_cons (hp c List.mem_cons_self) hp' hx, ih hp']
    rfl

/-! ### Basis -/
/-- the product of the first k factors. -/
def basN (xs : List Nat) (i x a : Nat) : Nat → Nat
  | 0 => 1
  | k + 1 => if k = i then basN xs i x a k else Gf.mul (basN xs i x a k) (Gf.mul (x ^^^ xs[k]?.getD 0) (Gf.inv (a ^^^ xs[k]?.getD 0)))
theorem basN_lt (xs : List Nat) (i x a : Nat) : ∀ k, basN xs i x a k < 256
  | 0 => (by decide : 1 < 256)
  | k + 1 => by
    unfold basN
    split
    · exact basN_lt xs i x a k
    · exact Gf.mul_lt _ (basN_lt xs i x a k)
def bas (xs : List Nat) (i x : Nat) : Nat := basN xs i x (xs[i]?.getD 0) xs.length
theorem inv_one : Gf.inv 1 = 1 := (Gf.inv_unique (by decide) (by decide) (by decide)).symm
theorem inv_mul_mul {a b : Nat} (ha : a < 256) (hb : b < 256) (h0 : a ≠ 0) (h1 : b ≠ 0) : Gf.inv (Gf.mul a b) = Gf.mul (Gf.inv a) (Gf.inv b) := by
  have la := Gf.inv_lt ha
  have lb := Gf.inv_lt hb
  refine (Gf.inv_unique (Gf.mul_lt _ ha) (Gf.mul_lt _ la) ?_).symm
  rw [Gf.mul_assoc _ ha hb (Gf.mul_lt _ la), ← Gf.mul_assoc _ hb la lb, Gf.mul_comm hb la, Gf.mul_assoc _ la hb lb, Gf.mul_inv hb h1, Gf.mul_one _ la, Gf.mul_inv ha h0]
/-- a term of the program's is the value times Basis. -/
theorem lag_bas {xs : List Nat} (hx : Bytes xs) (hu : Unlike xs) {i x y : Nat} (hxx : x < 256) (hy : y < 256) (hi : i < xs.length) : ∀ k, k ≤ xs.length →
    Gf.mul (lagN xs i x (xs[i]?.getD 0) y k).1 (Gf.inv (lagN xs i x (xs[i]?.getD 0) y k).2) = Gf.mul y (basN xs i x (xs[i]?.getD 0) k)
  | 0, _ => by show Gf.mul y (Gf.inv 1) = Gf.mul y 1; rw [inv_one]
  | k + 1, hk => by
    have ih := lag_bas hx hu hxx hy hi k (by omega)
    by_cases h : k = i
    · rw [lagN_skip h, basN, if_pos h]; exact ih
    · rw [lagN_step h, basN, if_neg h]
      have hd := lagN_down hx hu (x := x) (y := y) hi k (by omega)
      have hl := (lagN_lt hx (i := i) (x := x) (a := xs[i]?.getD 0) hy k).1
      have h1 := Gf.xor_lt hxx (hx.at k)
      have h2 := Gf.xor_lt (hx.at i) (hx.at k)
      have h3 := Gf.xor_ne_zero (hu i k hi (by omega) (Ne.symm h))
      show Gf.mul (Gf.mul _ _) (Gf.inv (Gf.mul _ _)) = _
      rw [inv_mul_mul hd.2 h2 hd.1 h3, ← Gf.mul_assoc _ hy (basN_lt _ _ _ _ _) (Gf.mul_lt _ h1), ← ih]
      have l1 := Gf.inv_lt hd.2
      have l2 := Gf.inv_lt h2
      generalize (lagN xs i x (xs[i]?.getD 0) y k).1 = u at hl
      generalize Gf.inv (lagN xs i x (xs[i]?.getD 0) y k).2 = v at l1
      generalize Gf.inv (xs[i]?.getD 0 ^^^ xs[k]?.getD 0) = t at l2
      generalize x ^^^ xs[k]?.getD 0 = s at h1
      rw [Gf.mul_assoc _ hl h1 (Gf.mul_lt _ l1), Gf.mul_assoc _ hl l1 (Gf.mul_lt _ h1), ← Gf.mul_assoc _ h1 l1 l2, ← Gf.mul_assoc _ l1 h1 l2, Gf.mul_comm h1 l1]
theorem lagT_bas {xs ys : List Nat} (hx : Bytes xs) (hy : Bytes ys) (hu : Unlike xs) {i x : Nat} (hxx : x < 256) (hi : i < xs.length) : lagT xs ys x i = Gf.mul (ys[i]?.getD 0) (bas xs i x) :=
  lag_bas hx hu hxx (hy.at i) hi xs.length (Nat.le_refl _)

set_option maxHeartbeats 1000000 in
theorem basis_walk (n₀ : Nat) (ax : Option Addr) (cap : Nat) (xs : List Nat) (i x : Nat) (w : World) (hx : Bytes xs) (hu : Unlike xs) (hxx : x < 256) (hl : xs.length ≤ maxLen) (hi : i < xs.length) (hI : RowAt n₀ w ax xs) :
    Calls Tryd.prog 98 #[.slice ax xs.length cap, .int .i64 i, .int .u8 x] w fun e w' => e = .returned (.int .u8 (bas xs i x : Nat)) ∧ ∃ nq, w' = w.drewN nq := by
  unfold maxLen at hl
  have ha : xs[i]?.getD 0 < 256 := hx.at i
  rcases hI with rfl | ⟨b, off, rfl, hb, hc⟩
  · simp at hi
  have hci := hc i hi
  have hdi : ∀ k, k < xs.length → k ≠ i → xs[i]?.getD 0 ^^^ xs[k]?.getD 0 ≠ 0 := fun k hk hn => Gf.xor_ne_zero (hu i k hi hk (Ne.symm hn))
  have Hd := Lib.hid hdi; clear hdi
  unfold bas
  generalize xs[i]?.getD 0 = a at ha hci Hd
  have Hc := Lib.hid hc; clear hc
  obtain ⟨len, hlen⟩ : ∃ len, len = xs.length := ⟨_, rfl⟩
  rw [← hlen] at hl hi ⊢
  have Hlen := Lib.hid hlen; clear hlen
  go_enter Tryd.func98, Tryd.ntmps98
  go_wp2
  go_loopw [8, 7] (fun vk vo wr => ∃ k nq : Nat, k ≤ len ∧ vk = .int .i64 k ∧ vo = .int .u8 (basN xs i x a k : Nat) ∧ wr = w.drewN nq) (fun k _ _ => len - (intOf k).toNat)
  case atStart => exact ⟨0, 0, by omega, rfl, rfl, rfl⟩
  case round =>
    rename_i wr
    obtain ⟨k, nq, hk, rfl, rfl, hw⟩ := hrel
    have h1 := basN_lt xs i x a k
    have hciw : wr.cell? ⟨b, off + i, none⟩ = some (.int .u8 (a : Int)) := by rw [hw]; exact hci
    have Hw := Lib.hid hw
    by_cases hlt : k < len
    · have hck : wr.cell? ⟨b, off + k, none⟩ = some (.int .u8 ((xs[k]?.getD 0 : Nat) : Int)) := by rw [hw]; exact Hc.out k (by have := Hlen.out; omega)
      clear hw
      have h3 : xs[k]?.getD 0 < 256 := hx.at k
      by_cases hki : k = i
      · have hs : basN xs i x a (k + 1) = basN xs i x a k := by rw [basN, if_pos hki]
        have Hs := Lib.hid hs; clear hs
        have hki2 : ((k : Int) != (i : Int)) = false := by rw [hki]; simp
        clear hki hck h3
        go_wp2
        go_roundw
        case rel => exact ⟨k + 1, nq, by omega, by go_num, by rw [Hs.out], Hw.out⟩
        case measure => simp [intOf]; omega
      · have hs : basN xs i x a (k + 1) = Gf.mul (basN xs i x a k) (Gf.mul (x ^^^ xs[k]?.getD 0) (Gf.inv (a ^^^ xs[k]?.getD 0))) := by rw [basN, if_neg hki]
        have hne := Hd.out k (by have := Hlen.out; omega) hki
        have hki2 : ((k : Int) != (i : Int)) = true := by simp; omega
        clear hki
        generalize xs[k]?.getD 0 = c at hck h3 hs hne
        have Hs := Lib.hid hs; clear hs
        have e1 := u8_xor_nat x c hxx h3
        have e2 := u8_xor_nat a c ha h3
        have l1 := Gf.xor_lt hxx h3
        have l2 := Gf.xor_lt ha h3
        have l3 := Gf.inv_lt l2
        have l4 := Gf.mul_lt (Gf.inv (a ^^^ c)) l1
        have Hne := Lib.hid hne; clear hne
        go_wp2
        go_quiet ((first | (go_at_call 143; exact Calls.quiet_of_same (rinv_q _ _ l2 Hne.out)) | (go_at_call 100; exact Calls.quiet_of_same (rmul_q _ _ _ (by assumption) (by assumption)))))
        go_wp2
        go_roundw
        case rel => exact ⟨k + 1, _, by omega, by go_num, by rw [Hs.out], by rw [Hw.out, World.drewN_drewN]⟩
        case measure => simp [intOf]; omega
    · clear hw
      go_wp2
      go_ret
      obtain rfl : k = len := by omega
      exact ⟨rfl, _, Hw.out⟩
end Go.Proofs.YtmaalkjimppnkaaDoor
