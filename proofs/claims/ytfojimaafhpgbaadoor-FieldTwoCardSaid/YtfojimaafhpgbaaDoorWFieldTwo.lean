/- The walk of the law FieldTwo. -/
import Derived.Test.YtfojimaafhpgbaaDoorFieldB
import Derived.Test.YtfojimaafhpgbaaDoorRows
import Derived.OpenShut
namespace Go.Proofs.YtfojimaafhpgbaaDoor.fieldTwo
open Go.RowKit

set_option maxHeartbeats 400000 in
theorem walk_out (n : Int) (a : Nat) (w : World) (h : n < 0 ∨ 254 < n) :
    Calls Tryd.prog 3 #[.int .i64 n, .int .u8 a] w fun e w' => e = .returned (.bool true) ∧ w = w' := by
  rcases h with h | h
  · go_enter Tryd.func3, Tryd.ntmps3
    go_wp2_with (go_at_call 21; refine (double_walk _).mono ?_; rintro e w' ⟨rfl, rfl⟩)
    go_ret
    exact ⟨rfl, rfl⟩
  · have h0 : ¬ n < 0 := by omega
    go_enter Tryd.func3, Tryd.ntmps3
    go_wp2_with (go_at_call 21; refine (double_walk _).mono ?_; rintro e w' ⟨rfl, rfl⟩)
    go_ret
    exact ⟨rfl, rfl⟩
theorem two_pow : ∀ n, n < 255 → Gf.powF 8 2 n 1 ≠ 0 ∧ (n ≠ 0 → Gf.powF 8 2 n 1 ≠ 1) := by decide +kernel

theorem two_powZ (n : Int) (h0 : 0 ≤ n) (h1 : n ≤ 254) : powZ 2 n ≠ 0 ∧ (n ≠ 0 → powZ 2 n ≠ 1) := by
  unfold powZ
  by_cases h : n = 0
  · rw [if_pos h]; exact ⟨by decide, fun h' => absurd h h'⟩
  · rw [if_neg h, if_neg (by decide)]
    have := two_pow (n % 255).toNat (by omega)
    rw [Gf.powF_eq 8 2 _ 1 (by decide) (by decide) (by omega), Gf.one_mul (Gf.pow_lt (by decide) _)] at this
    exact ⟨this.1, fun _ => this.2 (by omega)⟩
theorem powZ_255 {a : Nat} (h : a ≠ 0) : powZ a 255 = 1 := by
  unfold powZ
  rw [if_neg (by decide), if_neg h]
  rfl

set_option maxHeartbeats 400000 in
/-- the ways behind the tests, what Pow answers being told: x of 2, y of a. -/
theorem walk_in (n : Int) (a x y : Nat) (w : World) (h0 : 0 ≤ n) (h1 : n ≤ 254) (ha : a < 256)
    (hp : ∀ W : World, Calls Tryd.prog 22 #[.int .u8 2, .int .i64 n] W fun e w' => e = .returned (.tuple #[.int .u8 x, .nilIface]) ∧ W = w')
    (hq : ∀ W : World, Calls Tryd.prog 22 #[.int .u8 a, .int .i64 255] W fun e w' => e = .returned (.tuple #[.int .u8 y, .nilIface]) ∧ W = w')
    (hx : n = 0 ∧ x = 1 ∨ ((x : Int) == 0) = false ∧ ((x : Int) == 1) = false ∧ (n == 0) = false) (hy : a = 0 ∧ y = 0 ∨ ((a : Int) == 0) = false ∧ y = 1) :
    Calls Tryd.prog 3 #[.int .i64 n, .int .u8 a] w fun e w' => e = .returned (.bool true) ∧ w = w' := by
  have hn1 : ¬ n < 0 := by omega
  have hn2 : ¬ 254 < n := by omega
  rcases hx with ⟨rfl, rfl⟩ | ⟨hx0, hx1, hx2⟩ <;> rcases hy with ⟨rfl, rfl⟩ | ⟨ha0, rfl⟩
  all_goals
    have Hp := Lib.hid hp; clear hp
    have Hq := Lib.hid hq; clear hq
    go_enter Tryd.func3, Tryd.ntmps3
    go_wp2_with fail
    refine (double_walk _).mono ?_
    rintro e w' ⟨rfl, rfl⟩
    go_wp2_with fail
    refine (Hp.out _).mono ?_
    rintro e w' ⟨rfl, rfl⟩
    go_wp2_with fail
    refine (Hq.out _).mono ?_
    rintro e w' ⟨rfl, rfl⟩
    go_wp2
    go_ret
    exact ⟨rfl, rfl⟩

theorem walk (n a : Int) (w : World) (_w0 : (Lit.int .i64 n).wf = true) (w1 : (Lit.int .u8 a).wf = true) (_hL : laidMetH Tryd.prog Rows.fieldTwoRow.laid w) :
    Calls Tryd.prog 3 #[.int .i64 n, .int .u8 a] w fun e w' => e = .returned (.bool true) ∧ Below w.heap.size w w' := by
  obtain ⟨b1, b2⟩ := bounds_u8 w1
  obtain ⟨a, rfl⟩ := Int.eq_ofNat_of_zero_le b1
  have ha : a < 256 := by omega
  by_cases h : n < 0 ∨ 254 < n
  · exact (walk_out n a w h).mono fun e w' ⟨he, hw⟩ => ⟨he, hw ▸ Below.refl _ _⟩
  have h0 : 0 ≤ n := by omega
  have h1 : n ≤ 254 := by omega
  have h2 := two_powZ n h0 h1
  refine (walk_in n a (powZ 2 n) (powZ a 255) w h0 h1 ha (fun W => pow_any 2 n W (by decide) (by omega) (by omega) (by omega)) (fun W => pow_any a 255 W ha (by omega) (by decide) (by decide)) ?_ ?_).mono fun e w' ⟨he, hw⟩ => ⟨he, hw ▸ Below.refl _ _⟩
  · by_cases e : n = 0
    · subst e; exact .inl ⟨rfl, rfl⟩
    · have := h2.2 e
      exact .inr ⟨by simpa using h2.1, by simp; omega, by simpa using e⟩
  · by_cases e : a = 0
    · subst e; exact .inl ⟨rfl, rfl⟩
    · exact .inr ⟨by simpa using e, powZ_255 e⟩
end Go.Proofs.YtfojimaafhpgbaaDoor.fieldTwo
