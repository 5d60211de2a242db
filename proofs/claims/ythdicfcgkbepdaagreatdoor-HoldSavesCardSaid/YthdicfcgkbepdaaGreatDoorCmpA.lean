/- Walks: cmp.Compare, cmp.Or of three. -/
import Derived.Test.YthdicfcgkbepdaaGreatDoorRg
import Derived.Test.YthdicfcgkbepdaaGreatDoorBytes
import Derived.StillTailTactics
namespace Go.Proofs.YthdicfcgkbepdaaGreatDoor
open Go.RowKit

def cmpI (x y : Int) : Int := if x < y then -1 else if y < x then 1 else 0
def cmpT (s t : ByteArray) : Int := if Rg.tlt s t = true then -1 else if Rg.tlt t s = true then 1 else 0
def or3 (a b c : Int) : Int := if a ≠ 0 then a else if b ≠ 0 then b else c
theorem nanI_walk (x : Int) (w : World) : Calls Tryz.prog 87 #[.int .i64 x] w fun e w' => e = .returned (.bool false) ∧ w = w' := by
  go_enter Tryz.func87, Tryz.ntmps87
  go_wp2
  go_ret
  exact ⟨by simp, rfl⟩
theorem nanS_walk (s : ByteArray) (w : World) : Calls Tryz.prog 122 #[.string s] w fun e w' => e = .returned (.bool false) ∧ w = w' := by
  go_enter Tryz.func122, Tryz.ntmps122
  go_wp2
  go_ret
  exact ⟨by simp, rfl⟩
set_option maxHeartbeats 1000000 in
theorem cmpi_walk (x y : Int) (w : World) : Calls Tryz.prog 63 #[.int .i64 x, .int .i64 y] w fun e w' => e = .returned (.int .i64 (cmpI x y)) ∧ w = w' := by
  have H := Lib.hid (fun x => nanI_walk x w)
  rcases (show x < y ∨ (¬ x < y ∧ y < x) ∨ (¬ x < y ∧ ¬ y < x) by omega) with h1 | ⟨h1, h2⟩ | ⟨h1, h2⟩
  case' inl => rw [show cmpI x y = -1 from if_pos h1]
  case' inr.inl => rw [show cmpI x y = 1 from (if_neg h1).trans (if_pos h2)]
  case' inr.inr => rw [show cmpI x y = 0 from (if_neg h1).trans (if_neg h2)]
  all_goals
    go_enter Tryz.func63, Tryz.ntmps63
    go_wp2_with fail
    refine (H.out x).mono ?_
    rintro e w' ⟨rfl, rfl⟩
    go_wp2_with fail
    refine (H.out y).mono ?_
    rintro e w' ⟨rfl, rfl⟩
    go_wp2
    go_ret
    exact ⟨rfl, rfl⟩
set_option maxRecDepth 100000 in
set_option maxHeartbeats 1000000 in
theorem or_walk (g : Nat) (f : Nat → Int) (w : World) (hc : ∀ j, j < 3 → w.cell? ⟨g, j, none⟩ = some (.int .i64 (f j))) :
    Calls Tryz.prog 62 #[.slice (some ⟨g, 0, none⟩) 3 3] w fun e w' => e = .returned (.int .i64 (or3 (f 0) (f 1) (f 2))) ∧ w = w' := by
  have Hc := Lib.hid hc
  obtain ⟨r, hr⟩ : ∃ r, or3 (f 0) (f 1) (f 2) = r := ⟨_, rfl⟩
  have Hr := Lib.hid hr
  rw [hr]
  clear hc hr
  go_enter Tryz.func62, Tryz.ntmps62
  go_wp2
  go_loop [8] (fun vi => ∃ i : Nat, i ≤ 3 ∧ vi = .int .i64 i ∧ Hid (∀ j, j < i → f j = 0)) (fun i => 3 - (intOf i).toNat)
  case atStart => exact ⟨0, by omega, rfl, Lib.hid (fun j hj => by omega)⟩
  case round =>
    obtain ⟨i, hi, rfl, Hj⟩ := hrel
    have hi2 : i < 3 ∨ i = 3 := by omega
    rcases hi2 with hlt | rfl
    · have hlt2 : (i : Int) < 3 := by omega
      have h1 := Hc.out i hlt
      obtain ⟨x, hx⟩ : ∃ x, f i = x := ⟨_, rfl⟩
      rw [hx] at h1
      have Hx := Lib.hid hx
      clear hx
      by_cases h0 : x = 0
      · subst h0
        go_wp2
        go_round
        case rel => exact ⟨i + 1, by omega, by go_num, Lib.hid (fun j hj => by
          by_cases e : j = i
          · rw [e, Hx.out]
          · exact Hj.out j (by omega))⟩
        case measure => simp [intOf]; omega
      · have e1 : (x == 0) = false := by simpa using h0
        have hrx : x = r := by
          rw [← Hr.out, ← Hx.out]
          have h9 := Hj.out
          have h8 := Hx.out
          unfold or3
          rcases (show i = 0 ∨ i = 1 ∨ i = 2 by omega) with rfl | rfl | rfl
          · rw [if_pos (by rw [h8]; exact h0)]
          · rw [if_neg (by rw [h9 0 (by omega)]; decide), if_pos (by rw [h8]; exact h0)]
          · rw [if_neg (by rw [h9 0 (by omega)]; decide), if_neg (by rw [h9 1 (by omega)]; decide)]
        subst hrx
        clear h0
        go_wp2
        go_ret
        exact ⟨rfl, rfl⟩
    · have hr0 : r = 0 := by
        rw [← Hr.out]
        have h9 := Hj.out
        unfold or3
        rw [if_neg (by rw [h9 0 (by omega)]; decide), if_neg (by rw [h9 1 (by omega)]; decide), h9 2 (by omega)]
      subst hr0
      go_wp2
      go_ret
      exact ⟨rfl, rfl⟩
end Go.Proofs.YthdicfcgkbepdaaGreatDoor
