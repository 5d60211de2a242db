/- The walks of matrix.reduced's search: slices.IndexFunc and its function. -/
import Derived.Test.YtmaalkjimppnkaaDoorMatA
namespace Go.Proofs.YtmaalkjimppnkaaDoor
open Go.RowKit

set_option maxRecDepth 100000 in
theorem pred_walk (b C cap c x : Nat) (box : Addr) (w : World) (hc : c < C) (hC : C ≤ maxLen) (hb : w.cell? box = some (.int .i64 c)) (hr : w.cell? ⟨b, c, none⟩ = some (.int .u8 (x : Nat))) :
    Calls Tryd.prog 170 #[.slice (some ⟨b, 0, none⟩) C cap, .pointer (some box)] w fun e w' => e = .returned (.bool (decide (x ≠ 0))) ∧ w = w' := by
  have hm : C ≤ 9223372036854775807 := hC
  have hlt : (c : Int) < C := by omega
  by_cases hx : x = 0
  · subst hx
    go_enter Tryd.func170, Tryd.ntmps170
    go_wp2
    go_ret
    exact ⟨rfl, rfl⟩
  · have hx0 : ((x : Int) == 0) = false := by simp; omega
    go_enter Tryd.func170, Tryd.ntmps170
    go_wp2
    go_ret
    exact ⟨by simp [hx], rfl⟩
set_option maxRecDepth 100000 in
set_option maxHeartbeats 1000000 in
theorem find_walk (g off m cap C c : Nat) (bs caps f : Nat → Nat) (box : Addr) (w : World) (hm : m ≤ maxLen) (hc : c < C) (hC : C ≤ maxLen) (hb : w.cell? box = some (.int .i64 c))
    (hh : ∀ j, j < m → w.cell? ⟨g, off + j, none⟩ = some (.slice (some ⟨bs j, 0, none⟩) C (caps j))) (hr : ∀ j, j < m → w.cell? ⟨bs j, c, none⟩ = some (.int .u8 (f j : Nat))) :
    Calls Tryd.prog 169 #[.slice (some ⟨g, off, none⟩) m cap, .func (.func 170) #[] #[.pointer (some box)]] w
      fun e w' => (((∀ j, j < m → f j = 0) ∧ e = .returned (.int .i64 (-1))) ∨ ∃ k, k < m ∧ f k ≠ 0 ∧ e = .returned (.int .i64 (k : Nat))) ∧ w = w' := by
  have hm' : m ≤ 9223372036854775807 := hm
  have Hh := Lib.hid hh; clear hh
  have Hr := Lib.hid hr; clear hr
  go_enter Tryd.func169, Tryd.ntmps169
  go_wp2
  go_loop [8] (fun vi => ∃ k : Nat, k ≤ m ∧ vi = .int .i64 k ∧ ∀ j, j < k → f j = 0) (fun i => m - (intOf i).toNat)
  case atStart => exact ⟨0, by omega, rfl, fun j hj => by omega⟩
  case round =>
    obtain ⟨k, hk, rfl, hz⟩ := hrel
    have Hz := Lib.hid hz; clear hz
    have hk2 : k < m ∨ k = m := by omega
    rcases hk2 with hlt | rfl
    · have hlt2 : (k : Int) < m := by omega
      have h1 := Hh.out k hlt
      have Hp := Lib.hid (pred_walk (bs k) C (caps k) c (f k) box w hc hC hb (Hr.out k hlt))
      by_cases hx : f k = 0
      · have e1 : decide (f k ≠ 0) = false := by simp [hx]
        rw [e1] at Hp
        go_wp2_with (go_at_call 170; refine Hp.out.mono ?_; rintro e w' ⟨rfl, rfl⟩)
        go_round
        case rel => exact ⟨k + 1, by omega, by go_num, fun j hj => by
          by_cases e : j = k
          · rw [e, hx]
          · exact Hz.out j (by omega)⟩
        case measure => simp [intOf]; omega
      · have e1 : decide (f k ≠ 0) = true := by simp [hx]
        rw [e1] at Hp
        go_wp2_with (go_at_call 170; refine Hp.out.mono ?_; rintro e w' ⟨rfl, rfl⟩)
        go_ret
        exact ⟨.inr ⟨k, hlt, hx, rfl⟩, rfl⟩
    · go_wp2
      go_ret
      exact ⟨.inl ⟨Hz.out, rfl⟩, rfl⟩
end Go.Proofs.YtmaalkjimppnkaaDoor
