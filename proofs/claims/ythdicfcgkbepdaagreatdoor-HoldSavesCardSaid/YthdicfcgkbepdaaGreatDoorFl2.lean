/- The walks of shardkeeplaw2's faulted and coded. -/
import Derived.Test.YthdicfcgkbepdaaGreatDoorFlt
namespace Go.Proofs.YthdicfcgkbepdaaGreatDoor
open Go.RowKit

set_option maxHeartbeats 1000000 in
theorem coded2_nil (c : Int) (w : World) :
    Calls Tryz.prog 8 #[.nilIface, .int .i64 c] w fun e w' => e = .returned (.bool (decide (c = 0))) ∧ w = w' := by
  by_cases hc : c = 0
  · subst hc
    go_enter Tryz.func8, Tryz.ntmps8
    go_wp2_with fail
    refine (code_nil _).mono ?_
    rintro e w' ⟨rfl, rfl⟩
    go_wp2
    go_ret
    exact ⟨rfl, rfl⟩
  · have h0 : ((0 : Int) == c) = false := by simp; omega
    go_enter Tryz.func8, Tryz.ntmps8
    go_wp2_with fail
    refine (code_nil _).mono ?_
    rintro e w' ⟨rfl, rfl⟩
    go_wp2
    go_ret
    exact ⟨by simp [hc], rfl⟩
set_option maxHeartbeats 1000000 in
theorem coded2_err (E : Nat → Addr) (i : Nat) (hi : i < 12) (c : Int) (w : World) (hE : ErrEnv w E) :
    Calls Tryz.prog 8 #[errV (E i), .int .i64 c] w fun e w' => e = .returned (.bool (decide (c = (i : Int) + 1))) ∧ Below w.heap.size w w' := by
  have HE := Lib.hid hE; clear hE
  by_cases hc : c = (i : Int) + 1
  · subst hc
    go_enter Tryz.func8, Tryz.ntmps8
    go_wp2_with fail
    refine (code_err E i hi _ HE.out).mono ?_
    rintro e w' ⟨rfl, hb⟩
    go_wp2
    go_ret
    exact ⟨by simp, hb⟩
  · have h0 : ((i : Int) + 1 == c) = false := by simp; omega
    go_enter Tryz.func8, Tryz.ntmps8
    go_wp2_with fail
    refine (code_err E i hi _ HE.out).mono ?_
    rintro e w' ⟨rfl, hb⟩
    go_wp2
    go_ret
    exact ⟨by simp [hc], hb⟩
end Go.Proofs.YthdicfcgkbepdaaGreatDoor
