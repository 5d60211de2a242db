/- The walk of the law HoldActs. -/
import Derived.Test.YtpmajppbcmlcoaaDoorHpD
import Derived.Test.YtpmajppbcmlcoaaDoorEnv
namespace Go.Proofs.YtpmajppbcmlcoaaDoor.holdActs
open Go.RowKit

set_option maxRecDepth 100000 in
set_option maxHeartbeats 16000000 in
theorem walk (a : Option Addr) (len cap : Nat) (acts : List HAct) (w : World) (hA : ActsIn w a len cap acts) (hL : laidMetH Tryd.prog Rows.holdActsRow.laid w) :
    Calls Tryd.prog 3 #[.slice a len cap] w fun e w' => e = .returned (.bool true) ∧ Below w.heap.size w w' := by
  obtain ⟨E, hE⟩ := env_of_laid hL
  have Hh := Lib.hid (holds_walk w E hE.hx)
  have HA := Lib.hid (And.intro hA hE)
  clear hA hE hL
  go_enter Tryd.func3, Tryd.ntmps3
  go_wp2_with fail
  refine Hh.out.mono ?_
  rintro e w1 ⟨rfl, hb1⟩
  have hA1 : ActsIn w1 a len cap acts := by
    obtain ⟨h1, h2, h3, h4, h5, h6⟩ := HA.out.1
    refine ⟨h1, h2, h3, h4, ?_, h6⟩
    rcases h5.below hb1 with e | ⟨b, off, e, hb, hc⟩
    · exact .inl e
    · exact .inr ⟨b, off, e, Nat.lt_of_lt_of_le hb hb1.size, hc⟩
  have H1 := Lib.hid (And.intro hb1 hA1)
  clear hb1 hA1
  go_wp2_with fail
  refine (heavy_walk w1 a len cap acts H1.out.2).mono ?_
  rintro e w2 ⟨⟨r, rfl⟩, hb2⟩
  have H2 := Lib.hid (H1.out.1.trans (hb2.mono H1.out.1.size))
  clear hb2
  cases r with
  | true =>
    go_wp2
    go_ret
    exact ⟨rfl, H2.out⟩
  | false =>
    have hb4 : Below w.heap.size w ((w2.alloc (.cells #[.map none, .bool false] 29)).alloc (.cells #[.slice none 0 0, .bool false] 33)) := (H2.out.alloc H2.out.size _).alloc (by have := H2.out.size; simp; omega) _
    have hT : Two (fun b => w.heap.size ≤ b) ((w2.alloc (.cells #[.map none, .bool false] 29)).alloc (.cells #[.slice none 0 0, .bool false] 33)) w2.heap.size (w2.heap.size + 1) false [] false [] := by
      have hs := H2.out.size
      refine ⟨fun b => b = w2.heap.size, fun b => b = w2.heap.size + 1, [], fun _ => .slice none 0 0, HoldAt.empty rfl (by simp) (by simp) (by simp) (by simp), ⟨rfl, by simp, by simp, by simp, by simp, none, 0, by simp, Nat.le_refl _, by simp [maxLen], fun _ => rfl, fun x e => (by cases e), .inl rfl⟩, fun b h1 h2 => by omega, fun b h => ⟨by omega, by simp; omega⟩, fun b h => ⟨by omega, by simp; omega⟩, fun b h => by simp at h; omega⟩
    have Hp := Lib.hid (play_walk w _ _ _ false [] E a len cap acts hb4 hT Fine.nil HA.out.2 HA.out.1)
    have H4 := Lib.hid hb4
    clear hb4 hT
    go_wp2_with fail
    refine Hp.out.mono ?_
    rintro e w5 ⟨rfl, hb5⟩
    have H5 := Lib.hid (H4.out.trans hb5)
    clear hb5
    go_wp2
    go_ret
    exact ⟨rfl, H5.out⟩
end Go.Proofs.YtpmajppbcmlcoaaDoor.holdActs
