/- Walks: matrix.Powers, matrix.Spread, the document's IsSpread; the law's unit. -/
import Derived.Test.YtmaalkjimppnkaaDoorMatJ
import Derived.Test.YtmaalkjimppnkaaDoorMxCode
namespace Go.Proofs.YtmaalkjimppnkaaDoor
open Go.RowKit

theorem powZ_nat {a j : Nat} (hj : j < 255) : powZ a (j : Int) = Gf.pow a j := by
  unfold powZ
  by_cases h : (j : Int) = 0
  · rw [if_pos h]
    obtain rfl : j = 0 := by omega
    rfl
  · rw [if_neg h]
    have e : ((j : Int) % 255).toNat = j := by omega
    rw [e]
    by_cases h0 : a = 0
    · rw [if_pos h0, h0]
      obtain ⟨m, rfl⟩ : ∃ m, j = m + 1 := ⟨j - 1, by omega⟩
      unfold Gf.pow
      first | rw [Gf.zero_mul] | rw [Gf.mul_zero]
    · rw [if_neg h0]

set_option maxHeartbeats 1000000 in
theorem powers_bad (n k : Int) (w : World) (eb : Value) (hb : w.cell? ⟨6, 0, none⟩ = some eb) (h : ¬ (1 ≤ k ∧ k ≤ n ∧ n ≤ 12)) :
    Calls Tryd.prog 89 #[.int .i64 n, .int .i64 k] w fun e w' => e = .returned (.tuple #[.slice none 0 0, eb]) ∧ ∃ q, w' = w.drewN q := by
  by_cases h1 : k < 1
  · go_enter Tryd.func89, Tryd.ntmps89
    go_wp2
    go_quiet (fail)
    go_wp2
    go_ret2
    exact ⟨rfl, _, rfl⟩
  · by_cases h2 : n < k
    · go_enter Tryd.func89, Tryd.ntmps89
      go_wp2
      go_quiet (fail)
      go_wp2
      go_ret2
      exact ⟨rfl, _, rfl⟩
    · have h3 : 12 < n := by omega
      go_enter Tryd.func89, Tryd.ntmps89
      go_wp2
      go_quiet (fail)
      go_wp2
      go_ret2
      exact ⟨rfl, _, rfl⟩
set_option maxRecDepth 100000 in
set_option maxHeartbeats 4000000 in
theorem powers_walk (n k : Nat) (w : World) (hk : 1 ≤ k) (hkn : k ≤ n) (hn : n ≤ 12) :
    Calls Tryd.prog 89 #[.int .i64 n, .int .i64 k] w fun e w' => (∃ v bs caps, e = .returned (.tuple #[v, .nilIface]) ∧ OwnM w.heap.size w' v n k bs caps Mx.vanderM) ∧ Below w.heap.size w w' := by
  have g1 : ¬ (k : Int) < 1 := by omega
  have g2 : ¬ (n : Int) < k := by omega
  have g3 : ¬ (12 : Int) < n := by omega
  go_enter Tryd.func89, Tryd.ntmps89
  go_wp2
  go_loopw [6, 25] (fun vo vi wr => ∃ (i : Nat) (bs cps : Nat → Nat), i ≤ n ∧ vi = .int .i64 i ∧ Hid (OwnM w.heap.size wr vo i k bs cps Mx.vanderM ∧ Below w.heap.size w wr)) (fun _ i _ => n - (intOf i).toNat)
  case atStart => exact ⟨0, fun _ => 0, fun _ => 0, by omega, rfl, Lib.hid ⟨OwnM.nil _ _ _ _ _ _, Below.refl _ _⟩⟩
  case round =>
    obtain ⟨i, bs, cps, hi, rfl, H⟩ := hrel
    have hi2 : i < n ∨ i = n := by omega
    rcases hi2 with hlt | rfl
    · have hlt2 : (i : Int) < n := by omega
      have hsz := H.out.2.size
      obtain ⟨wo, rfl⟩ : ∃ wo : World, wo = wr := ⟨_, rfl⟩
      go_wp2
      go_loopw [8, 29] (fun v vj wr => ∃ j : Nat, j ≤ k ∧ vj = .int .i64 j ∧ Hid (OwnB wo.heap.size wr v ((List.range j).map (Mx.vanderM i)) ∧ Below wo.heap.size wo wr)) (fun _ j _ => k - (intOf j).toNat)
      case atStart => exact ⟨0, by omega, rfl, Lib.hid ⟨OwnB.nil _ _, Below.refl _ _⟩⟩
      case round =>
        obtain ⟨j, hj, rfl, H2⟩ := hrel
        have hj2 : j < k ∨ j = k := by omega
        rcases hj2 with hjl | rfl
        · have hjl2 : (j : Int) < k := by omega
          have hp := pow_any i j wr (by omega) (by omega) (by omega) (by omega)
          rw [powZ_nat (by omega)] at hp
          have hv : Gf.pow i j = Mx.vanderM i j := by unfold Mx.vanderM; rw [Nat.mod_eq_of_lt (by omega)]
          rw [hv] at hp
          obtain ⟨x, hx⟩ : ∃ x, Mx.vanderM i j = x := ⟨_, rfl⟩
          rw [hx] at hp
          have Hp := Lib.hid hp
          have Hxx := Lib.hid hx
          have hl : ((List.range j).map (Mx.vanderM i)).length + 1 ≤ 140737488355328 := by simp; omega
          have hs2 := H2.out.2.size
          have hmod : (i : Int) % 256 = i := by omega
          clear hp hv hx
          go_wp2_with fail
          refine Hp.out.mono ?_
          rintro e w' ⟨rfl, rfl⟩
          go_wp2_with (at_builtin; refine append_byte 39 41 rfl rfl wo.heap.size _ _ x rfl rfl H2.out.1 hl hs2 ?_)
          intro v' w' k1 k2 k3
          have hb : Below wo.heap.size wo w' := (H2.out.2.alloc hs2 _).grown k2 (by simp; omega) (fun q e => (H2.out.1.lt q e).1)
          have hr : OwnB wo.heap.size w' v' ((List.range (j + 1)).map (Mx.vanderM i)) := by
            rw [List.range_succ, List.map_append, List.map_cons, List.map_nil, Hxx.out]; exact k1
          have HR := Lib.hid (And.intro hr hb)
          clear k1 k2 k3 hb hr
          go_wp2
          go_roundw
          case rel => exact ⟨j + 1, by omega, by go_num, HR⟩
          case measure => simp [intOf]; omega
        · obtain ⟨g, cg, hve, hg1, hg2, hg3, hg4, hrow⟩ := OwnB.copy H2.out.1 hk
          rw [hve]
          have hb3 : Below w.heap.size w wr := H.out.2.trans (H2.out.2.mono hsz)
          have hm2 : OwnM w.heap.size wr u6 i j bs cps Mx.vanderM := H.out.1.below H2.out.2 (Nat.le_refl _)
          have hne : ∀ i', i' < i → bs i' ≠ g := fun i' h e => by have := H.out.1.lt i' h; omega
          have hoff : u6.ownBlock ≠ some g := fun e => by have := (H.out.1.own.lt _ e).2; omega
          have hsz2 := hb3.size
          have hown := Lib.hid hm2.own
          have hul : ((List.range i).map fun i => Value.slice (some ⟨bs i, 0, none⟩) j (cps i)).length ≤ 1000000 := by simp; omega
          have Hx := Lib.hid (And.intro hm2 (And.intro hb3 (And.intro hne (And.intro hoff (And.intro hg1 (And.intro hg2 (And.intro hg3 (And.intro hg4 hrow))))))))
          clear hve hb3 hm2 hne hoff hg1 hg2 hg3 hg4 hrow
          go_wp2_with (at_builtin; refine append_rowv 44 46 rfl rfl w.heap.size _ _ (some ⟨g, 0, none⟩) j cg rfl rfl hown.out hul hsz2 ?_)
          intro v' w' k1 k2 k3
          obtain ⟨hm2, hb3, hne, hoff, hg1, hg2, hg3, hg4, hrow⟩ := Hx.out
          have hm3 := hm2.snoc hrow (by omega) hg2 hne hoff ⟨hg3, hg4⟩ k1 k2 k3
          have hb4 : Below w.heap.size w w' := (hb3.alloc hsz2 _).grown k2 (by simp; omega) (fun j e => (hm2.own.lt j e).1)
          have hm4 := hm3.congr (M' := Mx.vanderM) (fun i' hi' j hj => by
            unfold Mx.putR
            by_cases e : i' = i
            · rw [if_pos e, e]
            · rw [if_neg e])
          have HR := Lib.hid (And.intro hm4 hb4)
          clear hm2 hb3 hne hoff hg1 hg2 hg3 hg4 hrow hm3 hb4 hm4 k1 k2 k3 Hx hown
          go_wp2
          go_roundw
          case rel => exact ⟨i + 1, _, _, by omega, by go_num, HR⟩
          case measure => simp [intOf]; omega
    · go_wp2
      go_ret2
      exact ⟨⟨_, bs, cps, rfl, H.out.1⟩, H.out.2⟩
end Go.Proofs.YtmaalkjimppnkaaDoor
