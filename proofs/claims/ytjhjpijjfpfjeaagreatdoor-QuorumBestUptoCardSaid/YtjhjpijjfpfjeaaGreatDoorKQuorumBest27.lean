/- Walks of the document's upTo and Spread; of both Times where they do not go together. -/
import Derived.Test.YtjhjpijjfpfjeaaGreatDoorKQuorumBest19
import Derived.Test.YtjhjpijjfpfjeaaGreatDoorKQuorumBest20
import Derived.Test.YtjhjpijjfpfjeaaGreatDoorKQuorumBest23
import Derived.Test.YtjhjpijjfpfjeaaGreatDoorKQuorumBest26
import Derived.Lib.QuietBelow
import Derived.BigQuiet
import Derived.IntWalk
import Derived.Deep.CutRange
namespace Go.Proofs.YtjhjpijjfpfjeaaGreatDoor
open Go.RowKit

/-- do two go together? -/
def Together (LA LB : List (List Nat)) : Prop := IsMat LA ∧ IsMat LB ∧ (LA[0]?.getD []).length = LB.length
set_option maxHeartbeats 1000000 in
theorem times_bad (n₀ : Nat) (aa ab : Option Addr) (ca cb : Nat) (LA LB : List (List Nat)) (w : World) (a2 : Addr) (hz : w.cell? ⟨0, 0, none⟩ = some (errV a2)) (hn : n₀ ≤ w.heap.size) (hA : RowsAt n₀ w aa LA) (hB : RowsAt n₀ w ab LB) (h : ¬ Together LA LB) :
    Calls Tryz.prog 59 #[.slice aa LA.length ca, .slice ab LB.length cb] w fun e w' => e = .returned (.tuple #[.slice none 0 0, errV a2]) ∧ Below w.heap.size w w' := by
  have HA := Lib.hid hA
  have HB := Lib.hid hB
  have Hz := Lib.hid hz
  obtain ⟨nA, hnA⟩ : ∃ n, LA.length = n := ⟨_, rfl⟩
  obtain ⟨nB, hnB⟩ : ∃ n, LB.length = n := ⟨_, rfl⟩
  have H := Lib.hid h
  by_cases h1 : IsMat LA
  · have hc1 := check_yes n₀ aa ca LA w _ hz hA h1
    by_cases h2 : IsMat LB
    · obtain ⟨b, off, p, o, caps, hae, hR⟩ := hA.mat h1
      have h3 : (LA[0]?.getD []).length ≠ LB.length := fun e => h ⟨h1, h2, e⟩
      have h4 := h1.n1
      have hc0 := hR.head 0 h4
      rw [Nat.add_zero] at hc0
      have hlo := hR.lo
      obtain ⟨c, hc⟩ : ∃ c, (LA[0]?.getD []).length = c := ⟨_, rfl⟩
      rw [hc] at hc0 h3
      have hne1 : ((c : Int) != (nB : Int)) = true := by simp; omega
      have hne2 : (c != nB) = true := by simp; omega
      have hn3 : (0 : Int) < nA := by omega
      rw [hnA] at hc1
      rw [hnA, hnB]
      rw [hae] at hc1 ⊢
      have Hc1 := Lib.hid hc1
      have Hx := Lib.hid (And.intro hnB h2)
      have Hc0 := Lib.hid hc0
      clear hA hB hz h h1 h2 hc1 hnA hnB hae hR hc hc0 h3
      go_enter Tryz.func59, Tryz.ntmps59
      go_wp2_with fail
      refine Hc1.out.mono ?_
      rintro e w1 ⟨rfl, hb1⟩
      have hz1 : w1.cell? ⟨0, 0, none⟩ = some (errV a2) := (hb1.cell (lt_of_cell Hz.out)).trans Hz.out
      have hc2 := check_yes n₀ ab cb LB w1 _ hz1 (HB.out.below (hb1.mono hn)) Hx.out.2
      rw [Hx.out.1] at hc2
      have Hc2 := Lib.hid hc2
      have HB1 := Lib.hid (And.intro hb1 hz1)
      clear hc2 hb1 hz1
      go_wp2_with fail
      refine Hc2.out.mono ?_
      rintro e w2 ⟨rfl, hb2⟩
      have hb3 := HB1.out.1.trans (hb2.mono HB1.out.1.size)
      have hz2 : w2.cell? ⟨0, 0, none⟩ = some (errV a2) := (hb3.cell (lt_of_cell Hz.out)).trans Hz.out
      have hc0 : w2.cell? ⟨b, off, none⟩ = some (.slice (some ⟨p 0, o 0, none⟩) c (caps 0)) := (hb3.cell (p := ⟨b, off, none⟩) (by show b < w.heap.size; omega)).trans Hc0.out
      have HB3 := Lib.hid hb3
      clear hb2 hb3 HB1
      go_wp2
      go_quiet (fail)
      go_wp2
      go_ret2
      exact ⟨rfl, HB3.out.trans (same_below' _ nq)⟩
    · rw [hnA] at hc1
      rw [hnA, hnB]
      have Hc1 := Lib.hid hc1
      have Hx := Lib.hid (And.intro hnB h2)
      clear hA hB hz h h1 h2 hc1 hnA hnB
      go_enter Tryz.func59, Tryz.ntmps59
      go_wp2_with fail
      refine Hc1.out.mono ?_
      rintro e w1 ⟨rfl, hb1⟩
      have hz1 : w1.cell? ⟨0, 0, none⟩ = some (errV a2) := (hb1.cell (lt_of_cell Hz.out)).trans Hz.out
      have hc2 := check_no n₀ ab cb LB w1 _ hz1 (HB.out.below (hb1.mono hn)) Hx.out.2
      rw [Hx.out.1] at hc2
      have Hc2 := Lib.hid hc2
      have HB1 := Lib.hid (And.intro hb1 hz1)
      clear hc2 hb1 hz1
      go_wp2_with fail
      refine Hc2.out.mono ?_
      rintro e w2 ⟨rfl, hb2⟩
      have hb3 := HB1.out.1.trans (hb2.mono HB1.out.1.size)
      have hz2 : w2.cell? ⟨0, 0, none⟩ = some (errV a2) := (hb3.cell (lt_of_cell Hz.out)).trans Hz.out
      have HB3 := Lib.hid hb3
      clear hb2 hb3 HB1
      go_wp2
      go_quiet (fail)
      go_wp2
      go_ret2
      exact ⟨rfl, HB3.out.trans (same_below' _ nq)⟩
  · have hc1 := check_no n₀ aa ca LA w _ hz hA h1
    rw [hnA] at hc1
    rw [hnA, hnB]
    have Hc1 := Lib.hid hc1
    clear hA hB hz h h1 hc1 hnA hnB
    go_enter Tryz.func59, Tryz.ntmps59
    go_wp2_with fail
    refine Hc1.out.mono ?_
    rintro e w1 ⟨rfl, hb1⟩
    have hz1 : w1.cell? ⟨0, 0, none⟩ = some (errV a2) := (hb1.cell (lt_of_cell Hz.out)).trans Hz.out
    have HB1 := Lib.hid hb1
    clear hb1
    go_wp2
    go_quiet (fail)
    go_wp2
    go_ret2
    exact ⟨rfl, HB1.out.trans (same_below' _ nq)⟩
end Go.Proofs.YtjhjpijjfpfjeaaGreatDoor
/- Walks of the document's Wide and Encode, of sameShards. -/
namespace Go.Proofs.YtjhjpijjfpfjeaaGreatDoor
open Go.RowKit

set_option maxHeartbeats 1000000 in
theorem rwide_walk (k size : Nat) (w : World) (hk : 1 ≤ k) (hk2 : k ≤ 1000) (hs : size ≤ 100000) :
    Calls Tryz.prog 47 #[.int .i64 k, .int .i64 size] w fun e w' => e = .returned (.int .i64 (wideN k size : Nat)) ∧ w' = w := by
  have hwf := wide_facts k size hk
  obtain ⟨W, hW⟩ : ∃ W, wideN k size = W := ⟨_, rfl⟩
  rw [hW] at hwf ⊢
  have hcm : k * W = W * k := Nat.mul_comm _ _
  rw [hcm] at hwf
  obtain ⟨Q, hQ⟩ : ∃ Q, W * k = Q := ⟨_, rfl⟩
  have HQ := Lib.hid hQ
  rw [hQ] at hwf
  have hWl : W ≤ Q := by rw [← hQ]; exact Nat.le_mul_of_pos_right _ hk
  clear hW hcm hQ
  go_enter Tryz.func47, Tryz.ntmps47
  go_wp2
  go_loop [5] (fun t => ∃ v : Nat, v ≤ W ∧ t = .int .i64 v) (fun t => W - (intOf t).toNat)
  case atStart => exact ⟨0, by omega, rfl⟩
  case round =>
    obtain ⟨v, hv, rfl⟩ := hrel
    obtain ⟨P, hP⟩ : ∃ P, v * k = P := ⟨_, rfl⟩
    have hPi : (v : Int) * (k : Int) = (P : Int) := by rw [← hP]; push_cast; rfl
    have hPQ : P ≤ Q := by rw [← hP, ← HQ.out]; exact Nat.mul_le_mul_right _ hv
    have hv2 : v < W ∨ v = W := by omega
    rcases hv2 with hlt | rfl
    · have h1 : P + k ≤ Q := by
        rw [← hP, ← HQ.out]
        have := Nat.mul_le_mul_right k (show v + 1 ≤ W by omega)
        rwa [Nat.add_mul, Nat.one_mul] at this
      have hlt2 : (P : Int) < size := by omega
      clear hP
      go_wp2
      go_round
      case rel => exact ⟨v + 1, by omega, by go_num⟩
      case measure => simp [intOf]; omega
    · have h1 : P = Q := by rw [← hP, HQ.out]
      have hlt2 : ¬ (P : Int) < size := by omega
      clear hP
      go_wp2
      go_ret
      exact ⟨rfl, rfl⟩

/-- the sum of the first products of a column. -/
def encP (k : Nat) (s : ByteArray) (i c : Nat) : Nat → Nat := fun j => Mx.dot (Mx.spr k i) (fun l => sb s (l * wideN k s.size + c)) j
theorem encP_all (k : Nat) (s : ByteArray) (i c : Nat) : encP k s i c k = encF k s i c := rfl
theorem encP_lt (k : Nat) (s : ByteArray) (i c j : Nat) : encP k s i c j < 256 := Mx.dot_lt (Mx.by_spr k i) j
theorem encP_succ (k : Nat) (s : ByteArray) (i c j : Nat) : encP k s i c (j + 1) = encP k s i c j ^^^ Gf.mul (Mx.spr k i j) (sb s (j * wideN k s.size + c)) := rfl
end Go.Proofs.YtjhjpijjfpfjeaaGreatDoor
/- The walks of quorum.can, the document's canBe. -/
namespace Go.Proofs.YtjhjpijjfpfjeaaGreatDoor
section
open Go.RowKit Go.BigFrame

theorem canB_no1 {n k : Nat} {x : Ver} (h : tagB x.1 x.2.1 = false) : canB n k x = false := by unfold canB; rw [h]; rfl
theorem canB_no2 {n k : Nat} {x : Ver} (h : ¬ (0 ≤ x.2.2.1 ∧ x.2.2.1 ≤ 1000 ∧ 0 ≤ x.2.2.2.1 ∧ x.2.2.2.1 < n ∧ x.2.2.2.2.size = wideN k x.2.2.1.toNat)) : canB n k x = false := by unfold canB; rw [decide_eq_false h, Bool.and_false]
theorem canB_yes {n k : Nat} {x : Ver} (h1 : tagB x.1 x.2.1 = true) (h : 0 ≤ x.2.2.1 ∧ x.2.2.1 ≤ 1000 ∧ 0 ≤ x.2.2.2.1 ∧ x.2.2.2.1 < n ∧ x.2.2.2.2.size = wideN k x.2.2.1.toNat) : canB n k x = true := by unfold canB; rw [h1, decide_eq_true h]; rfl
theorem int_beq (a b : Nat) : ((a : Int) == (b : Int)) = decide (a = b) := by
  rw [Bool.eq_iff_iff, beq_iff_eq, decide_eq_true_iff]
  omega
/-- the ways that a version goes: the first test that it fails. -/
theorem can_cases (n k : Nat) (x1 x2 x3 x4 : Int) (x5 : ByteArray) :
    (tagB x1 x2 = false ∧ canB n k (x1, x2, x3, x4, x5) = false) ∨ (tagB x1 x2 = true ∧ ¬ 0 ≤ x3 ∧ canB n k (x1, x2, x3, x4, x5) = false) ∨ (tagB x1 x2 = true ∧ 0 ≤ x3 ∧ ¬ x3 ≤ 1000 ∧ canB n k (x1, x2, x3, x4, x5) = false) ∨
    (tagB x1 x2 = true ∧ 0 ≤ x3 ∧ x3 ≤ 1000 ∧ ¬ 0 ≤ x4 ∧ canB n k (x1, x2, x3, x4, x5) = false) ∨ (tagB x1 x2 = true ∧ 0 ≤ x3 ∧ x3 ≤ 1000 ∧ 0 ≤ x4 ∧ ¬ x4 < n ∧ canB n k (x1, x2, x3, x4, x5) = false) ∨
    (tagB x1 x2 = true ∧ 0 ≤ x3 ∧ x3 ≤ 1000 ∧ 0 ≤ x4 ∧ x4 < n ∧ canB n k (x1, x2, x3, x4, x5) = decide (x5.size = wideN k x3.toNat)) := by
  cases ht : tagB x1 x2 with
  | false => exact .inl ⟨rfl, canB_no1 ht⟩
  | true =>
    by_cases h1 : 0 ≤ x3
    · by_cases h2 : x3 ≤ 1000
      · by_cases h3 : 0 ≤ x4
        · by_cases h4 : x4 < n
          · refine .inr (.inr (.inr (.inr (.inr ⟨rfl, h1, h2, h3, h4, ?_⟩))))
            by_cases h5 : x5.size = wideN k x3.toNat
            · rw [decide_eq_true h5]; exact canB_yes ht ⟨h1, h2, h3, h4, h5⟩
            · rw [decide_eq_false h5]; exact canB_no2 (fun h => h5 h.2.2.2.2)
          · exact .inr (.inr (.inr (.inr (.inl ⟨rfl, h1, h2, h3, h4, canB_no2 (fun h => h4 h.2.2.2.1)⟩))))
        · exact .inr (.inr (.inr (.inl ⟨rfl, h1, h2, h3, canB_no2 (fun h => h3 h.2.2.1)⟩)))
      · exact .inr (.inr (.inl ⟨rfl, h1, h2, canB_no2 (fun h => h2 h.2.1)⟩))
    · exact .inr (.inl ⟨rfl, h1, canB_no2 (fun h => h1 h.1)⟩)
set_option maxRecDepth 100000 in
set_option maxHeartbeats 8000000 in
theorem can_walk (n k : Nat) (a : Option Addr) (len cap : Nat) (x1 x2 x3 x4 : Int) (x5 : ByteArray) (w : World) (hk : 1 ≤ k) (hkn : k ≤ n) (hn : n ≤ 12) :
    Calls Tryz.prog 28 #[.agg #[.int .i64 n, .int .i64 k, .slice a len cap], .agg #[.int .i64 x1, .int .i64 x2, .int .i64 x3, .int .i64 x4, .string x5]] w fun e w' => e = .returned (.bool (canB n k (x1, x2, x3, x4, x5))) ∧ Below w.heap.size w w' := by
  obtain ⟨W1, hW1⟩ : ∃ W1, w.alloc (.cells #[.int .i64 n, .int .i64 k, .slice a len cap] 24) = W1 := ⟨_, rfl⟩
  obtain ⟨W2, hW2⟩ : ∃ W2, W1.alloc (.cells #[.int .i64 x1, .int .i64 x2, .int .i64 x3, .int .i64 x4, .string x5] 51) = W2 := ⟨_, rfl⟩
  obtain ⟨B, hB⟩ : ∃ B, w.heap.size = B := ⟨_, rfl⟩
  have hs1 : W1.heap.size = B + 1 := by rw [← hW1, ← hB]; simp
  have hb2 : Below w.heap.size w W2 := by rw [← hW2, ← hW1]; exact ((Below.refl _ _).alloc (Nat.le_refl _) _).alloc (by simp) _
  have g1 : W2.heap[B]? = some (.cells #[.int .i64 n, .int .i64 k, .slice a len cap] 24 (0, 0)) := by
    rw [← hW2, Below.heap_alloc _ _ _ (by omega), ← hW1, ← hB]; exact heap_alloc_new _ _
  have g2 : W2.heap[B + 1]? = some (.cells #[.int .i64 x1, .int .i64 x2, .int .i64 x3, .int .i64 x4, .string x5] 51 (0, 0)) := by
    rw [← hW2, ← hs1]; exact heap_alloc_new _ _
  have k0 := cell_regrown ((cell_of_heap g1 0).trans rfl)
  have k1 := cell_regrown ((cell_of_heap g1 1).trans rfl)
  have l0 := cell_regrown ((cell_of_heap g2 0).trans rfl)
  have l1 := cell_regrown ((cell_of_heap g2 1).trans rfl)
  have l2 := cell_regrown ((cell_of_heap g2 2).trans rfl)
  have l3 := cell_regrown ((cell_of_heap g2 3).trans rfl)
  have l4 := cell_regrown ((cell_of_heap g2 4).trans rfl)
  have Ct := fun d os => Calls.regrown_of (tagb_walk x1 x2 (Go.Sort.grow (redrawn W2 d) os))
  have HW := Lib.hid (And.intro hW1 (And.intro hW2 (And.intro hB (And.intro hs1 hb2))))
  have hcc := can_cases n k x1 x2 x3 x4 x5
  clear hW1 hW2 hB hs1 hb2 g1 g2
  obtain ⟨tb, htb⟩ : ∃ tb, tagB x1 x2 = tb := ⟨_, rfl⟩
  obtain ⟨cb, hcb⟩ : ∃ cb, canB n k (x1, x2, x3, x4, x5) = cb := ⟨_, rfl⟩
  rw [htb] at Ct hcc
  rw [hcb] at hcc ⊢
  clear htb hcb
  have fin : ∀ w' : World, (∃ p : Regrown, w' = Go.Sort.grow (redrawn W2 p.d) p.os) → Below w.heap.size w w' := fun w' ⟨p, hp⟩ => HW.out.2.2.2.2.trans (by rw [hp]; exact (below_regrown W2 p.d p.os).mono HW.out.2.2.2.2.size)
  have Hfin := Lib.hid fin
  clear fin
  rcases hcc with ⟨rfl, rfl⟩ | ⟨rfl, h1, rfl⟩ | ⟨rfl, h1, h2, rfl⟩ | ⟨rfl, h1, h2, h3, rfl⟩ | ⟨rfl, h1, h2, h3, h4, rfl⟩ | ⟨rfl, h1, h2, h3, h4, rfl⟩
  · go_enter Tryz.func28, Tryz.ntmps28
    go_wp2
    rw [HW.out.1, HW.out.2.2.1, HW.out.2.1]
    refine wp_region_quiet_below (by kernel_rfl) (by kernel_rfl) ?_
    repeat (go_big_quiet_step (first | (with_reducible exact Ct _ _)))
    refine wpQuiet_nil ?_
    intro w5 hw'
    have HB := Lib.hid (Hfin.out w5 hw')
    clear hw'
    go_wp2
    go_ret
    exact ⟨rfl, HB.out⟩
  · have d1 : decide (0 ≤ x3) = false := decide_eq_false h1
    go_enter Tryz.func28, Tryz.ntmps28
    go_wp2
    rw [HW.out.1, HW.out.2.2.1, HW.out.2.1]
    refine wp_region_quiet_below (by kernel_rfl) (by kernel_rfl) ?_
    repeat (go_big_quiet_step (first | (with_reducible exact Ct _ _)))
    refine wpQuiet_nil ?_
    intro w5 hw'
    have HB := Lib.hid (Hfin.out w5 hw')
    clear hw'
    go_wp2
    go_ret
    exact ⟨rfl, HB.out⟩
  · have d1 : decide (0 ≤ x3) = true := decide_eq_true h1
    have d2 : decide (x3 ≤ 1000) = false := decide_eq_false h2
    go_enter Tryz.func28, Tryz.ntmps28
    go_wp2
    rw [HW.out.1, HW.out.2.2.1, HW.out.2.1]
    refine wp_region_quiet_below (by kernel_rfl) (by kernel_rfl) ?_
    repeat (go_big_quiet_step (first | (with_reducible exact Ct _ _)))
    refine wpQuiet_nil ?_
    intro w5 hw'
    have HB := Lib.hid (Hfin.out w5 hw')
    clear hw'
    go_wp2
    go_ret
    exact ⟨rfl, HB.out⟩
  · have d1 : decide (0 ≤ x3) = true := decide_eq_true h1
    have d2 : decide (x3 ≤ 1000) = true := decide_eq_true h2
    have d3 : decide (0 ≤ x4) = false := decide_eq_false h3
    go_enter Tryz.func28, Tryz.ntmps28
    go_wp2
    rw [HW.out.1, HW.out.2.2.1, HW.out.2.1]
    refine wp_region_quiet_below (by kernel_rfl) (by kernel_rfl) ?_
    repeat (go_big_quiet_step (first | (with_reducible exact Ct _ _)))
    refine wpQuiet_nil ?_
    intro w5 hw'
    have HB := Lib.hid (Hfin.out w5 hw')
    clear hw'
    go_wp2
    go_ret
    exact ⟨rfl, HB.out⟩
  · have d1 : decide (0 ≤ x3) = true := decide_eq_true h1
    have d2 : decide (x3 ≤ 1000) = true := decide_eq_true h2
    have d3 : decide (0 ≤ x4) = true := decide_eq_true h3
    have d4 : decide (x4 < (n : Int)) = false := decide_eq_false h4
    go_enter Tryz.func28, Tryz.ntmps28
    go_wp2
    rw [HW.out.1, HW.out.2.2.1, HW.out.2.1]
    refine wp_region_quiet_below (by kernel_rfl) (by kernel_rfl) ?_
    repeat (go_big_quiet_step (first | (with_reducible exact Ct _ _)))
    refine wpQuiet_nil ?_
    intro w5 hw'
    have HB := Lib.hid (Hfin.out w5 hw')
    clear hw'
    go_wp2
    go_ret
    exact ⟨rfl, HB.out⟩
  · obtain ⟨s, rfl⟩ := Int.eq_ofNat_of_zero_le h1
    have d1 : decide (0 ≤ (s : Int)) = true := decide_eq_true h1
    have d2 : decide ((s : Int) ≤ 1000) = true := decide_eq_true h2
    have d3 : decide (0 ≤ x4) = true := decide_eq_true h3
    have d4 : decide (x4 < (n : Int)) = true := decide_eq_true h4
    have e1 : IntKind.i64.wrap ((s : Int) + (k : Int)) = (s : Int) + k := IntWalk.i64_in _ (by omega)
    have e2 : IntKind.i64.wrap ((s : Int) + (k : Int) - 1) = (s : Int) + k - 1 := IntWalk.i64_in _ (by omega)
    obtain ⟨W, hW⟩ : ∃ W, wideN k s = W := ⟨_, rfl⟩
    have e3 : ((s : Int) + (k : Int) - 1).tdiv (k : Int) = (W : Int) := by
      rw [← hW]
      unfold wideN
      rw [Int.tdiv_eq_ediv_of_nonneg (by omega)]
      have : ((s + k - 1 : Nat) : Int) = (s : Int) + k - 1 := by omega
      rw [Int.natCast_ediv, this]
    have hWl : W ≤ 100000 := by
      rw [← hW]; unfold wideN
      exact Nat.le_trans (Nat.div_le_self _ _) (by omega)
    have e4 : IntKind.i64.wrap (W : Int) = W := IntWalk.i64_in _ (by omega)
    have hk0 : ((k : Int) == 0) = false := by simp; omega
    have hk00 : ¬ (k : Int) = 0 := by omega
    show Calls _ _ _ _ fun e w' => e = .returned (.bool (decide (x5.size = wideN k (Int.toNat (s : Int))))) ∧ Below w.heap.size w w'
    rw [show Int.toNat (s : Int) = s from rfl, hW]
    clear hW h1 h2 h3 h4
    by_cases h5 : x5.size = W
    · rw [decide_eq_true h5]
      have d5 : ((x5.size : Int) == (W : Int)) = true := by simp [h5]
      have d6 : (x5.size == W) = true := by simp [h5]
      have d7 : decide (x5.size = W) = true := decide_eq_true h5
      clear h5
      go_enter Tryz.func28, Tryz.ntmps28
      go_wp2
      rw [HW.out.1, HW.out.2.2.1, HW.out.2.1]
      refine wp_region_quiet_below (by kernel_rfl) (by kernel_rfl) ?_
      repeat (go_big_quiet_step (first | (with_reducible exact Ct _ _)))
      refine wpQuiet_nil ?_
      intro w5 hw'
      have HB := Lib.hid (Hfin.out w5 hw')
      clear hw'
      go_wp2
      go_ret
      exact ⟨rfl, HB.out⟩
    · rw [decide_eq_false h5]
      have d5 : ((x5.size : Int) == (W : Int)) = false := by simp; omega
      have d6 : (x5.size == W) = false := by simpa using h5
      have d7 : decide (x5.size = W) = false := decide_eq_false h5
      go_enter Tryz.func28, Tryz.ntmps28
      go_wp2
      rw [HW.out.1, HW.out.2.2.1, HW.out.2.1]
      refine wp_region_quiet_below (by kernel_rfl) (by kernel_rfl) ?_
      repeat (go_big_quiet_step (first | (with_reducible exact Ct _ _)))
      refine wpQuiet_nil ?_
      intro w5 hw'
      have HB := Lib.hid (Hfin.out w5 hw')
      clear hw'
      go_wp2
      go_ret
      exact ⟨rfl, HB.out⟩
set_option maxRecDepth 100000 in
set_option maxHeartbeats 8000000 in
theorem canbe_walk (n k : Nat) (a : Option Addr) (len cap : Nat) (x1 x2 x3 x4 : Int) (x5 : ByteArray) (w : World) (hk : 1 ≤ k) (hkn : k ≤ n) (hn : n ≤ 12) :
    Calls Tryz.prog 44 #[.agg #[.int .i64 n, .int .i64 k, .slice a len cap], .agg #[.int .i64 x1, .int .i64 x2, .int .i64 x3, .int .i64 x4, .string x5]] w fun e w' => e = .returned (.bool (canB n k (x1, x2, x3, x4, x5))) ∧ Below w.heap.size w w' := by
  obtain ⟨W1, hW1⟩ : ∃ W1, w.alloc (.cells #[.int .i64 n, .int .i64 k, .slice a len cap] 24) = W1 := ⟨_, rfl⟩
  obtain ⟨W2, hW2⟩ : ∃ W2, W1.alloc (.cells #[.int .i64 x1, .int .i64 x2, .int .i64 x3, .int .i64 x4, .string x5] 51) = W2 := ⟨_, rfl⟩
  obtain ⟨B, hB⟩ : ∃ B, w.heap.size = B := ⟨_, rfl⟩
  have hs1 : W1.heap.size = B + 1 := by rw [← hW1, ← hB]; simp
  have hb2 : Below w.heap.size w W2 := by rw [← hW2, ← hW1]; exact ((Below.refl _ _).alloc (Nat.le_refl _) _).alloc (by simp) _
  have g1 : W2.heap[B]? = some (.cells #[.int .i64 n, .int .i64 k, .slice a len cap] 24 (0, 0)) := by
    rw [← hW2, Below.heap_alloc _ _ _ (by omega), ← hW1, ← hB]; exact heap_alloc_new _ _
  have g2 : W2.heap[B + 1]? = some (.cells #[.int .i64 x1, .int .i64 x2, .int .i64 x3, .int .i64 x4, .string x5] 51 (0, 0)) := by
    rw [← hW2, ← hs1]; exact heap_alloc_new _ _
  have HW := Lib.hid (And.intro hW1 (And.intro hW2 (And.intro hB (And.intro hs1 (And.intro hb2 (And.intro g1 g2))))))
  have hcc := can_cases n k x1 x2 x3 x4 x5
  have Ht := Lib.hid (rtag_walk x1 x2 W2)
  obtain ⟨tb, htb⟩ : ∃ tb, tagB x1 x2 = tb := ⟨_, rfl⟩
  obtain ⟨cb, hcb⟩ : ∃ cb, canB n k (x1, x2, x3, x4, x5) = cb := ⟨_, rfl⟩
  rw [htb] at Ht hcc
  rw [hcb] at hcc ⊢
  have l0 := (cell_of_heap g2 0).trans rfl
  have l1 := (cell_of_heap g2 1).trans rfl
  clear htb hcb hW1 hW2 hB hs1 hb2 g1 g2
  go_enter Tryz.func44, Tryz.ntmps44
  go_upto_region 1 with fail
  rw [HW.out.1, HW.out.2.2.1, HW.out.2.1]
  go_wp2_with fail
  refine Ht.out.mono ?_
  rintro e w3 ⟨rfl, hb3⟩
  have HB3 := Lib.hid (HW.out.2.2.2.2.1.trans (hb3.mono HW.out.2.2.2.2.1.size))
  have g1 := (hb3.block B (Array.getElem?_eq_some_iff.1 HW.out.2.2.2.2.2.1).1).trans HW.out.2.2.2.2.2.1
  have g2 := (hb3.block (B + 1) (Array.getElem?_eq_some_iff.1 HW.out.2.2.2.2.2.2).1).trans HW.out.2.2.2.2.2.2
  have k0 := (cell_of_heap g1 0).trans rfl
  have m2 := (cell_of_heap g2 2).trans rfl
  have m3 := (cell_of_heap g2 3).trans rfl
  have HG := Lib.hid (And.intro g1 g2)
  clear g1 g2 hb3 l0 l1
  rcases hcc with ⟨rfl, rfl⟩ | ⟨rfl, h1, rfl⟩ | ⟨rfl, h1, h2, rfl⟩ | ⟨rfl, h1, h2, h3, rfl⟩ | ⟨rfl, h1, h2, h3, h4, rfl⟩ | ⟨rfl, h1, h2, h3, h4, hce⟩
  · go_wp2
    go_ret
    exact ⟨rfl, HB3.out⟩
  · have h1' : x3 < 0 := by omega
    go_wp2
    go_ret
    exact ⟨rfl, HB3.out⟩
  · have h1' : ¬ x3 < 0 := by omega
    have h2' : 1000 < x3 := by omega
    go_wp2
    go_ret
    exact ⟨rfl, HB3.out⟩
  · have h1' : ¬ x3 < 0 := by omega
    have h2' : ¬ 1000 < x3 := by omega
    have h3' : x4 < 0 := by omega
    go_wp2
    go_ret
    exact ⟨rfl, HB3.out⟩
  · have h1' : ¬ x3 < 0 := by omega
    have h2' : ¬ 1000 < x3 := by omega
    have h3' : ¬ x4 < 0 := by omega
    have h4' : (n : Int) ≤ x4 := by omega
    go_wp2
    go_ret
    exact ⟨rfl, HB3.out⟩
  · obtain ⟨s, rfl⟩ := Int.eq_ofNat_of_zero_le h1
    have h1' : ¬ (s : Int) < 0 := by omega
    have h2' : ¬ 1000 < (s : Int) := by omega
    have h3' : ¬ x4 < 0 := by omega
    have h4' : ¬ (n : Int) ≤ x4 := by omega
    rw [show Int.toNat (s : Int) = s from rfl] at hce
    have Cw := fun d os => Calls.regrown_of ((rwide_walk k s (Go.Sort.grow (redrawn w3 d) os) hk (by omega) (by omega)).mono fun e w' h => (⟨h.1, h.2 ▸ Below.refl _ _⟩ : e = _ ∧ Below (Go.Sort.grow (redrawn w3 d) os).heap.size (Go.Sort.grow (redrawn w3 d) os) w'))
    obtain ⟨W, hW⟩ : ∃ W, wideN k s = W := ⟨_, rfl⟩
    rw [hW] at Cw hce
    have Hce := Lib.hid hce
    clear hce
    have p1 := cell_regrown ((cell_of_heap HG.out.1 1).trans rfl)
    have p2 := cell_regrown ((cell_of_heap HG.out.2 2).trans rfl)
    have p4 := cell_regrown ((cell_of_heap HG.out.2 4).trans rfl)
    clear hW h1 h2 h3 h4
    go_wp2
    refine wp_region_quiet_below (by kernel_rfl) (by kernel_rfl) ?_
    repeat (go_big_quiet_step (first | (with_reducible exact Cw _ _)))
    refine wpQuiet_nil ?_
    intro w5 hw'
    obtain ⟨⟨dq, osq⟩, hw5⟩ := hw'
    have HB := Lib.hid (HB3.out.trans (show Below w.heap.size w3 w5 by rw [hw5]; exact (below_regrown w3 dq osq).mono HB3.out.size))
    clear hw5 Cw p1 p2 p4
    go_wp2
    go_ret
    exact ⟨by rw [Hce.out, ← int_beq]; simp, HB.out⟩
end
end Go.Proofs.YtjhjpijjfpfjeaaGreatDoor
