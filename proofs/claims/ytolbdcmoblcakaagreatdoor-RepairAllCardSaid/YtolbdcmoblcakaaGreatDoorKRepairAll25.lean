/- The walks of quorum.can, the document's canBe. -/
import Derived.Test.YtolbdcmoblcakaaGreatDoorKRepairAll23
import Derived.Test.YtolbdcmoblcakaaGreatDoorKRepairAll24
import Derived.Lib.QuietBelow
import Derived.BigQuiet
import Derived.IntWalk
import Derived.Deep.CutRange
import Derived.Deep.QuietTactic
import Derived.Test.YtolbdcmoblcakaaGreatDoorKRepairAll03
import Derived.Lib.AppendZeros
namespace Go.Proofs.YtolbdcmoblcakaaGreatDoor
section
open Go.RowKit Go.BigFrame

theorem canB_no1 {n k : Nat} {x : Ver} (h : tagB x.1 x.2.1 = false) : canB n k x = false := by unfold canB; rw [h]; rfl
theorem canB_no2 {n k : Nat} {x : Ver} (h : ¬ (0 ≤ x.2.2.1 ∧ x.2.2.1 ≤ 1000 ∧ 0 ≤ x.2.2.2.1 ∧ x.2.2.2.1 < n ∧ x.2.2.2.2.size = wideN k x.2.2.1.toNat)) : canB n k x = false := by unfold canB; rw [decide_eq_false h, Bool.and_false]
theorem canB_yes {n k : Nat} {x : Ver} (h1 : tagB x.1 x.2.1 = true) (h : 0 ≤ x.2.2.1 ∧ x.2.2.1 ≤ 1000 ∧ 0 ≤ x.2.2.2.1 ∧ x.2.2.2.1 < n ∧ x.2.2.2.2.size = wideN k x.2.2.1.toNat) : canB n k x = true := by unfold canB; rw [h1, decide_eq_true h]; rfl
theorem int_beq (a b : Nat) : ((a : Int) == (b : Int)) = decide (a = b) := by
  rw [Bool.eq_iff_iff, beq_iff_eq, decide_eq_true_iff]
  omega
/-- the ways that a version goes: the first test that it fails. -/
theorem can_cases (n k : Nat) (x1 x2 x3 x4 : Int) (x5 : ByteArray) :
    (tagB x1 x2 = false ∧ canB n k (x1, x2, x3, x4, x5) = false) ∨ (tagB x1 x2 = true ∧ ¬ 0 ≤ x3 ∧ canB n k (x1, x2, x3, x4, x5) = false) ∨ (tagB x1 x2 = true ∧ 0 ≤ x3 ∧ ¬ x3 ≤ 1000 ∧ canB n k (x1, x2, x3, x4, x5) = false) ∨
    (tagB x1 x2 = true ∧ 0 ≤ x3 ∧ x3 ≤ 1000 ∧ ¬ 0 ≤ x4 ∧ canB n k (x1, x2, x3, x4, x5) = false) ∨ (tagB x1 x2 = true ∧ 0 ≤ x3 ∧ x3 ≤ 1000 ∧ 0 ≤ x4 ∧ ¬ x4 < n ∧ canB n k (x1, x2, x3, x4, x5) = false) ∨
    (tagB x1 x2 = true ∧ 0 ≤ x3 ∧ x3 ≤ 1000 ∧ 0 ≤ x4 ∧ x4 < n ∧ canB n k (x1, x2, x3, x4, x5) = decide (x5.size = wideN k x3.toNat)) := by
  cases ht : tagB x1 x2 with
  | false => exact .inl ⟨rfl, canB_no1 ht⟩
  | true =>
    by_cases h1 : 0 ≤ x3
    · by_cases h2 : x3 ≤ 1000
      · by_cases h3 : 0 ≤ x4
        · by_cases h4 : x4 < n
          · refine .inr (.inr (.inr (.inr (.inr ⟨rfl, h1, h2, h3, h4, ?_⟩))))
            by_cases h5 : x5.size = wideN k x3.toNat
            · rw [decide_eq_true h5]; exact canB_yes ht ⟨h1, h2, h3, h4, h5⟩
            · rw [decide_eq_false h5]; exact canB_no2 (fun h => h5 h.2.2.2.2)
          · exact .inr (.inr (.inr (.inr (.inl ⟨rfl, h1, h2, h3, h4, canB_no2 (fun h => h4 h.2.2.2.1)⟩))))
        · exact .inr (.inr (.inr (.inl ⟨rfl, h1, h2, h3, canB_no2 (fun h => h3 h.2.2.1)⟩)))
      · exact .inr (.inr (.inl ⟨rfl, h1, h2, canB_no2 (fun h => h2 h.2.1)⟩))
    · exact .inr (.inl ⟨rfl, h1, canB_no2 (fun h => h1 h.1)⟩)
set_option maxRecDepth 100000 in
set_option maxHeartbeats 8000000 in
theorem can_walk (n k : Nat) (a : Option Addr) (len cap : Nat) (x1 x2 x3 x4 : Int) (x5 : ByteArray) (w : World) (hk : 1 ≤ k) (hkn : k ≤ n) (hn : n ≤ 12) :
    Calls Tryz.prog 89 #[.agg #[.int .i64 n, .int .i64 k, .slice a len cap], .agg #[.int .i64 x1, .int .i64 x2, .int .i64 x3, .int .i64 x4, .string x5]] w fun e w' => e = .returned (.bool (canB n k (x1, x2, x3, x4, x5))) ∧ Below w.heap.size w w' := by
  obtain ⟨W1, hW1⟩ : ∃ W1, w.alloc (.cells #[.int .i64 n, .int .i64 k, .slice a len cap] 24) = W1 := ⟨_, rfl⟩
  obtain ⟨W2, hW2⟩ : ∃ W2, W1.alloc (.cells #[.int .i64 x1, .int .i64 x2, .int .i64 x3, .int .i64 x4, .string x5] 58) = W2 := ⟨_, rfl⟩
  obtain ⟨B, hB⟩ : ∃ B, w.heap.size = B := ⟨_, rfl⟩
  have hs1 : W1.heap.size = B + 1 := by rw [← hW1, ← hB]; simp
  have hb2 : Below w.heap.size w W2 := by rw [← hW2, ← hW1]; exact ((Below.refl _ _).alloc (Nat.le_refl _) _).alloc (by simp) _
  have g1 : W2.heap[B]? = some (.cells #[.int .i64 n, .int .i64 k, .slice a len cap] 24 (0, 0)) := by
    rw [← hW2, Below.heap_alloc _ _ _ (by omega), ← hW1, ← hB]; exact heap_alloc_new _ _
  have g2 : W2.heap[B + 1]? = some (.cells #[.int .i64 x1, .int .i64 x2, .int .i64 x3, .int .i64 x4, .string x5] 58 (0, 0)) := by
    rw [← hW2, ← hs1]; exact heap_alloc_new _ _
  have k0 := cell_regrown ((cell_of_heap g1 0).trans rfl)
  have k1 := cell_regrown ((cell_of_heap g1 1).trans rfl)
  have l0 := cell_regrown ((cell_of_heap g2 0).trans rfl)
  have l1 := cell_regrown ((cell_of_heap g2 1).trans rfl)
  have l2 := cell_regrown ((cell_of_heap g2 2).trans rfl)
  have l3 := cell_regrown ((cell_of_heap g2 3).trans rfl)
  have l4 := cell_regrown ((cell_of_heap g2 4).trans rfl)
  have Ct := fun d os => Calls.regrown_of (tagb_walk x1 x2 (Go.Sort.grow (redrawn W2 d) os))
  have HW := Lib.hid (And.intro hW1 (And.intro hW2 (And.intro hB (And.intro hs1 hb2))))
  have hcc := can_cases n k x1 x2 x3 x4 x5
  clear hW1 hW2 hB hs1 hb2 g1 g2
  obtain ⟨tb, htb⟩ : ∃ tb, tagB x1 x2 = tb := ⟨_, rfl⟩
  obtain ⟨cb, hcb⟩ : ∃ cb, canB n k (x1, x2, x3, x4, x5) = cb := ⟨_, rfl⟩
  rw [htb] at Ct hcc
  rw [hcb] at hcc ⊢
  clear htb hcb
  have fin : ∀ w' : World, (∃ p : Regrown, w' = Go.Sort.grow (redrawn W2 p.d) p.os) → Below w.heap.size w w' := fun w' ⟨p, hp⟩ => HW.out.2.2.2.2.trans (by rw [hp]; exact (below_regrown W2 p.d p.os).mono HW.out.2.2.2.2.size)
  have Hfin := Lib.hid fin
  clear fin
  rcases hcc with ⟨rfl, rfl⟩ | ⟨rfl, h1, rfl⟩ | ⟨rfl, h1, h2, rfl⟩ | ⟨rfl, h1, h2, h3, rfl⟩ | ⟨rfl, h1, h2, h3, h4, rfl⟩ | ⟨rfl, h1, h2, h3, h4, rfl⟩
  · go_enter Tryz.func89, Tryz.ntmps89
    go_wp2
    rw [HW.out.1, HW.out.2.2.1, HW.out.2.1]
    refine wp_region_quiet_below (by kernel_rfl) (by kernel_rfl) ?_
    repeat (go_big_quiet_step (first | (with_reducible exact Ct _ _)))
    refine wpQuiet_nil ?_
    intro w5 hw'
    have HB := Lib.hid (Hfin.out w5 hw')
    clear hw'
    go_wp2
    go_ret
    exact ⟨rfl, HB.out⟩
  · have d1 : decide (0 ≤ x3) = false := decide_eq_false h1
    go_enter Tryz.func89, Tryz.ntmps89
    go_wp2
    rw [HW.out.1, HW.out.2.2.1, HW.out.2.1]
    refine wp_region_quiet_below (by kernel_rfl) (by kernel_rfl) ?_
    repeat (go_big_quiet_step (first | (with_reducible exact Ct _ _)))
    refine wpQuiet_nil ?_
    intro w5 hw'
    have HB := Lib.hid (Hfin.out w5 hw')
    clear hw'
    go_wp2
    go_ret
    exact ⟨rfl, HB.out⟩
  · have d1 : decide (0 ≤ x3) = true := decide_eq_true h1
    have d2 : decide (x3 ≤ 1000) = false := decide_eq_false h2
    go_enter Tryz.func89, Tryz.ntmps89
    go_wp2
    rw [HW.out.1, HW.out.2.2.1, HW.out.2.1]
    refine wp_region_quiet_below (by kernel_rfl) (by kernel_rfl) ?_
    repeat (go_big_quiet_step (first | (with_reducible exact Ct _ _)))
    refine wpQuiet_nil ?_
    intro w5 hw'
    have HB := Lib.hid (Hfin.out w5 hw')
    clear hw'
    go_wp2
    go_ret
    exact ⟨rfl, HB.out⟩
  · have d1 : decide (0 ≤ x3) = true := decide_eq_true h1
    have d2 : decide (x3 ≤ 1000) = true := decide_eq_true h2
    have d3 : decide (0 ≤ x4) = false := decide_eq_false h3
    go_enter Tryz.func89, Tryz.ntmps89
    go_wp2
    rw [HW.out.1, HW.out.2.2.1, HW.out.2.1]
    refine wp_region_quiet_below (by kernel_rfl) (by kernel_rfl) ?_
    repeat (go_big_quiet_step (first | (with_reducible exact Ct _ _)))
    refine wpQuiet_nil ?_
    intro w5 hw'
    have HB := Lib.hid (Hfin.out w5 hw')
    clear hw'
    go_wp2
    go_ret
    exact ⟨rfl, HB.out⟩
  · have d1 : decide (0 ≤ x3) = true := decide_eq_true h1
    have d2 : decide (x3 ≤ 1000) = true := decide_eq_true h2
    have d3 : decide (0 ≤ x4) = true := decide_eq_true h3
    have d4 : decide (x4 < (n : Int)) = false := decide_eq_false h4
    go_enter Tryz.func89, Tryz.ntmps89
    go_wp2
    rw [HW.out.1, HW.out.2.2.1, HW.out.2.1]
    refine wp_region_quiet_below (by kernel_rfl) (by kernel_rfl) ?_
    repeat (go_big_quiet_step (first | (with_reducible exact Ct _ _)))
    refine wpQuiet_nil ?_
    intro w5 hw'
    have HB := Lib.hid (Hfin.out w5 hw')
    clear hw'
    go_wp2
    go_ret
    exact ⟨rfl, HB.out⟩
  · obtain ⟨s, rfl⟩ := Int.eq_ofNat_of_zero_le h1
    have d1 : decide (0 ≤ (s : Int)) = true := decide_eq_true h1
    have d2 : decide ((s : Int) ≤ 1000) = true := decide_eq_true h2
    have d3 : decide (0 ≤ x4) = true := decide_eq_true h3
    have d4 : decide (x4 < (n : Int)) = true := decide_eq_true h4
    have e1 : IntKind.i64.wrap ((s : Int) + (k : Int)) = (s : Int) + k := IntWalk.i64_in _ (by omega)
    have e2 : IntKind.i64.wrap ((s : Int) + (k : Int) - 1) = (s : Int) + k - 1 := IntWalk.i64_in _ (by omega)
    obtain ⟨W, hW⟩ : ∃ W, wideN k s = W := ⟨_, rfl⟩
    have e3 : ((s : Int) + (k : Int) - 1).tdiv (k : Int) = (W : Int) := by
      rw [← hW]
      unfold wideN
      rw [Int.tdiv_eq_ediv_of_nonneg (by omega)]
      have : ((s + k - 1 : Nat) : Int) = (s : Int) + k - 1 := by omega
      rw [Int.natCast_ediv, this]
    have hWl : W ≤ 100000 := by
      rw [← hW]; unfold wideN
      exact Nat.le_trans (Nat.div_le_self _ _) (by omega)
    have e4 : IntKind.i64.wrap (W : Int) = W := IntWalk.i64_in _ (by omega)
    have hk0 : ((k : Int) == 0) = false := by simp; omega
    have hk00 : ¬ (k : Int) = 0 := by omega
    show Calls _ _ _ _ fun e w' => e = .returned (.bool (decide (x5.size = wideN k (Int.toNat (s : Int))))) ∧ Below w.heap.size w w'
    rw [show Int.toNat (s : Int) = s from rfl, hW]
    clear hW h1 h2 h3 h4
    by_cases h5 : x5.size = W
    · rw [decide_eq_true h5]
      have d5 : ((x5.size : Int) == (W : Int)) = true := by simp [h5]
      have d6 : (x5.size == W) = true := by simp [h5]
      have d7 : decide (x5.size = W) = true := decide_eq_true h5
      clear h5
      go_enter Tryz.func89, Tryz.ntmps89
      go_wp2
      rw [HW.out.1, HW.out.2.2.1, HW.out.2.1]
      refine wp_region_quiet_below (by kernel_rfl) (by kernel_rfl) ?_
      repeat (go_big_quiet_step (first | (with_reducible exact Ct _ _)))
      refine wpQuiet_nil ?_
      intro w5 hw'
      have HB := Lib.hid (Hfin.out w5 hw')
      clear hw'
      go_wp2
      go_ret
      exact ⟨rfl, HB.out⟩
    · rw [decide_eq_false h5]
      have d5 : ((x5.size : Int) == (W : Int)) = false := by simp; omega
      have d6 : (x5.size == W) = false := by simpa using h5
      have d7 : decide (x5.size = W) = false := decide_eq_false h5
      go_enter Tryz.func89, Tryz.ntmps89
      go_wp2
      rw [HW.out.1, HW.out.2.2.1, HW.out.2.1]
      refine wp_region_quiet_below (by kernel_rfl) (by kernel_rfl) ?_
      repeat (go_big_quiet_step (first | (with_reducible exact Ct _ _)))
      refine wpQuiet_nil ?_
      intro w5 hw'
      have HB := Lib.hid (Hfin.out w5 hw')
      clear hw'
      go_wp2
      go_ret
      exact ⟨rfl, HB.out⟩
set_option maxRecDepth 100000 in
set_option maxHeartbeats 8000000 in
theorem canbe_walk (n k : Nat) (a : Option Addr) (len cap : Nat) (x1 x2 x3 x4 : Int) (x5 : ByteArray) (w : World) (hk : 1 ≤ k) (hkn : k ≤ n) (hn : n ≤ 12) :
    Calls Tryz.prog 80 #[.agg #[.int .i64 n, .int .i64 k, .slice a len cap], .agg #[.int .i64 x1, .int .i64 x2, .int .i64 x3, .int .i64 x4, .string x5]] w fun e w' => e = .returned (.bool (canB n k (x1, x2, x3, x4, x5))) ∧ Below w.heap.size w w' := by
  obtain ⟨W1, hW1⟩ : ∃ W1, w.alloc (.cells #[.int .i64 n, .int .i64 k, .slice a len cap] 24) = W1 := ⟨_, rfl⟩
  obtain ⟨W2, hW2⟩ : ∃ W2, W1.alloc (.cells #[.int .i64 x1, .int .i64 x2, .int .i64 x3, .int .i64 x4, .string x5] 58) = W2 := ⟨_, rfl⟩
  obtain ⟨B, hB⟩ : ∃ B, w.heap.size = B := ⟨_, rfl⟩
  have hs1 : W1.heap.size = B + 1 := by rw [← hW1, ← hB]; simp
  have hb2 : Below w.heap.size w W2 := by rw [← hW2, ← hW1]; exact ((Below.refl _ _).alloc (Nat.le_refl _) _).alloc (by simp) _
  have g1 : W2.heap[B]? = some (.cells #[.int .i64 n, .int .i64 k, .slice a len cap] 24 (0, 0)) := by
    rw [← hW2, Below.heap_alloc _ _ _ (by omega), ← hW1, ← hB]; exact heap_alloc_new _ _
  have g2 : W2.heap[B + 1]? = some (.cells #[.int .i64 x1, .int .i64 x2, .int .i64 x3, .int .i64 x4, .string x5] 58 (0, 0)) := by
    rw [← hW2, ← hs1]; exact heap_alloc_new _ _
  have HW := Lib.hid (And.intro hW1 (And.intro hW2 (And.intro hB (And.intro hs1 (And.intro hb2 (And.intro g1 g2))))))
  have hcc := can_cases n k x1 x2 x3 x4 x5
  have Ht := Lib.hid (rtag_walk x1 x2 W2)
  obtain ⟨tb, htb⟩ : ∃ tb, tagB x1 x2 = tb := ⟨_, rfl⟩
  obtain ⟨cb, hcb⟩ : ∃ cb, canB n k (x1, x2, x3, x4, x5) = cb := ⟨_, rfl⟩
  rw [htb] at Ht hcc
  rw [hcb] at hcc ⊢
  have l0 := (cell_of_heap g2 0).trans rfl
  have l1 := (cell_of_heap g2 1).trans rfl
  clear htb hcb hW1 hW2 hB hs1 hb2 g1 g2
  go_enter Tryz.func80, Tryz.ntmps80
  go_upto_region 1 with fail
  rw [HW.out.1, HW.out.2.2.1, HW.out.2.1]
  go_wp2_with fail
  refine Ht.out.mono ?_
  rintro e w3 ⟨rfl, hb3⟩
  have HB3 := Lib.hid (HW.out.2.2.2.2.1.trans (hb3.mono HW.out.2.2.2.2.1.size))
  have g1 := (hb3.block B (Array.getElem?_eq_some_iff.1 HW.out.2.2.2.2.2.1).1).trans HW.out.2.2.2.2.2.1
  have g2 := (hb3.block (B + 1) (Array.getElem?_eq_some_iff.1 HW.out.2.2.2.2.2.2).1).trans HW.out.2.2.2.2.2.2
  have k0 := (cell_of_heap g1 0).trans rfl
  have m2 := (cell_of_heap g2 2).trans rfl
  have m3 := (cell_of_heap g2 3).trans rfl
  have HG := Lib.hid (And.intro g1 g2)
  clear g1 g2 hb3 l0 l1
  rcases hcc with ⟨rfl, rfl⟩ | ⟨rfl, h1, rfl⟩ | ⟨rfl, h1, h2, rfl⟩ | ⟨rfl, h1, h2, h3, rfl⟩ | ⟨rfl, h1, h2, h3, h4, rfl⟩ | ⟨rfl, h1, h2, h3, h4, hce⟩
  · go_wp2
    go_ret
    exact ⟨rfl, HB3.out⟩
  · have h1' : x3 < 0 := by omega
    go_wp2
    go_ret
    exact ⟨rfl, HB3.out⟩
  · have h1' : ¬ x3 < 0 := by omega
    have h2' : 1000 < x3 := by omega
    go_wp2
    go_ret
    exact ⟨rfl, HB3.out⟩
  · have h1' : ¬ x3 < 0 := by omega
    have h2' : ¬ 1000 < x3 := by omega
    have h3' : x4 < 0 := by omega
    go_wp2
    go_ret
    exact ⟨rfl, HB3.out⟩
  · have h1' : ¬ x3 < 0 := by omega
    have h2' : ¬ 1000 < x3 := by omega
    have h3' : ¬ x4 < 0 := by omega
    have h4' : (n : Int) ≤ x4 := by omega
    go_wp2
    go_ret
    exact ⟨rfl, HB3.out⟩
  · obtain ⟨s, rfl⟩ := Int.eq_ofNat_of_zero_le h1
    have h1' : ¬ (s : Int) < 0 := by omega
    have h2' : ¬ 1000 < (s : Int) := by omega
    have h3' : ¬ x4 < 0 := by omega
    have h4' : ¬ (n : Int) ≤ x4 := by omega
    rw [show Int.toNat (s : Int) = s from rfl] at hce
    have Cw := fun d os => Calls.regrown_of ((rwide_walk k s (Go.Sort.grow (redrawn w3 d) os) hk (by omega) (by omega)).mono fun e w' h => (⟨h.1, h.2 ▸ Below.refl _ _⟩ : e = _ ∧ Below (Go.Sort.grow (redrawn w3 d) os).heap.size (Go.Sort.grow (redrawn w3 d) os) w'))
    obtain ⟨W, hW⟩ : ∃ W, wideN k s = W := ⟨_, rfl⟩
    rw [hW] at Cw hce
    have Hce := Lib.hid hce
    clear hce
    have p1 := cell_regrown ((cell_of_heap HG.out.1 1).trans rfl)
    have p2 := cell_regrown ((cell_of_heap HG.out.2 2).trans rfl)
    have p4 := cell_regrown ((cell_of_heap HG.out.2 4).trans rfl)
    clear hW h1 h2 h3 h4
    go_wp2
    refine wp_region_quiet_below (by kernel_rfl) (by kernel_rfl) ?_
    repeat (go_big_quiet_step (first | (with_reducible exact Cw _ _)))
    refine wpQuiet_nil ?_
    intro w5 hw'
    obtain ⟨⟨dq, osq⟩, hw5⟩ := hw'
    have HB := Lib.hid (HB3.out.trans (show Below w.heap.size w3 w5 by rw [hw5]; exact (below_regrown w3 dq osq).mono HB3.out.size))
    clear hw5 Cw p1 p2 p4
    go_wp2
    go_ret
    exact ⟨by rw [Hce.out, ← int_beq]; simp, HB.out⟩
end
end Go.Proofs.YtolbdcmoblcakaaGreatDoor
/- The walks of what groups looks for: a tag among groups, a place among shards. -/
namespace Go.Proofs.YtolbdcmoblcakaaGreatDoor
section
open Go.RowKit Go.BigFrame

theorem gat_eg : ∀ args w, (callFunc 93 args).run Tryz.prog w = .ok (.enter 93 args) w := enters_of Tryz.func93 (by kernel_rfl) rfl
theorem gtag_eg : ∀ args w, (callFunc 91 args).run Tryz.prog w = .ok (.enter 91 args) w := enters_of Tryz.func91 (by kernel_rfl) rfl
set_option maxRecDepth 100000 in
theorem gat_walk (x1 : Int) (x2 : ByteArray) (b : Nat) (s1 : Int) (w : World) (hb : w.cell? ⟨b, 3, none⟩ = some (.int .i64 s1)) :
    Calls Tryz.prog 93 #[.agg #[.int .i64 x1, .string x2], .pointer (some ⟨b, 0, none⟩)] w fun e w' => e = .returned (.bool (decide (x1 = s1))) ∧ Below w.heap.size w w' := by
  have hb2 : (w.alloc (.cells #[.int .i64 x1, .string x2] 56)).cell? ⟨b, 3, none⟩ = some (.int .i64 s1) := ((Below.refl _ w).alloc (Nat.le_refl _) _).cell (lt_of_cell hb) ▸ hb
  by_cases h : x1 = s1
  · subst h
    go_enter Tryz.func93, Tryz.ntmps93
    go_wp2
    go_ret
    exact ⟨by simp, (Below.refl _ w).alloc (Nat.le_refl _) _⟩
  · have h0 : (x1 == s1) = false := by simp [h]
    go_enter Tryz.func93, Tryz.ntmps93
    go_wp2
    go_ret
    exact ⟨by simp [h], (Below.refl _ w).alloc (Nat.le_refl _) _⟩
set_option maxRecDepth 100000 in
set_option maxHeartbeats 2000000 in
theorem gatI_walk (n₀ : Nat) (a : Option Addr) (cap b : Nat) (out : List Sh) (s1 : Int) (w : World) (hl : out.length ≤ maxLen) (hn : n₀ ≤ w.heap.size) (hI : ShR n₀ w a out) (hb : w.cell? ⟨b, 3, none⟩ = some (.int .i64 s1)) :
    Calls Tryz.prog 111 #[.slice a out.length cap, .func (.func 93) #[] #[.pointer (some ⟨b, 0, none⟩)]] w
      fun e w' => (((∀ x ∈ out, x.1 ≠ s1) ∧ e = .returned (.int .i64 (-1))) ∨ (∃ k : Nat, (∃ x ∈ out, x.1 = s1) ∧ e = .returned (.int .i64 k))) ∧ Below w.heap.size w w' := by
  obtain ⟨m, hm⟩ : ∃ m, out.length = m := ⟨_, rfl⟩
  have hm' : m ≤ 9223372036854775807 := by rw [← hm]; exact hl
  have Hm := Lib.hid hm
  have HI := Lib.hid hI
  have Hb := Lib.hid hb
  rw [hm]
  clear hm hI hl hb
  go_enter Tryz.func111, Tryz.ntmps111
  go_wp2
  go_loopw [8] (fun vi wr => ∃ k : Nat, k ≤ m ∧ vi = .int .i64 k ∧ Hid ((∀ j, j < k → (out[j]?.getD (0, ⟨#[]⟩)).1 ≠ s1) ∧ Below w.heap.size w wr)) (fun i _ => m - (intOf i).toNat)
  case atStart => exact ⟨0, by omega, rfl, Lib.hid ⟨fun j hj => by omega, Below.refl _ _⟩⟩
  case round =>
    obtain ⟨k, hk, rfl, H⟩ := hrel
    have hk2 : k < m ∨ k = m := by omega
    rcases hk2 with hlt | hkm
    · have hlt2 : (k : Int) < m := by omega
      rcases (HI.out.mono hn).below H.out.2 with he | ⟨g, off, rfl, hg, hc⟩
      · exfalso
        have := Hm.out
        rw [he] at this
        simp at this; omega
      obtain ⟨h1, h2⟩ := hc k (by have := Hm.out; omega)
      clear hc
      obtain ⟨x, hx⟩ : ∃ x, out[k]?.getD (0, ⟨#[]⟩) = x := ⟨_, rfl⟩
      rw [hx] at h1 h2
      have Hx := Lib.hid hx
      clear hx
      obtain ⟨x1, x2⟩ := x
      have Hp := Lib.hid (gat_walk x1 x2 b s1 wr ((H.out.2.cell (lt_of_cell Hb.out)).trans Hb.out))
      by_cases he : x1 = s1
      · have e1 : decide (x1 = s1) = true := by simp [he]
        rw [e1] at Hp
        have He := Lib.hid he
        clear he e1
        go_wp2_with fail
        refine Hp.out.mono ?_
        rintro e w' ⟨rfl, hb2⟩
        have HB := Lib.hid (H.out.2.trans (hb2.mono H.out.2.size))
        clear hb2
        go_wp2
        go_ret
        refine ⟨.inr ⟨k, ⟨(x1, x2), ?_, He.out⟩, rfl⟩, HB.out⟩
        have hkl : k < out.length := by have := Hm.out; omega
        have := Hx.out
        rw [List.getElem?_eq_getElem hkl] at this
        simp at this
        rw [← this]; exact List.getElem_mem hkl
      · have e1 : decide (x1 = s1) = false := by simp [he]
        rw [e1] at Hp
        have He := Lib.hid he
        clear he e1
        go_wp2_with fail
        refine Hp.out.mono ?_
        rintro e w' ⟨rfl, hb2⟩
        have HB := Lib.hid (H.out.2.trans (hb2.mono H.out.2.size))
        clear hb2
        go_wp2
        go_roundw
        case rel => exact ⟨k + 1, by omega, by go_num, Lib.hid ⟨fun j hj => by
          by_cases e : j = k
          · rw [e, Hx.out]; exact He.out
          · exact H.out.1 j (by omega), HB.out⟩⟩
        case measure => simp [intOf]; omega
    · subst hkm
      go_wp2
      go_ret
      refine ⟨.inl ⟨fun x hx => ?_, rfl⟩, H.out.2⟩
      obtain ⟨j, hj, rfl⟩ := List.getElem_of_mem hx
      have := H.out.1 j (by have := Hm.out; omega)
      rw [List.getElem?_eq_getElem hj] at this
      exact this
set_option maxRecDepth 100000 in
theorem gatC_walk (n₀ : Nat) (a : Option Addr) (cap b : Nat) (out : List Sh) (s1 : Int) (w : World) (hl : out.length ≤ maxLen) (hn : n₀ ≤ w.heap.size) (hI : ShR n₀ w a out) (hb : w.cell? ⟨b, 3, none⟩ = some (.int .i64 s1)) :
    Calls Tryz.prog 92 #[.slice a out.length cap, .func (.func 93) #[] #[.pointer (some ⟨b, 0, none⟩)]] w
      fun e w' => e = .returned (.bool (out.any (fun x => decide (x.1 = s1)))) ∧ Below w.heap.size w w' := by
  have H := Lib.hid (gatI_walk n₀ a cap b out s1 w hl hn hI hb)
  clear hI hb hl
  obtain ⟨r, hr⟩ : ∃ r, out.any (fun x => decide (x.1 = s1)) = r := ⟨_, rfl⟩
  have Hr := Lib.hid hr
  rw [hr]
  clear hr
  go_enter Tryz.func92, Tryz.ntmps92
  go_wp2_with fail
  refine H.out.mono ?_
  rintro e w' ⟨hres, hb⟩
  have HB := Lib.hid hb
  clear hb
  rcases hres with ⟨hz, rfl⟩ | ⟨k, hx, rfl⟩
  · have hrf : r = false := by
      rw [← Hr.out, List.any_eq_false]
      intro x hx
      simpa using hz x hx
    subst hrf
    clear hz
    go_wp2
    go_ret
    exact ⟨rfl, HB.out⟩
  · have hrt : r = true := by
      rw [← Hr.out, List.any_eq_true]
      obtain ⟨x, h1, h2⟩ := hx
      exact ⟨x, h1, by simpa using h2⟩
    subst hrt
    have hk0 : (0 : Int) ≤ (k : Int) := by omega
    clear hx
    go_wp2
    go_ret
    exact ⟨by simp, HB.out⟩
/-- pointers that are read. -/
def PtR (w : World) (a : Option Addr) (bs : List Nat) : Prop :=
  bs = [] ∨ ∃ b off, a = some ⟨b, off, none⟩ ∧ b < w.heap.size ∧ ∀ j, j < bs.length → w.cell? ⟨b, off + j, none⟩ = some (.pointer (some ⟨bs[j]?.getD 0, 0, none⟩))
theorem PtR.below {A B : World} (h : Below A.heap.size A B) {a : Option Addr} {bs : List Nat} : PtR A a bs → PtR B a bs
  | .inl e => .inl e
  | .inr ⟨b, off, e, hb, hc⟩ => .inr ⟨b, off, e, Nat.lt_of_lt_of_le hb h.size, fun j hj => (h.cell (p := ⟨b, off + j, none⟩) hb).trans (hc j hj)⟩
/-- the groups' tags. -/
def GTags (w : World) (bs : List Nat) (ts : List (Int × Int)) : Prop := ∀ j, j < bs.length → w.cell? ⟨bs[j]?.getD 0, 0, none⟩ = some (.int .i64 (ts[j]?.getD (0, 0)).1) ∧ w.cell? ⟨bs[j]?.getD 0, 1, none⟩ = some (.int .i64 (ts[j]?.getD (0, 0)).2)
theorem GTags.below {A B : World} (h : Below A.heap.size A B) {bs : List Nat} {ts : List (Int × Int)} (hg : GTags A bs ts) : GTags B bs ts := fun j hj =>
  ⟨(h.cell (p := ⟨bs[j]?.getD 0, 0, none⟩) (lt_of_cell (hg j hj).1)).trans (hg j hj).1, (h.cell (p := ⟨bs[j]?.getD 0, 1, none⟩) (lt_of_cell (hg j hj).2)).trans (hg j hj).2⟩
set_option maxRecDepth 100000 in
theorem gtag_walk (gb xb : Nat) (t1 t2 u1 u2 : Int) (w : World) (g0 : w.cell? ⟨gb, 0, none⟩ = some (.int .i64 t1)) (g1 : w.cell? ⟨gb, 1, none⟩ = some (.int .i64 t2)) (x0 : w.cell? ⟨xb, 0, none⟩ = some (.int .i64 u1)) (x1 : w.cell? ⟨xb, 1, none⟩ = some (.int .i64 u2)) :
    Calls Tryz.prog 91 #[.pointer (some ⟨gb, 0, none⟩), .pointer (some ⟨xb, 0, none⟩)] w fun e w' => e = .returned (.bool (decide ((t1, t2) = (u1, u2)))) ∧ Below w.heap.size w w' := by
  have k0 := cell_regrown g0
  have k1 := cell_regrown g1
  have l0 := cell_regrown x0
  have l1 := cell_regrown x1
  clear g0 g1 x0 x1
  by_cases h1 : t1 = u1
  · subst h1
    by_cases h2 : t2 = u2
    · subst h2
      go_enter Tryz.func91, Tryz.ntmps91
      go_wp2
      refine wp_region_quiet_below (by kernel_rfl) (by kernel_rfl) ?_
      repeat (go_big_quiet_step (fail))
      refine wpQuiet_nil ?_
      intro w5 hw'
      obtain ⟨⟨dq, osq⟩, hw5⟩ := hw'
      have HB := Lib.hid (show Below w.heap.size w w5 by rw [hw5]; exact below_regrown w dq osq)
      clear hw5 k0 k1 l0 l1
      go_wp2
      go_ret
      exact ⟨by simp, HB.out⟩
    · have e2 : (t2 == u2) = false := by simpa using h2
      have e3 : decide (t2 = u2) = false := decide_eq_false h2
      go_enter Tryz.func91, Tryz.ntmps91
      go_wp2
      refine wp_region_quiet_below (by kernel_rfl) (by kernel_rfl) ?_
      repeat (go_big_quiet_step (fail))
      refine wpQuiet_nil ?_
      intro w5 hw'
      obtain ⟨⟨dq, osq⟩, hw5⟩ := hw'
      have HB := Lib.hid (show Below w.heap.size w w5 by rw [hw5]; exact below_regrown w dq osq)
      clear hw5 k0 k1 l0 l1
      go_wp2
      go_ret
      exact ⟨by simp [h2], HB.out⟩
  · have e2 : (t1 == u1) = false := by simpa using h1
    have e3 : decide (t1 = u1) = false := decide_eq_false h1
    go_enter Tryz.func91, Tryz.ntmps91
    go_wp2
    refine wp_region_quiet_below (by kernel_rfl) (by kernel_rfl) ?_
    repeat (go_big_quiet_step (fail))
    refine wpQuiet_nil ?_
    intro w5 hw'
    obtain ⟨⟨dq, osq⟩, hw5⟩ := hw'
    have HB := Lib.hid (show Below w.heap.size w w5 by rw [hw5]; exact below_regrown w dq osq)
    clear hw5 k0 k1 l0 l1
    go_wp2
    go_ret
    exact ⟨by simp [h1], HB.out⟩
/-- where a tag is: the first place. -/
def IdxT (ts : List (Int × Int)) (t : Int × Int) (e : Ending) : Prop := (e = .returned (.int .i64 (-1)) ∧ t ∉ ts) ∨ ∃ k : Nat, k < ts.length ∧ e = .returned (.int .i64 k) ∧ ts[k]? = some t
set_option maxRecDepth 100000 in
set_option maxHeartbeats 2000000 in
theorem gidx_walk (a : Option Addr) (cap xb : Nat) (bs : List Nat) (ts : List (Int × Int)) (u1 u2 : Int) (w : World) (hts : ts.length = bs.length) (hl : bs.length ≤ maxLen) (hI : PtR w a bs) (hG : GTags w bs ts) (x0 : w.cell? ⟨xb, 0, none⟩ = some (.int .i64 u1)) (x1 : w.cell? ⟨xb, 1, none⟩ = some (.int .i64 u2)) :
    Calls Tryz.prog 90 #[.slice a bs.length cap, .func (.func 91) #[] #[.pointer (some ⟨xb, 0, none⟩)]] w
      fun e w' => IdxT ts (u1, u2) e ∧ Below w.heap.size w w' := by
  obtain ⟨m, hm⟩ : ∃ m, bs.length = m := ⟨_, rfl⟩
  have hm' : m ≤ 9223372036854775807 := by rw [← hm]; exact hl
  have Hm := Lib.hid (And.intro hm hts)
  have HI := Lib.hid (And.intro hI (And.intro hG (And.intro x0 x1)))
  rw [hm]
  clear hm hts hI hl hG x0 x1
  go_enter Tryz.func90, Tryz.ntmps90
  go_wp2
  go_loopw [8] (fun vi wr => ∃ k : Nat, k ≤ m ∧ vi = .int .i64 k ∧ Hid ((∀ j, j < k → ts[j]? ≠ some (u1, u2)) ∧ Below w.heap.size w wr)) (fun i _ => m - (intOf i).toNat)
  case atStart => exact ⟨0, by omega, rfl, Lib.hid ⟨fun j hj => by omega, Below.refl _ _⟩⟩
  case round =>
    obtain ⟨k, hk, rfl, H⟩ := hrel
    have hk2 : k < m ∨ m = k := by omega
    rcases hk2 with hlt | hkm
    · have hlt2 : (k : Int) < m := by omega
      rcases HI.out.1.below H.out.2 with he | ⟨g, off, rfl, hg, hc⟩
      · exfalso
        have := Hm.out.1
        rw [he] at this
        simp at this; omega
      have hkb : k < bs.length := by rw [Hm.out.1]; exact hlt
      have h1 := hc k hkb
      obtain ⟨g0, g1⟩ := (HI.out.2.1.below H.out.2) k hkb
      clear hc
      obtain ⟨gb, hgb⟩ : ∃ gb, bs[k]?.getD 0 = gb := ⟨_, rfl⟩
      obtain ⟨t, ht⟩ : ∃ t, ts[k]?.getD (0, 0) = t := ⟨_, rfl⟩
      rw [hgb] at h1 g0 g1
      rw [ht] at g0 g1
      have hkt : ts[k]? = some t := by
        have hkl : k < ts.length := by rw [Hm.out.2]; exact hkb
        rw [← ht, List.getElem?_eq_getElem hkl]; rfl
      have Hkt := Lib.hid (And.intro hkt (show k < ts.length by rw [Hm.out.2]; exact hkb))
      obtain ⟨t1, t2⟩ := t
      have Hp := Lib.hid (gtag_walk gb xb t1 t2 u1 u2 wr g0 g1 ((H.out.2.cell (lt_of_cell HI.out.2.2.1)).trans HI.out.2.2.1) ((H.out.2.cell (lt_of_cell HI.out.2.2.2)).trans HI.out.2.2.2))
      clear hgb ht hkt hkb g0 g1 hg
      by_cases he : (t1, t2) = (u1, u2)
      · rw [decide_eq_true he] at Hp
        have He := Lib.hid he
        clear he
        go_wp2_with fail
        refine Hp.out.mono ?_
        rintro e w' ⟨rfl, hb2⟩
        have HB := Lib.hid (H.out.2.trans (hb2.mono H.out.2.size))
        clear hb2
        go_wp2
        go_ret
        exact ⟨.inr ⟨k, Hkt.out.2, rfl, by rw [Hkt.out.1, He.out]⟩, HB.out⟩
      · rw [decide_eq_false he] at Hp
        have He := Lib.hid he
        clear he
        go_wp2_with fail
        refine Hp.out.mono ?_
        rintro e w' ⟨rfl, hb2⟩
        have HB := Lib.hid (H.out.2.trans (hb2.mono H.out.2.size))
        clear hb2
        go_wp2
        go_roundw
        case rel => exact ⟨k + 1, by omega, by go_num, Lib.hid ⟨fun j hj => by
          by_cases e : j = k
          · rw [e, Hkt.out.1]; exact fun h9 => He.out (Option.some.inj h9)
          · exact H.out.1 j (by omega), HB.out⟩⟩
        case measure => simp [intOf]; omega
    · subst hkm
      go_wp2
      go_ret
      refine ⟨.inl ⟨rfl, fun hx => ?_⟩, H.out.2⟩
      obtain ⟨j, hj, e⟩ := List.getElem_of_mem hx
      exact H.out.1 j (by rw [← Hm.out.1, ← Hm.out.2]; exact hj) (by rw [List.getElem?_eq_getElem hj, e])
end
end Go.Proofs.YtolbdcmoblcakaaGreatDoor
/- Lists of versions: slices.Grow of nil, slices.Concat. -/
namespace Go.Proofs.YtolbdcmoblcakaaGreatDoor
section
open Go.RowKit Go.BigFrame

/-- lists of versions that are read. -/
def VssR (w : World) (a : Option Addr) (ls : List (List Ver)) : Prop :=
  ls = [] ∨ ∃ b off, a = some ⟨b, off, none⟩ ∧ b < w.heap.size ∧ ∀ i, i < ls.length → ∃ ad cp, w.cell? ⟨b, off + i, none⟩ = some (.slice ad (ls[i]?.getD []).length cp) ∧ (ls[i]?.getD []).length ≤ cp ∧ cp ≤ maxLen ∧ (ad = none → cp = 0) ∧ VrR w.heap.size w ad (ls[i]?.getD [])
theorem VssR.below {A B : World} (h : Below A.heap.size A B) {a : Option Addr} {ls : List (List Ver)} : VssR A a ls → VssR B a ls
  | .inl e => .inl e
  | .inr ⟨b, off, e, hb, hc⟩ => .inr ⟨b, off, e, Nat.lt_of_lt_of_le hb h.size, fun i hi => by
    obtain ⟨ad, cp, h1, h2, h3, h4, h5⟩ := hc i hi
    exact ⟨ad, cp, (h.cell (p := ⟨b, off + i, none⟩) hb).trans h1, h2, h3, h4, (h5.below h).mono h.size⟩⟩
/-- how many there are. -/
def totV (ls : List (List Ver)) : Nat := (ls.map List.length).sum
theorem totV_take (ls : List (List Ver)) (i : Nat) (h : i < ls.length) : totV (ls.take (i + 1)) = totV (ls.take i) + (ls[i]?.getD []).length := by
  unfold totV
  rw [List.take_succ_eq_append_getElem h, List.map_append, List.sum_append, List.getElem?_eq_getElem h]
  simp
theorem totV_le (ls : List (List Ver)) (i : Nat) : totV (ls.take i) ≤ totV ls := by
  have e : totV ls = totV (ls.take i) + totV (ls.drop i) := by
    unfold totV
    rw [← List.sum_append, ← List.map_append, List.take_append_drop]
  omega
theorem flat_len (ls : List (List Ver)) : ls.flatten.length = totV ls := List.length_flatten
theorem flat_take (ls : List (List Ver)) (i : Nat) (h : i < ls.length) : (ls.take (i + 1)).flatten = (ls.take i).flatten ++ (ls[i]?.getD []) := by
  rw [List.take_succ_eq_append_getElem h, List.flatten_append, List.getElem?_eq_getElem h]
  simp
set_option maxRecDepth 100000 in
set_option maxHeartbeats 2000000 in
theorem grow_walk (n : Nat) (w : World) (hn : n ≤ 1000000) :
    Calls Tryz.prog 110 #[.slice none 0 0, .int .i64 n] w fun e w' => VCloneOut w w' [] e := by
  obtain ⟨i, hi, hz0, hz1, hz2⟩ := info_parts info_version
  have hcs : n = 0 ∨ 0 < n := by omega
  rcases hcs with rfl | h0
  · go_enter Tryz.func110, Tryz.ntmps110
    go_wp2
    go_ret
    exact ⟨Below.refl _ _, _, rfl, OwnV.nil _ _⟩
  · have h0i : (0 : Int) < n := by omega
    have hr := fun ty => Lib.run_append_nil_zeros (P := Tryz.prog) w 46 3 ty 58 i _ .i64 .i64 Tryz.underlying46 Tryz.underlying3 hi hz0 n h0 (by rw [hz1]; omega) (by omega) (by rw [hz2]; omega)
    have hge := grownCap_ge w n 0 58
    have hcm := grownCap_le_maxLen w n 0 58 (by unfold maxLen; omega)
    have Hr := Lib.hid hr
    clear hr
    obtain ⟨cp, hcp⟩ : ∃ cp, grownCap w n 0 58 = cp := ⟨_, rfl⟩
    rw [hcp] at Hr hge hcm
    have Hc := Lib.hid (And.intro hge hcm)
    unfold maxLen at hcm
    clear hi hz0 hz1 hz2 hcp
    go_enter Tryz.func110, Tryz.ntmps110
    go_wp2_with (at_builtin; refine Lib.wpList_append_run _ rfl _ _ _ _ rfl _ _ rfl rfl _ _ (Hr.out _) ?_)
    go_wp2
    go_ret
    refine ⟨((Below.refl w.heap.size w).drew).alloc (by simp) _, _, rfl, by simp [vrV], .inr ⟨w.heap.size, cp, _, rfl, Nat.le_refl _, heap_alloc_new w.drew _, Nat.zero_le _, Hc.out.2, ?_, by simp [vrV]⟩⟩
    rw [Array.size_append, size_zeroCells, size_zeroCells]
    have := Hc.out.1
    show n * 5 + (cp - n) * 5 = cp * 5
    omega
set_option maxRecDepth 100000 in
set_option maxHeartbeats 4000000 in
theorem concat_walk (a : Option Addr) (len cap : Nat) (ls : List (List Ver)) (w : World) (hlen : ls.length = len) (hm : len ≤ maxLen) (hR : VssR w a ls) (ht : totV ls ≤ 1000000) :
    Calls Tryz.prog 88 #[.slice a len cap] w fun e w' => VCloneOut w w' ls.flatten e := by
  have hm9 : len ≤ 9223372036854775807 := by unfold maxLen at hm; omega
  have H := Lib.hid (And.intro hlen (And.intro hR ht))
  clear hlen hm hR ht
  go_enter Tryz.func88, Tryz.ntmps88
  go_wp2
  go_loop [3, 11] (fun vs vi => ∃ i : Nat, i ≤ len ∧ vi = .int .i64 i ∧ vs = .int .i64 ((totV (ls.take i) : Nat) : Int)) (fun _ vi => len - (intOf vi).toNat)
  case atStart => exact ⟨0, by omega, rfl, rfl⟩
  case round =>
    obtain ⟨i, hi, rfl, rfl⟩ := hrel
    have hi2 : i < len ∨ len = i := by omega
    rcases hi2 with hilt | rfl
    · have hilt2 : (i : Int) < len := by omega
      have hil : i < ls.length := by rw [H.out.1]; exact hilt
      rcases H.out.2.1 with he | ⟨b, off, rfl, hb, hc⟩
      · exfalso
        rw [he] at hil; simp at hil
      obtain ⟨ad, cp, k0, q1, q2, q3, q4⟩ := hc i hil
      have htk := totV_take ls i hil
      have htl := totV_le ls (i + 1)
      have hts := H.out.2.2
      obtain ⟨n, hn⟩ : ∃ n, (ls[i]?.getD []).length = n := ⟨_, rfl⟩
      obtain ⟨S, hS⟩ : ∃ S, totV (ls.take i) = S := ⟨_, rfl⟩
      rw [hn] at k0 htk
      rw [hS] at htk ⊢
      have Htk := Lib.hid htk
      have hb1 : S + n ≤ 1000000 := by omega
      have hneg : ¬ ((S : Int) + (n : Int)) < 0 := by omega
      clear hc q1 q2 q3 q4 htk htl hts hil hn hS hb
      go_wp2
      go_round
      case rel => exact ⟨i + 1, by omega, by go_num, by rw [Htk.out]; go_num⟩
      case measure => simp [intOf]; omega
    · obtain ⟨S, hS⟩ : ∃ S, totV (ls.take len) = S := ⟨_, rfl⟩
      have hSl : S ≤ 1000000 := by rw [← hS]; exact Nat.le_trans (totV_le ls len) H.out.2.2
      rw [hS]
      clear hS
      have Hg := Lib.hid (grow_walk S w hSl)
      go_wp2_with fail
      refine Hg.out.mono ?_
      rintro e w2 ⟨hb2, v2, rfl, ho2⟩
      have H2 := Lib.hid (And.intro ho2 hb2)
      clear hb2 ho2
      go_wp2_with fail
      go_loopw [6, 27] (fun vl vi wr => ∃ (i : Nat) (v : Value), i ≤ len ∧ vi = .int .i64 i ∧ v = vl ∧ Hid (OwnV w.heap.size wr v (ls.take i).flatten ∧ Below w.heap.size w wr)) (fun _ vi _ => len - (intOf vi).toNat)
      case atStart => exact ⟨0, _, by omega, rfl, rfl, Lib.hid ⟨by simpa using H2.out.1, H2.out.2⟩⟩
      case round =>
        obtain ⟨i, v, hi, rfl, hv, Hr⟩ := hrel
        subst hv
        have hi2 : i < len ∨ len = i := by omega
        rcases hi2 with hilt | rfl
        · have hilt2 : (i : Int) < len := by omega
          have hil : i < ls.length := by rw [H.out.1]; exact hilt
          rcases H.out.2.1.below Hr.out.2 with he | ⟨b, off, rfl, hb, hc⟩
          · exfalso
            rw [he] at hil; simp at hil
          obtain ⟨ad, cp, k0, q1, q2, q3, q4⟩ := hc i hil
          have hft := flat_take ls i hil
          have hfl : (ls.take i).flatten.length + (ls[i]?.getD []).length ≤ 1000000 := by
            rw [flat_len, ← totV_take ls i hil]
            exact Nat.le_trans (totV_le ls (i + 1)) H.out.2.2
          have hszr : w.heap.size ≤ wr.heap.size := Hr.out.2.size
          have HQ := Lib.hid (And.intro q3 (And.intro q4 (And.intro hft hfl)))
          clear hc q1 q2 q3 q4 hft hfl hil hb
          go_wp2_with (at_builtin; refine append_vers 31 32 rfl rfl w.heap.size v (ls.take i).flatten wr.heap.size ad _ cp (ls[i]?.getD []) rfl rfl Hr.out.1 rfl HQ.out.2.2.2 HQ.out.1 HQ.out.2.1 hszr ?_)
          intro v' w5 h1 h2 _ _
          have HN : Hid (OwnV w.heap.size w5 v' (ls.take (i + 1)).flatten ∧ Below w.heap.size w w5) := Lib.hid ⟨by rw [HQ.out.2.2.1]; exact h1, Hr.out.2.trans (World.grownBy.below h2 hszr (fun k hk => (Hr.out.1.lt k hk).1))⟩
          clear h1 h2
          go_wp2
          go_roundw
          case rel =>
            first
            | exact ⟨i + 1, _, by omega, by go_num, rfl, HN⟩
            | (repeat apply Exists.intro); exact ⟨⟨i + 1, _, by omega, by go_num, rfl, HN⟩, rfl⟩
          case measure => simp [intOf]; omega
        · go_wp2
          go_ret
          have h9 := Hr.out.1
          rw [← H.out.1, List.take_length] at h9
          exact ⟨Hr.out.2, _, rfl, h9⟩
end
end Go.Proofs.YtolbdcmoblcakaaGreatDoor
