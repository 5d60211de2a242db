/- Walks: cmp.Compare, cmp.Or, the comparison of a ring's points; the sort's contract at it. -/
import Derived.Test.YtjgllhnecoibkaaGreatDoorCmpA
import Derived.Test.YtjgllhnecoibkaaGreatDoorSort
import Derived.StillTailTactics
namespace Go.Proofs.YtjgllhnecoibkaaGreatDoor
open Go.RowKit

/-- a point's cells. -/
def encPt (p : Rg.Pt) : List Value := [.int .u32 (p.1 : Nat), .string p.2.1, .int .i64 (p.2.2 : Nat)]
def cfPt (x y : Rg.Pt) : Int := or3 (cmpI (x.1 : Nat) (y.1 : Nat)) (cmpT x.2.1 y.2.1) (cmpI (x.2.2 : Nat) (y.2.2 : Nat))
theorem cmpI_lt (x y : Nat) : (cmpI x y < 0 ↔ x < y) ∧ (cmpI x y = 0 ↔ x = y) := by
  unfold cmpI
  by_cases h1 : (x : Int) < y
  · rw [if_pos h1]; omega
  · rw [if_neg h1]
    by_cases h2 : (y : Int) < x
    · rw [if_pos h2]; omega
    · rw [if_neg h2]; omega
theorem cmpT_lt (s t : ByteArray) : (cmpT s t < 0 ↔ Rg.tlt s t = true) ∧ (cmpT s t = 0 ↔ s = t) := by
  unfold cmpT
  by_cases h1 : Rg.tlt s t = true
  · rw [if_pos h1]
    refine ⟨⟨fun _ => h1, fun _ => by decide⟩, ⟨fun h => absurd h (by decide), fun h => ?_⟩⟩
    rw [h, Rg.tlt_irrefl] at h1; cases h1
  · rw [if_neg h1]
    have h1' : Rg.tlt s t = false := by simpa using h1
    by_cases h2 : Rg.tlt t s = true
    · rw [if_pos h2]
      refine ⟨⟨fun h => absurd h (by decide), fun h => absurd h h1⟩, ⟨fun h => absurd h (by decide), fun h => ?_⟩⟩
      rw [h, Rg.tlt_irrefl] at h2; cases h2
    · rw [if_neg h2]
      exact ⟨⟨fun h => absurd h (by decide), fun h => absurd h h1⟩, ⟨fun _ => Rg.tlt_total h1' (by simpa using h2), fun _ => rfl⟩⟩
theorem ltPt (x y : Rg.Pt) : ltOf cfPt x y = Rg.plt x y := by
  have e1 := cmpI_lt x.1 y.1
  have e2 := cmpT_lt x.2.1 y.2.1
  have e3 := cmpI_lt x.2.2 y.2.2
  have h : cfPt x y < 0 ↔ Rg.plt x y = true := by
    rw [Rg.plt_iff]
    unfold cfPt or3
    by_cases h1 : cmpI (x.1 : Nat) (y.1 : Nat) = 0
    · rw [if_neg (by simpa using h1)]
      have h1' := e1.2.1 h1
      by_cases h2 : cmpT x.2.1 y.2.1 = 0
      · rw [if_neg (by simpa using h2), e3.1]
        have h2' := e2.2.1 h2
        constructor
        · intro h; exact .inr ⟨h1', .inr ⟨h2', h⟩⟩
        · rintro (h | ⟨_, h | ⟨_, h⟩⟩)
          · omega
          · rw [h2', Rg.tlt_irrefl] at h; cases h
          · exact h
      · rw [if_pos (by simpa using h2), e2.1]
        constructor
        · intro h; exact .inr ⟨h1', .inl h⟩
        · rintro (h | ⟨_, h | ⟨h, _⟩⟩)
          · omega
          · exact h
          · exact absurd (e2.2.2 h) h2
    · rw [if_pos (by simpa using h1), e1.1]
      constructor
      · exact .inl
      · rintro (h | ⟨h, _⟩)
        · exact h
        · exact absurd (e1.2.2 h) h1
  unfold ltOf
  rw [Bool.eq_iff_iff, ← h]
  simp
theorem swoPt : Go.Sort.SWO (ltOf cfPt) where
  irrefl x := by rw [ltPt]; exact Rg.plt_irrefl x
  trans x y z h1 h2 := by rw [ltPt] at *; exact Rg.plt_trans h1 h2
  ntrans x y z h1 h2 := by
    rw [ltPt] at *
    rw [Bool.eq_false_iff]
    intro h
    rcases Bool.eq_false_or_eq_true (Rg.plt y x) with h3 | h3
    · have := Rg.plt_trans h3 h
      rw [h2] at this; cases this
    · obtain rfl := Rg.plt_total h1 h3
      rw [h2] at h; cases h
theorem totalPt (x y : Rg.Pt) (h1 : ltOf cfPt x y = false) (h2 : ltOf cfPt y x = false) : x = y := by
  rw [ltPt] at *
  exact Rg.plt_total h1 h2
set_option maxRecDepth 100000 in
set_option maxHeartbeats 2000000 in
/-- the comparison of two points: blocks of its own and draws alone. -/
theorem ptC_walk (x y : Rg.Pt) (w : World) :
    Calls Tryz.prog 58 #[.agg (encPt x).toArray, .agg (encPt y).toArray] w fun e w' => e = .returned (.int .i64 (cfPt x y)) ∧ ∃ q os', w' = Go.Sort.grow (w.drewN q) os' := by
  obtain ⟨a1, s1, i1⟩ := x
  obtain ⟨a2, s2, i2⟩ := y
  have h1 := Lib.hid (fun W => (cmpu_walk (a1 : Nat) (a2 : Nat) W).mono fun e w' h => And.intro h.1 h.2.symm)
  have h2 := Lib.hid (fun W => (cmps_walk s1 s2 W).mono fun e w' h => And.intro h.1 h.2.symm)
  have h3 := Lib.hid (fun W => (cmpi_walk (i1 : Nat) (i2 : Nat) W).mono fun e w' h => And.intro h.1 h.2.symm)
  have hr : cfPt (a1, s1, i1) (a2, s2, i2) = or3 (cmpI (a1 : Nat) (a2 : Nat)) (cmpT s1 s2) (cmpI (i1 : Nat) (i2 : Nat)) := rfl
  rw [hr]
  generalize cmpI (a1 : Nat) (a2 : Nat) = c1 at *
  generalize cmpT s1 s2 = c2 at *
  generalize cmpI (i1 : Nat) (i2 : Nat) = c3 at *
  clear hr
  show Calls Tryz.prog 58 #[.agg #[.int .u32 (a1 : Nat), .string s1, .int .i64 (i1 : Nat)], .agg #[.int .u32 (a2 : Nat), .string s2, .int .i64 (i2 : Nat)]] w _
  obtain ⟨W, hW⟩ : ∃ W, (w.alloc (.cells #[.int .u32 (a1 : Nat), .string s1, .int .i64 (i1 : Nat)] 77)).alloc (.cells #[.int .u32 (a2 : Nat), .string s2, .int .i64 (i2 : Nat)] 77) = W := ⟨_, rfl⟩
  have ha : ∀ j, W.cell? ⟨w.heap.size, j, none⟩ = (#[.int .u32 (a1 : Nat), .string s1, .int .i64 (i1 : Nat)] : Array Value)[j]? := fun j => by
    rw [← hW, World.cell?_alloc_lt _ _ _ (by simp), World.cell?_alloc_at _ _ _ _ rfl]
  have hb : ∀ j, W.cell? ⟨w.heap.size + 1, j, none⟩ = (#[.int .u32 (a2 : Nat), .string s2, .int .i64 (i2 : Nat)] : Array Value)[j]? := fun j => by
    rw [← hW, World.cell?_alloc_at _ _ _ _ (by simp)]
  have x0 := ha 0
  have x1 := ha 1
  have x2 := ha 2
  have y0 := hb 0
  have y1 := hb 1
  have y2 := hb 2
  simp at x0 x1 x2 y0 y1 y2
  have HW := Lib.hid hW
  obtain ⟨b, hb0⟩ : ∃ b, w.heap.size = b := ⟨_, rfl⟩
  rw [hb0] at x0 x1 x2 y0 y1 y2
  have Hb := Lib.hid hb0
  clear ha hb hW hb0
  go_enter Tryz.func58, Tryz.ntmps58
  go_wp2
  rw [HW.out, Hb.out]
  refine wp_region_still_tail 15 (by kernel_rfl) (by kernel_rfl) ?_
  simp only [List.take_succ_cons, List.take_zero, List.drop_succ_cons, List.drop_zero]
  repeat still_step
  still_call (h1.out _)
  repeat still_step
  still_call (h2.out _)
  repeat still_step
  still_call (h3.out _)
  repeat still_step
  refine wpStill_nil ?_
  clear x0 x1 x2 y0 y1 y2
  change wpList _ _ _ _ _ W.drew
  have Ho := Lib.hid (or_walk W.heap.size (fun j => if j = 0 then c1 else if j = 1 then c2 else c3) (W.drew.alloc (.cells #[.int .i64 c1, .int .i64 c2, .int .i64 c3] 3)) (fun j hj => by
    have e : W.heap.size = W.drew.heap.size := rfl
    rw [e, World.cell?_alloc_at _ _ _ _ rfl]
    rcases (show j = 0 ∨ j = 1 ∨ j = 2 by omega) with rfl | rfl | rfl <;> rfl))
  have hfin : ∃ q os', W.drew.alloc (.cells #[.int .i64 c1, .int .i64 c2, .int .i64 c3] 3) = Go.Sort.grow (w.drewN q) os' := by
    rw [← HW.out]
    refine ⟨1, #[.cells #[.int .u32 (a1 : Nat), .string s1, .int .i64 (i1 : Nat)] 77] ++ #[.cells #[.int .u32 (a2 : Nat), .string s2, .int .i64 (i2 : Nat)] 77] ++ #[.cells #[.int .i64 c1, .int .i64 c2, .int .i64 c3] 3], ?_⟩
    rw [Go.Sort.alloc_eq_grow, Go.Sort.alloc_eq_grow, Go.Sort.alloc_eq_grow, Go.Sort.grow_grow, Go.Sort.drew_grow, Go.Sort.grow_grow]
    rfl
  have HF := Lib.hid hfin
  clear hfin
  go_wp2_with fail
  refine Ho.out.mono ?_
  rintro e w' ⟨rfl, rfl⟩
  go_wp2
  go_ret
  exact ⟨rfl, HF.out⟩
end Go.Proofs.YtjgllhnecoibkaaGreatDoor
