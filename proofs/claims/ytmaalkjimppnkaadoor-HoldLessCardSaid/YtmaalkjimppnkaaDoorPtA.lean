/- Walks: cmp.Compare, cmp.Or, the comparison of a ring's points; the sort's contract at it. -/
import Derived.Test.YtmaalkjimppnkaaDoorRg
import Derived.Test.YtmaalkjimppnkaaDoorBytes
import Derived.Test.YtmaalkjimppnkaaDoorSort
import Derived.StillTailTactics
namespace Go.Proofs.YtmaalkjimppnkaaDoor
open Go.RowKit

def cmpI (x y : Int) : Int := if x < y then -1 else if y < x then 1 else 0
def cmpT (s t : ByteArray) : Int := if Rg.tlt s t = true then -1 else if Rg.tlt t s = true then 1 else 0
def or3 (a b c : Int) : Int := if a ≠ 0 then a else if b ≠ 0 then b else c
theorem nanI_walk (x : Int) (w : World) : Calls Tryd.prog 157 #[.int .i64 x] w fun e w' => e = .returned (.bool false) ∧ w = w' := by
  go_enter Tryd.func157, Tryd.ntmps157
  go_wp2
  go_ret
  exact ⟨by simp, rfl⟩
theorem nanU_walk (x : Int) (w : World) : Calls Tryd.prog 179 #[.int .u32 x] w fun e w' => e = .returned (.bool false) ∧ w = w' := by
  go_enter Tryd.func179, Tryd.ntmps179
  go_wp2
  go_ret
  exact ⟨by simp, rfl⟩
theorem nanS_walk (s : ByteArray) (w : World) : Calls Tryd.prog 180 #[.string s] w fun e w' => e = .returned (.bool false) ∧ w = w' := by
  go_enter Tryd.func180, Tryd.ntmps180
  go_wp2
  go_ret
  exact ⟨by simp, rfl⟩
set_option maxHeartbeats 1000000 in
theorem cmpi_walk (x y : Int) (w : World) : Calls Tryd.prog 122 #[.int .i64 x, .int .i64 y] w fun e w' => e = .returned (.int .i64 (cmpI x y)) ∧ w = w' := by
  have H := Lib.hid (fun x => nanI_walk x w)
  rcases (show x < y ∨ (¬ x < y ∧ y < x) ∨ (¬ x < y ∧ ¬ y < x) by omega) with h1 | ⟨h1, h2⟩ | ⟨h1, h2⟩
  case' inl => rw [show cmpI x y = -1 from if_pos h1]
  case' inr.inl => rw [show cmpI x y = 1 from (if_neg h1).trans (if_pos h2)]
  case' inr.inr => rw [show cmpI x y = 0 from (if_neg h1).trans (if_neg h2)]
  all_goals
    go_enter Tryd.func122, Tryd.ntmps122
    go_wp2_with fail
    refine (H.out x).mono ?_
    rintro e w' ⟨rfl, rfl⟩
    go_wp2_with fail
    refine (H.out y).mono ?_
    rintro e w' ⟨rfl, rfl⟩
    go_wp2
    go_ret
    exact ⟨rfl, rfl⟩
set_option maxHeartbeats 1000000 in
theorem cmpu_walk (x y : Int) (w : World) : Calls Tryd.prog 149 #[.int .u32 x, .int .u32 y] w fun e w' => e = .returned (.int .i64 (cmpI x y)) ∧ w = w' := by
  have H := Lib.hid (fun x => nanU_walk x w)
  rcases (show x < y ∨ (¬ x < y ∧ y < x) ∨ (¬ x < y ∧ ¬ y < x) by omega) with h1 | ⟨h1, h2⟩ | ⟨h1, h2⟩
  case' inl => rw [show cmpI x y = -1 from if_pos h1]
  case' inr.inl => rw [show cmpI x y = 1 from (if_neg h1).trans (if_pos h2)]
  case' inr.inr => rw [show cmpI x y = 0 from (if_neg h1).trans (if_neg h2)]
  all_goals
    go_enter Tryd.func149, Tryd.ntmps149
    go_wp2_with fail
    refine (H.out x).mono ?_
    rintro e w' ⟨rfl, rfl⟩
    go_wp2_with fail
    refine (H.out y).mono ?_
    rintro e w' ⟨rfl, rfl⟩
    go_wp2
    go_ret
    exact ⟨rfl, rfl⟩
set_option maxHeartbeats 1000000 in
theorem cmps_walk (s t : ByteArray) (w : World) : Calls Tryd.prog 150 #[.string s, .string t] w fun e w' => e = .returned (.int .i64 (cmpT s t)) ∧ w = w' := by
  have H := Lib.hid (fun x => nanS_walk x w)
  cases h1 : Rg.tlt s t with
  | true =>
    rw [show cmpT s t = -1 from if_pos h1]
    have g1 : Op.bytesLess s.toList t.toList = true := h1
    clear h1
    go_enter Tryd.func150, Tryd.ntmps150
    go_wp2_with fail
    refine (H.out s).mono ?_
    rintro e w' ⟨rfl, rfl⟩
    go_wp2_with fail
    refine (H.out t).mono ?_
    rintro e w' ⟨rfl, rfl⟩
    go_wp2
    go_ret
    exact ⟨rfl, rfl⟩
  | false =>
    have g1 : Op.bytesLess s.toList t.toList = false := h1
    cases h2 : Rg.tlt t s with
    | true =>
      rw [show cmpT s t = 1 from (if_neg (by rw [h1]; decide)).trans (if_pos h2)]
      have g2 : (s.toList == t.toList) = false := by
        rw [beq_eq_false_iff_ne]
        intro e
        rw [Rg.toList_inj e, Rg.tlt_irrefl] at h2
        cases h2
      clear h1 h2
      go_enter Tryd.func150, Tryd.ntmps150
      go_wp2_with fail
      refine (H.out s).mono ?_
      rintro e w' ⟨rfl, rfl⟩
      go_wp2_with fail
      refine (H.out t).mono ?_
      rintro e w' ⟨rfl, rfl⟩
      go_wp2
      go_ret
      exact ⟨rfl, rfl⟩
    | false =>
      rw [show cmpT s t = 0 from (if_neg (by rw [h1]; decide)).trans (if_neg (by rw [h2]; decide))]
      obtain rfl := Rg.tlt_total h1 h2
      clear h1 h2
      go_enter Tryd.func150, Tryd.ntmps150
      go_wp2_with fail
      refine (H.out s).mono ?_
      rintro e w' ⟨rfl, rfl⟩
      go_wp2_with fail
      refine (H.out s).mono ?_
      rintro e w' ⟨rfl, rfl⟩
      go_wp2
      go_ret
      exact ⟨rfl, rfl⟩
set_option maxRecDepth 100000 in
set_option maxHeartbeats 1000000 in
theorem or_walk (g : Nat) (f : Nat → Int) (w : World) (hc : ∀ j, j < 3 → w.cell? ⟨g, j, none⟩ = some (.int .i64 (f j))) :
    Calls Tryd.prog 121 #[.slice (some ⟨g, 0, none⟩) 3 3] w fun e w' => e = .returned (.int .i64 (or3 (f 0) (f 1) (f 2))) ∧ w = w' := by
  have Hc := Lib.hid hc
  obtain ⟨r, hr⟩ : ∃ r, or3 (f 0) (f 1) (f 2) = r := ⟨_, rfl⟩
  have Hr := Lib.hid hr
  rw [hr]
  clear hc hr
  go_enter Tryd.func121, Tryd.ntmps121
  go_wp2
  go_loop [8] (fun vi => ∃ i : Nat, i ≤ 3 ∧ vi = .int .i64 i ∧ Hid (∀ j, j < i → f j = 0)) (fun i => 3 - (intOf i).toNat)
  case atStart => exact ⟨0, by omega, rfl, Lib.hid (fun j hj => by omega)⟩
  case round =>
    obtain ⟨i, hi, rfl, Hj⟩ := hrel
    have hi2 : i < 3 ∨ i = 3 := by omega
    rcases hi2 with hlt | rfl
    · have hlt2 : (i : Int) < 3 := by omega
      have h1 := Hc.out i hlt
      obtain ⟨x, hx⟩ : ∃ x, f i = x := ⟨_, rfl⟩
      rw [hx] at h1
      have Hx := Lib.hid hx
      clear hx
      by_cases h0 : x = 0
      · subst h0
        go_wp2
        go_round
        case rel => exact ⟨i + 1, by omega, by go_num, Lib.hid (fun j hj => by
          by_cases e : j = i
          · rw [e, Hx.out]
          · exact Hj.out j (by omega))⟩
        case measure => simp [intOf]; omega
      · have e1 : (x == 0) = false := by simpa using h0
        have hrx : x = r := by
          rw [← Hr.out, ← Hx.out]
          have h9 := Hj.out
          have h8 := Hx.out
          unfold or3
          rcases (show i = 0 ∨ i = 1 ∨ i = 2 by omega) with rfl | rfl | rfl
          · rw [if_pos (by rw [h8]; exact h0)]
          · rw [if_neg (by rw [h9 0 (by omega)]; decide), if_pos (by rw [h8]; exact h0)]
          · rw [if_neg (by rw [h9 0 (by omega)]; decide), if_neg (by rw [h9 1 (by omega)]; decide)]
        subst hrx
        clear h0
        go_wp2
        go_ret
        exact ⟨rfl, rfl⟩
    · have hr0 : r = 0 := by
        rw [← Hr.out]
        have h9 := Hj.out
        unfold or3
        rw [if_neg (by rw [h9 0 (by omega)]; decide), if_neg (by rw [h9 1 (by omega)]; decide), h9 2 (by omega)]
      subst hr0
      go_wp2
      go_ret
      exact ⟨rfl, rfl⟩
/-- a point's cells. -/
def encPt (p : Rg.Pt) : List Value := [.int .u32 (p.1 : Nat), .string p.2.1, .int .i64 (p.2.2 : Nat)]
def cfPt (x y : Rg.Pt) : Int := or3 (cmpI (x.1 : Nat) (y.1 : Nat)) (cmpT x.2.1 y.2.1) (cmpI (x.2.2 : Nat) (y.2.2 : Nat))
theorem cmpI_lt (x y : Nat) : (cmpI x y < 0 ↔ x < y) ∧ (cmpI x y = 0 ↔ x = y) := by
  unfold cmpI
  by_cases h1 : (x : Int) < y
  · rw [if_pos h1]; omega
  · rw [if_neg h1]
    by_cases h2 : (y : Int) < x
    · rw [if_pos h2]; omega
    · rw [if_neg h2]; omega
theorem cmpT_lt (s t : ByteArray) : (cmpT s t < 0 ↔ Rg.tlt s t = true) ∧ (cmpT s t = 0 ↔ s = t) := by
  unfold cmpT
  by_cases h1 : Rg.tlt s t = true
  · rw [if_pos h1]
    refine ⟨⟨fun _ => h1, fun _ => by decide⟩, ⟨fun h => absurd h (by decide), fun h => ?_⟩⟩
    rw [h, Rg.tlt_irrefl] at h1; cases h1
  · rw [if_neg h1]
    have h1' : Rg.tlt s t = false := by simpa using h1
    by_cases h2 : Rg.tlt t s = true
    · rw [if_pos h2]
      refine ⟨⟨fun h => absurd h (by decide), fun h => absurd h h1⟩, ⟨fun h => absurd h (by decide), fun h => ?_⟩⟩
      rw [h, Rg.tlt_irrefl] at h2; cases h2
    · rw [if_neg h2]
      exact ⟨⟨fun h => absurd h (by decide), fun h => absurd h h1⟩, ⟨fun _ => Rg.tlt_total h1' (by simpa using h2), fun _ => rfl⟩⟩
theorem ltPt (x y : Rg.Pt) : ltOf cfPt x y = Rg.plt x y := by
  have e1 := cmpI_lt x.1 y.1
  have e2 := cmpT_lt x.2.1 y.2.1
  have e3 := cmpI_lt x.2.2 y.2.2
  have h : cfPt x y < 0 ↔ Rg.plt x y = true := by
    rw [Rg.plt_iff]
    unfold cfPt or3
    by_cases h1 : cmpI (x.1 : Nat) (y.1 : Nat) = 0
    · rw [if_neg (by simpa using h1)]
      have h1' := e1.2.1 h1
      by_cases h2 : cmpT x.2.1 y.2.1 = 0
      · rw [if_neg (by simpa using h2), e3.1]
        have h2' := e2.2.1 h2
        constructor
        · intro h; exact .inr ⟨h1', .inr ⟨h2', h⟩⟩
        · rintro (h | ⟨_, h | ⟨_, h⟩⟩)
          · omega
          · rw [h2', Rg.tlt_irrefl] at h; cases h
          · exact h
      · rw [if_pos (by simpa using h2), e2.1]
        constructor
        · intro h; exact .inr ⟨h1', .inl h⟩
        · rintro (h | ⟨_, h | ⟨h, _⟩⟩)
          · omega
          · exact h
          · exact absurd (e2.2.2 h) h2
    · rw [if_pos (by simpa using h1), e1.1]
      constructor
      · exact .inl
      · rintro (h | ⟨h, _⟩)
        · exact h
        · exact absurd (e1.2.2 h) h1
  unfold ltOf
  rw [Bool.eq_iff_iff, ← h]
  simp
theorem swoPt : Go.Sort.SWO (ltOf cfPt) where
  irrefl x := by rw [ltPt]; exact Rg.plt_irrefl x
  trans x y z h1 h2 := by rw [ltPt] at *; exact Rg.plt_trans h1 h2
  ntrans x y z h1 h2 := by
    rw [ltPt] at *
    rw [Bool.eq_false_iff]
    intro h
    rcases Bool.eq_false_or_eq_true (Rg.plt y x) with h3 | h3
    · have := Rg.plt_trans h3 h
      rw [h2] at this; cases this
    · obtain rfl := Rg.plt_total h1 h3
      rw [h2] at h; cases h
theorem totalPt (x y : Rg.Pt) (h1 : ltOf cfPt x y = false) (h2 : ltOf cfPt y x = false) : x = y := by
  rw [ltPt] at *
  exact Rg.plt_total h1 h2
set_option maxRecDepth 100000 in
set_option maxHeartbeats 2000000 in
/-- the comparison of two points: blocks of its own and draws alone. -/
theorem ptC_walk (x y : Rg.Pt) (w : World) :
    Calls Tryd.prog 148 #[.agg (encPt x).toArray, .agg (encPt y).toArray] w fun e w' => e = .returned (.int .i64 (cfPt x y)) ∧ ∃ q os', w' = Go.Sort.grow (w.drewN q) os' := by
  obtain ⟨a1, s1, i1⟩ := x
  obtain ⟨a2, s2, i2⟩ := y
  have h1 := Lib.hid (fun W => (cmpu_walk (a1 : Nat) (a2 : Nat) W).mono fun e w' h => And.intro h.1 h.2.symm)
  have h2 := Lib.hid (fun W => (cmps_walk s1 s2 W).mono fun e w' h => And.intro h.1 h.2.symm)
  have h3 := Lib.hid (fun W => (cmpi_walk (i1 : Nat) (i2 : Nat) W).mono fun e w' h => And.intro h.1 h.2.symm)
  have hr : cfPt (a1, s1, i1) (a2, s2, i2) = or3 (cmpI (a1 : Nat) (a2 : Nat)) (cmpT s1 s2) (cmpI (i1 : Nat) (i2 : Nat)) := rfl
  rw [hr]
  generalize cmpI (a1 : Nat) (a2 : Nat) = c1 at *
  generalize cmpT s1 s2 = c2 at *
  generalize cmpI (i1 : Nat) (i2 : Nat) = c3 at *
  clear hr
  show Calls Tryd.prog 148 #[.agg #[.int .u32 (a1 : Nat), .string s1, .int .i64 (i1 : Nat)], .agg #[.int .u32 (a2 : Nat), .string s2, .int .i64 (i2 : Nat)]] w _
  obtain ⟨W, hW⟩ : ∃ W, (w.alloc (.cells #[.int .u32 (a1 : Nat), .string s1, .int .i64 (i1 : Nat)] 178)).alloc (.cells #[.int .u32 (a2 : Nat), .string s2, .int .i64 (i2 : Nat)] 178) = W := ⟨_, rfl⟩
  have ha : ∀ j, W.cell? ⟨w.heap.size, j, none⟩ = (#[.int .u32 (a1 : Nat), .string s1, .int .i64 (i1 : Nat)] : Array Value)[j]? := fun j => by
    rw [← hW, World.cell?_alloc_lt _ _ _ (by simp), World.cell?_alloc_at _ _ _ _ rfl]
  have hb : ∀ j, W.cell? ⟨w.heap.size + 1, j, none⟩ = (#[.int .u32 (a2 : Nat), .string s2, .int .i64 (i2 : Nat)] : Array Value)[j]? := fun j => by
    rw [← hW, World.cell?_alloc_at _ _ _ _ (by simp)]
  have x0 := ha 0
  have x1 := ha 1
  have x2 := ha 2
  have y0 := hb 0
  have y1 := hb 1
  have y2 := hb 2
  simp at x0 x1 x2 y0 y1 y2
  have HW := Lib.hid hW
  obtain ⟨b, hb0⟩ : ∃ b, w.heap.size = b := ⟨_, rfl⟩
  rw [hb0] at x0 x1 x2 y0 y1 y2
  have Hb := Lib.hid hb0
  clear ha hb hW hb0
  go_enter Tryd.func148, Tryd.ntmps148
  go_wp2
  rw [HW.out, Hb.out]
  refine wp_region_still_tail 15 (by kernel_rfl) (by kernel_rfl) ?_
  simp only [List.take_succ_cons, List.take_zero, List.drop_succ_cons, List.drop_zero]
  repeat still_step
  still_call (h1.out _)
  repeat still_step
  still_call (h2.out _)
  repeat still_step
  still_call (h3.out _)
  repeat still_step
  refine wpStill_nil ?_
  clear x0 x1 x2 y0 y1 y2
  change wpList _ _ _ _ _ W.drew
  have Ho := Lib.hid (or_walk W.heap.size (fun j => if j = 0 then c1 else if j = 1 then c2 else c3) (W.drew.alloc (.cells #[.int .i64 c1, .int .i64 c2, .int .i64 c3] 3)) (fun j hj => by
    have e : W.heap.size = W.drew.heap.size := rfl
    rw [e, World.cell?_alloc_at _ _ _ _ rfl]
    rcases (show j = 0 ∨ j = 1 ∨ j = 2 by omega) with rfl | rfl | rfl <;> rfl))
  have hfin : ∃ q os', W.drew.alloc (.cells #[.int .i64 c1, .int .i64 c2, .int .i64 c3] 3) = Go.Sort.grow (w.drewN q) os' := by
    rw [← HW.out]
    refine ⟨1, #[.cells #[.int .u32 (a1 : Nat), .string s1, .int .i64 (i1 : Nat)] 178] ++ #[.cells #[.int .u32 (a2 : Nat), .string s2, .int .i64 (i2 : Nat)] 178] ++ #[.cells #[.int .i64 c1, .int .i64 c2, .int .i64 c3] 3], ?_⟩
    rw [Go.Sort.alloc_eq_grow, Go.Sort.alloc_eq_grow, Go.Sort.alloc_eq_grow, Go.Sort.grow_grow, Go.Sort.drew_grow, Go.Sort.grow_grow]
    rfl
  have HF := Lib.hid hfin
  clear hfin
  go_wp2_with fail
  refine Ho.out.mono ?_
  rintro e w' ⟨rfl, rfl⟩
  go_wp2
  go_ret
  exact ⟨rfl, HF.out⟩
end Go.Proofs.YtmaalkjimppnkaaDoor
