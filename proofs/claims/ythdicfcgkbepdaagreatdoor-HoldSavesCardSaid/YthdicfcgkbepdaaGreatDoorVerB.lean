/- Walks: slices.Clone and slices.BinarySearchFunc of versions. -/
import Derived.Test.YthdicfcgkbepdaaGreatDoorVer
import Derived.Test.YthdicfcgkbepdaaGreatDoorTagA
import Derived.Shelf.Abstract
import Derived.Lib.QuietBelow
import Derived.BigQuiet
namespace Go.Proofs.YthdicfcgkbepdaaGreatDoor
section
open Go.RowKit

theorem OwnV.fresh (w : World) : OwnV w.heap.size (w.alloc (.cells #[] 49)) (.slice (some ⟨w.heap.size, 0, none⟩) 0 0) [] :=
  World.ownsRow_made w #[] 0 (Nat.le_refl _) (by simp [maxLen]) rfl
def VCloneOut (w w' : World) (M : List Ver) (e : Ending) : Prop := Below w.heap.size w w' ∧ ∃ v, e = .returned v ∧ OwnV w.heap.size w' v M
set_option maxRecDepth 100000 in
set_option maxHeartbeats 2000000 in
theorem vclone_walk (n₀ : Nat) (ad : Option Addr) (len cap : Nat) (M : List Ver) (w : World) (hlen : M.length = len) (hcap : len ≤ cap) (hl : len ≤ 1000000) (ha : ad = none → cap = 0) (hI : VrR n₀ w ad M) (hn : n₀ ≤ w.heap.size) :
    Calls Tryz.prog 46 #[.slice ad len cap] w fun e w' => VCloneOut w w' M e := by
  cases ad with
  | none =>
    obtain rfl := ha rfl
    obtain rfl : len = 0 := by omega
    obtain rfl : M = [] := List.length_eq_zero_iff.1 hlen
    have q := fun (w : World) (a : Option Addr) (n c n' c' : Nat) => Lib.run_eql_slice_nil (P := Tryz.prog) w 57 _ a n c n' c' Tryz.underlying57
    clear ha hI hlen hcap hl
    go_enter Tryz.func46, Tryz.ntmps46
    go_wp2
    go_ret
    exact ⟨Below.refl _ _, _, rfl, OwnV.nil _ _⟩
  | some x =>
    have hul : ([] : List Ver).length + M.length ≤ 1000000 := by simp; omega
    have hB : Below w.heap.size w (w.alloc (.cells #[] 49)) := (Below.refl _ w).alloc (Nat.le_refl _) _
    have hI2 : VrR w.heap.size (w.alloc (.cells #[] 49)) (some x) M := (hI.mono hn).below hB
    have hF := OwnV.fresh w
    have HI := Lib.hid (And.intro hI2 (And.intro hlen (And.intro hul (And.intro hB hF))))
    have q := fun (w : World) (a : Option Addr) (n c n' c' : Nat) => Lib.run_eql_slice_nil (P := Tryz.prog) w 57 _ a n c n' c' Tryz.underlying57
    clear hI hI2 hlen hul hB hF ha hcap hl
    go_enter Tryz.func46, Tryz.ntmps46
    go_wp2_with (at_builtin; refine append_vers 5 6 rfl rfl w.heap.size _ [] w.heap.size (some x) len cap M rfl rfl HI.out.2.2.2.2 HI.out.2.1 HI.out.2.2.1 (fun e => by cases e) HI.out.1 (by simp) ?_)
    intro v' w' k1 k2 _ k4
    have hb2 : Below w.heap.size w w' := HI.out.2.2.2.1.grown k2 (by simp) (fun k e => by simp [Value.ownBlock] at e; omega)
    have HR := Lib.hid (And.intro hb2 (show OwnV w.heap.size w' v' M by simpa using k1))
    clear k1 k2 k4 hb2
    go_wp2
    go_ret
    exact ⟨HR.out.1, _, rfl, HR.out.2⟩

/-! ### the search -/
theorem putc_eg : ∀ args w, (callFunc 43 args).run Tryz.prog w = .ok (.enter 43 args) w := enters_of Tryz.func43 (by kernel_rfl) rfl
set_option maxRecDepth 100000 in
set_option maxHeartbeats 1000000 in
theorem putc_walk (x : Ver) (n m : Int) (w : World) :
    Calls Tryz.prog 43 #[verV x, .agg #[.int .i64 n, .int .i64 m]] w fun e w' => e = .returned (.int .i64 (tagO x.1 x.2.1 n m)) ∧ Below w.heap.size w w' := by
  obtain ⟨x1, x2, x3, x4, x5⟩ := x
  have Ho := Lib.hid (fun W => order_walk x1 x2 n m W)
  unfold tagV at Ho
  have hB : Below w.heap.size w ((w.alloc (.cells #[.int .i64 x1, .int .i64 x2, .int .i64 x3, .int .i64 x4, .string x5] 49)).alloc (.cells #[.int .i64 n, .int .i64 m] 45)) := ((Below.refl _ w).alloc (Nat.le_refl _) _).alloc (by simp) _
  have HB := Lib.hid hB
  clear hB
  show Calls Tryz.prog 43 #[.agg #[.int .i64 x1, .int .i64 x2, .int .i64 x3, .int .i64 x4, .string x5], .agg #[.int .i64 n, .int .i64 m]] w fun e w' => e = .returned (.int .i64 (tagO x1 x2 n m)) ∧ Below w.heap.size w w'
  obtain ⟨r, hr⟩ : ∃ r, tagO x1 x2 n m = r := ⟨_, rfl⟩
  rw [hr] at Ho ⊢
  clear hr
  go_enter Tryz.func43, Tryz.ntmps43
  go_wp2_with fail
  refine (Ho.out _).mono ?_
  rintro e w' ⟨rfl, hg⟩
  have Hg := Lib.hid (HB.out.trans ((below_grow (Nat.le_refl _) hg).mono HB.out.size))
  clear hg
  go_wp2
  go_ret
  exact ⟨rfl, Hg.out⟩
/-- the versions' tags rise. -/
def VSorted (M : List Ver) : Prop := M.Pairwise fun x y => tagLt x.1 x.2.1 y.1 y.2.1 = true
/-- where a tag belongs: the number of those below it. -/
def posV (M : List Ver) (n m : Int) : Nat := (M.takeWhile fun x => tagLt x.1 x.2.1 n m).length
theorem tagLt_trans {a b c d e f : Int} (h1 : tagLt a b c d = true) (h2 : tagLt c d e f = true) : tagLt a b e f = true := by
  unfold tagLt at *
  simp only [decide_eq_true_eq] at *
  omega
theorem posV_spec : ∀ {M : List Ver} (n m : Int), VSorted M → posV M n m ≤ M.length ∧ ∀ j, j < M.length → (tagLt (M[j]?.getD ver0).1 (M[j]?.getD ver0).2.1 n m = true ↔ j < posV M n m)
  | [], n, m, _ => ⟨by simp [posV], fun j hj => by simp at hj⟩
  | x :: r, n, m, h => by
    have h2 : VSorted r := h.tail
    obtain ⟨h3, h4⟩ := posV_spec n m h2
    by_cases hx : tagLt x.1 x.2.1 n m = true
    · have e : posV (x :: r) n m = posV r n m + 1 := by unfold posV; rw [List.takeWhile_cons, if_pos hx]; rfl
      rw [e]
      refine ⟨by simp; omega, fun j hj => ?_⟩
      cases j with
      | zero => simpa using hx
      | succ j =>
        have := h4 j (by simpa using hj)
        simpa using this
    · have e : posV (x :: r) n m = 0 := by unfold posV; rw [List.takeWhile_cons, if_neg hx]; rfl
      rw [e]
      refine ⟨Nat.zero_le _, fun j hj => ⟨fun h9 => ?_, fun h9 => by omega⟩⟩
      exfalso
      cases j with
      | zero => exact hx (by simpa using h9)
      | succ j =>
        have hj2 : j < r.length := by simpa using hj
        have h10 := List.rel_of_pairwise_cons h (List.getElem_mem hj2)
        have e2 : ((x :: r)[j + 1]?.getD ver0) = r[j] := by simp [List.getElem?_eq_getElem hj2]
        rw [e2] at h9
        exact hx (tagLt_trans h10 h9)
theorem posV_eq {M : List Ver} {n m : Int} (hs : VSorted M) {i : Nat} (hi : i ≤ M.length) (h1 : ∀ j, j < i → j < M.length → tagLt (M[j]?.getD ver0).1 (M[j]?.getD ver0).2.1 n m = true) (h2 : i < M.length → tagLt (M[i]?.getD ver0).1 (M[i]?.getD ver0).2.1 n m = false) : posV M n m = i := by
  obtain ⟨h3, h4⟩ := posV_spec n m hs
  rcases Nat.lt_trichotomy (posV M n m) i with h | h | h
  · have := (h4 _ (by omega)).1 (h1 _ h (by omega))
    omega
  · exact h
  · have := (h4 i (by omega)).2 h
    rw [h2 (by omega)] at this
    cases this
/-- is the tag there? -/
def hasV (M : List Ver) (n m : Int) : Bool := decide (posV M n m < M.length ∧ (M[posV M n m]?.getD ver0).1 = n ∧ (M[posV M n m]?.getD ver0).2.1 = m)
end
section
open Go.RowKit Go.BigFrame

/-- the cells of one version. -/
theorem VrR.at5 {w : World} {b off : Nat} {M : List Ver} (hc : ∀ i j, i < M.length → j < 5 → w.cell? ⟨b, off + i * 5 + j, none⟩ = (encVr (M[i]?.getD ver0))[j]?) {i : Nat} (hi : i < M.length) :
    w.cell? ⟨b, off + i * 5, none⟩ = some (.int .i64 (M[i]?.getD ver0).1) ∧ w.cell? ⟨b, off + i * 5 + 1, none⟩ = some (.int .i64 (M[i]?.getD ver0).2.1) ∧ w.cell? ⟨b, off + i * 5 + 2, none⟩ = some (.int .i64 (M[i]?.getD ver0).2.2.1) ∧
    w.cell? ⟨b, off + i * 5 + 3, none⟩ = some (.int .i64 (M[i]?.getD ver0).2.2.2.1) ∧ w.cell? ⟨b, off + i * 5 + 4, none⟩ = some (.string (M[i]?.getD ver0).2.2.2.2) :=
  ⟨hc i 0 hi (by omega), hc i 1 hi (by omega), hc i 2 hi (by omega), hc i 3 hi (by omega), hc i 4 hi (by omega)⟩
/-- the search's bounds. -/
structure Between (M : List Ver) (n m : Int) (i j : Nat) : Prop where
  ij : i ≤ j
  jl : j ≤ M.length
  lo : i ≤ posV M n m
  hi : posV M n m ≤ j
set_option maxRecDepth 100000 in
set_option maxHeartbeats 4000000 in
theorem bsf_walk (n₀ : Nat) (ad : Option Addr) (len cap : Nat) (M : List Ver) (n m : Int) (w : World) (hs : VSorted M) (hlen : M.length = len) (hl : len ≤ 1000) (hI : VrR n₀ w ad M) (hn : n₀ ≤ w.heap.size) :
    Calls Tryz.prog 42 #[.slice ad len cap, .agg #[.int .i64 n, .int .i64 m], .func (.func 43) #[] #[]] w
      fun e w' => e = .returned (.tuple #[.int .i64 (posV M n m : Nat), .bool (hasV M n m)]) ∧ Below w.heap.size w w' := by
  have eg := putc_eg
  have hB0 : Below w.heap.size w (w.alloc (.cells #[.int .i64 n, .int .i64 m] 45)) := (Below.refl _ w).alloc (Nat.le_refl _) _
  have x0 : (w.alloc (.cells #[.int .i64 n, .int .i64 m] 45)).cell? ⟨w.heap.size, 0, none⟩ = some (.int .i64 n) := by simp
  have x1 : (w.alloc (.cells #[.int .i64 n, .int .i64 m] 45)).cell? ⟨w.heap.size, 1, none⟩ = some (.int .i64 m) := by simp
  have HX := Lib.hid (And.intro x0 (And.intro x1 hB0))
  have HI := Lib.hid (hI.mono hn)
  have Hl := Lib.hid hlen
  have Hp := Lib.hid (posV_spec n m hs)
  clear hI hs hlen hB0 x0 x1 hn
  go_enter Tryz.func42, Tryz.ntmps42
  go_wp2
  go_loopw [9, 10] (fun vi vj wr => ∃ i j : Nat, vi = .int .i64 i ∧ vj = .int .i64 j ∧ Hid (Between M n m i j ∧ Below w.heap.size w wr ∧ wr.cell? ⟨w.heap.size, 0, none⟩ = some (.int .i64 n) ∧ wr.cell? ⟨w.heap.size, 1, none⟩ = some (.int .i64 m))) (fun i j _ => (intOf j).toNat - (intOf i).toNat)
  case atStart => exact ⟨0, len, rfl, rfl, Lib.hid ⟨⟨Nat.zero_le _, by rw [Hl.out]; exact Nat.le_refl _, Nat.zero_le _, by rw [← Hl.out]; exact Hp.out.1⟩, HX.out.2.2, HX.out.1, HX.out.2.1⟩⟩
  case round =>
    obtain ⟨i, j, rfl, rfl, HJ⟩ := hrel
    have c0 := HJ.out.2.2.1
    have c1 := HJ.out.2.2.2
    have k0 := cell_regrown c0
    have k1 := cell_regrown c1
    have hjl : j ≤ 1000 := by have := HJ.out.1.jl; have := Hl.out; omega
    have hcell : ∀ h : Nat, h < len → ∃ b off, ad = some ⟨b, off, none⟩ ∧
        wr.cell? ⟨b, off + h * 5, none⟩ = some (.int .i64 (M[h]?.getD ver0).1) ∧ wr.cell? ⟨b, off + h * 5 + 1, none⟩ = some (.int .i64 (M[h]?.getD ver0).2.1) ∧ wr.cell? ⟨b, off + h * 5 + 2, none⟩ = some (.int .i64 (M[h]?.getD ver0).2.2.1) ∧
        wr.cell? ⟨b, off + h * 5 + 3, none⟩ = some (.int .i64 (M[h]?.getD ver0).2.2.2.1) ∧ wr.cell? ⟨b, off + h * 5 + 4, none⟩ = some (.string (M[h]?.getD ver0).2.2.2.2) := fun h hh => by
      rcases HI.out.below HJ.out.2.1 with he | ⟨b, off, e, _, hcx⟩
      · exfalso
        have := Hl.out
        rw [he] at this; simp at this; omega
      · exact ⟨b, off, e, VrR.at5 hcx (by have := Hl.out; omega)⟩
    have Hcell := Lib.hid hcell
    clear hcell
    by_cases hij : i < j
    · have hij2 : (i : Int) < j := by omega
      obtain ⟨h, hh⟩ : ∃ h : Nat, (i + j) / 2 = h := ⟨_, rfl⟩
      have hhi : i ≤ h ∧ h < j := by omega
      have hhl : h < len := by have := HJ.out.1.jl; have := Hl.out; omega
      have hhl2 : (h : Int) < len := by omega
      have hhe : ((i : Int) + j) / 2 = h := by omega
      obtain ⟨b, off, rfl, e0, e1, e2, e3, e4⟩ := Hcell.out h hhl
      have Hpos := Lib.hid ((Hp.out.2 h (by have := Hl.out; omega)))
      obtain ⟨⟨x1, x2, x3, x4, x5⟩, hx⟩ : ∃ x, M[h]?.getD ver0 = x := ⟨_, rfl⟩
      rw [hx] at e0 e1 e2 e3 e4 Hpos
      dsimp only at e0 e1 e2 e3 e4 Hpos
      have f0 := cell_regrown e0
      have f1 := cell_regrown e1
      have f2 := cell_regrown e2
      have f3 := cell_regrown e3
      have f4 := cell_regrown e4
      have hlt := tagO_lt x1 x2 n m
      have C := fun d os => Calls.regrown_of (putc_walk (x1, x2, x3, x4, x5) n m (Go.Sort.grow (redrawn wr d) os))
      unfold verV at C
      dsimp only at C
      obtain ⟨o, ho⟩ : ∃ o, tagO x1 x2 n m = o := ⟨_, rfl⟩
      rw [ho] at hlt C
      have Hhh := Lib.hid (And.intro hh hhi)
      clear hx ho e0 e1 e2 e3 e4 hh hhi hij
      cases hr : tagLt x1 x2 n m with
      | true =>
        rw [hr] at hlt Hpos
        have ho1 : o < 0 := of_decide_eq_true hlt
        have HB2 : Hid (Between M n m (h + 1) j) := Lib.hid ⟨by have := Hhh.out; omega, HJ.out.1.jl, by have := Hpos.out.1 rfl; omega, HJ.out.1.hi⟩
        clear hr
        go_wp2
        refine wp_region_quiet_below (by kernel_rfl) (by kernel_rfl) ?_
        repeat (go_big_quiet_step (first | exact C _ _))
        refine wpQuiet_nil ?_
        intro _ hw'
        obtain ⟨⟨dq, osq⟩, hw''⟩ := hw'
        subst hw''
        have HW := Lib.hid (And.intro (HJ.out.2.1.trans ((below_regrown wr dq osq).mono HJ.out.2.1.size)) (And.intro (k0 dq osq) (k1 dq osq)))
        clear k0 k1 f0 f1 f2 f3 f4 C
        go_wp2
        go_roundw
        case rel => exact ⟨h + 1, j, by go_num, rfl, Lib.hid ⟨HB2.out, HW.out.1, HW.out.2.1, HW.out.2.2⟩⟩
        case measure => simp [intOf]; have := Hhh.out; omega
      | false =>
        rw [hr] at hlt Hpos
        have ho1 : ¬ o < 0 := of_decide_eq_false hlt
        have HB2 : Hid (Between M n m i h) := Lib.hid ⟨Hhh.out.2.1, by have := HJ.out.1.jl; have := Hhh.out; omega, HJ.out.1.lo, Nat.le_of_not_lt (fun e => by have h9 := Hpos.out.2 e; cases h9)⟩
        clear hr
        go_wp2
        refine wp_region_quiet_below (by kernel_rfl) (by kernel_rfl) ?_
        repeat (go_big_quiet_step (first | exact C _ _))
        refine wpQuiet_nil ?_
        intro _ hw'
        obtain ⟨⟨dq, osq⟩, hw''⟩ := hw'
        subst hw''
        have HW := Lib.hid (And.intro (HJ.out.2.1.trans ((below_regrown wr dq osq).mono HJ.out.2.1.size)) (And.intro (k0 dq osq) (k1 dq osq)))
        clear k0 k1 f0 f1 f2 f3 f4 C
        go_wp2
        go_roundw
        case rel => exact ⟨i, h, rfl, by go_num, Lib.hid ⟨HB2.out, HW.out.1, HW.out.2.1, HW.out.2.2⟩⟩
        case measure => simp [intOf]; have := Hhh.out; omega
    · have hij2 : ¬ (i : Int) < j := by omega
      have hp : posV M n m = i := by have := HJ.out.1.ij; have := HJ.out.1.lo; have := HJ.out.1.hi; omega
      have hil0 : i ≤ len := by have := HJ.out.1.jl; have := HJ.out.1.ij; have := Hl.out; omega
      by_cases hil : i < len
      · have hil2 : (i : Int) < len := by omega
        have hil3 : decide (i < len) = true := decide_eq_true hil
        obtain ⟨b, off, rfl, e0, e1, e2, e3, e4⟩ := Hcell.out i hil
        have hhv : hasV M n m = decide ((M[i]?.getD ver0).1 = n ∧ (M[i]?.getD ver0).2.1 = m) := by
          unfold hasV
          rw [hp, decide_eq_decide]
          have := Hl.out
          exact ⟨fun h => h.2, fun h => ⟨by omega, h⟩⟩
        obtain ⟨⟨x1, x2, x3, x4, x5⟩, hx⟩ : ∃ x, M[i]?.getD ver0 = x := ⟨_, rfl⟩
        rw [hx] at e0 e1 e2 e3 e4 hhv
        dsimp only at e0 e1 e2 e3 e4 hhv
        have f0 := cell_regrown e0
        have f1 := cell_regrown e1
        have f2 := cell_regrown e2
        have f3 := cell_regrown e3
        have f4 := cell_regrown e4
        have heq := tagO_eq x1 x2 n m
        have C := fun d os => Calls.regrown_of (putc_walk (x1, x2, x3, x4, x5) n m (Go.Sort.grow (redrawn wr d) os))
        unfold verV at C
        dsimp only at C
        obtain ⟨o, ho⟩ : ∃ o, tagO x1 x2 n m = o := ⟨_, rfl⟩
        rw [ho] at heq C
        have Hres := Lib.hid (And.intro hp hhv)
        have HJ2 := Lib.hid HJ.out.2.1
        by_cases h0 : o = 0
        case' pos =>
          have hr : hasV M n m = true := by rw [hhv]; exact decide_eq_true (heq.1 h0)
          subst h0
        case' neg =>
          have hr : hasV M n m = false := by rw [hhv]; exact decide_eq_false (fun h => h0 (heq.2 h))
          have ho1 : (o == 0) = false := by simpa using h0
        all_goals
          have HQ := Lib.hid (And.intro hp hr)
          clear hr hp hhv heq hx ho e0 e1 e2 e3 e4 hij HJ
          try clear h0
          go_wp2
          refine wp_region_quiet_below (by kernel_rfl) (by kernel_rfl) ?_
          repeat (go_big_quiet_step (first | exact C _ _))
          refine wpQuiet_nil ?_
          intro _ hw'
          obtain ⟨⟨dq, osq⟩, hw''⟩ := hw'
          subst hw''
          go_wp2
          go_ret2
          exact ⟨by rw [HQ.out.1, HQ.out.2]; rfl, HJ2.out.trans ((below_regrown wr dq osq).mono HJ2.out.size)⟩
      · have hie : i = len := by omega
        subst hie
        have hr : hasV M n m = false := by
          unfold hasV
          rw [hp]
          exact decide_eq_false (fun h => by have := Hl.out; omega)
        have HQ := Lib.hid (And.intro hp hr)
        have HJ2 := Lib.hid HJ.out.2.1
        have hil3 : decide (i < i) = false := decide_eq_false (by omega)
        clear hr hp HJ hij
        go_wp2
        refine wp_region_quiet_below (by kernel_rfl) (by kernel_rfl) ?_
        repeat (go_big_quiet_step (fail))
        refine wpQuiet_nil ?_
        intro _ hw'
        obtain ⟨⟨dq, osq⟩, hw''⟩ := hw'
        subst hw''
        go_wp2
        go_ret2
        exact ⟨by rw [HQ.out.1, HQ.out.2]; rfl, HJ2.out.trans ((below_regrown wr dq osq).mono HJ2.out.size)⟩
end
section
open Go.RowKit

/-- what Insert hands back. -/
def InsOut (B : Nat) (w w' : World) (v : Value) (L : List Ver) (e : Ending) : Prop := ∃ v', e = .returned v' ∧ OwnV B w' v' L ∧ w.grownBy w' v.ownBlock ∧ (v'.ownBlock = v.ownBlock ∨ ∃ g, v'.ownBlock = some g ∧ w.heap.size ≤ g)
/-- one version that is handed on as a row of its own. -/
def OneV (w : World) (gx : Nat) (x : Ver) : Prop := w.heap[gx]? = some (.cells (encVr x).toArray 49 (0, 0))
theorem OneV.lt {w : World} {gx : Nat} {x : Ver} (h : OneV w gx x) : gx < w.heap.size := (Array.getElem?_eq_some_iff.1 h).1
theorem OneV.read {w : World} {gx : Nat} {x : Ver} (h : OneV w gx x) : VrR w.heap.size w (some ⟨gx, 0, none⟩) [x] := by
  refine .inr ⟨gx, 0, rfl, h.lt, fun i j hi hj => ?_⟩
  obtain rfl : i = 0 := by simpa using hi
  unfold OneV at h
  simp only [World.cell?, h]
  rcases (show j = 0 ∨ j = 1 ∨ j = 2 ∨ j = 3 ∨ j = 4 by omega) with rfl | rfl | rfl | rfl | rfl <;> rfl
theorem OneV.new (w : World) (x : Ver) : OneV (w.alloc (.cells (encVr x).toArray 49)) w.heap.size x := Go.heap_alloc_new w _
set_option maxRecDepth 100000 in
set_option maxHeartbeats 2000000 in
theorem insert_end (B : Nat) (v : Value) (L : List Ver) (gx : Nat) (x : Ver) (w : World) (hown : OwnV B w v L) (hl : L.length ≤ 1000) (hx : OneV w gx x) (hB : B ≤ w.heap.size) :
    Calls Tryz.prog 45 #[v, .int .i64 (L.length : Nat), .slice (some ⟨gx, 0, none⟩) 1 1] w fun e w' => InsOut B w w' v (L ++ [x]) e := by
  have hul : L.length + [x].length ≤ 1000000 := by simp; omega
  have Hul := Lib.hid hul
  have HO := Lib.hid (And.intro hown (And.intro hul (And.intro hx.read hB)))
  have hnil : (v = .slice none 0 0 ∧ L.length = 0) ∨ (∃ g cap, v = .slice (some ⟨g, 0, none⟩) L.length cap ∧ L.length = cap ∧ cap ≤ 9223372036854775807) ∨ (∃ g cap, v = .slice (some ⟨g, 0, none⟩) L.length cap ∧ L.length < cap ∧ cap ≤ 9223372036854775807) := by
    rcases hown.2 with h | ⟨g, cap, cur, e, _, _, h1, h2, _⟩
    · exact .inl h
    · have h2' : cap ≤ 9223372036854775807 := h2
      rcases Nat.lt_or_ge L.length cap with h | h
      · exact .inr (.inr ⟨g, cap, e, h, h2'⟩)
      · exact .inr (.inl ⟨g, cap, e, by omega, h2'⟩)
  obtain ⟨n, hn⟩ : ∃ n, L.length = n := ⟨_, rfl⟩
  rw [hn] at hnil HO hl ⊢
  clear hown hul hx hB hn
  rcases hnil with ⟨rfl, rfl⟩ | ⟨g, cap, rfl, rfl, hm⟩ | ⟨g, cap, rfl, hlt, hm⟩
  case' inr.inr =>
    have hne : ¬ cap = n := by omega
    have hlt2 : n ≤ cap := by omega
  all_goals
    go_enter Tryz.func45, Tryz.ntmps45
    go_wp2_with (at_builtin; refine append_vers 23 24 rfl rfl B _ L w.heap.size (some ⟨gx, 0, none⟩) 1 1 [x] rfl rfl HO.out.1 rfl Hul.out (fun e => by cases e) HO.out.2.2.1 HO.out.2.2.2 ?_)
    intro v' w' k1 k2 _ k4
    have HR := Lib.hid (And.intro k1 (And.intro k2 k4))
    clear k1 k2 k4
    go_wp2
    go_ret
    exact ⟨_, rfl, HR.out.1, HR.out.2.1, HR.out.2.2.imp id (fun h => ⟨_, h, Nat.le_refl _⟩)⟩
end
end Go.Proofs.YthdicfcgkbepdaaGreatDoor
