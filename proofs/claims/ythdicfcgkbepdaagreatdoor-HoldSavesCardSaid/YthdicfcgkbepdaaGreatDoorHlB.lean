/- Walks of a hold's Get, Last, Sealed, Count. -/
import Derived.Test.YthdicfcgkbepdaaGreatDoorTgs
import Derived.Test.YthdicfcgkbepdaaGreatDoorHld
import Derived.Test.YthdicfcgkbepdaaGreatDoorVerB
namespace Go.Proofs.YthdicfcgkbepdaaGreatDoor
section
open Go.RowKit Go.Maps

set_option maxRecDepth 100000 in
set_option maxHeartbeats 2000000 in
theorem hget_walk (F : Nat → Prop) (w : World) (hb : Nat) (sd : Bool) (C : ByteArray → List Ver) (ks : List ByteArray) (S : ByteArray → Value) (k : ByteArray) (h : HoldAt F w hb sd C ks S) (hk : k.size ≤ maxLen) (hl : (C k).length ≤ 1000) :
    Calls Tryz.prog 16 #[.pointer (some ⟨hb, 0, none⟩), .string k] w fun e w' => VCloneOut w w' (C k) e := by
  obtain ⟨m, c0, hr⟩ := h.look hk
  obtain ⟨ad, cap, hv, hcap, _, ha, hI⟩ := (h.row k).read
  obtain ⟨n, hn⟩ : ∃ n, (C k).length = n := ⟨_, rfl⟩
  rw [hv] at hr
  have Hc := Lib.hid (vclone_walk w.heap.size ad (C k).length cap (C k) w rfl hcap (by omega) ha hI (Nat.le_refl _))
  clear h hk hv hcap ha hI hl
  rw [hn] at hr Hc
  clear hn
  go_enter Tryz.func16, Tryz.ntmps16
  go_wp2_with fail
  refine Hc.out.mono ?_
  rintro e w' ⟨hb, v, rfl, ho⟩
  have HR := Lib.hid (And.intro hb ho)
  clear hb ho
  go_wp2
  go_ret
  exact ⟨HR.out.1, _, rfl, HR.out.2⟩
/-- what Last hands back. -/
def lastE (l : List Ver) : Ending := .returned (.tuple #[.agg #[.int .i64 (l[l.length - 1]?.getD ver0).1, .int .i64 (l[l.length - 1]?.getD ver0).2.1], .bool (decide (0 < l.length))])
set_option maxRecDepth 100000 in
set_option maxHeartbeats 2000000 in
theorem hlast_walk (F : Nat → Prop) (w : World) (hb : Nat) (sd : Bool) (C : ByteArray → List Ver) (ks : List ByteArray) (S : ByteArray → Value) (k : ByteArray) (h : HoldAt F w hb sd C ks S) (hk : k.size ≤ maxLen) (hl : (C k).length ≤ 1000) :
    Calls Tryz.prog 17 #[.pointer (some ⟨hb, 0, none⟩), .string k] w fun e w' => e = lastE (C k) ∧ Below w.heap.size w w' := by
  have hB : Below w.heap.size w (w.alloc (.cells #[.int .i64 0, .int .i64 0] 45)) := (Below.refl _ w).alloc (Nat.le_refl _) _
  obtain ⟨m, c0, hra⟩ := h.lookAll hk
  have hr := hra _ hB
  obtain ⟨ad, cap, hv, hcap, _, ha, hI⟩ := (h.row k).read
  obtain ⟨n, hn⟩ : ∃ n, (C k).length = n := ⟨_, rfl⟩
  have HB := Lib.hid hB
  have hlt := h.hlt
  have c0a := (hB.cell (p := ⟨hb, 0, none⟩) hlt).trans c0
  unfold lastE
  rw [hn] at hv hl ⊢
  rw [hv] at hr
  have HI := Lib.hid hI
  have Hn := Lib.hid hn
  clear h hk hv hcap ha hI hB hn hlt hra c0
  by_cases h0 : n = 0
  · subst h0
    rw [show (decide (0 < 0)) = false from rfl]
    have e0 : C k = [] := List.length_eq_zero_iff.1 Hn.out
    rw [e0]
    clear e0
    go_enter Tryz.func17, Tryz.ntmps17
    go_wp2
    exact bodyPost_ret (v := .tuple #[.agg #[.int .i64 0, .int .i64 0], .bool false]) (by simp [results, Tryz.results17, go_sem]) rfl ⟨rfl, HB.out⟩
  · have hp : 0 < n := by omega
    have hdp : decide (0 < n) = true := decide_eq_true hp
    have e1 : (n == 0) = false := by simpa using h0
    have e2 : ((n : Int) == 0) = false := by simpa using h0
    obtain ⟨i, rfl⟩ : ∃ i, n = i + 1 := ⟨n - 1, by omega⟩
    rcases HI.out with he | ⟨b, off, rfl, hbl, hcx⟩
    · exfalso
      have := Hn.out
      rw [he] at this; simp at this
    obtain ⟨f0, f1, f2, f3, f4⟩ := VrR.at5 hcx (i := i) (by have := Hn.out; omega)
    obtain ⟨⟨x1, x2, x3, x4, x5⟩, hx⟩ : ∃ x, (C k)[i]?.getD ver0 = x := ⟨_, rfl⟩
    rw [show i + 1 - 1 = i from rfl, hx]
    rw [hx] at f0 f1 f2 f3 f4
    dsimp only at f0 f1 f2 f3 f4
    have g0 := (HB.out.cell (p := ⟨b, off + i * 5, none⟩) hbl).trans f0
    have g1 := (HB.out.cell (p := ⟨b, off + i * 5 + 1, none⟩) hbl).trans f1
    clear hcx hx h0 f0 f1 f2 f3 f4
    rw [hdp]
    go_enter Tryz.func17, Tryz.ntmps17
    go_wp2
    exact bodyPost_ret (v := .tuple #[.agg #[.int .i64 x1, .int .i64 x2], .bool true]) (by simp [results, Tryz.results17, go_sem]) rfl ⟨rfl, (Below.refl _ w).alloc (Nat.le_refl _) _⟩
set_option maxHeartbeats 1000000 in
theorem hsealed_walk (F : Nat → Prop) (w : World) (hb : Nat) (sd : Bool) (C : ByteArray → List Ver) (ks : List ByteArray) (S : ByteArray → Value) (h : HoldAt F w hb sd C ks S) :
    Calls Tryz.prog 11 #[.pointer (some ⟨hb, 0, none⟩)] w fun e w' => e = .returned (.bool sd) ∧ w = w' := by
  have c1 := h.c1
  clear h
  go_enter Tryz.func11, Tryz.ntmps11
  go_wp2
  go_ret
  exact ⟨rfl, rfl⟩

/-! ### Count -/
/-- of those keys that are still to come: how many versions. -/
def leftC (C : ByteArray → List Ver) (left : Lit → Bool) : List ByteArray → Nat
  | [] => 0
  | k :: r => (if left (litS k) = true then (C k).length else 0) + leftC C left r
theorem leftC_all (C : ByteArray → List Ver) (left : Lit → Bool) : ∀ ks : List ByteArray, (∀ k ∈ ks, left (litS k) = true) → leftC C left ks = totC C ks
  | [], _ => rfl
  | k :: r, h => by
    unfold leftC
    rw [if_pos (h k (List.mem_cons_self ..)), leftC_all C left r (fun x hx => h x (List.mem_cons_of_mem _ hx))]
    simp [totC]
theorem leftC_none (C : ByteArray → List Ver) (left : Lit → Bool) (h : ∀ l, left l = false) : ∀ ks : List ByteArray, leftC C left ks = 0
  | [] => rfl
  | k :: r => by unfold leftC; rw [if_neg (by rw [h]; decide), leftC_none C left h r]
theorem leftC_out (C : ByteArray → List Ver) (left : Lit → Bool) (x : ByteArray) : ∀ ks : List ByteArray, x ∉ ks → leftC C (fun z => left z && !z.sameKey (litS x)) ks = leftC C left ks
  | [], _ => rfl
  | k :: r, h => by
    have hne : litS k ≠ litS x := fun e => h (by rw [litS_inj e]; exact List.mem_cons_self ..)
    unfold leftC
    rw [leftC_out C left x r (fun e => h (List.mem_cons_of_mem _ e)), sameKey_ne hne]
    simp
theorem leftC_step (C : ByteArray → List Ver) (left : Lit → Bool) (x : ByteArray) (hx : left (litS x) = true) : ∀ ks : List ByteArray, ks.Nodup → x ∈ ks → leftC C left ks = (C x).length + leftC C (fun z => left z && !z.sameKey (litS x)) ks
  | [], _, h => by cases h
  | k :: r, hn, h => by
    have hn2 := List.nodup_cons.1 hn
    by_cases e : k = x
    · subst e
      unfold leftC
      rw [if_pos hx, leftC_out C left k r hn2.1]
      have hs : (litS k).sameKey (litS k) = true := by simp [litS, Lit.sameKey]
      rw [if_neg (by rw [hs]; simp)]
      omega
    · have hne : litS k ≠ litS x := fun e2 => e (litS_inj e2)
      have hm : x ∈ r := by
        rcases List.mem_cons.1 h with h | h
        · exact absurd h.symm e
        · exact h
      unfold leftC
      rw [leftC_step C left x hx r hn2.2 hm, sameKey_ne hne]
      simp
      omega
end
section
open Go.RowKit Go.Maps

theorem Rv_inv (v : Value) (y : DataW Value × List MemPlace) (_h : Rv v = some y) : ∃ c : Value, v = (fun v => v) c := ⟨v, rfl⟩
theorem keyS_inv (key : Value) (kl : Lit) (h : keyOf Tryz.prog 9 key = some kl) : ∃ x : ByteArray, key = Value.string x := by
  obtain ⟨x, hx, _⟩ := Go.WideMaps.string_of_keyOf Tryz.underlying9 h
  exact ⟨x, hx⟩
theorem keyS_lit {x : ByteArray} {kl : Lit} (h : keyOf Tryz.prog 9 (.string x) = some kl) : kl = litS x ∧ x.size ≤ maxLen := by
  obtain ⟨y, hy, h1, h2⟩ := Go.WideMaps.string_of_keyOf Tryz.underlying9 h
  cases hy
  exact ⟨h1, h2⟩
set_option maxRecDepth 100000 in
set_option maxHeartbeats 2000000 in
theorem hcount_walk (F : Nat → Prop) (w : World) (hb : Nat) (sd : Bool) (C : ByteArray → List Ver) (ks : List ByteArray) (S : ByteArray → Value) (h : HoldAt F w hb sd C ks S) (ht : totC C ks ≤ 1000) :
    Calls Tryz.prog 10 #[.pointer (some ⟨hb, 0, none⟩)] w fun e w' => e = .returned (.int .i64 (totC C ks : Nat)) ∧ Below w.heap.size w w' := by
  rcases h.map with ⟨c0, h2⟩ | ⟨bm, D, c0, _, _, hown, hat, hhas, _, _⟩
  · subst h2
    have hB : Below w.heap.size w (w.alloc (.mapIter none 0 #[] 0)) := (Below.refl _ w).alloc (Nat.le_refl _) _
    have hrg := run_range_nilMap (P := Tryz.prog) w 36 9 57 Tryz.underlying36
    have hnx : ∀ ty, (Instr.next (.pointer (some ⟨w.heap.size, 0, none⟩)) false ty).run Tryz.prog (w.alloc (.mapIter none 0 #[] 0)) = _ := fun ty => run_next_nilMap w ty 0 0 #[]
    have HB := Lib.hid hB
    clear h ht hB
    go_enter Tryz.func10, Tryz.ntmps10
    go_wp2
    refine wp_loop_rounds 1 ?_
    rw [rounds_succ]
    go_wp2
    go_ret
    exact ⟨rfl, HB.out⟩
  · have HS := Lib.hid (fun k => (h.row k).read)
    have hne : ∀ l, Maps.has D l = true → leftC C (Maps.has D) ks = totC C ks := fun _ _ => leftC_all C _ ks (fun k hk => by
      have := hhas k
      unfold Maps.has at *
      rw [this]; exact decide_eq_true hk)
    have hst : leftC C (Maps.has D) ks = totC C ks := leftC_all C _ ks (fun k hk => by rw [hhas k]; exact decide_eq_true hk)
    have Hst := Lib.hid hst
    have Hnd := Lib.hid h.nodup
    have Hat := Lib.hid (And.intro hat hhas)
    have Ht := Lib.hid ht
    clear h hne hst hat hhas ht
    go_enter Tryz.func10, Tryz.ntmps10
    go_wp2_with (first
      | (at_range; refine wpList_range_own _ rfl _ 36 rfl 9 57 keyedS Tryz.underlying36 _ bm _ _ rfl hown ?_; intro w0 hrg0 hg0 hs0)
      | go_in)
    go_frame
    go_loopw [3] (fun vn wr => ∃ (left : Lit → Bool) (cnt n : Nat), vn = .int .i64 n ∧ wr.ranges Tryz.prog 9 Rv bm w.heap.size ks.length D left cnt ∧ Hid (w.grownBy wr none ∧ n + leftC C left ks = totC C ks ∧ ∀ l, left l = true → Maps.has D l = true))
      (fun _ wr => wr.rangeLeft bm w.heap.size)
    case atStart => exact ⟨_, _, 0, rfl, hrg0, Lib.hid ⟨hg0, by rw [Hst.out]; omega, fun _ h => h⟩⟩
    case round =>
      obtain ⟨left, cnt, n, rfl, hrg, Hr⟩ := hrel
      go_wp2_with (first
        | (at_next; refine wpList_next_ranges (α := ByteArray) (β := Value) _ rfl _ rfl 9 keyedS Rv Value.string (fun v => v) keyS_inv Rv_inv bm w.heap.size ks.length _ _ _ rfl hrg ?_ ?_)
        | go_in)
      · intro _ hl0
        have hn : n = totC C ks := by have := Hr.out.2.1; rw [leftC_none C left hl0] at this; omega
        have Hn := Lib.hid hn
        clear hn
        go_wp2
        go_ret
        exact ⟨by first | rfl | (rw [Hn.out]; rfl), by have h9 := Hr.out.1; exact ⟨h9.os, h9.tape, h9.output, h9.size, fun k hk => h9.block k hk (by simp)⟩⟩
      · intro x c kl yd yp w1 cnt1 hkey hlk hv hatk hrg1 hlt hg1 hs1 hen
        obtain ⟨rfl, hxz⟩ := keyS_lit hkey
        have hc : c = S x := by
          have h1 := hatk (.held (.slice none 0 0))
          rw [Hat.out.1 x] at h1
          unfold Rv at hv
          simp only [Option.some.injEq, Prod.mk.injEq] at hv
          rw [← hv.1] at h1
          simpa using h1.symm
        subst hc
        have hxk : x ∈ ks := by
          have h1 := Hr.out.2.2 _ hlk
          rw [Hat.out.2 x] at h1
          exact of_decide_eq_true h1
        have hstep := leftC_step C left x hlk ks Hnd.out hxk
        obtain ⟨a, cap, hsx, _, _, _, _⟩ := HS.out x
        obtain ⟨m, hm⟩ : ∃ m, (C x).length = m := ⟨_, rfl⟩
        rw [hm] at hsx hstep
        rw [hsx] at hen ⊢
        have hsum := Hr.out.2.1
        have htot := Ht.out
        have hnm : n + m ≤ 1000 := by omega
        have HR : Hid (w.grownBy w1 none ∧ (n + m) + leftC C (fun z => left z && !z.sameKey (litS x)) ks = totC C ks ∧ ∀ l, (left l && !l.sameKey (litS x)) = true → Maps.has D l = true) := Lib.hid ⟨Hr.out.1.andThen hg1 (fun j hj => by cases hj; exact Or.inl (Nat.le_refl _)), by omega, fun l hl => Hr.out.2.2 l (by simp at hl; exact hl.1)⟩
        have Hlt := Lib.hid (And.intro hrg1 (And.intro hrg hlt))
        clear hkey hlk hv hatk hxz hxk hstep hm hsx hsum htot hg1 hs1 hlt hrg hrg1
        go_wp2
        go_roundw
        case rel => exact ⟨_, cnt1, n + m, by go_num, Hlt.out.1, HR⟩
        case measure => rw [Hlt.out.1.left_eq, Hlt.out.2.1.left_eq]; exact Hlt.out.2.2
end
section
open Go.RowKit

def rightB (x : Ver) : Bool := tagB x.1 x.2.1 && decide (0 ≤ x.2.2.1 ∧ x.2.2.1 ≤ 1000 ∧ 0 ≤ x.2.2.2.1 ∧ x.2.2.2.1 < 12 ∧ x.2.2.2.2.size ≤ 1000)
set_option maxRecDepth 100000 in
set_option maxHeartbeats 4000000 in
theorem right_walk (x : Ver) (w : World) :
    Calls Tryz.prog 41 #[verV x] w fun e w' => e = .returned (.bool (rightB x)) ∧ Below w.heap.size w w' := by
  obtain ⟨x1, x2, x3, x4, x5⟩ := x
  unfold verV rightB
  dsimp only
  have hB : Below w.heap.size w (w.alloc (.cells #[.int .i64 x1, .int .i64 x2, .int .i64 x3, .int .i64 x4, .string x5] 49)) := (Below.refl _ w).alloc (Nat.le_refl _) _
  have HB := Lib.hid hB
  have z0 : (w.alloc (.cells #[.int .i64 x1, .int .i64 x2, .int .i64 x3, .int .i64 x4, .string x5] 49)).cell? ⟨w.heap.size, 2, none⟩ = some (.int .i64 x3) := by simp
  have z1 : (w.alloc (.cells #[.int .i64 x1, .int .i64 x2, .int .i64 x3, .int .i64 x4, .string x5] 49)).cell? ⟨w.heap.size, 3, none⟩ = some (.int .i64 x4) := by simp
  have z2 : (w.alloc (.cells #[.int .i64 x1, .int .i64 x2, .int .i64 x3, .int .i64 x4, .string x5] 49)).cell? ⟨w.heap.size, 4, none⟩ = some (.string x5) := by simp
  have HZ := Lib.hid (And.intro z0 (And.intro z1 z2))
  have Ht := Lib.hid (fun W => tagb_walk x1 x2 W)
  clear hB z0 z1 z2
  obtain ⟨tb, htb⟩ : ∃ tb, tagB x1 x2 = tb := ⟨_, rfl⟩
  rw [htb] at Ht ⊢
  clear htb
  have hcs : (tb = false ∧ (tb && decide (0 ≤ x3 ∧ x3 ≤ 1000 ∧ 0 ≤ x4 ∧ x4 < 12 ∧ x5.size ≤ 1000)) = false) ∨ (tb = true ∧ ¬ 0 ≤ x3 ∧ (tb && decide (0 ≤ x3 ∧ x3 ≤ 1000 ∧ 0 ≤ x4 ∧ x4 < 12 ∧ x5.size ≤ 1000)) = false) ∨
      (tb = true ∧ 0 ≤ x3 ∧ ¬ x3 ≤ 1000 ∧ (tb && decide (0 ≤ x3 ∧ x3 ≤ 1000 ∧ 0 ≤ x4 ∧ x4 < 12 ∧ x5.size ≤ 1000)) = false) ∨ (tb = true ∧ 0 ≤ x3 ∧ x3 ≤ 1000 ∧ ¬ 0 ≤ x4 ∧ (tb && decide (0 ≤ x3 ∧ x3 ≤ 1000 ∧ 0 ≤ x4 ∧ x4 < 12 ∧ x5.size ≤ 1000)) = false) ∨
      (tb = true ∧ 0 ≤ x3 ∧ x3 ≤ 1000 ∧ 0 ≤ x4 ∧ ¬ x4 < 12 ∧ (tb && decide (0 ≤ x3 ∧ x3 ≤ 1000 ∧ 0 ≤ x4 ∧ x4 < 12 ∧ x5.size ≤ 1000)) = false) ∨ (tb = true ∧ 0 ≤ x3 ∧ x3 ≤ 1000 ∧ 0 ≤ x4 ∧ x4 < 12 ∧ ¬ (x5.size : Int) ≤ 1000 ∧ (tb && decide (0 ≤ x3 ∧ x3 ≤ 1000 ∧ 0 ≤ x4 ∧ x4 < 12 ∧ x5.size ≤ 1000)) = false) ∨
      (tb = true ∧ 0 ≤ x3 ∧ x3 ≤ 1000 ∧ 0 ≤ x4 ∧ x4 < 12 ∧ (x5.size : Int) ≤ 1000 ∧ (tb && decide (0 ≤ x3 ∧ x3 ≤ 1000 ∧ 0 ≤ x4 ∧ x4 < 12 ∧ x5.size ≤ 1000)) = true) := by
    cases tb
    · exact .inl ⟨rfl, rfl⟩
    · right
      simp only [Bool.true_and, decide_eq_false_iff_not, decide_eq_true_eq, true_and]
      omega
  have hdz : decide (x5.size ≤ 1000) = decide ((x5.size : Int) ≤ 1000) := by rw [decide_eq_decide]; omega
  rcases hcs with ⟨rfl, hr⟩ | ⟨rfl, h1, hr⟩ | ⟨rfl, h1, h2, hr⟩ | ⟨rfl, h1, h2, h3, hr⟩ | ⟨rfl, h1, h2, h3, h4, hr⟩ | ⟨rfl, h1, h2, h3, h4, h5, hr⟩ | ⟨rfl, h1, h2, h3, h4, h5, hr⟩
  case' inr.inr.inr.inr.inr.inl =>
    rw [decide_eq_false h5] at hdz
  case' inr.inr.inr.inr.inr.inr =>
    rw [decide_eq_true h5] at hdz
  all_goals
    rw [hr]
    clear hr
    go_enter Tryz.func41, Tryz.ntmps41
    go_wp2_with fail
    refine (Ht.out _).mono ?_
    rintro e w' ⟨rfl, hb⟩
    have q0 := (hb.cell (lt_of_cell HZ.out.1)).trans HZ.out.1
    have q1 := (hb.cell (lt_of_cell HZ.out.2.1)).trans HZ.out.2.1
    have q2 := (hb.cell (lt_of_cell HZ.out.2.2)).trans HZ.out.2.2
    have HB2 := Lib.hid (HB.out.trans (hb.mono HB.out.size))
    clear hb
    go_wp2
    go_ret
    exact ⟨by first | rfl | (simp; done) | (simp; omega), HB2.out⟩
end
end Go.Proofs.YthdicfcgkbepdaaGreatDoor
