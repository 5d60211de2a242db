/- Walks of a hold's Get, Last, Sealed, Count. -/
import Derived.Test.YtolbdcmoblcakaaGreatDoorKRepairAll05
import Derived.Test.YtolbdcmoblcakaaGreatDoorKRepairAll03
import Derived.Test.YtolbdcmoblcakaaGreatDoorKRepairAll01
import Derived.Lib.ConvBytes
namespace Go.Proofs.YtolbdcmoblcakaaGreatDoor
section
open Go.RowKit Go.Maps

set_option maxRecDepth 100000 in
set_option maxHeartbeats 2000000 in
theorem hget_walk (F : Nat → Prop) (w : World) (hb : Nat) (sd : Bool) (C : ByteArray → List Ver) (ks : List ByteArray) (S : ByteArray → Value) (k : ByteArray) (h : HoldAt F w hb sd C ks S) (hk : k.size ≤ maxLen) (hl : (C k).length ≤ 1000) :
    Calls Tryz.prog 21 #[.pointer (some ⟨hb, 0, none⟩), .string k] w fun e w' => VCloneOut w w' (C k) e := by
  obtain ⟨m, c0, hr⟩ := h.look hk
  obtain ⟨ad, cap, hv, hcap, _, ha, hI⟩ := (h.row k).read
  obtain ⟨n, hn⟩ : ∃ n, (C k).length = n := ⟨_, rfl⟩
  rw [hv] at hr
  have Hc := Lib.hid (vclone_walk w.heap.size ad (C k).length cap (C k) w rfl hcap (by omega) ha hI (Nat.le_refl _))
  clear h hk hv hcap ha hI hl
  rw [hn] at hr Hc
  clear hn
  go_enter Tryz.func21, Tryz.ntmps21
  go_wp2_with fail
  refine Hc.out.mono ?_
  rintro e w' ⟨hb, v, rfl, ho⟩
  have HR := Lib.hid (And.intro hb ho)
  clear hb ho
  go_wp2
  go_ret
  exact ⟨HR.out.1, _, rfl, HR.out.2⟩
/-- what Last hands back. -/
def lastE (l : List Ver) : Ending := .returned (.tuple #[.agg #[.int .i64 (l[l.length - 1]?.getD ver0).1, .int .i64 (l[l.length - 1]?.getD ver0).2.1], .bool (decide (0 < l.length))])
/-! ### Count -/
/-- of those keys that are still to come: how many versions. -/
def leftC (C : ByteArray → List Ver) (left : Lit → Bool) : List ByteArray → Nat
  | [] => 0
  | k :: r => (if left (litS k) = true then (C k).length else 0) + leftC C left r
theorem leftC_all (C : ByteArray → List Ver) (left : Lit → Bool) : ∀ ks : List ByteArray, (∀ k ∈ ks, left (litS k) = true) → leftC C left ks = totC C ks
  | [], _ => rfl
  | k :: r, h => by
    unfold leftC
    rw [if_pos (h k (List.mem_cons_self ..)), leftC_all C left r (fun x hx => h x (List.mem_cons_of_mem _ hx))]
    simp [totC]
theorem leftC_none (C : ByteArray → List Ver) (left : Lit → Bool) (h : ∀ l, left l = false) : ∀ ks : List ByteArray, leftC C left ks = 0
  | [] => rfl
  | k :: r => by unfold leftC; rw [if_neg (by rw [h]; decide), leftC_none C left h r]
theorem leftC_out (C : ByteArray → List Ver) (left : Lit → Bool) (x : ByteArray) : ∀ ks : List ByteArray, x ∉ ks → leftC C (fun z => left z && !z.sameKey (litS x)) ks = leftC C left ks
  | [], _ => rfl
  | k :: r, h => by
    have hne : litS k ≠ litS x := fun e => h (by rw [litS_inj e]; exact List.mem_cons_self ..)
    unfold leftC
    rw [leftC_out C left x r (fun e => h (List.mem_cons_of_mem _ e)), sameKey_ne hne]
    simp
theorem leftC_step (C : ByteArray → List Ver) (left : Lit → Bool) (x : ByteArray) (hx : left (litS x) = true) : ∀ ks : List ByteArray, ks.Nodup → x ∈ ks → leftC C left ks = (C x).length + leftC C (fun z => left z && !z.sameKey (litS x)) ks
  | [], _, h => by cases h
  | k :: r, hn, h => by
    have hn2 := List.nodup_cons.1 hn
    by_cases e : k = x
    · subst e
      unfold leftC
      rw [if_pos hx, leftC_out C left k r hn2.1]
      have hs : (litS k).sameKey (litS k) = true := by simp [litS, Lit.sameKey]
      rw [if_neg (by rw [hs]; simp)]
      omega
    · have hne : litS k ≠ litS x := fun e2 => e (litS_inj e2)
      have hm : x ∈ r := by
        rcases List.mem_cons.1 h with h | h
        · exact absurd h.symm e
        · exact h
      unfold leftC
      rw [leftC_step C left x hx r hn2.2 hm, sameKey_ne hne]
      simp
      omega
end
section
open Go.RowKit Go.Maps

theorem Rv_inv (v : Value) (y : DataW Value × List MemPlace) (_h : Rv v = some y) : ∃ c : Value, v = (fun v => v) c := ⟨v, rfl⟩
theorem keyS_inv (key : Value) (kl : Lit) (h : keyOf Tryz.prog 9 key = some kl) : ∃ x : ByteArray, key = Value.string x := by
  obtain ⟨x, hx, _⟩ := Go.WideMaps.string_of_keyOf Tryz.underlying9 h
  exact ⟨x, hx⟩
theorem keyS_lit {x : ByteArray} {kl : Lit} (h : keyOf Tryz.prog 9 (.string x) = some kl) : kl = litS x ∧ x.size ≤ maxLen := by
  obtain ⟨y, hy, h1, h2⟩ := Go.WideMaps.string_of_keyOf Tryz.underlying9 h
  cases hy
  exact ⟨h1, h2⟩
set_option maxRecDepth 100000 in
set_option maxHeartbeats 2000000 in
theorem hcount_walk (F : Nat → Prop) (w : World) (hb : Nat) (sd : Bool) (C : ByteArray → List Ver) (ks : List ByteArray) (S : ByteArray → Value) (h : HoldAt F w hb sd C ks S) (ht : totC C ks ≤ 1000) :
    Calls Tryz.prog 42 #[.pointer (some ⟨hb, 0, none⟩)] w fun e w' => e = .returned (.int .i64 (totC C ks : Nat)) ∧ Below w.heap.size w w' := by
  rcases h.map with ⟨c0, h2⟩ | ⟨bm, D, c0, _, _, hown, hat, hhas, _, _⟩
  · subst h2
    have hB : Below w.heap.size w (w.alloc (.mapIter none 0 #[] 0)) := (Below.refl _ w).alloc (Nat.le_refl _) _
    have hrg := run_range_nilMap (P := Tryz.prog) w 66 9 46 Tryz.underlying66
    have hnx : ∀ ty, (Instr.next (.pointer (some ⟨w.heap.size, 0, none⟩)) false ty).run Tryz.prog (w.alloc (.mapIter none 0 #[] 0)) = _ := fun ty => run_next_nilMap w ty 0 0 #[]
    have HB := Lib.hid hB
    clear h ht hB
    go_enter Tryz.func42, Tryz.ntmps42
    go_wp2
    refine wp_loop_rounds 1 ?_
    rw [rounds_succ]
    go_wp2
    go_ret
    exact ⟨rfl, HB.out⟩
  · have HS := Lib.hid (fun k => (h.row k).read)
    have hne : ∀ l, Maps.has D l = true → leftC C (Maps.has D) ks = totC C ks := fun _ _ => leftC_all C _ ks (fun k hk => by
      have := hhas k
      unfold Maps.has at *
      rw [this]; exact decide_eq_true hk)
    have hst : leftC C (Maps.has D) ks = totC C ks := leftC_all C _ ks (fun k hk => by rw [hhas k]; exact decide_eq_true hk)
    have Hst := Lib.hid hst
    have Hnd := Lib.hid h.nodup
    have Hat := Lib.hid (And.intro hat hhas)
    have Ht := Lib.hid ht
    clear h hne hst hat hhas ht
    go_enter Tryz.func42, Tryz.ntmps42
    go_wp2_with (first
      | (at_range; refine wpList_range_own _ rfl _ 66 rfl 9 46 keyedS Tryz.underlying66 _ bm _ _ rfl hown ?_; intro w0 hrg0 hg0 hs0)
      | go_in)
    go_frame
    go_loopw [3] (fun vn wr => ∃ (left : Lit → Bool) (cnt n : Nat), vn = .int .i64 n ∧ wr.ranges Tryz.prog 9 Rv bm w.heap.size ks.length D left cnt ∧ Hid (w.grownBy wr none ∧ n + leftC C left ks = totC C ks ∧ ∀ l, left l = true → Maps.has D l = true))
      (fun _ wr => wr.rangeLeft bm w.heap.size)
    case atStart => exact ⟨_, _, 0, rfl, hrg0, Lib.hid ⟨hg0, by rw [Hst.out]; omega, fun _ h => h⟩⟩
    case round =>
      obtain ⟨left, cnt, n, rfl, hrg, Hr⟩ := hrel
      go_wp2_with (first
        | (at_next; refine wpList_next_ranges (α := ByteArray) (β := Value) _ rfl _ rfl 9 keyedS Rv Value.string (fun v => v) keyS_inv Rv_inv bm w.heap.size ks.length _ _ _ rfl hrg ?_ ?_)
        | go_in)
      · intro _ hl0
        have hn : n = totC C ks := by have := Hr.out.2.1; rw [leftC_none C left hl0] at this; omega
        have Hn := Lib.hid hn
        clear hn
        go_wp2
        go_ret
        exact ⟨by first | rfl | (rw [Hn.out]; rfl), by have h9 := Hr.out.1; exact ⟨h9.os, h9.tape, h9.output, h9.size, fun k hk => h9.block k hk (by simp)⟩⟩
      · intro x c kl yd yp w1 cnt1 hkey hlk hv hatk hrg1 hlt hg1 hs1 hen
        obtain ⟨rfl, hxz⟩ := keyS_lit hkey
        have hc : c = S x := by
          have h1 := hatk (.held (.slice none 0 0))
          rw [Hat.out.1 x] at h1
          unfold Rv at hv
          simp only [Option.some.injEq, Prod.mk.injEq] at hv
          rw [← hv.1] at h1
          simpa using h1.symm
        subst hc
        have hxk : x ∈ ks := by
          have h1 := Hr.out.2.2 _ hlk
          rw [Hat.out.2 x] at h1
          exact of_decide_eq_true h1
        have hstep := leftC_step C left x hlk ks Hnd.out hxk
        obtain ⟨a, cap, hsx, _, _, _, _⟩ := HS.out x
        obtain ⟨m, hm⟩ : ∃ m, (C x).length = m := ⟨_, rfl⟩
        rw [hm] at hsx hstep
        rw [hsx] at hen ⊢
        have hsum := Hr.out.2.1
        have htot := Ht.out
        have hnm : n + m ≤ 1000 := by omega
        have HR : Hid (w.grownBy w1 none ∧ (n + m) + leftC C (fun z => left z && !z.sameKey (litS x)) ks = totC C ks ∧ ∀ l, (left l && !l.sameKey (litS x)) = true → Maps.has D l = true) := Lib.hid ⟨Hr.out.1.andThen hg1 (fun j hj => by cases hj; exact Or.inl (Nat.le_refl _)), by omega, fun l hl => Hr.out.2.2 l (by simp at hl; exact hl.1)⟩
        have Hlt := Lib.hid (And.intro hrg1 (And.intro hrg hlt))
        clear hkey hlk hv hatk hxz hxk hstep hm hsx hsum htot hg1 hs1 hlt hrg hrg1
        go_wp2
        go_roundw
        case rel => exact ⟨_, cnt1, n + m, by go_num, Hlt.out.1, HR⟩
        case measure => rw [Hlt.out.1.left_eq, Hlt.out.2.1.left_eq]; exact Hlt.out.2.2
end
section
open Go.RowKit

def rightB (x : Ver) : Bool := tagB x.1 x.2.1 && decide (0 ≤ x.2.2.1 ∧ x.2.2.1 ≤ 1000 ∧ 0 ≤ x.2.2.2.1 ∧ x.2.2.2.1 < 12 ∧ x.2.2.2.2.size ≤ 1000)
set_option maxRecDepth 100000 in
set_option maxHeartbeats 4000000 in
theorem right_walk (x : Ver) (w : World) :
    Calls Tryz.prog 38 #[verV x] w fun e w' => e = .returned (.bool (rightB x)) ∧ Below w.heap.size w w' := by
  obtain ⟨x1, x2, x3, x4, x5⟩ := x
  unfold verV rightB
  dsimp only
  have hB : Below w.heap.size w (w.alloc (.cells #[.int .i64 x1, .int .i64 x2, .int .i64 x3, .int .i64 x4, .string x5] 58)) := (Below.refl _ w).alloc (Nat.le_refl _) _
  have HB := Lib.hid hB
  have z0 : (w.alloc (.cells #[.int .i64 x1, .int .i64 x2, .int .i64 x3, .int .i64 x4, .string x5] 58)).cell? ⟨w.heap.size, 2, none⟩ = some (.int .i64 x3) := by simp
  have z1 : (w.alloc (.cells #[.int .i64 x1, .int .i64 x2, .int .i64 x3, .int .i64 x4, .string x5] 58)).cell? ⟨w.heap.size, 3, none⟩ = some (.int .i64 x4) := by simp
  have z2 : (w.alloc (.cells #[.int .i64 x1, .int .i64 x2, .int .i64 x3, .int .i64 x4, .string x5] 58)).cell? ⟨w.heap.size, 4, none⟩ = some (.string x5) := by simp
  have HZ := Lib.hid (And.intro z0 (And.intro z1 z2))
  have Ht := Lib.hid (fun W => tagb_walk x1 x2 W)
  clear hB z0 z1 z2
  obtain ⟨tb, htb⟩ : ∃ tb, tagB x1 x2 = tb := ⟨_, rfl⟩
  rw [htb] at Ht ⊢
  clear htb
  have hcs : (tb = false ∧ (tb && decide (0 ≤ x3 ∧ x3 ≤ 1000 ∧ 0 ≤ x4 ∧ x4 < 12 ∧ x5.size ≤ 1000)) = false) ∨ (tb = true ∧ ¬ 0 ≤ x3 ∧ (tb && decide (0 ≤ x3 ∧ x3 ≤ 1000 ∧ 0 ≤ x4 ∧ x4 < 12 ∧ x5.size ≤ 1000)) = false) ∨
      (tb = true ∧ 0 ≤ x3 ∧ ¬ x3 ≤ 1000 ∧ (tb && decide (0 ≤ x3 ∧ x3 ≤ 1000 ∧ 0 ≤ x4 ∧ x4 < 12 ∧ x5.size ≤ 1000)) = false) ∨ (tb = true ∧ 0 ≤ x3 ∧ x3 ≤ 1000 ∧ ¬ 0 ≤ x4 ∧ (tb && decide (0 ≤ x3 ∧ x3 ≤ 1000 ∧ 0 ≤ x4 ∧ x4 < 12 ∧ x5.size ≤ 1000)) = false) ∨
      (tb = true ∧ 0 ≤ x3 ∧ x3 ≤ 1000 ∧ 0 ≤ x4 ∧ ¬ x4 < 12 ∧ (tb && decide (0 ≤ x3 ∧ x3 ≤ 1000 ∧ 0 ≤ x4 ∧ x4 < 12 ∧ x5.size ≤ 1000)) = false) ∨ (tb = true ∧ 0 ≤ x3 ∧ x3 ≤ 1000 ∧ 0 ≤ x4 ∧ x4 < 12 ∧ ¬ (x5.size : Int) ≤ 1000 ∧ (tb && decide (0 ≤ x3 ∧ x3 ≤ 1000 ∧ 0 ≤ x4 ∧ x4 < 12 ∧ x5.size ≤ 1000)) = false) ∨
      (tb = true ∧ 0 ≤ x3 ∧ x3 ≤ 1000 ∧ 0 ≤ x4 ∧ x4 < 12 ∧ (x5.size : Int) ≤ 1000 ∧ (tb && decide (0 ≤ x3 ∧ x3 ≤ 1000 ∧ 0 ≤ x4 ∧ x4 < 12 ∧ x5.size ≤ 1000)) = true) := by
    cases tb
    · exact .inl ⟨rfl, rfl⟩
    · right
      simp only [Bool.true_and, decide_eq_false_iff_not, decide_eq_true_eq, true_and]
      omega
  have hdz : decide (x5.size ≤ 1000) = decide ((x5.size : Int) ≤ 1000) := by rw [decide_eq_decide]; omega
  rcases hcs with ⟨rfl, hr⟩ | ⟨rfl, h1, hr⟩ | ⟨rfl, h1, h2, hr⟩ | ⟨rfl, h1, h2, h3, hr⟩ | ⟨rfl, h1, h2, h3, h4, hr⟩ | ⟨rfl, h1, h2, h3, h4, h5, hr⟩ | ⟨rfl, h1, h2, h3, h4, h5, hr⟩
  case' inr.inr.inr.inr.inr.inl =>
    rw [decide_eq_false h5] at hdz
  case' inr.inr.inr.inr.inr.inr =>
    rw [decide_eq_true h5] at hdz
  all_goals
    rw [hr]
    clear hr
    go_enter Tryz.func38, Tryz.ntmps38
    go_wp2_with fail
    refine (Ht.out _).mono ?_
    rintro e w' ⟨rfl, hb⟩
    have q0 := (hb.cell (lt_of_cell HZ.out.1)).trans HZ.out.1
    have q1 := (hb.cell (lt_of_cell HZ.out.2.1)).trans HZ.out.2.1
    have q2 := (hb.cell (lt_of_cell HZ.out.2.2)).trans HZ.out.2.2
    have HB2 := Lib.hid (HB.out.trans (hb.mono HB.out.size))
    clear hb
    go_wp2
    go_ret
    exact ⟨by first | rfl | (simp; done) | (simp; omega), HB2.out⟩
end
end Go.Proofs.YtolbdcmoblcakaaGreatDoor
/- A key's row is put into a hold. -/
namespace Go.Proofs.YtolbdcmoblcakaaGreatDoor
open Go.RowKit Go.Maps

/-- the hold's map is there. -/
def MapAt (F : Nat → Prop) (w : World) (hb : Nat) (ks : List ByteArray) (S : ByteArray → Value) (bm : Nat) (D : DataW Value) : Prop :=
  w.cell? ⟨hb, 0, none⟩ = some (.map (some bm)) ∧ F bm ∧ bm ≠ hb ∧ w.ownsMap Tryz.prog 9 Rv bm ks.length D ∧
    (∀ k, D.atKey (litS k) (.held (.slice none 0 0)) = .held (S k)) ∧ (∀ k, Maps.has D (litS k) = decide (k ∈ ks)) ∧ (∀ k g, (S k).ownBlock = some g → g ≠ bm) ∧ Maps.size D = ks.length
def updC (C : ByteArray → List Ver) (key : ByteArray) (L : List Ver) : ByteArray → List Ver := fun k => if k = key then L else C k
def updS (S : ByteArray → Value) (key : ByteArray) (v : Value) : ByteArray → Value := fun k => if k = key then v else S k
def addK (ks : List ByteArray) (key : ByteArray) : List ByteArray := if key ∈ ks then ks else ks ++ [key]
theorem mem_addK {ks : List ByteArray} {key k : ByteArray} : k ∈ addK ks key ↔ k ∈ ks ∨ k = key := by
  unfold addK
  split
  · constructor
    · exact .inl
    · rintro (h | rfl)
      · exact h
      · assumption
  · simp
theorem addK_nodup {ks : List ByteArray} (h : ks.Nodup) (key : ByteArray) : (addK ks key).Nodup := by
  unfold addK
  split
  · exact h
  · rename_i hn
    rw [List.nodup_append]
    exact ⟨h, by simp, fun a ha b hb => by rw [List.mem_singleton.1 hb]; exact fun e => hn (e ▸ ha)⟩
theorem addK_length (ks : List ByteArray) (key : ByteArray) : (addK ks key).length = if key ∈ ks then ks.length else ks.length + 1 := by
  unfold addK
  split <;> simp
theorem keyLit (k : ByteArray) : WideAt.IsKeyLit (litS k) := trivial
/-- a row is put back under its key. -/
theorem HoldAt.put {F : Nat → Prop} {w w2 w3 : World} {hb : Nat} {sd : Bool} {C : ByteArray → List Ver} {ks : List ByteArray} {S : ByteArray → Value} {bm : Nat} {D : DataW Value} {key : ByteArray} {v' : Value} {L' : List Ver}
    (h : HoldAt F w hb sd C ks S) (hm : MapAt F w hb ks S bm D) (hg2 : w.grownBy w2 (S key).ownBlock) (hv : OwnV 0 w2 v' L') (hne : L' ≠ []) (hbl : v'.ownBlock = (S key).ownBlock ∨ ∃ g, v'.ownBlock = some g ∧ w.heap.size ≤ g)
    (hown : w3.ownsMap Tryz.prog 9 Rv bm (ks.length + 1) (D.put (litS key) (.held v'))) (hg3 : w2.grownBy w3 (some bm)) (hkz : key.size ≤ maxLen) :
    HoldAt (fun b => F b ∨ w.heap.size ≤ b) w3 hb sd (updC C key L') (addK ks key) (updS S key v') ∧ KeptBut F w w3 := by
  obtain ⟨m0, mF, mne, mo, mat, mhas, mrow, msz⟩ := hm
  have hbmlt : bm < w.heap.size := mo.lt
  have hrow : ∀ k, k ≠ key → ∀ g, (S k).ownBlock = some g → w3.heap[g]? = w.heap[g]? := fun k hk g hg => by
    have h1 : g < w.heap.size := h.rowLt hg
    have h2 : some g ≠ (S key).ownBlock := fun e => h.apart k key g hk hg e.symm
    have h3 : some g ≠ some bm := fun e => mrow k g hg (Option.some.inj e)
    exact (hg3.block g (Nat.lt_of_lt_of_le h1 hg2.size) h3).trans (hg2.block g h1 h2)
  have hhb : w3.heap[hb]? = w.heap[hb]? := by
    have h2 : some hb ≠ (S key).ownBlock := fun e => (h.rowF key hb e.symm).2 rfl
    have h3 : some hb ≠ some bm := fun e => mne (Option.some.inj e).symm
    exact (hg3.block hb (Nat.lt_of_lt_of_le h.hlt hg2.size) h3).trans (hg2.block hb h.hlt h2)
  have ec : ∀ j, w3.cell? ⟨hb, j, none⟩ = w.cell? ⟨hb, j, none⟩ := fun j => World.cell?_of_block (a := ⟨hb, j, none⟩) hhb
  have ef : ∀ j, w3.frozen? ⟨hb, j, none⟩ = w.frozen? ⟨hb, j, none⟩ := fun j => World.frozen?_of_block (a := ⟨hb, j, none⟩) hhb
  have hsz3 : w.heap.size ≤ w3.heap.size := Nat.le_trans hg2.size hg3.size
  have hvbm : ∀ g, v'.ownBlock = some g → g ≠ bm := fun g hg => by
    rcases hbl with e | ⟨g', e, hge⟩
    · rw [hg] at e; exact mrow key g e.symm
    · rw [hg] at e; cases e; omega
  have hv3 : OwnV 0 w3 v' L' := hv.kept hg3 (by
    cases e : v'.ownBlock with
    | none => exact .inl rfl
    | some g => exact .inr (fun e2 => hvbm g e (Option.some.inj e2)))
  have hS : ∀ k g, (updS S key v' k).ownBlock = some g → (F g ∨ w.heap.size ≤ g) ∧ g ≠ hb ∧ g ≠ bm := fun k g hg => by
    unfold updS at hg
    split at hg
    · refine ⟨?_, ?_, hvbm g hg⟩
      · rcases hbl with e | ⟨g', e, hge⟩
        · rw [hg] at e; exact .inl (h.rowF key g e.symm).1
        · rw [hg] at e; cases e; exact .inr hge
      · rcases hbl with e | ⟨g', e, hge⟩
        · rw [hg] at e; exact (h.rowF key g e.symm).2
        · rw [hg] at e; cases e; have := h.hlt; omega
    · exact ⟨.inl (h.rowF k g hg).1, (h.rowF k g hg).2, mrow k g hg⟩
  have hnewap : ∀ k g, k ≠ key → v'.ownBlock = some g → (S k).ownBlock ≠ some g := fun k g hk hg e2 => by
    rcases hbl with e | ⟨g', e, hge⟩
    · rw [hg] at e; exact h.apart k key g hk e2 e.symm
    · rw [hg] at e; cases e; have := h.rowLt e2; omega
  refine ⟨⟨.inl h.hF, Nat.lt_of_lt_of_le h.hlt hsz3, (ec 1).trans h.c1, (ef 0).trans h.f0, (ef 1).trans h.f1, .inr ⟨bm, D.put (litS key) (.held v'), (ec 0).trans m0, .inl mF, mne, ?_, ?_, ?_, fun k g hg => (hS k g hg).2.2, ?_⟩, ?_, fun k g hg => ⟨(hS k g hg).1, (hS k g hg).2.1⟩, ?_, addK_nodup h.nodup key, ?_, ?_, ?_⟩, ?_⟩
  · have h1 := ownsMap_tight hown
    rw [size_put (mo.tidy keyedS), mhas key, msz] at h1
    rw [addK_length]
    by_cases e : key ∈ ks
    · simpa [e] using h1
    · simpa [e] using h1
  · intro k
    unfold updS
    by_cases e : k = key
    · rw [if_pos e, e, atKey_put_same (mo.tidy keyedS).isMap (keyLit key)]
    · rw [if_neg e, atKey_put_other (fun e2 => e (litS_inj e2)), mat k]
  · intro k
    by_cases e : k = key
    · rw [e, has_put_same (mo.tidy keyedS).isMap (keyLit key)]
      exact (decide_eq_true (mem_addK.2 (.inr rfl))).symm
    · rw [has_put_other (fun e2 => e (litS_inj e2)), mhas k, decide_eq_decide, mem_addK]
      exact ⟨.inl, fun h => h.resolve_right e⟩
  · rw [size_put (mo.tidy keyedS), mhas key, msz, addK_length]
    by_cases e : key ∈ ks <;> simp [e]
  · intro k
    unfold updS updC
    by_cases e : k = key
    · rw [if_pos e, if_pos e]; exact hv3
    · rw [if_neg e, if_neg e]
      exact (h.row k).heap (hrow k e)
  · intro k k' g hkk hg
    unfold updS at hg ⊢
    by_cases e : k = key
    · rw [if_pos e] at hg
      rw [if_neg (fun e2 => hkk (e.trans e2.symm))]
      exact hnewap k' g (fun e2 => hkk (e.trans e2.symm)) hg
    · rw [if_neg e] at hg
      by_cases e2 : k' = key
      · rw [if_pos e2]
        exact fun e3 => hnewap k g e e3 hg
      · rw [if_neg e2]
        exact h.apart k k' g hkk hg
  · intro k
    rw [mem_addK]
    unfold updC
    by_cases e : k = key
    · rw [if_pos e]; exact ⟨fun _ => hne, fun _ => .inr e⟩
    · rw [if_neg e, ← h.mem k]; exact ⟨fun h => h.resolve_right e, .inl⟩
  · intro k hk
    have hk2 : ¬ (k ∈ ks ∨ k = key) := fun e => hk (mem_addK.2 e)
    unfold updS
    rw [if_neg (fun e => hk2 (.inr e))]
    exact h.no k (fun e => hk2 (.inl e))
  · intro k hk
    rcases mem_addK.1 hk with h1 | rfl
    · exact h.kz k h1
    · exact hkz
  · refine (KeptBut.of_grown hg2 (fun k hk => (h.rowF key k hk).1)).trans ((KeptBut.of_grown hg3 (fun k hk => by cases hk; exact mF)))
/-- the map is made. -/
theorem HoldAt.made {F : Nat → Prop} {w : World} {hb : Nat} {sd : Bool} {C : ByteArray → List Ver} {S : ByteArray → Value} (h : HoldAt F w hb sd C [] S) (hc : w.cell? ⟨hb, 0, none⟩ = some (.map none)) :
    HoldAt (fun b => F b ∨ w.heap.size ≤ b) ((w.alloc (.map #[] 0)).setCell ⟨hb, 0, none⟩ (.map (some w.heap.size))) hb sd C [] S ∧
    MapAt (fun b => F b ∨ w.heap.size ≤ b) ((w.alloc (.map #[] 0)).setCell ⟨hb, 0, none⟩ (.map (some w.heap.size))) hb [] S w.heap.size (.map []) ∧
    KeptBut F w ((w.alloc (.map #[] 0)).setCell ⟨hb, 0, none⟩ (.map (some w.heap.size))) := by
  have hB : Below w.heap.size w (w.alloc (.map #[] 0)) := (Below.refl _ w).alloc (Nat.le_refl _) _
  have hlt := h.hlt
  have hne : ¬ w.heap.size = hb := by omega
  have e0 : (w.alloc (.map #[] 0)).cell? ⟨hb, 0, none⟩ = some (.map none) := (hB.cell hlt).trans hc
  have e1 : (w.alloc (.map #[] 0)).cell? ⟨hb, 1, none⟩ = some (.bool sd) := (hB.cell hlt).trans h.c1
  obtain ⟨W, hW⟩ : ∃ W, (w.alloc (.map #[] 0)).setCell ⟨hb, 0, none⟩ (.map (some w.heap.size)) = W := ⟨_, rfl⟩
  have c0 : W.cell? ⟨hb, 0, none⟩ = some (.map (some w.heap.size)) := by rw [← hW]; exact World.cell?_setCell_same _ _ _ e0
  have c1 : W.cell? ⟨hb, 1, none⟩ = some (.bool sd) := by rw [← hW, World.cell?_setCell_other _ _ _ _ (by simp)]; exact e1
  have ef : ∀ j, W.frozen? ⟨hb, j, none⟩ = w.frozen? ⟨hb, j, none⟩ := fun j => by rw [← hW, World.frozen?_setCell]; exact hB.frozen (p := ⟨hb, j, none⟩) hlt
  have hown : W.ownsMap (H := Value) Tryz.prog 9 Rv w.heap.size 0 (.map []) := by
    rw [← hW]
    exact (World.ownsMap_made w Tryz.prog 9 Rv).setCell hne _
  have hS : ∀ k, S k = .slice none 0 0 := fun k => h.no k (by simp)
  have hk : KeptBut F w W := by
    rw [← hW]
    refine (KeptBut.of_below (F := F) hB (fun k h1 h2 => by omega)).trans ⟨rfl, rfl, rfl, by simp [World.setCell], fun k h1 h2 => Below.heap_setCell _ _ _ _ (fun e => h2 (by rw [e]; exact h.hF))⟩
  have hm : MapAt (fun b => F b ∨ w.heap.size ≤ b) W hb [] S w.heap.size (.map []) := by
    refine ⟨c0, .inr (Nat.le_refl _), hne, hown, fun k => ?_, fun k => ?_, fun k g hg => ?_, rfl⟩
    · rw [hS k]; exact atKey_of_not_has (k := litS k) (D := (.map [] : DataW Value)) rfl _
    · rfl
    · rw [hS k] at hg; cases hg
  rw [hW]
  refine ⟨⟨.inl h.hF, Nat.lt_of_lt_of_le hlt hk.size, c1, (ef 0).trans h.f0, (ef 1).trans h.f1, .inr ⟨w.heap.size, .map [], hm⟩, fun k => ?_, fun k g hg => ?_, fun k k' g _ hg => ?_, h.nodup, h.mem, h.no, h.kz⟩, hm, hk⟩
  · have h1 := h.row k
    rw [hS k] at h1 ⊢
    exact h1.heap (fun g hg => by cases hg)
  · rw [hS k] at hg; cases hg
  · rw [hS k] at hg; cases hg
end Go.Proofs.YtolbdcmoblcakaaGreatDoor
/- The walks of names: ring.Name, the document's IsName. -/
namespace Go.Proofs.YtolbdcmoblcakaaGreatDoor
open Go.RowKit

def letB (x : Int) : Bool := decide ((97 ≤ x ∧ x ≤ 122) ∨ (48 ≤ x ∧ x ≤ 57) ∨ x = 45)
theorem letB_of (c : UInt8) : letB (c.toNat : Int) = letterB c := by unfold letB letterB; rw [decide_eq_decide]; omega
theorem letB_no {x : Int} (h : ¬ ((97 ≤ x ∧ x ≤ 122) ∨ (48 ≤ x ∧ x ≤ 57) ∨ x = 45)) : letB x = false := decide_eq_false h
theorem letB_yes {x : Int} (h : (97 ≤ x ∧ x ≤ 122) ∨ (48 ≤ x ∧ x ≤ 57) ∨ x = 45) : letB x = true := decide_eq_true h
theorem bytesWorld_below (w : World) (e : TypeId) (s : ByteArray) : Below w.heap.size w (Lib.bytesWorld w e s) :=
  ⟨by simp [Lib.bytesWorld, World.freeze, World.alloc, World.drew, -World.alloc_eq, -World.drew_eq], by simp [Lib.bytesWorld, World.freeze, World.alloc, World.drew, -World.alloc_eq, -World.drew_eq],
    by simp [Lib.bytesWorld, World.freeze, World.alloc, World.drew, -World.alloc_eq, -World.drew_eq], by rw [Lib.bytesWorld_size]; omega, fun k hk => Lib.bytesWorld_at_old w e s k hk⟩

set_option maxRecDepth 100000 in
set_option maxHeartbeats 4000000 in
theorem letter_walk (x : Int) (w : World) :
    Calls Tryz.prog 58 #[.int .u8 x] w fun e w' => e = .returned (.bool (!letB x)) ∧ w = w' := by
  by_cases h5 : x = 45
  · subst h5
    go_enter Tryz.func58, Tryz.ntmps58
    go_wp2
    go_ret
    exact ⟨rfl, rfl⟩
  · have h5a : (x == 45) = false := by simpa using h5
    have h5b : (x != 45) = true := by simpa using h5
    rcases (show x < 48 ∨ (48 ≤ x ∧ x ≤ 57) ∨ (57 < x ∧ x < 97) ∨ (97 ≤ x ∧ x ≤ 122) ∨ 122 < x by omega) with h | h | h | h | h
    case' inl =>
      have h1 : x < 97 := by omega
      rw [letB_no (by omega)]
    case' inr.inl =>
      have h1 : x < 97 := by omega
      have h2 : ¬ x < 48 := by omega
      have h3 : ¬ 57 < x := by omega
      rw [letB_yes (by omega)]
    case' inr.inr.inl =>
      have h1 : x < 97 := by omega
      have h2 : ¬ x < 48 := by omega
      have h3 : 57 < x := by omega
      rw [letB_no (by omega)]
    case' inr.inr.inr.inl =>
      have h1 : ¬ x < 97 := by omega
      have h2 : ¬ 122 < x := by omega
      rw [letB_yes (by omega)]
    case' inr.inr.inr.inr =>
      have h1 : ¬ x < 97 := by omega
      have h2 : ¬ x < 48 := by omega
      have h3 : 57 < x := by omega
      rw [letB_no (by omega)]
    all_goals
      clear h5
      go_enter Tryz.func58, Tryz.ntmps58
      go_wp2
      go_ret
      exact ⟨rfl, rfl⟩
set_option maxRecDepth 100000 in
set_option maxHeartbeats 2000000 in
theorem nameI_walk (b cap m : Nat) (f : Nat → Int) (w : World) (hm : m ≤ maxLen) (hc : ∀ j, j < m → w.cell? ⟨b, j, none⟩ = some (.int .u8 (f j))) :
    Calls Tryz.prog 83 #[.slice (some ⟨b, 0, none⟩) m cap, .func (.func 58) #[] #[]] w
      fun e w' => (((∀ j, j < m → letB (f j) = true) ∧ e = .returned (.int .i64 (-1))) ∨ ∃ k, k < m ∧ letB (f k) = false ∧ e = .returned (.int .i64 (k : Nat))) ∧ w = w' := by
  have hm' : m ≤ 9223372036854775807 := hm
  have Hc := Lib.hid hc; clear hc
  go_enter Tryz.func83, Tryz.ntmps83
  go_wp2
  go_loop [8] (fun vi => ∃ k : Nat, k ≤ m ∧ vi = .int .i64 k ∧ ∀ j, j < k → letB (f j) = true) (fun i => m - (intOf i).toNat)
  case atStart => exact ⟨0, by omega, rfl, fun j hj => by omega⟩
  case round =>
    obtain ⟨k, hk, rfl, hz⟩ := hrel
    have Hz := Lib.hid hz; clear hz
    have hk2 : k < m ∨ k = m := by omega
    rcases hk2 with hlt | rfl
    · have hlt2 : (k : Int) < m := by omega
      have h1 := Hc.out k hlt
      have Hp := Lib.hid (letter_walk (f k) w)
      cases hx : letB (f k) with
      | true =>
        rw [hx] at Hp
        have Hx := Lib.hid hx; clear hx
        go_wp2_with (go_at_call 58; refine Hp.out.mono ?_; rintro e w' ⟨rfl, rfl⟩)
        go_round
        case rel => exact ⟨k + 1, by omega, by go_num, fun j hj => by
          by_cases e : j = k
          · rw [e, Hx.out]
          · exact Hz.out j (by omega)⟩
        case measure => simp [intOf]; omega
      | false =>
        rw [hx] at Hp
        have Hx := Lib.hid hx; clear hx
        go_wp2_with (go_at_call 58; refine Hp.out.mono ?_; rintro e w' ⟨rfl, rfl⟩)
        go_ret
        exact ⟨.inr ⟨k, hlt, Hx.out, rfl⟩, rfl⟩
    · go_wp2
      go_ret
      exact ⟨.inl ⟨Hz.out, rfl⟩, rfl⟩
theorem nameC_walk (b cap m : Nat) (f : Nat → Int) (w : World) (r : Bool) (hm : m ≤ maxLen) (hc : ∀ j, j < m → w.cell? ⟨b, j, none⟩ = some (.int .u8 (f j))) (hr : r = true ↔ ∀ j, j < m → letB (f j) = true) :
    Calls Tryz.prog 57 #[.slice (some ⟨b, 0, none⟩) m cap, .func (.func 58) #[] #[]] w fun e w' => e = .returned (.bool (!r)) ∧ w = w' := by
  have Hi := Lib.hid (nameI_walk b cap m f w hm hc)
  have Hr := Lib.hid hr
  clear hc hr
  go_enter Tryz.func57, Tryz.ntmps57
  go_wp2_with fail
  refine Hi.out.mono ?_
  rintro e w' ⟨⟨h, rfl⟩ | ⟨k, hk, hf, rfl⟩, rfl⟩
  · have hrt : r = true := Hr.out.2 h
    clear h
    subst hrt
    go_wp2
    go_ret
    exact ⟨rfl, rfl⟩
  · have hrf : r = false := by
      cases r with
      | false => rfl
      | true => exact absurd (Hr.out.1 rfl k hk) (by rw [hf]; decide)
    have hk0 : (0 : Int) ≤ (k : Int) := by omega
    clear hf
    subst hrf
    go_wp2
    go_ret
    exact ⟨by simp, rfl⟩
theorem nameB_iff (s : ByteArray) (h : 1 ≤ s.size ∧ s.size ≤ 16) : nameB s = true ↔ ∀ j, j < s.size → letB ((s.data.toList.getD j 0).toNat : Int) = true := by
  unfold nameB
  rw [decide_eq_true h, Bool.true_and, List.all_eq_true]
  constructor
  · intro ha j hj
    have hj2 : j < s.data.toList.length := by simpa using hj
    rw [letB_of, List.getD_eq_getElem?_getD, List.getElem?_eq_getElem hj2]
    exact ha _ (List.getElem_mem hj2)
  · intro ha c hc
    obtain ⟨j, hj, rfl⟩ := List.getElem_of_mem hc
    have := ha j (by simpa using hj)
    rw [letB_of, List.getD_eq_getElem?_getD, List.getElem?_eq_getElem hj] at this
    exact this
theorem nameB_size {s : ByteArray} (h : ¬ (1 ≤ s.size ∧ s.size ≤ 16)) : nameB s = false := by
  unfold nameB
  rw [decide_eq_false h]; rfl
theorem empty_of_size {s : ByteArray} (h : s.size = 0) : s = ⟨#[]⟩ := by
  obtain ⟨a⟩ := s
  exact congrArg ByteArray.mk (Array.size_eq_zero_iff.1 h)
theorem ne_empty {s : ByteArray} (h : s.size ≠ 0) : (s.toList == ([] : List UInt8)) = false ∧ (s.toList != ([] : List UInt8)) = true ∧ s.toList.isEmpty = false := by
  have hl : s.toList ≠ [] := by
    rw [ByteArray.toList_eq]
    intro e
    apply h
    have : s.data.toList.length = 0 := by rw [e]; rfl
    simpa using this
  refine ⟨by simpa using hl, by simpa using hl, ?_⟩
  cases hs : s.toList with
  | nil => exact absurd hs hl
  | cons _ _ => rfl
set_option maxRecDepth 100000 in
set_option maxHeartbeats 2000000 in
theorem name_walk (s : ByteArray) (w : World) (hs : s.size ≤ maxLen) :
    Calls Tryz.prog 37 #[.string s] w fun e w' => e = .returned (.bool (nameB s)) ∧ Below w.heap.size w w' := by
  by_cases h0 : s.size = 0
  · rw [nameB_size (by omega)]
    have := empty_of_size h0
    subst this
    go_enter Tryz.func37, Tryz.ntmps37
    go_wp2
    go_ret
    exact ⟨rfl, Below.refl _ _⟩
  obtain ⟨e1, e2, e3⟩ := ne_empty h0
  by_cases h1 : 16 < s.size
  · rw [nameB_size (by omega)]
    have h2 : ¬ (s.size : Int) ≤ 16 := by omega
    have h3 : decide (s.size ≤ 16) = false := by simp; omega
    clear h0 h1
    go_enter Tryz.func37, Tryz.ntmps37
    go_wp2
    go_ret
    exact ⟨rfl, Below.refl _ _⟩
  · have h2 : (s.size : Int) ≤ 16 := by omega
    have h3 : decide (s.size ≤ 16) = true := by simp; omega
    have hcv := Lib.run_convert_string_bytes (P := Tryz.prog) w 9 92 5 s Tryz.underlying9 Tryz.underlying92 Tryz.underlying5
    have Hi := Lib.hid (nameB_iff s (by omega))
    obtain ⟨r, hr⟩ : ∃ r, nameB s = r := ⟨_, rfl⟩
    rw [hr] at Hi ⊢
    have Hc := Lib.hid (nameC_walk w.heap.size (grownCap w s.size 0 5) s.size (fun j => ((s.data.toList.getD j 0).toNat : Int)) (Lib.bytesWorld w 5 s) r hs (fun j hj => Lib.bytesWorld_cell w _ s j hj) Hi.out)
    have Hb := Lib.hid (bytesWorld_below w 5 s)
    obtain ⟨W, hW⟩ : ∃ W, Lib.bytesWorld w 5 s = W := ⟨_, rfl⟩
    obtain ⟨cp, hcp⟩ : ∃ cp, grownCap w s.size 0 5 = cp := ⟨_, rfl⟩
    rw [hW] at hcv Hc Hb
    rw [hcp] at hcv Hc
    clear h0 h1 hr hW hcp
    go_enter Tryz.func37, Tryz.ntmps37
    go_wp2_with fail
    refine Hc.out.mono ?_
    rintro e w' ⟨rfl, rfl⟩
    go_wp2
    go_ret
    exact ⟨by simp, Hb.out⟩
set_option maxRecDepth 100000 in
set_option maxHeartbeats 4000000 in
theorem rname_walk (s : ByteArray) (w : World) (hs : s.size ≤ maxLen) :
    Calls Tryz.prog 23 #[.string s] w fun e w' => e = .returned (.bool (nameB s)) ∧ w = w' := by
  by_cases h0 : s.size = 0
  · rw [nameB_size (by omega)]
    have := empty_of_size h0
    subst this
    go_enter Tryz.func23, Tryz.ntmps23
    go_wp2
    go_ret
    exact ⟨rfl, rfl⟩
  have g1 : ¬ (s.size : Int) < 1 := by omega
  have g1d : decide (s.size < 1) = false := decide_eq_false (by omega)
  by_cases h1 : 16 < s.size
  · rw [nameB_size (by omega)]
    have h2 : (16 : Int) < s.size := by omega
    have h3 : decide (16 < s.size) = true := by simp; omega
    clear h0 h1
    go_enter Tryz.func23, Tryz.ntmps23
    go_wp2
    go_ret
    exact ⟨rfl, rfl⟩
  · have h2 : ¬ (16 : Int) < s.size := by omega
    have h3 : decide (16 < s.size) = false := by simp; omega
    have Hi := Lib.hid (nameB_iff s (by omega))
    obtain ⟨r, hr⟩ : ∃ r, nameB s = r := ⟨_, rfl⟩
    rw [hr] at Hi ⊢
    clear h0 h1 hr
    go_enter Tryz.func23, Tryz.ntmps23
    go_wp2
    go_loop [3] (fun vi => ∃ k : Nat, k ≤ s.size ∧ vi = .int .i64 k ∧ Hid (∀ j, j < k → letB ((s.data.toList.getD j 0).toNat : Int) = true)) (fun i => s.size - (intOf i).toNat)
    case atStart => exact ⟨0, by omega, rfl, Lib.hid (fun j hj => by omega)⟩
    case round =>
      obtain ⟨k, hk, rfl, Hz⟩ := hrel
      have hk2 : k < s.size ∨ k = s.size := by omega
      rcases hk2 with hlt | rfl
      · have hlt2 : (k : Int) < s.size := by omega
        have hx : (((s[k]'hlt).toNat : Nat) : Int) = ((s.data.toList.getD k 0).toNat : Int) := by
          have hj2 : k < s.data.toList.length := by simpa using hlt
          rw [List.getD_eq_getElem?_getD, List.getElem?_eq_getElem hj2]
          rfl
        obtain ⟨x, hxx⟩ : ∃ x, ((s.data.toList.getD k 0).toNat : Int) = x := ⟨_, rfl⟩
        have Hx := Lib.hid hxx
        rw [hxx] at hx
        clear hxx
        by_cases h5 : x = 45
        case' pos =>
          have h5a : (x == 45) = true := by simpa using h5
          have hl : letB x = true := letB_yes (by omega)
          have a1 : ¬ 97 ≤ x := by omega
          have a2 : ¬ 48 ≤ x := by omega
        case' neg =>
          have h5a : (x == 45) = false := by simpa using h5
          rcases (show x < 48 ∨ (48 ≤ x ∧ x ≤ 57) ∨ (57 < x ∧ x < 97) ∨ (97 ≤ x ∧ x ≤ 122) ∨ 122 < x by omega) with h | h | h | h | h
          case' inl =>
            have a1 : ¬ 97 ≤ x := by omega
            have a2 : ¬ 48 ≤ x := by omega
            have hl : letB x = false := letB_no (by omega)
          case' inr.inl =>
            have a1 : ¬ 97 ≤ x := by omega
            have a2 : 48 ≤ x := by omega
            have a3 : x ≤ 57 := by omega
            have hl : letB x = true := letB_yes (by omega)
          case' inr.inr.inl =>
            have a1 : ¬ 97 ≤ x := by omega
            have a2 : 48 ≤ x := by omega
            have a3 : ¬ x ≤ 57 := by omega
            have hl : letB x = false := letB_no (by omega)
          case' inr.inr.inr.inl =>
            have a1 : 97 ≤ x := by omega
            have a2 : x ≤ 122 := by omega
            have hl : letB x = true := letB_yes (by omega)
          case' inr.inr.inr.inr =>
            have a1 : 97 ≤ x := by omega
            have a2 : ¬ x ≤ 122 := by omega
            have a3 : 48 ≤ x := by omega
            have a4 : ¬ x ≤ 57 := by omega
            have hl : letB x = false := letB_no (by omega)
        all_goals
          have Hl := Lib.hid hl
          clear hl h5
          go_wp2
          first
          | (go_round
             case rel => exact ⟨k + 1, by omega, by go_num, Lib.hid (fun j hj => by
              by_cases e : j = k
              · rw [e, Hx.out]; exact Hl.out
              · exact Hz.out j (by omega))⟩
             case measure => simp [intOf]; omega)
          | (have hrf : r = false := by
              cases r with
              | false => rfl
              | true =>
                have h9 := Hi.out.1 rfl k hlt
                rw [Hx.out, Hl.out] at h9
                cases h9
             subst hrf
             go_ret
             exact ⟨rfl, rfl⟩)
      · have hrt : r = true := Hi.out.2 Hz.out
        subst hrt
        go_wp2
        go_ret
        exact ⟨rfl, rfl⟩
end Go.Proofs.YtolbdcmoblcakaaGreatDoor
