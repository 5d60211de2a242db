/- The walk of the law FieldEval. -/
import Derived.Test.YtfojimaafhpgbaaDoorRefC
import Derived.Test.YtfojimaafhpgbaaDoorEval
import Derived.Test.YtfojimaafhpgbaaDoorEnv
namespace Go.Proofs.YtfojimaafhpgbaaDoor.fieldEval
open Go.RowKit

theorem below_drewN (w : World) (n : Nat) : Below w.heap.size w (w.drewN n) := ⟨rfl, rfl, rfl, Nat.le_refl _, fun _ _ => rfl⟩

set_option maxHeartbeats 1000000 in
theorem walk_out (ap ax ay : Option Addr) (lp cp lx cx ly cy : Nat) (x : Int) (w : World) (h : (40 : Int) < (lp : Int) ∨ (¬ (40 : Int) < (lp : Int) ∧ (20 : Int) < (lx : Int)) ∨ (¬ (40 : Int) < (lp : Int) ∧ ¬ (20 : Int) < (lx : Int) ∧ (20 : Int) < (ly : Int))) :
    Calls Tryd.prog 12 #[.slice ap lp cp, .int .u8 x, .slice ax lx cx, .slice ay ly cy] w fun e w' => e = .returned (.bool true) ∧ w = w' := by
  rcases h with h | ⟨h0, h⟩ | ⟨h0, h1, h⟩
  all_goals
    go_enter Tryd.func12, Tryd.ntmps12
    go_wp2_with (go_at_call 21; refine (double_walk _).mono ?_; rintro e w' ⟨rfl, rfl⟩)
    go_ret
    exact ⟨rfl, rfl⟩

set_option maxHeartbeats 1000000 in
theorem walk_in (ap ax ay : Option Addr) (lp cp lx cx ly cy : Nat) (x v : Nat) (ev : Value) (c : Int) (p : List Nat) (w : World) (h1 : ¬ (40 : Int) < (lp : Int)) (h2 : ¬ (20 : Int) < (lx : Int)) (h3 : ¬ (20 : Int) < (ly : Int)) (hx : x < 256)
    (hp : Bytes p) (hl : p.length = lp) (hI : RowAt w.heap.size w ap p)
    (hB : ∀ W, Below w.heap.size w W → Calls Tryd.prog 24 #[.slice ax lx cx, .slice ay ly cy, .int .u8 x] W fun e w' => e = .returned (.tuple #[.int .u8 v, ev]) ∧ Below W.heap.size W w')
    (hR : ∀ W, Below w.heap.size w W → Calls Tryd.prog 50 #[.slice ax lx cx, .slice ay ly cy, .int .u8 x] W fun e w' => e = .returned (.tuple #[.int .u8 v, .int .i64 c]) ∧ Below W.heap.size W w')
    (hC : ∀ W, Below w.heap.size w W → Calls Tryd.prog 31 #[ev, .int .i64 c] W fun e w' => e = .returned (.bool true) ∧ Below W.heap.size W w') :
    Calls Tryd.prog 12 #[.slice ap lp cp, .int .u8 x, .slice ax lx cx, .slice ay ly cy] w fun e w' => e = .returned (.bool true) ∧ Below w.heap.size w w' := by
  have hev := eval_walk ap cp p hp (by omega) x hx w hI
  have hrv := fun (W : World) (hW : Below w.heap.size w W) => reval_walk w.heap.size ap cp p x W hp hx (by unfold maxLen; omega) (hI.below hW)
  rw [hl] at hev hrv
  have Hev := Lib.hid hev
  have Hrv := Lib.hid hrv
  have HB := Lib.hid hB
  have HR := Lib.hid hR
  have HC := Lib.hid hC
  clear hev hrv hB hR hC hl hp hI
  generalize Gf.horner x p = q at Hev Hrv
  go_enter Tryd.func12, Tryd.ntmps12
  go_wp2_with fail
  refine (double_walk _).mono ?_
  rintro e w' ⟨rfl, rfl⟩
  go_wp2_with fail
  refine Hev.out.mono ?_
  rintro e w1 ⟨rfl, hb1⟩
  go_wp2_with fail
  refine (Hrv.out _ hb1).mono ?_
  rintro e w' ⟨rfl, rfl⟩
  go_wp2_with fail
  refine (HB.out _ hb1).mono ?_
  rintro e w2 ⟨rfl, hb⟩
  have hb2 := hb1.trans (hb.mono hb1.size)
  clear hb
  go_wp2_with fail
  refine (HR.out _ hb2).mono ?_
  rintro e w3 ⟨rfl, hb⟩
  have hb3 := hb2.trans (hb.mono hb2.size)
  clear hb
  go_wp2_with fail
  refine (HC.out _ hb3).mono ?_
  rintro e w4 ⟨rfl, hb⟩
  go_wp2
  go_ret
  exact ⟨rfl, hb3.trans (hb.mono hb3.size)⟩

theorem walk (ap : Option Addr) (lp cp : Nat) (zp : List Int) (x : Int) (ax : Option Addr) (lx cx : Nat) (zx : List Int) (ay : Option Addr) (ly cy : Nat) (zy : List Int) (w : World) (w0 : IsRow .u8 w ap lp cp zp) (w1 : (Lit.int .u8 x).wf = true)
    (w2 : IsRow .u8 w ax lx cx zx) (w3 : IsRow .u8 w ay ly cy zy) (hL : laidMetH Tryd.prog Rows.fieldEvalRow.laid w) :
    Calls Tryd.prog 12 #[.slice ap lp cp, .int .u8 x, .slice ax lx cx, .slice ay ly cy] w fun e w' => e = .returned (.bool true) ∧ Below w.heap.size w w' := by
  obtain ⟨E, hE⟩ := env_of_laid hL
  obtain ⟨b1, b2⟩ := bounds_u8 w1
  obtain ⟨x, rfl⟩ := Int.eq_ofNat_of_zero_le b1
  obtain ⟨p, hpl, hpb, hpI, hpm, hpc⟩ := row_of_isRow w0
  obtain ⟨xs, hxl, hxb, hxI, hxm, hxc⟩ := row_of_isRow w2
  obtain ⟨ys, hyl, hyb, hyI, hym, hyc⟩ := row_of_isRow w3
  by_cases h : (40 : Int) < (lp : Int) ∨ (¬ (40 : Int) < (lp : Int) ∧ (20 : Int) < (lx : Int)) ∨ (¬ (40 : Int) < (lp : Int) ∧ ¬ (20 : Int) < (lx : Int) ∧ (20 : Int) < (ly : Int))
  · exact (walk_out ap ax ay lp cp lx cx ly cy x w h).mono fun e w' ⟨he, hw⟩ => ⟨he, hw ▸ Below.refl _ _⟩
  have h1 : ¬ (40 : Int) < (lp : Int) := by omega
  have h2 : ¬ (20 : Int) < (lx : Int) := by omega
  have h3 : ¬ (20 : Int) < (ly : Int) := by omega
  have hx : x < 256 := by omega
  have eE : ∀ {W : World}, Below w.heap.size w W → ErrEnv W E := fun hW => hE.below hW (Nat.le_refl _)
  have same : ∀ {f : Nat} {args : Array Value} {W : World} {v : Value}, (Calls Tryd.prog f args W fun e w' => e = .returned v ∧ W = w') → Calls Tryd.prog f args W fun e w' => e = .returned v ∧ Below W.heap.size W w' :=
    fun h => h.mono fun e w' ⟨he, hw⟩ => ⟨he, hw ▸ Below.refl _ _⟩
  have drawn : ∀ {f : Nat} {args : Array Value} {W : World} {v : Value}, (Calls Tryd.prog f args W fun e w' => e = .returned v ∧ ∃ nq, w' = W.drewN nq) → Calls Tryd.prog f args W fun e w' => e = .returned v ∧ Below W.heap.size W w' :=
    fun h => h.mono fun e w' ⟨he, n, hw⟩ => ⟨he, hw ▸ below_drewN _ n⟩
  by_cases hs : ((lx : Int) != (ly : Int)) = true
  · refine walk_in ap ax ay lp cp lx cx ly cy x 0 (errV (E 2)) 3 p w h1 h2 h3 hx hpb hpl hpI
      (fun W hW => drawn (btw_shape ax ay lx ly cx cy x W _ (eE hW).c2 hs)) (fun W hW => same (rbtw_shape ax ay lx ly cx cy x W hs)) (fun W hW => ?_)
    exact coded_err E 2 (by decide) 3 W (eE hW)
  · have hxy : ly = lx := by simp at hs; omega
    subst hxy
    have hlen : ys.length = xs.length := by rw [hyl, hxl]
    rcases first_dup xs with hnd | ⟨d, hd, hdup, hnd⟩
    · refine walk_in ap ax ay lp cp ly cx ly cy x (btwN xs ys x xs.length) .nilIface 0 p w h1 h2 h3 hx hpb hpl hpI (fun W hW => same ?_) (fun W hW => drawn ?_) (fun W hW => same ?_)
      · have := between_walk w.heap.size ax ay cx cy xs ys x W hxb hyb hx (by rw [hxl]; exact hxm) (by rw [hxl]; exact hxc) hlen (hxI.below hW) (hyI.below hW) hnd (fun i hi => (lagN_down hxb (unlike_of hnd) hi _ (Nat.le_refl _)).1)
        rw [hxl] at this ⊢
        exact this
      · have := rbtw_walk w.heap.size ax ay cx cy xs ys x W hxb hyb hx (by rw [hxl]; exact hxm) hlen (hxI.below hW) (hyI.below hW) hnd
        rw [hxl] at this ⊢
        exact this
      · exact coded_nil 0 W
    · refine walk_in ap ax ay lp cp ly cx ly cy x 0 (errV (E 5)) 6 p w h1 h2 h3 hx hpb hpl hpI (fun W hW => drawn ?_) (fun W hW => drawn ?_) (fun W hW => ?_)
      · have := btw_dup w.heap.size ax ay cx cy xs x W _ (eE hW).c5 (by rw [hxl]; exact hxm) (by rw [hxl]; exact hxc) (hxI.below hW) d hd hdup hnd
        rw [hxl] at this
        exact this
      · have := rbtw_dup w.heap.size ax ay cx cy xs x W (by rw [hxl]; exact hxm) (hxI.below hW) d hd hdup hnd
        rw [hxl] at this
        exact this
      · exact coded_err E 5 (by decide) 6 W (eE hW)
end Go.Proofs.YtfojimaafhpgbaaDoor.fieldEval
