/- The walk of matrix.Invert. -/
import Derived.Test.YtabboioamdphmaaGreatDoorSCarryHears09
import Derived.Test.YtabboioamdphmaaGreatDoorSCarryHears04
namespace Go.Proofs.YtabboioamdphmaaGreatDoor
open Go.RowKit

theorem wide_upd {M : Nat → Nat → Nat} {n i : Nat} (j : Nat) : Mx.upd (fun j => (((List.range n).map (M i)) ++ List.replicate n 0)[j]?.getD 0) (n + i) 1 j = Mx.wide M n i j := by
  unfold Mx.upd Mx.wide
  by_cases e : j = n + i
  · rw [if_pos e, if_neg (by omega), if_pos e]
  · rw [if_neg e]
    by_cases e2 : j < n
    · rw [if_pos e2]
      show (List.map (M i) (List.range n) ++ List.replicate n 0)[j]?.getD 0 = M i j
      rw [List.getElem?_append_left (by simpa using e2)]
      simp [e2]
    · rw [if_neg e2, if_neg e]
      show (List.map (M i) (List.range n) ++ List.replicate n 0)[j]?.getD 0 = 0
      rw [List.getElem?_append_right (by simp; omega), List.getElem?_replicate]
      split <;> rfl
def InvOut (w w' : World) (n : Nat) (M : Nat → Nat → Nat) (ez : Value) (e : Ending) : Prop := ∃ done L G, Mx.ByM G ∧ Mx.RR G n n done L ∧ (∀ d v, Mx.By v → (Mx.Ker G n d v ↔ Mx.Ker (Mx.wide M n) n d v)) ∧ Below w.heap.size w w' ∧
  ((done < n ∧ e = .returned (.tuple #[.slice none 0 0, ez])) ∨ (done = n ∧ ∃ v bs caps, e = .returned (.tuple #[v, .nilIface]) ∧ OwnM w.heap.size w' v n n bs caps (Mx.right G n)))
set_option maxRecDepth 100000 in
set_option maxHeartbeats 8000000 in
theorem invert_walk (n₀ b off n cap : Nat) (p o caps : Nat → Nat) (M : Nat → Nat → Nat) (w : World) (z ez : Value) (hn₀ : n₀ ≤ w.heap.size) (hz : w.cell? ⟨2, 0, none⟩ = some z) (hez : w.cell? ⟨11, 0, none⟩ = some ez)
    (hM : MatR n₀ w b off n n p o caps M) (bM : Mx.ByM M) (hn : 1 ≤ n) (hn2 : n ≤ 16) :
    Calls Tryz.prog 101 #[.slice (some ⟨b, off, none⟩) n cap] w fun e w' => InvOut w w' n M ez e := by
  have HM := Lib.hid hM
  have Hz := Lib.hid hz
  have Hez := Lib.hid hez
  clear hM hz hez
  go_enter Tryz.func101, Tryz.ntmps101
  go_wp2_with fail
  refine (check_mat n₀ b off n n cap p o caps M w z Hz.out HM.out hn hn2 hn hn2).mono ?_
  rintro e w1 ⟨rfl, hb1⟩
  have h0 := (HM.out.below (hb1.mono hn₀)).head 0 (by omega)
  rw [Nat.add_zero] at h0
  have hn3 : (0 : Int) < n := by omega
  have Hb1 := Lib.hid hb1
  clear hb1
  go_wp2
  clear h0
  go_loopw [5, 29] (fun vo vi wr => ∃ (i : Nat) (bs cps : Nat → Nat), i ≤ n ∧ vi = .int .i64 i ∧ Hid (OwnM w.heap.size wr vo i (n + n) bs cps (Mx.wide M n) ∧ Below w.heap.size w wr)) (fun _ i _ => n - (intOf i).toNat)
  case atStart => exact ⟨0, fun _ => 0, fun _ => 0, by omega, rfl, Lib.hid ⟨OwnM.nil _ _ _ _ _ _, Hb1.out⟩⟩
  case round =>
    obtain ⟨i, bs, cps, hi, rfl, H⟩ := hrel
    have hi2 : i < n ∨ i = n := by omega
    rcases hi2 with hlt | hin
    · have hlt2 : (i : Int) < n := by omega
      have hR := HM.out.below (H.out.2.mono hn₀)
      have hsz := H.out.2.size
      have h1 := hR.head i hlt
      have hcl := Lib.hid (clone_row n₀ (p i) (o i) n (caps i) (M i) wr (hR.plo i hlt) (by omega) hn (by omega) (hR.cell i hlt))
      clear hR
      go_wp2_with fail
      refine hcl.out.mono ?_
      rintro e w2 ⟨⟨v, rfl, hv⟩, hb2⟩
      have hl : ((List.range n).map (M i)).length = n := by simp
      have hsz2 := hb2.size
      have Hv := Lib.hid (And.intro hv (And.intro hb2 hl))
      clear hv hb2 hl hcl h1
      go_wp2_with (at_builtin; refine append_zeros 35 36 rfl rfl wr.heap.size _ _ n hn (by rw [Hv.out.2.2]; exact hn) rfl rfl Hv.out.1 (by rw [Hv.out.2.2]; omega) hsz2 ?_)
      intro v1 w3 g1 g2 g3
      obtain ⟨hv, hb2, hl⟩ := Hv.out
      have hl2 : (((List.range n).map (M i)) ++ List.replicate n 0).length = n + n := by simp
      obtain ⟨g, cg, hve, f1, f2, f3, f4, hrow⟩ := g1.rowV (by rw [hl2]; omega)
      rw [hl2] at hve f3 hrow
      rw [hve]
      have hb3 : Below wr.heap.size wr w3 := hb2.grown g2 hsz2 (fun j e => (hv.lt j e).1)
      have hb4 : Below w.heap.size w w3 := H.out.2.trans (hb3.mono hsz)
      have hm3 : OwnM w.heap.size w3 u5 i (n + n) bs cps (Mx.wide M n) := H.out.1.below hb3 (Nat.le_refl _)
      have hne : ∀ i', i' < i → bs i' ≠ g := fun i' h e => by have := H.out.1.lt i' h; omega
      have hoff : u5.ownBlock ≠ some g := fun e => by have := (H.out.1.own.lt _ e).2; omega
      have hcell := hrow.cell (n + i) (by omega)
      have hfree := hrow.free (n + i) (by omega)
      have hidx1 : (0 : Int) ≤ (n : Int) + i := by omega
      have hidx2 : (n : Int) + i < (n : Int) + n := by omega
      have hidx3 : (n : Int) + i < ((n + n : Nat) : Int) := by omega
      have hm4 : OwnM w.heap.size (w3.setCell ⟨g, n + i, none⟩ (.int .u8 1)) u5 i (n + n) bs cps (Mx.wide M n) := hm3.only (OnlyB.setCell _ _ _ _) hne hoff
      have hb5 : Below w.heap.size w (w3.setCell ⟨g, n + i, none⟩ (.int .u8 1)) := hb4.setCell (p := ⟨g, n + i, none⟩) (by show w.heap.size ≤ g; omega) _
      have hrow4 : RowV (w3.setCell ⟨g, n + i, none⟩ (.int .u8 1)) g (n + n) (Mx.wide M n i) := (RowV.set (x := 1) (show n + i < n + n by omega) hrow).congr (fun j _ => wide_upd j)
      have hg4 : g < (w3.setCell ⟨g, n + i, none⟩ (.int .u8 1)).heap.size := by have := (OnlyB.setCell g (n + i) w3 (.int .u8 1)).size; omega
      have hsz5 := hb5.size
      have hszw := hb4.size
      have hsq := Lib.hid ((OnlyB.setCell g (n + i) w3 (.int .u8 1)).size)
      have hown := Lib.hid hm4.own
      have hul : ((List.range i).map fun i => Value.slice (some ⟨bs i, 0, none⟩) (n + n) (cps i)).length ≤ 1000000 := by simp; omega
      have Hx := Lib.hid (And.intro hm4 (And.intro hb5 (And.intro hne (And.intro hoff (And.intro f1 (And.intro hg4 (And.intro f3 (And.intro f4 hrow4))))))))
      clear hv hb2 hl hl2 g1 g2 g3 hve f1 f2 f3 f4 hrow hb3 hb4 hm3 hne hoff Hv hsz2 hm4 hb5 hrow4 hg4
      go_wp2_with (at_builtin; refine append_rowvH 43 45 rfl rfl w.heap.size w3.heap.size _ _ (some ⟨g, 0, none⟩) (n + n) cg hsq.out rfl rfl hown.out hul hsz5 ?_)
      intro v' w' k1 k2 k3
      obtain ⟨hm2, hb3, hne, hoff, hg1, hg2, hg3, hg4, hrow⟩ := Hx.out
      have hm3 := hm2.snoc hrow (by omega) hg2 hne hoff ⟨hg3, hg4⟩ k1 k2 (by rw [hsq.out]; exact k3)
      have hb4 : Below w.heap.size w w' := (hb3.alloc hsz5 _).grown k2 (by simp; omega) (fun j e => (hm2.own.lt j e).1)
      have hm4 := hm3.congr (M' := Mx.wide M n) (fun i' hi' j hj => by
        unfold Mx.putR
        by_cases e : i' = i
        · rw [if_pos e, e]
        · rw [if_neg e])
      have HR := Lib.hid (And.intro hm4 hb4)
      clear hm2 hb3 hne hoff hg1 hg2 hg3 hg4 hrow hm3 hb4 hm4 k1 k2 k3 Hx hown hcell hfree hidx1 hidx2 hidx3
      go_wp2
      go_roundw
      case rel => exact ⟨i + 1, _, _, by omega, by go_num, HR⟩
      case measure => simp [intOf]; omega
    · subst hin
      obtain ⟨g, cg, hve, hg3, hg4, hV⟩ := H.out.1.mat (by omega)
      rw [hve]
      have hB := H.out.2
      have hred := Lib.hid (reduced_walk w.heap.size g i (i + i) i cg bs cps (Mx.wide M i) wr hB.size (by omega) (by omega) (by omega) (by omega) (by omega) hg3 (Mx.by_wide bM i) hV)
      have HB := Lib.hid hB
      clear hve hV hB
      go_wp2_with fail
      refine hred.out.mono ?_
      rintro e w2 ⟨done, L, bs', caps', G, rfl, hb, hV2, hby, hrr, hk⟩
      have hdn := hrr.le
      have hb2 : Below w.heap.size w w2 := HB.out.trans hb
      have hez : w2.cell? ⟨11, 0, none⟩ = some ez := (hb2.cell (lt_of_cell Hez.out)).trans Hez.out
      have Hy := Lib.hid (And.intro hb2 (And.intro hby (And.intro hrr (And.intro hk hV2))))
      clear hb hb2 hby hrr hk hV2 hred
      by_cases hd : done < i
      · have hd2 : (done : Int) < i := by omega
        go_wp2
        go_quiet (fail)
        go_wp2
        go_ret2
        obtain ⟨hb2, hby, hrr, hk, _⟩ := Hy.out
        exact ⟨done, L, G, hby, hrr, hk, hb2.trans (same_below' _ nq), .inl ⟨hd, rfl⟩⟩
      · have hd2 : ¬ (done : Int) < i := by omega
        obtain rfl : done = i := by omega
        clear hez
        obtain ⟨wz, rfl⟩ : ∃ wz : World, wz = wr := ⟨_, rfl⟩
        go_wp2
        go_loopw [9, 56] (fun vo vi wr => ∃ (k : Nat) (bs2 cps2 : Nat → Nat), k ≤ done ∧ vi = .int .i64 k ∧ Hid (OwnM w2.heap.size wr vo k done bs2 cps2 (Mx.right G done) ∧ Below w2.heap.size w2 wr)) (fun _ i _ => done - (intOf i).toNat)
        case atStart => exact ⟨0, fun _ => 0, fun _ => 0, by omega, rfl, Lib.hid ⟨OwnM.nil _ _ _ _ _ _, Below.refl _ _⟩⟩
        case round =>
          obtain ⟨k, bs2, cps2, hk, rfl, H2⟩ := hrel
          have hk2 : k < done ∨ k = done := by omega
          rcases hk2 with hlt | rfl
          · have hlt2 : (k : Int) < done := by omega
            have hV := Hy.out.2.2.2.2
            have hltV := hV.lt (by omega) (by omega)
            have hV3 := hV.keep (w' := wr) (fun b hb => H2.out.2.block b (hltV b hb))
            have h1 := hV3.head k hlt
            have hcp := (hV.cap k hlt).1
            have hpl := hltV (bs' k) (.inr ⟨k, hlt, rfl⟩)
            have hsz := H2.out.2.size
            obtain ⟨cq, hcq⟩ : ∃ cq, caps' k = cq := ⟨_, rfl⟩
            rw [hcq] at h1 hcp
            have hcq2 : ¬ cq = done := by omega
            have hcl := Lib.hid (clone_row w2.heap.size (bs' k) done done (cq - done) (Mx.right G done k) wr hpl hsz hn (by omega) (fun j hj => (hV3.row k hlt).cell (done + j) (by omega)))
            clear hV hV3 hltV hcq
            go_wp2_with fail
            refine hcl.out.mono ?_
            rintro e w3 ⟨⟨v, rfl, hv⟩, hb2⟩
            obtain ⟨g2, cg2, hve, hg1, hg2, hg3, hg4, hrow⟩ := OwnB.copy hv hn
            rw [hve]
            have hb3 : Below w2.heap.size w2 w3 := H2.out.2.trans (hb2.mono hsz)
            have hm2 : OwnM w2.heap.size w3 u9 k done bs2 cps2 (Mx.right G done) := H2.out.1.below hb2 (Nat.le_refl _)
            have hne : ∀ i', i' < k → bs2 i' ≠ g2 := fun i' h e => by have := H2.out.1.lt i' h; omega
            have hoff : u9.ownBlock ≠ some g2 := fun e => by have := (H2.out.1.own.lt _ e).2; omega
            have hsz2 := hb3.size
            have hown := Lib.hid hm2.own
            have hul : ((List.range k).map fun i => Value.slice (some ⟨bs2 i, 0, none⟩) done (cps2 i)).length ≤ 1000000 := by simp; omega
            have Hx := Lib.hid (And.intro hm2 (And.intro hb3 (And.intro hne (And.intro hoff (And.intro hg1 (And.intro hg2 (And.intro hg3 (And.intro hg4 hrow))))))))
            clear hve hv hb2 hb3 hm2 hne hoff hg1 hg2 hg3 hg4 hrow hcl h1
            go_wp2_with (at_builtin; refine append_rowv 60 65 rfl rfl w2.heap.size _ _ (some ⟨g2, 0, none⟩) done cg2 rfl rfl hown.out hul hsz2 ?_)
            intro v' w' k1 k2 k3
            obtain ⟨hm2, hb3, hne, hoff, hg1, hg2, hg3, hg4, hrow⟩ := Hx.out
            have hm3 := hm2.snoc hrow (by omega) hg2 hne hoff ⟨hg3, hg4⟩ k1 k2 k3
            have hb4 : Below w2.heap.size w2 w' := (hb3.alloc hsz2 _).grown k2 (by simp; omega) (fun j e => (hm2.own.lt j e).1)
            have hm4 := hm3.congr (M' := Mx.right G done) (fun i' hi' j hj => by
              unfold Mx.putR
              by_cases e : i' = k
              · rw [if_pos e, e]
              · rw [if_neg e])
            have HR := Lib.hid (And.intro hm4 hb4)
            clear hm2 hb3 hne hoff hg1 hg2 hg3 hg4 hrow hm3 hb4 hm4 k1 k2 k3 Hx hown
            go_wp2
            go_roundw
            case rel => exact ⟨k + 1, _, _, by omega, by go_num, HR⟩
            case measure => simp [intOf]; omega
          · go_wp2
            go_ret2
            obtain ⟨hb2, hby, hrr, hkk, _⟩ := Hy.out
            exact ⟨k, L, G, hby, hrr, hkk, hb2.trans (H2.out.2.mono hb2.size), .inr ⟨rfl, _, bs2, cps2, rfl, H2.out.1.lower hb2.size⟩⟩
end Go.Proofs.YtabboioamdphmaaGreatDoor
/- Plain laws: Lagrange's basis as a matrix: what was spread and picked is brought back by it. -/
namespace Go.Proofs.YtabboioamdphmaaGreatDoor
namespace Mx

theorem unitL (k i : Nat) : ∃ ys : List Nat, ys.length = k ∧ Bytes ys ∧ ∀ j, j < k → ys[j]?.getD 0 = unit i j :=
  ⟨(List.range k).map (unit i), by simp, fun y hy => by obtain ⟨a, _, rfl⟩ := List.mem_map.1 hy; exact by_unit i a, fun j hj => by simp [hj]⟩
theorem bas_poly {xs : List Nat} (hx : Bytes xs) (hu : Unlike xs) {i : Nat} (hi : i < xs.length) : Gf.Poly xs.length (fun z => bas xs i z) := by
  obtain ⟨ys, _, hb, hy⟩ := unitL xs.length i
  obtain ⟨p, h1, h2, h3⟩ := lagT_poly hx hb hi
  refine ⟨p, h1, h2, fun z hz => ?_⟩
  rw [← h3 z hz]
  show bas xs i z = lagT xs ys z i
  rw [lagT_bas hx hb hu hz hi, hy i hi]
  unfold unit; rw [if_pos rfl, Gf.one_mul (bas_lt _ i z)]
theorem bas_at {xs : List Nat} (hx : Bytes xs) (hu : Unlike xs) {i j : Nat} (hi : i < xs.length) (hj : j < xs.length) : bas xs i (xs[j]?.getD 0) = unit i j := by
  obtain ⟨ys, _, hb, hy⟩ := unitL xs.length i
  have h := lagT_at hx hb hu hi hj
  rw [lagT_bas hx hb hu (hx.at j) hi, hy i hi] at h
  unfold unit at h ⊢
  rw [if_pos rfl, Gf.one_mul (bas_lt _ i _)] at h
  rw [h]
  by_cases e : i = j
  · rw [if_pos e, if_pos e.symm, hy j hj]; unfold unit; rw [if_pos e.symm]
  · rw [if_neg e, if_neg (Ne.symm e)]
theorem dot_poly {n : Nat} {f : Nat → Nat → Nat} {v : Nat → Nat} (hv : By v) : ∀ {c : Nat}, (∀ l, l < c → Gf.Poly n (fun z => f l z)) → Gf.Poly n (fun z => dot (fun l => f l z) v c)
  | 0, _ => Gf.poly_zero n
  | c + 1, h => (dot_poly hv (c := c) (fun l hl => h l (by omega))).add ((h c (by omega)).scale (hv c))
theorem interp {xs : List Nat} (hx : Bytes xs) (hu : Unlike xs) {f : Nat → Nat} (hf : Gf.Poly xs.length f) {z : Nat} (hz : z < 256) : f z = dot (fun i => bas xs i z) (fun i => f (xs[i]?.getD 0)) xs.length := by
  have hv : By (fun i => f (xs[i]?.getD 0)) := fun i => hf.lt (hx.at i)
  refine poly_ext (xs := xs) (f := f) (g := fun z => dot (fun i => bas xs i z) (fun i => f (xs[i]?.getD 0)) xs.length) hx hu hf (dot_poly hv (fun l hl => bas_poly hx hu hl)) (fun j hj => ?_) hz
  show _ = dot _ _ _
  rw [dot_one hj (fun i hi hne => by rw [bas_at hx hu hi hj]; unfold unit; rw [if_neg (Ne.symm hne), Gf.zero_mul]), bas_at hx hu hj hj]
  unfold unit; rw [if_pos rfl, Gf.one_mul (hv j)]
def spr (k : Nat) : Nat → Nat → Nat := fun i j => bas (List.range k) j i
theorem by_spr (k : Nat) : ByM (spr k) := fun _ _ => bas_lt _ _ _
theorem spr_top {k i j : Nat} (hk : k ≤ 256) (hi : i < k) (hj : j < k) : spr k i j = unit j i := by
  have hx := range_bytes hk
  have h := bas_at hx (range_unlike k) (i := j) (j := i) (by simpa using hj) (by simpa using hi)
  rw [range_at hi] at h
  exact h
theorem back {k : Nat} (hk : k ≤ 200) {xs : List Nat} (hl : xs.length = k) (hx : Bytes xs) (hu : Unlike xs) {v : Nat → Nat} (hv : By v) {j : Nat} (hj : j < 256) :
    dot (fun i => bas xs i j) (fun i => dot (spr k (xs[i]?.getD 0)) v k) k = dot (spr k j) v k := by
  have hr := range_bytes (k := k) (by omega)
  have hp : Gf.Poly xs.length (fun z => dot (fun l => bas (List.range k) l z) v k) := by
    rw [hl]
    refine dot_poly hv (fun l h => ?_)
    have := bas_poly hr (range_unlike k) (i := l) (by simpa using h)
    rwa [List.length_range] at this
  have := interp hx hu hp hj
  rw [hl] at this
  exact this.symm
theorem top_is {k : Nat} (hk : k ≤ 200) {v : Nat → Nat} (hv : By v) {j : Nat} (hj : j < k) : dot (spr k j) v k = v j := by
  rw [← dot_unitL hv hj]
  exact dot_congr (fun l h => by rw [spr_top (by omega) hj h]; unfold unit; by_cases e : j = l
                                 · rw [if_pos e, if_pos e.symm]
                                 · rw [if_neg e, if_neg (Ne.symm e)]) (fun _ _ => rfl)
theorem inv_is {k : Nat} (hk : k ≤ 200) {xs : List Nat} (hl : xs.length = k) (hx : Bytes xs) (hu : Unlike xs) {P X : Nat → Nat → Nat} (hP : ∀ i, i < k → ∀ j, j < k → P i j = spr k (xs[i]?.getD 0) j) (h : Inv P X k) {j i : Nat} (hj : j < k) (hi : i < k) : X j i = bas xs i j := by
  have hv : By (fun l => X l i) := fun l => h.by_ l i
  have h1 := back hk hl hx hu hv (show j < 256 by omega)
  rw [top_is hk hv hj] at h1
  rw [← h1]
  have h2 : ∀ a, a < k → dot (spr k (xs[a]?.getD 0)) (fun l => X l i) k = unit i a := fun a ha => by
    have := h.right a i ha hi
    unfold mulM at this
    rw [dot_congr (r' := P a) (v' := fun l => X l i) (fun l hl => (hP a ha l hl).symm) (fun _ _ => rfl), this]
    unfold unit
    rfl
  rw [dot_congr (r' := fun i => bas xs i j) (v' := unit i) (fun _ _ => rfl) h2]
  exact dot_unit (fun a => bas_lt _ _ _) hi
end Mx
end Go.Proofs.YtabboioamdphmaaGreatDoor
/- Walks: matrix.Powers, matrix.Spread, the document's IsSpread; the law's unit. -/
namespace Go.Proofs.YtabboioamdphmaaGreatDoor
open Go.RowKit

theorem powZ_nat {a j : Nat} (hj : j < 255) : powZ a (j : Int) = Gf.pow a j := by
  unfold powZ
  by_cases h : (j : Int) = 0
  · rw [if_pos h]
    obtain rfl : j = 0 := by omega
    rfl
  · rw [if_neg h]
    have e : ((j : Int) % 255).toNat = j := by omega
    rw [e]
    by_cases h0 : a = 0
    · rw [if_pos h0, h0]
      obtain ⟨m, rfl⟩ : ∃ m, j = m + 1 := ⟨j - 1, by omega⟩
      unfold Gf.pow
      first | rw [Gf.zero_mul] | rw [Gf.mul_zero]
    · rw [if_neg h0]

set_option maxHeartbeats 1000000 in
theorem powers_bad (n k : Int) (w : World) (eb : Value) (hb : w.cell? ⟨1, 0, none⟩ = some eb) (h : ¬ (1 ≤ k ∧ k ≤ n ∧ n ≤ 12)) :
    Calls Tryz.prog 57 #[.int .i64 n, .int .i64 k] w fun e w' => e = .returned (.tuple #[.slice none 0 0, eb]) ∧ ∃ q, w' = w.drewN q := by
  by_cases h1 : k < 1
  · go_enter Tryz.func57, Tryz.ntmps57
    go_wp2
    go_quiet (fail)
    go_wp2
    go_ret2
    exact ⟨rfl, _, rfl⟩
  · by_cases h2 : n < k
    · go_enter Tryz.func57, Tryz.ntmps57
      go_wp2
      go_quiet (fail)
      go_wp2
      go_ret2
      exact ⟨rfl, _, rfl⟩
    · have h3 : 12 < n := by omega
      go_enter Tryz.func57, Tryz.ntmps57
      go_wp2
      go_quiet (fail)
      go_wp2
      go_ret2
      exact ⟨rfl, _, rfl⟩
set_option maxRecDepth 100000 in
set_option maxHeartbeats 4000000 in
theorem powers_walk (n k : Nat) (w : World) (hk : 1 ≤ k) (hkn : k ≤ n) (hn : n ≤ 12) :
    Calls Tryz.prog 57 #[.int .i64 n, .int .i64 k] w fun e w' => (∃ v bs caps, e = .returned (.tuple #[v, .nilIface]) ∧ OwnM w.heap.size w' v n k bs caps Mx.vanderM) ∧ Below w.heap.size w w' := by
  have g1 : ¬ (k : Int) < 1 := by omega
  have g2 : ¬ (n : Int) < k := by omega
  have g3 : ¬ (12 : Int) < n := by omega
  go_enter Tryz.func57, Tryz.ntmps57
  go_wp2
  go_loopw [6, 25] (fun vo vi wr => ∃ (i : Nat) (bs cps : Nat → Nat), i ≤ n ∧ vi = .int .i64 i ∧ Hid (OwnM w.heap.size wr vo i k bs cps Mx.vanderM ∧ Below w.heap.size w wr)) (fun _ i _ => n - (intOf i).toNat)
  case atStart => exact ⟨0, fun _ => 0, fun _ => 0, by omega, rfl, Lib.hid ⟨OwnM.nil _ _ _ _ _ _, Below.refl _ _⟩⟩
  case round =>
    obtain ⟨i, bs, cps, hi, rfl, H⟩ := hrel
    have hi2 : i < n ∨ i = n := by omega
    rcases hi2 with hlt | rfl
    · have hlt2 : (i : Int) < n := by omega
      have hsz := H.out.2.size
      obtain ⟨wo, rfl⟩ : ∃ wo : World, wo = wr := ⟨_, rfl⟩
      go_wp2
      go_loopw [8, 29] (fun v vj wr => ∃ j : Nat, j ≤ k ∧ vj = .int .i64 j ∧ Hid (OwnB wo.heap.size wr v ((List.range j).map (Mx.vanderM i)) ∧ Below wo.heap.size wo wr)) (fun _ j _ => k - (intOf j).toNat)
      case atStart => exact ⟨0, by omega, rfl, Lib.hid ⟨OwnB.nil _ _, Below.refl _ _⟩⟩
      case round =>
        obtain ⟨j, hj, rfl, H2⟩ := hrel
        have hj2 : j < k ∨ j = k := by omega
        rcases hj2 with hjl | rfl
        · have hjl2 : (j : Int) < k := by omega
          have hp := pow_any i j wr (by omega) (by omega) (by omega) (by omega)
          rw [powZ_nat (by omega)] at hp
          have hv : Gf.pow i j = Mx.vanderM i j := by unfold Mx.vanderM; rw [Nat.mod_eq_of_lt (by omega)]
          rw [hv] at hp
          obtain ⟨x, hx⟩ : ∃ x, Mx.vanderM i j = x := ⟨_, rfl⟩
          rw [hx] at hp
          have Hp := Lib.hid hp
          have Hxx := Lib.hid hx
          have hl : ((List.range j).map (Mx.vanderM i)).length + 1 ≤ 140737488355328 := by simp; omega
          have hs2 := H2.out.2.size
          have hmod : (i : Int) % 256 = i := by omega
          clear hp hv hx
          go_wp2_with fail
          refine Hp.out.mono ?_
          rintro e w' ⟨rfl, rfl⟩
          go_wp2_with (at_builtin; refine append_byte 39 41 rfl rfl wo.heap.size _ _ x rfl rfl H2.out.1 hl hs2 ?_)
          intro v' w' k1 k2 k3
          have hb : Below wo.heap.size wo w' := (H2.out.2.alloc hs2 _).grown k2 (by simp; omega) (fun q e => (H2.out.1.lt q e).1)
          have hr : OwnB wo.heap.size w' v' ((List.range (j + 1)).map (Mx.vanderM i)) := by
            rw [List.range_succ, List.map_append, List.map_cons, List.map_nil, Hxx.out]; exact k1
          have HR := Lib.hid (And.intro hr hb)
          clear k1 k2 k3 hb hr
          go_wp2
          go_roundw
          case rel => exact ⟨j + 1, by omega, by go_num, HR⟩
          case measure => simp [intOf]; omega
        · obtain ⟨g, cg, hve, hg1, hg2, hg3, hg4, hrow⟩ := OwnB.copy H2.out.1 hk
          rw [hve]
          have hb3 : Below w.heap.size w wr := H.out.2.trans (H2.out.2.mono hsz)
          have hm2 : OwnM w.heap.size wr u6 i j bs cps Mx.vanderM := H.out.1.below H2.out.2 (Nat.le_refl _)
          have hne : ∀ i', i' < i → bs i' ≠ g := fun i' h e => by have := H.out.1.lt i' h; omega
          have hoff : u6.ownBlock ≠ some g := fun e => by have := (H.out.1.own.lt _ e).2; omega
          have hsz2 := hb3.size
          have hown := Lib.hid hm2.own
          have hul : ((List.range i).map fun i => Value.slice (some ⟨bs i, 0, none⟩) j (cps i)).length ≤ 1000000 := by simp; omega
          have Hx := Lib.hid (And.intro hm2 (And.intro hb3 (And.intro hne (And.intro hoff (And.intro hg1 (And.intro hg2 (And.intro hg3 (And.intro hg4 hrow))))))))
          clear hve hb3 hm2 hne hoff hg1 hg2 hg3 hg4 hrow
          go_wp2_with (at_builtin; refine append_rowv 44 46 rfl rfl w.heap.size _ _ (some ⟨g, 0, none⟩) j cg rfl rfl hown.out hul hsz2 ?_)
          intro v' w' k1 k2 k3
          obtain ⟨hm2, hb3, hne, hoff, hg1, hg2, hg3, hg4, hrow⟩ := Hx.out
          have hm3 := hm2.snoc hrow (by omega) hg2 hne hoff ⟨hg3, hg4⟩ k1 k2 k3
          have hb4 : Below w.heap.size w w' := (hb3.alloc hsz2 _).grown k2 (by simp; omega) (fun j e => (hm2.own.lt j e).1)
          have hm4 := hm3.congr (M' := Mx.vanderM) (fun i' hi' j hj => by
            unfold Mx.putR
            by_cases e : i' = i
            · rw [if_pos e, e]
            · rw [if_neg e])
          have HR := Lib.hid (And.intro hm4 hb4)
          clear hm2 hb3 hne hoff hg1 hg2 hg3 hg4 hrow hm3 hb4 hm4 k1 k2 k3 Hx hown
          go_wp2
          go_roundw
          case rel => exact ⟨i + 1, _, _, by omega, by go_num, HR⟩
          case measure => simp [intOf]; omega
    · go_wp2
      go_ret2
      exact ⟨⟨_, bs, cps, rfl, H.out.1⟩, H.out.2⟩
end Go.Proofs.YtabboioamdphmaaGreatDoor
/- Walks: matrix.Spread, the document's IsSpread; the law's unit. -/
namespace Go.Proofs.YtabboioamdphmaaGreatDoor
open Go.RowKit

structure ErrEz (w : World) (E : Nat → Addr) : Prop where
  c1 : w.cell? ⟨1, 0, none⟩ = some (errV (E 1))
  c2 : w.cell? ⟨2, 0, none⟩ = some (errV (E 2))
  c11 : w.cell? ⟨11, 0, none⟩ = some (errV (E 11))
theorem ErrEz.below {n : Nat} {w w' : World} {E : Nat → Addr} (hb : Below n w w') (hn : w.heap.size ≤ n) (h : ErrEz w E) : ErrEz w' E := by
  have c : ∀ {p v}, w.cell? p = some v → w'.cell? p = some v := fun {p v} h => (hb.cell (Nat.lt_of_lt_of_le (lt_of_cell h) hn)).trans h
  exact ⟨c h.c1, c h.c2, c h.c11⟩
theorem ErrEnv.ez {w : World} {E : Nat → Addr} (h : ErrEnv w E) : ErrEz w E := ⟨h.c1, h.c2, h.c11⟩

namespace Mx
theorem ker_wide {M : Nat → Nat → Nat} {n : Nat} {v : Nat → Nat} : Ker (wide M n) n n v ↔ Ker M n n v :=
  ⟨fun h i hi => by rw [← h i hi]; exact dot_congr (fun j hj => by unfold wide; rw [if_pos hj]) (fun _ _ => rfl), fun h i hi => by rw [← h i hi]; exact dot_congr (fun j hj => by unfold wide; rw [if_pos hj]) (fun _ _ => rfl)⟩
theorem inv_full {M G : Nat → Nat → Nat} {n done : Nat} {L : Nat → Nat} (hG : ByM G) (h : RR G n n done L) (hk : ∀ d v, By v → (Ker G n d v ↔ Ker (wide M n) n d v)) (h0 : ∀ v, By v → Ker M n n v → ∀ j, j < n → v j = 0) : done = n :=
  h.ech.full hG (fun v hv hK => h0 v hv (ker_wide.1 ((hk n v hv).1 (h.ker.1 hK))))
theorem vander_full {k : Nat} (hk : k ≤ 200) {v : Nat → Nat} (hv : By v) (h : Ker vanderM k k v) : ∀ j, j < k → v j = 0 :=
  vander (xs := fun i => i) hk (fun i hi => by omega) (fun _ _ _ _ e => e) hv (fun i hi => by
    have := h i hi
    unfold vanderM at this
    rwa [Nat.mod_eq_of_lt (show i < 256 by omega)] at this)
end Mx

set_option maxRecDepth 100000 in
set_option maxHeartbeats 2000000 in
theorem spread_walk (n k : Nat) (w : World) (E : Nat → Addr) (hE : ErrEz w E) (hk : 1 ≤ k) (hkn : k ≤ n) (hn : n ≤ 12) :
    Calls Tryz.prog 100 #[.int .i64 n, .int .i64 k] w fun e w' => (∃ v bs caps, e = .returned (.tuple #[v, .nilIface]) ∧ OwnM w.heap.size w' v n k bs caps (Mx.spr k)) ∧ Below w.heap.size w w' := by
  have HE := Lib.hid hE; clear hE
  go_enter Tryz.func100, Tryz.ntmps100
  go_wp2_with fail
  refine (powers_walk n k w hk hkn hn).mono ?_
  rintro e w1 ⟨⟨v, bs, cps, rfl, hm⟩, hb1⟩
  obtain ⟨g, cg, hve, hg1, hg2, hV⟩ := hm.mat (by omega)
  rw [hve]
  have hR := hV.read (by omega) (by omega)
  have hE1 := HE.out.below hb1 (Nat.le_refl _)
  have hi := invert_walk w1.heap.size g 0 k cg bs (fun _ => 0) cps Mx.vanderM w1 _ _ (Nat.le_refl _) hE1.c2 hE1.c11 (hR.some_ hkn) Mx.by_vander hk (by omega)
  have Hi := Lib.hid hi
  have H1 := Lib.hid (And.intro hR (And.intro hb1 hE1))
  have hg3 : (k : Int) ≤ cg := by omega
  clear hi hR hb1 hE1 hV hm hve
  go_wp2_with fail
  refine Hi.out.mono ?_
  rintro e w2 ⟨done, L, G, hby, hrr, hker, hb2, hres⟩
  have hd := Mx.inv_full hby hrr hker (fun v hv hK => Mx.vander_full (by omega) hv hK)
  subst hd
  rcases hres with ⟨hlt, _⟩ | ⟨_, v2, bs2, cps2, rfl, hm2⟩
  · omega
  obtain ⟨g', cg', hve, hg4, hg5, hV2⟩ := hm2.mat (by omega)
  rw [hve]
  obtain ⟨hR, hb1, hE1⟩ := H1.out
  have hinv : Mx.Inv Mx.vanderM (Mx.right G done) done := Mx.inverse_of Mx.by_vander hby hrr (fun v hv => hker _ v hv)
  have hR2 := (hR.below hb2).mono hb2.size
  have hX := hV2.read (by omega) (by omega)
  have hE2 := hE1.below hb2 (Nat.le_refl _)
  have ht := times_walk w2.heap.size g 0 n done cg g' 0 done cg' bs (fun _ => 0) cps bs2 (fun _ => 0) cps2 Mx.vanderM (Mx.right G done) w2 _ (Nat.le_refl _) hE2.c2 hR2 hX Mx.by_vander hinv.by_ (by omega) (by omega) hk (by omega) hk (by omega)
  have Ht := Lib.hid ht
  have H2 := Lib.hid (And.intro hinv (hb1.trans (hb2.mono hb1.size)))
  clear ht hinv hR hb1 hE1 hR2 hX hE2 hV2 hm2 hve hrr hker hby hb2 H1
  go_wp2_with fail
  refine Ht.out.mono ?_
  rintro e w3 ⟨⟨v3, bs3, cps3, rfl, hm3⟩, hb3⟩
  obtain ⟨hinv, hb2⟩ := H2.out
  have hm4 : OwnM w.heap.size w3 v3 n done bs3 cps3 (Mx.spr done) := (hm3.congr (fun i hi j hj => Mx.spread_is (by omega) hinv (show i < 256 by omega) hj)).lower hb2.size
  have H3 := Lib.hid (And.intro hm4 (hb2.trans (hb3.mono hb2.size)))
  clear hinv hb2 hm3 hm4 hb3 H2
  go_wp2
  go_ret2
  exact ⟨⟨v3, bs3, cps3, rfl, H3.out.1⟩, H3.out.2⟩

def isSpreadB (n k : Int) : Bool := decide (1 ≤ k ∧ k ≤ n ∧ n ≤ 12)
theorem isspread_walk (n k : Int) (w : World) :
    Calls Tryz.prog 37 #[.int .i64 n, .int .i64 k] w fun e w' => e = .returned (.bool (isSpreadB n k)) ∧ w = w' := by
  by_cases h1 : 1 ≤ k
  · by_cases h2 : k ≤ n
    · by_cases h3 : n ≤ 12
      · go_enter Tryz.func37, Tryz.ntmps37
        go_wp2
        go_ret
        exact ⟨by rw [show isSpreadB n k = true from decide_eq_true ⟨h1, h2, h3⟩]; rfl, rfl⟩
      · go_enter Tryz.func37, Tryz.ntmps37
        go_wp2
        go_ret
        exact ⟨by rw [show isSpreadB n k = false from decide_eq_false (by omega)]; rfl, rfl⟩
    · go_enter Tryz.func37, Tryz.ntmps37
      go_wp2
      go_ret
      exact ⟨by rw [show isSpreadB n k = false from decide_eq_false (by omega)]; rfl, rfl⟩
  · go_enter Tryz.func37, Tryz.ntmps37
    go_wp2
    go_ret
    exact ⟨by rw [show isSpreadB n k = false from decide_eq_false (by omega)]; rfl, rfl⟩

end Go.Proofs.YtabboioamdphmaaGreatDoor
/- The walk of the document's Between: the three ways; and the program's Between where it is an error. -/
namespace Go.Proofs.YtabboioamdphmaaGreatDoor
open Go.RowKit

theorem RowAt.drewN {n₀ : Nat} {w : World} {a : Option Addr} {l : List Nat} (n : Nat) (h : RowAt n₀ w a l) : RowAt n₀ (w.drewN n) a l := h

end Go.Proofs.YtabboioamdphmaaGreatDoor
/- Walks of the document's Times and SameMatrix; of the program's Times where they do not go together. -/
namespace Go.Proofs.YtabboioamdphmaaGreatDoor
open Go.RowKit

def rowText (f : Nat → Nat) (C : Nat) : List UInt8 := (List.range C).map fun j => UInt8.ofNat (f j)
theorem conv_row (w : World) (p o C cap : Nat) (f : Nat → Nat) (hf : ∀ j, f j < 256) (hc : ∀ j, j < C → w.cell? ⟨p, o + j, none⟩ = some (.int .u8 (f j : Nat))) :
    (convert 112 9 (.slice (some ⟨p, o, none⟩) C cap)).run Tryz.prog w = .ok (.string ⟨(rowText f C).toArray⟩) w := by
  have hl : (rowText f C).length = C := by simp [rowText]
  have h := run_convert_bytes_back (P := Tryz.prog) w 112 9 5 ⟨p, o, none⟩ cap (rowText f C) Tryz.underlying112 Tryz.underlying5 Tryz.underlying9 (fun j hj => by
    rw [Addr.add_lit, hc j (by rw [← hl]; exact hj)]
    have e : (rowText f C)[j] = UInt8.ofNat (f j) := by simp [rowText]
    rw [e, UInt8.toNat_ofNat_of_lt' (hf j)])
  rw [hl] at h
  exact h
end Go.Proofs.YtabboioamdphmaaGreatDoor
