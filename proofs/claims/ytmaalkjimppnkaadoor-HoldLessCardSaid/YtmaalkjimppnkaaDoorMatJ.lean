/- The walk of matrix.Invert. -/
import Derived.Test.YtmaalkjimppnkaaDoorMatI
namespace Go.Proofs.YtmaalkjimppnkaaDoor
open Go.RowKit

/-- not square, or no matrix: told before anything. -/
theorem wide_upd {M : Nat → Nat → Nat} {n i : Nat} (j : Nat) : Mx.upd (fun j => (((List.range n).map (M i)) ++ List.replicate n 0)[j]?.getD 0) (n + i) 1 j = Mx.wide M n i j := by
  unfold Mx.upd Mx.wide
  by_cases e : j = n + i
  · rw [if_pos e, if_neg (by omega), if_pos e]
  · rw [if_neg e]
    by_cases e2 : j < n
    · rw [if_pos e2]
      show (List.map (M i) (List.range n) ++ List.replicate n 0)[j]?.getD 0 = M i j
      rw [List.getElem?_append_left (by simpa using e2)]
      simp [e2]
    · rw [if_neg e2, if_neg e]
      show (List.map (M i) (List.range n) ++ List.replicate n 0)[j]?.getD 0 = 0
      rw [List.getElem?_append_right (by simp; omega), List.getElem?_replicate]
      split <;> rfl
/-- what matrix.Invert answers of a square one. -/
def InvOut (w w' : World) (n : Nat) (M : Nat → Nat → Nat) (ez : Value) (e : Ending) : Prop := ∃ done L G, Mx.ByM G ∧ Mx.RR G n n done L ∧ (∀ d v, Mx.By v → (Mx.Ker G n d v ↔ Mx.Ker (Mx.wide M n) n d v)) ∧ Below w.heap.size w w' ∧
  ((done < n ∧ e = .returned (.tuple #[.slice none 0 0, ez])) ∨ (done = n ∧ ∃ v bs caps, e = .returned (.tuple #[v, .nilIface]) ∧ OwnM w.heap.size w' v n n bs caps (Mx.right G n)))
set_option maxRecDepth 100000 in
set_option maxHeartbeats 8000000 in
theorem invert_walk (n₀ b off n cap : Nat) (p o caps : Nat → Nat) (M : Nat → Nat → Nat) (w : World) (z ez : Value) (hn₀ : n₀ ≤ w.heap.size) (hz : w.cell? ⟨5, 0, none⟩ = some z) (hez : w.cell? ⟨11, 0, none⟩ = some ez)
    (hM : MatR n₀ w b off n n p o caps M) (bM : Mx.ByM M) (hn : 1 ≤ n) (hn2 : n ≤ 16) :
    Calls Tryd.prog 94 #[.slice (some ⟨b, off, none⟩) n cap] w fun e w' => InvOut w w' n M ez e := by
  have HM := Lib.hid hM
  have Hz := Lib.hid hz
  have Hez := Lib.hid hez
  clear hM hz hez
  go_enter Tryd.func94, Tryd.ntmps94
  go_wp2_with fail
  refine (check_mat n₀ b off n n cap p o caps M w z Hz.out HM.out hn hn2 hn hn2).mono ?_
  rintro e w1 ⟨rfl, hb1⟩
  have h0 := (HM.out.below (hb1.mono hn₀)).head 0 (by omega)
  rw [Nat.add_zero] at h0
  have hn3 : (0 : Int) < n := by omega
  have Hb1 := Lib.hid hb1
  clear hb1
  go_wp2
  clear h0
  go_loopw [5, 29] (fun vo vi wr => ∃ (i : Nat) (bs cps : Nat → Nat), i ≤ n ∧ vi = .int .i64 i ∧ Hid (OwnM w.heap.size wr vo i (n + n) bs cps (Mx.wide M n) ∧ Below w.heap.size w wr)) (fun _ i _ => n - (intOf i).toNat)
  case atStart => exact ⟨0, fun _ => 0, fun _ => 0, by omega, rfl, Lib.hid ⟨OwnM.nil _ _ _ _ _ _, Hb1.out⟩⟩
  case round =>
    obtain ⟨i, bs, cps, hi, rfl, H⟩ := hrel
    have hi2 : i < n ∨ i = n := by omega
    rcases hi2 with hlt | hin
    · have hlt2 : (i : Int) < n := by omega
      have hR := HM.out.below (H.out.2.mono hn₀)
      have hsz := H.out.2.size
      have h1 := hR.head i hlt
      have hcl := Lib.hid (clone_row n₀ (p i) (o i) n (caps i) (M i) wr (hR.plo i hlt) (by omega) hn (by omega) (hR.cell i hlt))
      clear hR
      go_wp2_with fail
      refine hcl.out.mono ?_
      rintro e w2 ⟨⟨v, rfl, hv⟩, hb2⟩
      have hl : ((List.range n).map (M i)).length = n := by simp
      have hsz2 := hb2.size
      have Hv := Lib.hid (And.intro hv (And.intro hb2 hl))
      clear hv hb2 hl hcl h1
      go_wp2_with (at_builtin; refine append_zeros 35 36 rfl rfl wr.heap.size _ _ n hn (by rw [Hv.out.2.2]; exact hn) rfl rfl Hv.out.1 (by rw [Hv.out.2.2]; omega) hsz2 ?_)
      intro v1 w3 g1 g2 g3
      obtain ⟨hv, hb2, hl⟩ := Hv.out
      have hl2 : (((List.range n).map (M i)) ++ List.replicate n 0).length = n + n := by simp
      obtain ⟨g, cg, hve, f1, f2, f3, f4, hrow⟩ := g1.rowV (by rw [hl2]; omega)
      rw [hl2] at hve f3 hrow
      rw [hve]
      have hb3 : Below wr.heap.size wr w3 := hb2.grown g2 hsz2 (fun j e => (hv.lt j e).1)
      have hb4 : Below w.heap.size w w3 := H.out.2.trans (hb3.mono hsz)
      have hm3 : OwnM w.heap.size w3 u5 i (n + n) bs cps (Mx.wide M n) := H.out.1.below hb3 (Nat.le_refl _)
      have hne : ∀ i', i' < i → bs i' ≠ g := fun i' h e => by have := H.out.1.lt i' h; omega
      have hoff : u5.ownBlock ≠ some g := fun e => by have := (H.out.1.own.lt _ e).2; omega
      have hcell := hrow.cell (n + i) (by omega)
      have hfree := hrow.free (n + i) (by omega)
      have hidx1 : (0 : Int) ≤ (n : Int) + i := by omega
      have hidx2 : (n : Int) + i < (n : Int) + n := by omega
      have hidx3 : (n : Int) + i < ((n + n : Nat) : Int) := by omega
      have hm4 : OwnM w.heap.size (w3.setCell ⟨g, n + i, none⟩ (.int .u8 1)) u5 i (n + n) bs cps (Mx.wide M n) := hm3.only (OnlyB.setCell _ _ _ _) hne hoff
      have hb5 : Below w.heap.size w (w3.setCell ⟨g, n + i, none⟩ (.int .u8 1)) := hb4.setCell (p := ⟨g, n + i, none⟩) (by show w.heap.size ≤ g; omega) _
      have hrow4 : RowV (w3.setCell ⟨g, n + i, none⟩ (.int .u8 1)) g (n + n) (Mx.wide M n i) := (RowV.set (x := 1) (show n + i < n + n by omega) hrow).congr (fun j _ => wide_upd j)
      have hg4 : g < (w3.setCell ⟨g, n + i, none⟩ (.int .u8 1)).heap.size := by have := (OnlyB.setCell g (n + i) w3 (.int .u8 1)).size; omega
      have hsz5 := hb5.size
      have hszw := hb4.size
      have hsq := Lib.hid ((OnlyB.setCell g (n + i) w3 (.int .u8 1)).size)
      have hown := Lib.hid hm4.own
      have hul : ((List.range i).map fun i => Value.slice (some ⟨bs i, 0, none⟩) (n + n) (cps i)).length ≤ 1000000 := by simp; omega
      have Hx := Lib.hid (And.intro hm4 (And.intro hb5 (And.intro hne (And.intro hoff (And.intro f1 (And.intro hg4 (And.intro f3 (And.intro f4 hrow4))))))))
      clear hv hb2 hl hl2 g1 g2 g3 hve f1 f2 f3 f4 hrow hb3 hb4 hm3 hne hoff Hv hsz2 hm4 hb5 hrow4 hg4
      go_wp2_with (at_builtin; refine append_rowvH 43 45 rfl rfl w.heap.size w3.heap.size _ _ (some ⟨g, 0, none⟩) (n + n) cg hsq.out rfl rfl hown.out hul hsz5 ?_)
      intro v' w' k1 k2 k3
      obtain ⟨hm2, hb3, hne, hoff, hg1, hg2, hg3, hg4, hrow⟩ := Hx.out
      have hm3 := hm2.snoc hrow (by omega) hg2 hne hoff ⟨hg3, hg4⟩ k1 k2 (by rw [hsq.out]; exact k3)
      have hb4 : Below w.heap.size w w' := (hb3.alloc hsz5 _).grown k2 (by simp; omega) (fun j e => (hm2.own.lt j e).1)
      have hm4 := hm3.congr (M' := Mx.wide M n) (fun i' hi' j hj => by
        unfold Mx.putR
        by_cases e : i' = i
        · rw [if_pos e, e]
        · rw [if_neg e])
      have HR := Lib.hid (And.intro hm4 hb4)
      clear hm2 hb3 hne hoff hg1 hg2 hg3 hg4 hrow hm3 hb4 hm4 k1 k2 k3 Hx hown hcell hfree hidx1 hidx2 hidx3
      go_wp2
      go_roundw
      case rel => exact ⟨i + 1, _, _, by omega, by go_num, HR⟩
      case measure => simp [intOf]; omega
    · subst hin
      obtain ⟨g, cg, hve, hg3, hg4, hV⟩ := H.out.1.mat (by omega)
      rw [hve]
      have hB := H.out.2
      have hred := Lib.hid (reduced_walk w.heap.size g i (i + i) i cg bs cps (Mx.wide M i) wr hB.size (by omega) (by omega) (by omega) (by omega) (by omega) hg3 (Mx.by_wide bM i) hV)
      have HB := Lib.hid hB
      clear hve hV hB
      go_wp2_with fail
      refine hred.out.mono ?_
      rintro e w2 ⟨done, L, bs', caps', G, rfl, hb, hV2, hby, hrr, hk⟩
      have hdn := hrr.le
      have hb2 : Below w.heap.size w w2 := HB.out.trans hb
      have hez : w2.cell? ⟨11, 0, none⟩ = some ez := (hb2.cell (lt_of_cell Hez.out)).trans Hez.out
      have Hy := Lib.hid (And.intro hb2 (And.intro hby (And.intro hrr (And.intro hk hV2))))
      clear hb hb2 hby hrr hk hV2 hred
      by_cases hd : done < i
      · have hd2 : (done : Int) < i := by omega
        go_wp2
        go_quiet (fail)
        go_wp2
        go_ret2
        obtain ⟨hb2, hby, hrr, hk, _⟩ := Hy.out
        exact ⟨done, L, G, hby, hrr, hk, hb2.trans (same_below' _ nq), .inl ⟨hd, rfl⟩⟩
      · have hd2 : ¬ (done : Int) < i := by omega
        obtain rfl : done = i := by omega
        clear hez
        obtain ⟨wz, rfl⟩ : ∃ wz : World, wz = wr := ⟨_, rfl⟩
        go_wp2
        go_loopw [9, 56] (fun vo vi wr => ∃ (k : Nat) (bs2 cps2 : Nat → Nat), k ≤ done ∧ vi = .int .i64 k ∧ Hid (OwnM w2.heap.size wr vo k done bs2 cps2 (Mx.right G done) ∧ Below w2.heap.size w2 wr)) (fun _ i _ => done - (intOf i).toNat)
        case atStart => exact ⟨0, fun _ => 0, fun _ => 0, by omega, rfl, Lib.hid ⟨OwnM.nil _ _ _ _ _ _, Below.refl _ _⟩⟩
        case round =>
          obtain ⟨k, bs2, cps2, hk, rfl, H2⟩ := hrel
          have hk2 : k < done ∨ k = done := by omega
          rcases hk2 with hlt | rfl
          · have hlt2 : (k : Int) < done := by omega
            have hV := Hy.out.2.2.2.2
            have hltV := hV.lt (by omega) (by omega)
            have hV3 := hV.keep (w' := wr) (fun b hb => H2.out.2.block b (hltV b hb))
            have h1 := hV3.head k hlt
            have hcp := (hV.cap k hlt).1
            have hpl := hltV (bs' k) (.inr ⟨k, hlt, rfl⟩)
            have hsz := H2.out.2.size
            obtain ⟨cq, hcq⟩ : ∃ cq, caps' k = cq := ⟨_, rfl⟩
            rw [hcq] at h1 hcp
            have hcq2 : ¬ cq = done := by omega
            have hcl := Lib.hid (clone_row w2.heap.size (bs' k) done done (cq - done) (Mx.right G done k) wr hpl hsz hn (by omega) (fun j hj => (hV3.row k hlt).cell (done + j) (by omega)))
            clear hV hV3 hltV hcq
            go_wp2_with fail
            refine hcl.out.mono ?_
            rintro e w3 ⟨⟨v, rfl, hv⟩, hb2⟩
            obtain ⟨g2, cg2, hve, hg1, hg2, hg3, hg4, hrow⟩ := OwnB.copy hv hn
            rw [hve]
            have hb3 : Below w2.heap.size w2 w3 := H2.out.2.trans (hb2.mono hsz)
            have hm2 : OwnM w2.heap.size w3 u9 k done bs2 cps2 (Mx.right G done) := H2.out.1.below hb2 (Nat.le_refl _)
            have hne : ∀ i', i' < k → bs2 i' ≠ g2 := fun i' h e => by have := H2.out.1.lt i' h; omega
            have hoff : u9.ownBlock ≠ some g2 := fun e => by have := (H2.out.1.own.lt _ e).2; omega
            have hsz2 := hb3.size
            have hown := Lib.hid hm2.own
            have hul : ((List.range k).map fun i => Value.slice (some ⟨bs2 i, 0, none⟩) done (cps2 i)).length ≤ 1000000 := by simp; omega
            have Hx := Lib.hid (And.intro hm2 (And.intro hb3 (And.intro hne (And.intro hoff (And.intro hg1 (And.intro hg2 (And.intro hg3 (And.intro hg4 hrow))))))))
            clear hve hv hb2 hb3 hm2 hne hoff hg1 hg2 hg3 hg4 hrow hcl h1
            go_wp2_with (at_builtin; refine append_rowv 60 65 rfl rfl w2.heap.size _ _ (some ⟨g2, 0, none⟩) done cg2 rfl rfl hown.out hul hsz2 ?_)
            intro v' w' k1 k2 k3
            obtain ⟨hm2, hb3, hne, hoff, hg1, hg2, hg3, hg4, hrow⟩ := Hx.out
            have hm3 := hm2.snoc hrow (by omega) hg2 hne hoff ⟨hg3, hg4⟩ k1 k2 k3
            have hb4 : Below w2.heap.size w2 w' := (hb3.alloc hsz2 _).grown k2 (by simp; omega) (fun j e => (hm2.own.lt j e).1)
            have hm4 := hm3.congr (M' := Mx.right G done) (fun i' hi' j hj => by
              unfold Mx.putR
              by_cases e : i' = k
              · rw [if_pos e, e]
              · rw [if_neg e])
            have HR := Lib.hid (And.intro hm4 hb4)
            clear hm2 hb3 hne hoff hg1 hg2 hg3 hg4 hrow hm3 hb4 hm4 k1 k2 k3 Hx hown
            go_wp2
            go_roundw
            case rel => exact ⟨k + 1, _, _, by omega, by go_num, HR⟩
            case measure => simp [intOf]; omega
          · go_wp2
            go_ret2
            obtain ⟨hb2, hby, hrr, hkk, _⟩ := Hy.out
            exact ⟨k, L, G, hby, hrr, hkk, hb2.trans (H2.out.2.mono hb2.size), .inr ⟨rfl, _, bs2, cps2, rfl, H2.out.1.lower hb2.size⟩⟩
end Go.Proofs.YtmaalkjimppnkaaDoor
