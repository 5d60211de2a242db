/- Walks of the document's upTo and Spread; of both Times where they do not go together. -/
import Derived.Test.YtmaalkjimppnkaaDoorMatM
namespace Go.Proofs.YtmaalkjimppnkaaDoor
open Go.RowKit

set_option maxHeartbeats 1000000 in
theorem upto_walk (k : Nat) (w : World) (hk : k ≤ 255) :
    Calls Tryd.prog 145 #[.int .i64 k] w fun e w' => (∃ v, e = .returned v ∧ OwnB w.heap.size w' v (List.range k)) ∧ Below w.heap.size w w' := by
  go_enter Tryd.func145, Tryd.ntmps145
  go_wp2
  go_loopw [3, 4] (fun v vi wr => ∃ i : Nat, i ≤ k ∧ vi = .int .i64 i ∧ Hid (OwnB w.heap.size wr v (List.range i) ∧ Below w.heap.size w wr)) (fun _ i _ => k - (intOf i).toNat)
  case atStart => exact ⟨0, by omega, rfl, Lib.hid ⟨OwnB.nil _ _, Below.refl _ _⟩⟩
  case round =>
    obtain ⟨i, hi, rfl, H⟩ := hrel
    have hi2 : i < k ∨ i = k := by omega
    rcases hi2 with hlt | rfl
    · have hlt2 : (i : Int) < k := by omega
      have hmod : (i : Int) % 256 = i := by omega
      have hl : (List.range i).length + 1 ≤ 140737488355328 := by simp; omega
      have hs2 := H.out.2.size
      go_wp2_with (at_builtin; refine append_byte 10 13 rfl rfl w.heap.size _ _ i rfl rfl H.out.1 hl hs2 ?_)
      intro v' w' k1 k2 k3
      have hb : Below w.heap.size w w' := (H.out.2.alloc hs2 _).grown k2 (by simp; omega) (fun q e => (H.out.1.lt q e).1)
      have hr : OwnB w.heap.size w' v' (List.range (i + 1)) := by rw [List.range_succ]; exact k1
      have HR := Lib.hid (And.intro hr hb)
      clear k1 k2 k3 hb hr
      go_wp2
      go_roundw
      case rel => exact ⟨i + 1, by omega, by go_num, HR⟩
      case measure => simp [intOf]; omega
    · go_wp2
      go_ret
      exact ⟨⟨_, rfl, H.out.1⟩, H.out.2⟩

set_option maxRecDepth 100000 in
set_option maxHeartbeats 4000000 in
theorem rspread_walk (n k : Nat) (w : World) (hk : 1 ≤ k) (hkn : k ≤ n) (hn : n ≤ 12) :
    Calls Tryd.prog 103 #[.int .i64 n, .int .i64 k] w fun e w' => (∃ v bs caps, e = .returned v ∧ OwnM w.heap.size w' v n k bs caps (Mx.spr k)) ∧ Below w.heap.size w w' := by
  have hmk := fun (W : World) => run_make_row' (P := Tryd.prog) (w := W) 122 5 (.int .u8 0) 1 Tryd.underlying122 info_uint8 rfl .i64 .i64 k (by omega) (by omega)
  have Hmk := Lib.hid hmk
  clear hmk
  go_enter Tryd.func103, Tryd.ntmps103
  go_wp2_with fail
  refine (upto_walk k w (by omega)).mono ?_
  rintro e w1 ⟨⟨vx, rfl, hvx⟩, hb1⟩
  obtain ⟨ax, cx, hve, _, _, hIx⟩ := OwnB.row hvx
  rw [hve, List.length_range]
  have HX := Lib.hid hIx
  have HB1 := Lib.hid hb1
  have hsw := hb1.size
  clear hve hvx hIx hb1
  go_wp2
  go_loopw [6, 7] (fun vo vi wr => ∃ (i : Nat) (bs caps : Nat → Nat), i ≤ n ∧ vi = .int .i64 i ∧ Hid (OwnM w1.heap.size wr vo i k bs caps (Mx.spr k) ∧ Below w1.heap.size w1 wr)) (fun _ i _ => n - (intOf i).toNat)
  case atStart => exact ⟨0, fun _ => 0, fun _ => 0, by omega, rfl, Lib.hid ⟨OwnM.nil _ _ _ _ _ _, Below.refl _ _⟩⟩
  case round =>
    obtain ⟨i, bs, caps, hi, rfl, H⟩ := hrel
    have hi2 : i < n ∨ i = n := by omega
    rcases hi2 with hlt | rfl
    · have hlt2 : (i : Int) < n := by omega
      have hmk := Hmk.out wr
      obtain ⟨wo, rfl⟩ : ∃ wo : World, wo = wr := ⟨_, rfl⟩
      go_wp2
      have hsz := H.out.2.size
      have hrow := RowV.made wo k
      obtain ⟨W0, hW0⟩ : ∃ W0, (wo.alloc (.cells (madeCells #[.int .u8 0] k) 5)) = W0 := ⟨_, rfl⟩
      have hb0 : Below w1.heap.size w1 W0 := by rw [← hW0]; exact H.out.2.alloc hsz _
      have hm0 : OwnM w1.heap.size W0 u6 i k bs caps (Mx.spr k) := by rw [← hW0]; exact H.out.1.below ((Below.refl _ wo).alloc (Nat.le_refl _) _) (Nat.le_refl _)
      have hs0 : W0.heap.size = wo.heap.size + 1 := by rw [← hW0]; simp
      have hl0 : ∀ i', i' < i → bs i' ≠ wo.heap.size := fun i' h e => by have := H.out.1.lt i' h; omega
      have ho0 : u6.ownBlock ≠ some wo.heap.size := fun e => by have := (H.out.1.own.lt _ e).2; omega
      rw [hW0] at hrow ⊢
      obtain ⟨g, hg⟩ : ∃ g, wo.heap.size = g := ⟨_, rfl⟩
      rw [hg] at hrow hs0 hl0 ho0 hsz ⊢
      have Hx := Lib.hid (And.intro hrow (And.intro hb0 (And.intro hm0 (And.intro hs0 (And.intro hl0 ho0)))))
      clear hrow hb0 hm0 hs0 hl0 ho0 hW0 hg hmk
      go_loopw [9] (fun vt wr => ∃ j : Nat, j ≤ k ∧ vt = .int .i64 j ∧ Hid (OnlyB g W0 wr ∧ RowV wr g k (firstK j (Mx.spr k i) (fun _ => 0)))) (fun t _ => k - (intOf t).toNat)
      case atStart => exact ⟨0, by omega, rfl, Lib.hid ⟨OnlyB.refl _ _, Hx.out.1.congr fun j _ => by unfold firstK; rw [if_neg (by omega)]⟩⟩
      case round =>
        obtain ⟨j, hj, rfl, H2⟩ := hrel
        have hj2 : j < k ∨ j = k := by omega
        rcases hj2 with hjl | rfl
        · have hjl2 : (j : Int) < k := by omega
          have hmod : (i : Int) % 256 = i := by omega
          have hlr : (List.range k).length = k := List.length_range
          have hI2 : RowAt w1.heap.size wr ax (List.range k) := HX.out.below (Hx.out.2.1.trans (H2.out.1.below hsz))
          have hbs := basis_walk w1.heap.size ax cx (List.range k) j i wr (Mx.range_bytes (by omega)) (Mx.range_unlike k) (by omega) (by rw [hlr]; unfold maxLen; omega) (by rw [hlr]; exact hjl) hI2
          rw [hlr] at hbs
          have hnew : bas (List.range k) j i = Mx.spr k i j := rfl
          rw [hnew] at hbs
          have hxl := Mx.by_spr k i j
          obtain ⟨x, hxe⟩ : ∃ x, Mx.spr k i j = x := ⟨_, rfl⟩
          rw [hxe] at hbs hxl
          have hcD := H2.out.2.cell j hjl
          have hfr := H2.out.2.free j hjl
          have Hbs := Lib.hid hbs
          have Hxe := Lib.hid hxe
          clear hbs hxe hI2 hnew hlr
          go_wp2_with fail
          refine Hbs.out.mono ?_
          rintro e w' ⟨rfl, q, rfl⟩
          have hcD2 : (wr.drewN q).cell? ⟨g, j, none⟩ = some (.int .u8 (firstK j (Mx.spr k i) (fun _ => 0) j : Nat)) := hcD
          go_wp2
          go_roundw
          case rel =>
            refine ⟨j + 1, by omega, by go_num, Lib.hid ⟨?_, ?_⟩⟩
            · exact (H2.out.1.trans (OnlyB.drewN g wr q)).trans (OnlyB.setCell _ _ _ _)
            · refine (RowV.set (x := x) hjl (RowV.drewN q H2.out.2)).congr fun j' hj' => ?_
              unfold Mx.upd firstK
              by_cases e : j' = j
              · rw [if_pos e, if_pos (by omega), e]; exact Hxe.out.symm
              · rw [if_neg e]
                by_cases e2 : j' < j
                · rw [if_pos e2, if_pos (by omega)]
                · rw [if_neg e2, if_neg (by omega)]
          case measure => simp [intOf]; omega
        · obtain ⟨_, hb0, hm0, hs0, hl0, ho0⟩ := Hx.out
          have hm1 := hm0.only H2.out.1 hl0 ho0
          have hb1 := hb0.trans (H2.out.1.below hsz)
          have hgl : g < wr.heap.size := by have := H2.out.1.size; omega
          have hown := Lib.hid hm1.own
          have hul : ((List.range i).map fun i => Value.slice (some ⟨bs i, 0, none⟩) j (caps i)).length ≤ 1000000 := by simp; omega
          have hsz1 := hb1.size
          have hrowf := H2.out.2.congr (g := Mx.spr j i) (fun j' hj' => by unfold firstK; rw [if_pos hj'])
          have Hy := Lib.hid (And.intro hm1 (And.intro hb1 (And.intro hl0 (And.intro ho0 hrowf))))
          clear hb0 hm0 hs0 hl0 ho0 hm1 hb1 hrowf
          go_wp2_with (at_builtin; refine append_rowv 32 34 rfl rfl w1.heap.size _ _ (some ⟨g, 0, none⟩) j j rfl rfl hown.out hul hsz1 ?_)
          intro v' w' k1 k2 k3
          obtain ⟨hm1, hb1, hl0, ho0, hrowf⟩ := Hy.out
          have hm2 := hm1.snoc hrowf hsz hgl hl0 ho0 ⟨Nat.le_refl _, by unfold maxLen; omega⟩ k1 k2 k3
          have hb2 : Below w1.heap.size w1 w' := (hb1.alloc hsz1 _).grown k2 (by simp; omega) (fun j e => (hm1.own.lt j e).1)
          have hm3 := hm2.congr (M' := Mx.spr j) (fun i' hi' j hj => by
            unfold Mx.putR
            by_cases e : i' = i
            · rw [if_pos e, e]
            · rw [if_neg e])
          have HR := Lib.hid (And.intro hm3 hb2)
          clear hm1 hb1 hl0 ho0 hrowf hm2 hb2 hm3 k1 k2 k3 Hy hown
          go_wp2
          go_roundw
          case rel => exact ⟨i + 1, _, _, by omega, by go_num, HR⟩
          case measure => simp [intOf]; omega
    · go_wp2
      go_ret
      exact ⟨⟨_, bs, caps, rfl, H.out.1.lower hsw⟩, HB1.out.trans (H.out.2.mono hsw)⟩

/-- do two go together? -/
def Together (LA LB : List (List Nat)) : Prop := IsMat LA ∧ IsMat LB ∧ (LA[0]?.getD []).length = LB.length
set_option maxHeartbeats 1000000 in
theorem times_bad (n₀ : Nat) (aa ab : Option Addr) (ca cb : Nat) (LA LB : List (List Nat)) (w : World) (a2 : Addr) (hz : w.cell? ⟨5, 0, none⟩ = some (errV a2)) (hn : n₀ ≤ w.heap.size) (hA : RowsAt n₀ w aa LA) (hB : RowsAt n₀ w ab LB) (h : ¬ Together LA LB) :
    Calls Tryd.prog 135 #[.slice aa LA.length ca, .slice ab LB.length cb] w fun e w' => e = .returned (.tuple #[.slice none 0 0, errV a2]) ∧ Below w.heap.size w w' := by
  have HA := Lib.hid hA
  have HB := Lib.hid hB
  have Hz := Lib.hid hz
  obtain ⟨nA, hnA⟩ : ∃ n, LA.length = n := ⟨_, rfl⟩
  obtain ⟨nB, hnB⟩ : ∃ n, LB.length = n := ⟨_, rfl⟩
  have H := Lib.hid h
  by_cases h1 : IsMat LA
  · have hc1 := check_yes n₀ aa ca LA w _ hz hA h1
    by_cases h2 : IsMat LB
    · obtain ⟨b, off, p, o, caps, hae, hR⟩ := hA.mat h1
      have h3 : (LA[0]?.getD []).length ≠ LB.length := fun e => h ⟨h1, h2, e⟩
      have h4 := h1.n1
      have hc0 := hR.head 0 h4
      rw [Nat.add_zero] at hc0
      have hlo := hR.lo
      obtain ⟨c, hc⟩ : ∃ c, (LA[0]?.getD []).length = c := ⟨_, rfl⟩
      rw [hc] at hc0 h3
      have hne1 : ((c : Int) != (nB : Int)) = true := by simp; omega
      have hne2 : (c != nB) = true := by simp; omega
      have hn3 : (0 : Int) < nA := by omega
      rw [hnA] at hc1
      rw [hnA, hnB]
      rw [hae] at hc1 ⊢
      have Hc1 := Lib.hid hc1
      have Hx := Lib.hid (And.intro hnB h2)
      have Hc0 := Lib.hid hc0
      clear hA hB hz h h1 h2 hc1 hnA hnB hae hR hc hc0 h3
      go_enter Tryd.func135, Tryd.ntmps135
      go_wp2_with fail
      refine Hc1.out.mono ?_
      rintro e w1 ⟨rfl, hb1⟩
      have hz1 : w1.cell? ⟨5, 0, none⟩ = some (errV a2) := (hb1.cell (lt_of_cell Hz.out)).trans Hz.out
      have hc2 := check_yes n₀ ab cb LB w1 _ hz1 (HB.out.below (hb1.mono hn)) Hx.out.2
      rw [Hx.out.1] at hc2
      have Hc2 := Lib.hid hc2
      have HB1 := Lib.hid (And.intro hb1 hz1)
      clear hc2 hb1 hz1
      go_wp2_with fail
      refine Hc2.out.mono ?_
      rintro e w2 ⟨rfl, hb2⟩
      have hb3 := HB1.out.1.trans (hb2.mono HB1.out.1.size)
      have hz2 : w2.cell? ⟨5, 0, none⟩ = some (errV a2) := (hb3.cell (lt_of_cell Hz.out)).trans Hz.out
      have hc0 : w2.cell? ⟨b, off, none⟩ = some (.slice (some ⟨p 0, o 0, none⟩) c (caps 0)) := (hb3.cell (p := ⟨b, off, none⟩) (by show b < w.heap.size; omega)).trans Hc0.out
      have HB3 := Lib.hid hb3
      clear hb2 hb3 HB1
      go_wp2
      go_quiet (fail)
      go_wp2
      go_ret2
      exact ⟨rfl, HB3.out.trans (same_below' _ nq)⟩
    · rw [hnA] at hc1
      rw [hnA, hnB]
      have Hc1 := Lib.hid hc1
      have Hx := Lib.hid (And.intro hnB h2)
      clear hA hB hz h h1 h2 hc1 hnA hnB
      go_enter Tryd.func135, Tryd.ntmps135
      go_wp2_with fail
      refine Hc1.out.mono ?_
      rintro e w1 ⟨rfl, hb1⟩
      have hz1 : w1.cell? ⟨5, 0, none⟩ = some (errV a2) := (hb1.cell (lt_of_cell Hz.out)).trans Hz.out
      have hc2 := check_no n₀ ab cb LB w1 _ hz1 (HB.out.below (hb1.mono hn)) Hx.out.2
      rw [Hx.out.1] at hc2
      have Hc2 := Lib.hid hc2
      have HB1 := Lib.hid (And.intro hb1 hz1)
      clear hc2 hb1 hz1
      go_wp2_with fail
      refine Hc2.out.mono ?_
      rintro e w2 ⟨rfl, hb2⟩
      have hb3 := HB1.out.1.trans (hb2.mono HB1.out.1.size)
      have hz2 : w2.cell? ⟨5, 0, none⟩ = some (errV a2) := (hb3.cell (lt_of_cell Hz.out)).trans Hz.out
      have HB3 := Lib.hid hb3
      clear hb2 hb3 HB1
      go_wp2
      go_quiet (fail)
      go_wp2
      go_ret2
      exact ⟨rfl, HB3.out.trans (same_below' _ nq)⟩
  · have hc1 := check_no n₀ aa ca LA w _ hz hA h1
    rw [hnA] at hc1
    rw [hnA, hnB]
    have Hc1 := Lib.hid hc1
    clear hA hB hz h h1 hc1 hnA hnB
    go_enter Tryd.func135, Tryd.ntmps135
    go_wp2_with fail
    refine Hc1.out.mono ?_
    rintro e w1 ⟨rfl, hb1⟩
    have hz1 : w1.cell? ⟨5, 0, none⟩ = some (errV a2) := (hb1.cell (lt_of_cell Hz.out)).trans Hz.out
    have HB1 := Lib.hid hb1
    clear hb1
    go_wp2
    go_quiet (fail)
    go_wp2
    go_ret2
    exact ⟨rfl, HB1.out.trans (same_below' _ nq)⟩
end Go.Proofs.YtmaalkjimppnkaaDoor
