/- The walk of the law MatrixAny. -/
import Derived.Test.YtfojimaafhpgbaaDoorMatL
import Derived.Test.YtfojimaafhpgbaaDoorPick
import Derived.Test.YtfojimaafhpgbaaDoorEnv
namespace Go.Proofs.YtfojimaafhpgbaaDoor.matrixAny
open Go.RowKit

theorem spr_full {k : Nat} (hk : k ≤ 200) {xs : List Nat} (hl : xs.length = k) (hx : Bytes xs) (hu : Unlike xs) {v : Nat → Nat} (hv : Mx.By v) (h : Mx.Ker (fun i => Mx.spr k (xs[i]?.getD 0)) k k v) : ∀ j, j < k → v j = 0 := by
  intro j hj
  have h1 := Mx.back hk hl hx hu hv (show j < 256 by omega)
  rw [Mx.top_is hk hv hj] at h1
  rw [← h1, Mx.dot_congr (r' := fun i => bas xs i j) (v' := fun _ => 0) (fun _ _ => rfl) (fun i hi => h i hi)]
  have : ∀ c, Mx.dot (fun i => bas xs i j) (fun _ => 0) c = 0 := by
    intro c
    induction c with
    | zero => rfl
    | succ c ih => show Mx.dot _ _ c ^^^ Gf.mul _ 0 = 0; rw [ih, Gf.mul_zero]; rfl
  exact this k
theorem info_bool : (Tryd.prog.info? 4).map (fun i => (i.zero, i.size, i.bytes)) = some (some (.bool false), 1, 1) := by kernel_rfl

set_option maxHeartbeats 1000000 in
theorem walk_out (n k : Int) (ap : Option Addr) (len cap : Nat) (w : World) (E : Nat → Addr) (hE : ErrEz w E) (h : ¬ (1 ≤ k ∧ k ≤ n ∧ n ≤ 12 ∧ (len : Int) ≤ 40)) :
    Calls Tryd.prog 5 #[.int .i64 n, .int .i64 k, .slice ap len cap] w fun e w' => e = .returned (.bool true) ∧ Below w.heap.size w w' := by
  have Hu := Lib.hid (unit_walk w E hE)
  clear hE
  by_cases h1 : k < 1
  · clear h
    go_enter Tryd.func5, Tryd.ntmps5
    go_wp2_with fail
    refine Hu.out.mono ?_
    rintro e w1 ⟨rfl, hb⟩
    go_wp2
    go_ret
    exact ⟨rfl, hb⟩
  by_cases h2 : n < k
  · clear h
    go_enter Tryd.func5, Tryd.ntmps5
    go_wp2_with fail
    refine Hu.out.mono ?_
    rintro e w1 ⟨rfl, hb⟩
    go_wp2
    go_ret
    exact ⟨rfl, hb⟩
  by_cases h3 : 12 < n
  · clear h
    go_enter Tryd.func5, Tryd.ntmps5
    go_wp2_with fail
    refine Hu.out.mono ?_
    rintro e w1 ⟨rfl, hb⟩
    go_wp2
    go_ret
    exact ⟨rfl, hb⟩
  have h4 : (40 : Int) < len := by omega
  clear h
  go_enter Tryd.func5, Tryd.ntmps5
  go_wp2_with fail
  refine Hu.out.mono ?_
  rintro e w1 ⟨rfl, hb⟩
  go_wp2
  go_ret
  exact ⟨rfl, hb⟩

/-- the rows that were picked, as a matrix. -/
theorem picked_mat {B u n k n₀ g : Nat} {w : World} {v : Value} {bs cps : Nat → Nat} {ps us : List Nat} (hP : Picked 28 B w v u n (fun p => Value.slice (some ⟨bs p, 0, none⟩) k (cps p)) ps us)
    (hR : MatR n₀ w g 0 n k bs (fun _ => 0) cps (Mx.spr k)) (hn : n₀ ≤ w.heap.size) (hlt : ∀ q ∈ ps, q < n) (hl : ps.length = k) (hk : 1 ≤ k) :
    ∃ gr cap, v = .slice (some ⟨gr, 0, none⟩) k cap ∧ MatR w.heap.size w gr 0 k k (fun i => bs (ps[i]?.getD 0)) (fun _ => 0) (fun i => cps (ps[i]?.getD 0)) (fun i => Mx.spr k (ps[i]?.getD 0)) := by
  rcases hP.own.shape with ⟨_, e⟩ | ⟨gr, cap, e, _, hg, _, _, _, hcell⟩
  · have : ps = [] := by simpa using e
    rw [this] at hl; simp at hl; omega
  · rw [List.length_map] at e hcell
    rw [hl] at e hcell
    have hm : ∀ i, i < k → ps[i]?.getD 0 < n := fun i hi => by
      rw [List.getElem?_eq_getElem (by omega)]; exact hlt _ (List.getElem_mem _)
    refine ⟨gr, cap, e, hg, fun i hi => ?_, fun i hi => hR.cap _ (hm i hi), fun i hi => Nat.lt_of_lt_of_le (hR.plo _ (hm i hi)) hn, fun i hi j hj => hR.cell _ (hm i hi) j hj⟩
    rw [Nat.zero_add, hcell i hi, List.getElem?_map, List.getElem?_eq_getElem (by omega)]
    simp

set_option maxRecDepth 100000 in
set_option maxHeartbeats 8000000 in
theorem walk_in (n k : Nat) (ap : Option Addr) (len cap : Nat) (z : Nat → Int) (w : World) (E : Nat → Addr) (hE : ErrEz w E) (hk : 1 ≤ k) (hkn : k ≤ n) (hn : n ≤ 12) (hlen : len ≤ 40) (hz : IntsAt w.heap.size w ap len z) (hzb : ∀ j, -9223372036854775808 ≤ z j ∧ z j ≤ 9223372036854775807) :
    Calls Tryd.prog 5 #[.int .i64 n, .int .i64 k, .slice ap len cap] w fun e w' => e = .returned (.bool true) ∧ Below w.heap.size w w' := by
  have HE := Lib.hid hE
  have HZ := Lib.hid hz
  have HZb := Lib.hid hzb
  clear hE hz hzb
  have hmk := fun (W : World) => run_make_row' (P := Tryd.prog) (w := W) 36 4 (.bool false) 1 Tryd.underlying36 info_bool rfl .i64 .i64 n (by omega) (by omega)
  have Hmk := Lib.hid hmk
  clear hmk
  have g1 : ¬ (k : Int) < 1 := by omega
  have g2 : ¬ (n : Int) < k := by omega
  have g3 : ¬ (12 : Int) < n := by omega
  have g4 : ¬ (40 : Int) < len := by omega
  go_enter Tryd.func5, Tryd.ntmps5
  go_wp2_with fail
  refine (unit_walk w E HE.out).mono ?_
  rintro e w1 ⟨rfl, hb1⟩
  have H1 := Lib.hid hb1
  clear hb1
  go_wp2_with fail
  refine (spread_walk n k w1 E (HE.out.below H1.out (Nat.le_refl _)) hk hkn hn).mono ?_
  rintro e w2 ⟨⟨v, bs, cps, rfl, hm⟩, hb2⟩
  obtain ⟨g, cg, hve, hg1, hg2, hV⟩ := hm.mat (by omega)
  rw [hve]
  have hR := hV.read (by omega) (by omega)
  have hb3 : Below w.heap.size w w2 := H1.out.trans (hb2.mono H1.out.size)
  have hmk := Hmk.out w2
  have hbU : Below w2.heap.size w2 (w2.alloc (.cells (madeCells #[.bool false] n) 4)) := (Below.refl _ w2).alloc (Nat.le_refl _) _
  have hrow := World.rowIs_made w2 (.bool false) n 4
  have hP : Picked 28 w2.heap.size (w2.alloc (.cells (madeCells #[.bool false] n) 4)) (.slice none 0 0) w2.heap.size n (fun p => Value.slice (some ⟨bs p, 0, none⟩) k (cps p)) [] [] :=
    ⟨Own1.nil _ _ _, fun j hj => by rw [hrow.cell hj]; simp, fun j _ => hrow.frozen j, by simp [Value.ownBlock], by simp⟩
  have HP := Lib.hid (And.intro hP (And.intro hbU (And.intro hR hb3)))
  clear hP hbU hR hb3 hb2 hm hve hV hrow
  go_wp2
  clear hmk
  obtain ⟨u, hu⟩ : ∃ u, w2.heap.size = u := ⟨_, rfl⟩
  rw [hu] at HP ⊢
  have hwu : w.heap.size ≤ u := by rw [← hu]; exact HP.out.2.2.2.size
  have Hu2 := Lib.hid hu
  clear hu
  go_loopw [10, 12] (fun vo vi wr => ∃ (i : Nat) (ps : List Nat), i ≤ len ∧ vi = .int .i64 i ∧ Hid (Picked 28 u wr vo u n (fun p => Value.slice (some ⟨bs p, 0, none⟩) k (cps p)) ps ps ∧ Below u w2 wr ∧ PickI n k ps)) (fun _ i _ => len - (intOf i).toNat)
  case atStart => exact ⟨0, [], by omega, rfl, Lib.hid ⟨HP.out.1, HP.out.2.1, PickI.nil _ _⟩⟩
  case round =>
    obtain ⟨i, ps, hi, rfl, H⟩ := hrel
    obtain ⟨av, cv, hve, hcv⟩ := H.out.1.own.form
    rw [List.length_map] at hve
    have hle := H.out.2.2.le
    by_cases hgo : i < len ∧ ps.length < k
    · obtain ⟨hlt, hpl⟩ := hgo
      have hlt2 : (i : Int) < len := by omega
      have hpl2 : (ps.length : Int) < k := by omega
      have hpl3 : decide (ps.length < k) = true := by simpa using hpl
      have hbw : Below w.heap.size w wr := HP.out.2.2.2.trans (H.out.2.1.mono hwu)
      rcases HZ.out.below hbw with h0 | ⟨b, off, rfl, hb, hc⟩
      · omega
      have hzi := hc i hlt
      obtain ⟨y, hy⟩ : ∃ y, z i = y := ⟨_, rfl⟩
      rw [hy] at hzi
      have hyb := HZb.out i
      rw [hy] at hyb
      clear hc hy
      have hR := (HP.out.2.2.1.below ((H.out.2.1).mono (by have := Hu2.out; omega)))
      rw [hve]
      by_cases hin : 0 ≤ y ∧ y < n
      · obtain ⟨hy0, hyn⟩ := hin
        obtain ⟨p, rfl⟩ := Int.eq_ofNat_of_zero_le hy0
        have hp : p < n := by omega
        have hmk := H.out.1.mark p hp
        have hfr := H.out.1.free p hp
        by_cases hmem : p ∈ ps
        · have e1 : decide (p ∈ ps) = true := by simpa using hmem
          rw [e1] at hmk
          clear hR hmem
          go_wp2
          go_roundw
          case rel => exact ⟨i + 1, ps, by omega, by go_num, by rw [← hve]; exact H⟩
          case measure => simp [intOf]; omega
        · have e1 : decide (p ∈ ps) = false := by simpa using hmem
          rw [e1] at hmk
          have hne : g ≠ u := by have := hR.lo; have := Hu2.out; omega
          have hneb : b ≠ u := by omega
          have hho : OnlyB u wr (wr.setCell ⟨u, p, none⟩ (.bool true)) := OnlyB.setCell _ _ _ _
          have hz2 : (wr.setCell ⟨u, p, none⟩ (.bool true)).cell? ⟨b, off + i, none⟩ = some (.int .i64 (p : Int)) := (hho.cell (p := ⟨b, off + i, none⟩) hneb).trans hzi
          have hh2 : (wr.setCell ⟨u, p, none⟩ (.bool true)).cell? ⟨g, p, none⟩ = some (.slice (some ⟨bs p, 0, none⟩) k (cps p)) := by
            have := hR.head p hp
            rw [Nat.zero_add] at this
            exact (hho.cell (p := ⟨g, p, none⟩) hne).trans this
          have hPs := H.out.1.set hp
          have hul : (ps.map (fun p => Value.slice (some ⟨bs p, 0, none⟩) k (cps p))).length ≤ 1000000 := by simp; omega
          have hsz := (H.out.2.1).size
          have hB1 : Below u w2 (wr.setCell ⟨u, p, none⟩ (.bool true)) := H.out.2.1.setCell (p := ⟨u, p, none⟩) (Nat.le_refl _) _
          have hszu : u ≤ wr.heap.size := by have := Hu2.out; omega
          have hszu2 : u ≤ (wr.setCell ⟨u, p, none⟩ (.bool true)).heap.size := by have := hho.size; omega
          have hX := Lib.hid (And.intro hPs (And.intro hB1 (And.intro (H.out.2.2.snoc hp hmem hpl) hho.size)))
          have HV := Lib.hid hve
          rw [hve] at hPs
          have hown := Lib.hid hPs.own
          clear hR hmem hPs hB1 hho hve hz2 hh2
          have hz2 : (wr.setCell ⟨u, p, none⟩ (.bool true)).cell? ⟨b, off + i, none⟩ = some (.int .i64 (p : Int)) := by
            rw [World.cell?_setCell_other _ _ _ _ (fun he => hneb (Addr.mk.inj he).1.symm)]; exact hzi
          have hh2 : (wr.setCell ⟨u, p, none⟩ (.bool true)).cell? ⟨g, p, none⟩ = some (.slice (some ⟨bs p, 0, none⟩) k (cps p)) := by
            have h9 := (HP.out.2.2.1.below ((H.out.2.1).mono (by have := Hu2.out; omega))).head p hp
            rw [Nat.zero_add] at h9
            rw [World.cell?_setCell_other _ _ _ _ (fun he => hne (Addr.mk.inj he).1.symm)]; exact h9
          go_wp2_with (at_builtin; refine append_rowvH 96 104 rfl rfl u wr.heap.size _ _ (some ⟨bs p, 0, none⟩) k (cps p) hX.out.2.2.2 rfl rfl hown.out hul hszu2 ?_)
          intro v' w' k1 k2 k3
          obtain ⟨hPs, hB1, hI, hsq⟩ := hX.out
          rw [HV.out] at hPs
          have hP2 := hPs.append k1 k2 (by rw [hsq]; exact k3)
          have hB2 : Below u w2 w' := (hB1.alloc hszu2 _).grown k2 (by simp; omega) (fun j e => (hPs.own.lt j e).1)
          have HR := Lib.hid (And.intro hP2 (And.intro hB2 hI))
          clear hPs hB1 hI hsq hP2 hB2 k1 k2 k3 hX hown HV
          go_wp2
          go_roundw
          case rel => exact ⟨i + 1, _, by omega, by go_num, HR⟩
          case measure => simp [intOf]; omega
      · clear hR
        have hy2 : ¬ (0 ≤ y) ∨ (0 ≤ y ∧ ¬ (y < n)) := by omega
        clear hin
        rcases hy2 with hy2 | ⟨hy2, hy3⟩
        all_goals
          go_wp2
          go_roundw
          case rel => exact ⟨i + 1, ps, by omega, by go_num, by rw [← hve]; exact H⟩
          case measure => simp [intOf]; omega
    · have hcase : (¬ (i : Int) < len) ∨ ((i : Int) < len ∧ ¬ (ps.length : Int) < k) := by omega
      have hP0 : Picked 28 u wr (.slice av ps.length cv) u n (fun p => Value.slice (some ⟨bs p, 0, none⟩) k (cps p)) ps ps := by rw [← hve]; exact H.out.1
      have HQ := Lib.hid (And.intro hP0 (And.intro H.out.2.1 (PickJ.start H.out.2.2)))
      rw [hve]
      obtain ⟨us, hus⟩ : ∃ us, us = ps := ⟨_, rfl⟩
      have HQ2 : Hid (Picked 28 u wr (.slice av ps.length cv) u n (fun p => Value.slice (some ⟨bs p, 0, none⟩) k (cps p)) ps us ∧ Below u w2 wr ∧ PickJ n k 0 ps us) := by rw [hus]; exact HQ
      obtain ⟨wx, hwx⟩ : ∃ wx : World, wx = wr := ⟨_, rfl⟩
      clear hP0 HQ H hgo hve hus hwx
      rcases hcase with h1 | ⟨h1, h2⟩
      all_goals
        go_wp2
        go_loopw [10, 13] (fun vo vi wr => ∃ (i : Nat) (qs : List Nat), i ≤ n ∧ vi = .int .i64 i ∧ Hid (Picked 28 u wr vo u n (fun p => Value.slice (some ⟨bs p, 0, none⟩) k (cps p)) qs us ∧ Below u w2 wr ∧ PickJ n k i qs us)) (fun _ i _ => n - (intOf i).toNat)
        case atStart => exact ⟨0, ps, by omega, rfl, HQ2⟩
        case round =>
          clear h1
          obtain ⟨i2, qs, hi2, rfl, H2⟩ := hrel
          obtain ⟨av2, cv2, hve2, _⟩ := H2.out.1.own.form
          rw [List.length_map] at hve2
          have hle2 := H2.out.2.2.base.le
          have hR := (HP.out.2.2.1.below ((H2.out.2.1).mono (by have := Hu2.out; omega)))
          by_cases hgo : i2 < n ∧ qs.length < k
          · obtain ⟨hlt, hpl⟩ := hgo
            have hlt2 : (i2 : Int) < n := by omega
            have hpl2 : (qs.length : Int) < k := by omega
            have hpl3 : decide (qs.length < k) = true := by simpa using hpl
            have hmk := H2.out.1.mark i2 hlt
            have hh2 := hR.head i2 hlt
            rw [Nat.zero_add] at hh2
            by_cases hmem : i2 ∈ us
            · have e1 : decide (i2 ∈ us) = true := by simpa using hmem
              rw [e1] at hmk
              have hJ := Lib.hid (H2.out.2.2.skip hmem)
              clear hmem hR
              rw [hve2]
              go_wp2
              go_roundw
              case rel => exact ⟨i2 + 1, qs, by omega, by go_num, by rw [← hve2]; exact Lib.hid ⟨H2.out.1, H2.out.2.1, hJ.out⟩⟩
              case measure => simp [intOf]; omega
            · have e1 : decide (i2 ∈ us) = false := by simpa using hmem
              rw [e1] at hmk
              have hJ := H2.out.2.2.snoc hmem hlt hpl
              have hul : (qs.map (fun p => Value.slice (some ⟨bs p, 0, none⟩) k (cps p))).length ≤ 1000000 := by simp; omega
              have hsz := (H2.out.2.1).size
              have hszu : u ≤ wr.heap.size := by have := Hu2.out; omega
              have hPs := H2.out.1
              rw [hve2] at hPs
              have hown := Lib.hid hPs.own
              have hX := Lib.hid (And.intro hPs (And.intro H2.out.2.1 hJ))
              rw [hve2]
              clear hmem hR hPs hJ hve2 H2
              go_wp2_with (at_builtin; refine append_rowv 122 127 rfl rfl u _ _ (some ⟨bs i2, 0, none⟩) k (cps i2) rfl rfl hown.out hul hszu ?_)
              intro v' w' k1 k2 k3
              obtain ⟨hPs, hB1, hJ⟩ := hX.out
              have hP2 := hPs.append k1 k2 k3
              have hB2 : Below u w2 w' := (hB1.alloc hszu _).grown k2 (by simp; omega) (fun j e => (hPs.own.lt j e).1)
              have HR := Lib.hid (And.intro hP2 (And.intro hB2 hJ))
              clear hPs hB1 hJ hP2 hB2 k1 k2 k3 hX hown
              go_wp2
              go_roundw
              case rel => exact ⟨i2 + 1, _, by omega, by go_num, HR⟩
              case measure => simp [intOf]; omega
          · have hql := H2.out.2.2.done hkn (by omega)
            have hszu : u ≤ wr.heap.size := by have := Hu2.out; have := H2.out.2.1.size; omega
            obtain ⟨gr, cr, hve3, hMt⟩ := picked_mat H2.out.1 hR (by have := Hu2.out; omega) H2.out.2.2.base.lt hql hk
            have hbw : Below w.heap.size w wr := HP.out.2.2.2.trans (H2.out.2.1.mono hwu)
            have hEr := HE.out.below hbw (Nat.le_refl _)
            have hby : Mx.ByM (fun i => Mx.spr k (qs[i]?.getD 0)) := fun i => Mx.by_spr k _
            have hfull : ∀ v, Mx.By v → Mx.Ker (fun i => Mx.spr k (qs[i]?.getD 0)) k k v → ∀ j, j < k → v j = 0 := fun v hv hK =>
              spr_full (by omega) hql (fun x hx => by have := H2.out.2.2.base.lt x hx; omega) (unlike_of_nodup H2.out.2.2.base.nd) hv hK
            have hrk := Lib.hid (rank_walk wr.heap.size gr 0 k k cr _ _ _ _ wr _ (Nat.le_refl _) hEr.c2 hMt hby hk (by omega) hk (by omega))
            have HF := Lib.hid (And.intro hMt (And.intro hbw (And.intro hEr (And.intro hby (And.intro hfull hql)))))
            have hcase : (¬ (i2 : Int) < n) ∨ ((i2 : Int) < n ∧ ¬ (qs.length : Int) < k) := by omega
            rw [hve3]
            have hkk : ¬ (k : Int) < k := by omega
            have hkk2 : decide (k < k) = false := by simp
            clear hMt hbw hEr hby hfull hql hgo hve2 hve3 H2 hR hle2
            rcases hcase with h3 | ⟨h3, _⟩
            all_goals
              go_wp2_with fail
              refine hrk.out.mono ?_
              rintro e w4 ⟨done, L, G, rfl, hbG, hrr, hker, hb4⟩
              obtain ⟨hMt, hbw, hEr, hby, hfull, hql⟩ := HF.out
              have hd : done = k := hrr.ech.full hbG (fun v hv hK => hfull v hv ((hker v hv).1 (hrr.ker.1 hK)))
              subst hd
              have hE4 := hEr.below hb4 (Nat.le_refl _)
              have hiv := Lib.hid (invert_walk wr.heap.size gr 0 done cr _ _ _ _ w4 _ _ hb4.size hE4.c2 hE4.c11 (hMt.below hb4) hby hk (by omega))
              have HG := Lib.hid (And.intro (hbw.trans (hb4.mono hbw.size)) hfull)
              clear hMt hbw hEr hby hfull hql hbG hrr hker hb4 hE4
              go_wp2_with fail
              refine hiv.out.mono ?_
              rintro e w5 ⟨done', L', G', hbG, hrr, hker, hb5, hres⟩
              have hd := Mx.inv_full hbG hrr hker HG.out.2
              have hb6 := HG.out.1.trans (hb5.mono HG.out.1.size)
              rcases hres with ⟨hlt, _⟩ | ⟨_, v2, bs2, cps2, rfl, _⟩
              · omega
              clear hd hbG hrr hker hb5 hiv
              go_wp2
              go_ret
              exact ⟨rfl, hb6⟩

theorem ez_of_laid {W : World} (h : laidMetH Tryd.prog Rows.matrixAnyRow.laid W) : ∃ E, ErrEz W E := by
  obtain ⟨a1, h1⟩ := err_of_laid h (n := "shardkeep/api.ErrBound") (g := 1) (text := errText 1) (List.mem_cons_self) (by kernel_rfl) (by kernel_rfl)
  obtain ⟨a2, h2⟩ := err_of_laid h (n := "shardkeep/api.ErrShape") (g := 2) (text := errText 2) (List.mem_cons_of_mem _ List.mem_cons_self) (by kernel_rfl) (by kernel_rfl)
  obtain ⟨a3, h3⟩ := err_of_laid h (n := "shardkeep/api.ErrZero") (g := 11) (text := errText 11) (List.mem_cons_of_mem _ (List.mem_cons_of_mem _ List.mem_cons_self)) (by kernel_rfl) (by kernel_rfl)
  exact ⟨fun i => if i = 1 then a1 else if i = 2 then a2 else a3, h1.cell, h2.cell, h3.cell⟩

theorem walk (n k : Int) (ap : Option Addr) (len cap : Nat) (zs : List Int) (w : World) (w0 : (Lit.int .i64 n).wf = true) (w1 : (Lit.int .i64 k).wf = true) (w2 : IsRow .i64 w ap len cap zs) (hL : laidMetH Tryd.prog Rows.matrixAnyRow.laid w) :
    Calls Tryd.prog 5 #[.int .i64 n, .int .i64 k, .slice ap len cap] w fun e w' => e = .returned (.bool true) ∧ Below w.heap.size w w' := by
  obtain ⟨E, hE⟩ := ez_of_laid hL
  obtain ⟨z, hz, hzb, _, _⟩ := ints_of_isRow w2
  by_cases h : 1 ≤ k ∧ k ≤ n ∧ n ≤ 12 ∧ (len : Int) ≤ 40
  · obtain ⟨k, rfl⟩ := Int.eq_ofNat_of_zero_le (show 0 ≤ k by omega)
    obtain ⟨n, rfl⟩ := Int.eq_ofNat_of_zero_le (show 0 ≤ n by omega)
    exact walk_in n k ap len cap z w E hE (by omega) (by omega) (by omega) (by omega) hz hzb
  · exact walk_out n k ap len cap w E hE h
end Go.Proofs.YtfojimaafhpgbaaDoor.matrixAny
