/- The walk of the law CoderAny. -/
import Derived.Test.YtfojimaafhpgbaaDoorCodL
import Derived.Test.YtfojimaafhpgbaaDoorEnv
namespace Go.Proofs.YtfojimaafhpgbaaDoor.coderAny
open Go.RowKit

theorem info_bool : (Tryd.prog.info? 4).map (fun i => (i.zero, i.size, i.bytes)) = some (some (.bool false), 1, 1) := by kernel_rfl

set_option maxRecDepth 100000 in
set_option maxHeartbeats 1000000 in
theorem walk_out (n k : Int) (s : ByteArray) (ap : Option Addr) (len cap : Nat) (y : Int) (w : World) (E : Nat → Addr) (hE : ErrEz w E) (h : ¬ (1 ≤ k ∧ k ≤ n ∧ n ≤ 12 ∧ s.size ≤ 100 ∧ (len : Int) ≤ 40 ∧ 0 ≤ y ∧ y < n)) :
    Calls Tryd.prog 18 #[.int .i64 n, .int .i64 k, .string s, .slice ap len cap, .int .i64 y] w fun e w' => e = .returned (.bool true) ∧ Below w.heap.size w w' := by
  have Hu := Lib.hid (single_walk w E hE)
  clear hE
  by_cases h1 : k < 1
  · clear h
    go_enter Tryd.func18, Tryd.ntmps18
    go_wp2_with fail
    refine Hu.out.mono ?_
    rintro e w1 ⟨rfl, hb⟩
    go_wp2
    go_ret
    exact ⟨rfl, hb⟩
  by_cases h2 : n < k
  · clear h
    go_enter Tryd.func18, Tryd.ntmps18
    go_wp2_with fail
    refine Hu.out.mono ?_
    rintro e w1 ⟨rfl, hb⟩
    go_wp2
    go_ret
    exact ⟨rfl, hb⟩
  by_cases h3 : 12 < n
  · clear h
    go_enter Tryd.func18, Tryd.ntmps18
    go_wp2_with fail
    refine Hu.out.mono ?_
    rintro e w1 ⟨rfl, hb⟩
    go_wp2
    go_ret
    exact ⟨rfl, hb⟩
  by_cases h4 : (100 : Int) < s.size
  · clear h
    go_enter Tryd.func18, Tryd.ntmps18
    go_wp2_with fail
    refine Hu.out.mono ?_
    rintro e w1 ⟨rfl, hb⟩
    go_wp2
    go_ret
    exact ⟨rfl, hb⟩
  by_cases h5 : (40 : Int) < len
  · clear h
    go_enter Tryd.func18, Tryd.ntmps18
    go_wp2_with fail
    refine Hu.out.mono ?_
    rintro e w1 ⟨rfl, hb⟩
    go_wp2
    go_ret
    exact ⟨rfl, hb⟩
  by_cases h6 : y < 0
  · clear h
    go_enter Tryd.func18, Tryd.ntmps18
    go_wp2_with fail
    refine Hu.out.mono ?_
    rintro e w1 ⟨rfl, hb⟩
    go_wp2
    go_ret
    exact ⟨rfl, hb⟩
  have h9 : n ≤ y := by omega
  clear h
  go_enter Tryd.func18, Tryd.ntmps18
  go_wp2_with fail
  refine Hu.out.mono ?_
  rintro e w1 ⟨rfl, hb⟩
  go_wp2
  go_ret
  exact ⟨rfl, hb⟩

set_option maxRecDepth 100000 in
set_option maxHeartbeats 8000000 in
theorem walk_in (n k : Nat) (s : ByteArray) (ap : Option Addr) (len cap : Nat) (y : Nat) (z : Nat → Int) (w : World) (E : Nat → Addr) (hE : ErrEf w E) (hk : 1 ≤ k) (hkn : k ≤ n) (hn : n ≤ 12) (hss : s.size ≤ 100) (hyn : y < n) (hlen : len ≤ 40) (hz : IntsAt w.heap.size w ap len z) (hzb : ∀ j, -9223372036854775808 ≤ z j ∧ z j ≤ 9223372036854775807) :
    Calls Tryd.prog 18 #[.int .i64 n, .int .i64 k, .string s, .slice ap len cap, .int .i64 y] w fun e w' => e = .returned (.bool true) ∧ Below w.heap.size w w' := by
  have HE := Lib.hid hE
  have HZ := Lib.hid hz
  have HZb := Lib.hid hzb
  clear hE hz hzb
  have hmk := fun (W : World) => run_make_row' (P := Tryd.prog) (w := W) 36 4 (.bool false) 1 Tryd.underlying36 info_bool rfl .i64 .i64 n (by omega) (by omega)
  have Hmk := Lib.hid hmk
  clear hmk
  obtain ⟨ls, hls⟩ : ∃ ls, s.size = ls := ⟨_, rfl⟩
  have Hls := Lib.hid hls
  rw [hls] at hss
  have g1 : ¬ (k : Int) < 1 := by omega
  have g2 : ¬ (n : Int) < k := by omega
  have g3 : ¬ (12 : Int) < n := by omega
  have g2d : decide (n < k) = false := by simp; omega
  have g4 : ¬ (40 : Int) < len := by omega
  have g4d : decide (40 < len) = false := by simp; omega
  have g5 : ¬ (100 : Int) < ls := by omega
  have g6 : ¬ (y : Int) < 0 := by omega
  have g7 : ¬ (n : Int) ≤ y := by omega
  have g7d : decide (n ≤ y) = false := by simp; omega
  go_enter Tryd.func18, Tryd.ntmps18
  go_wp2_with fail
  refine (single_walk w E HE.out.ez).mono ?_
  rintro e w1 ⟨rfl, hb1⟩
  have H1 := Lib.hid hb1
  clear hb1
  go_wp2_with fail
  refine (encode_walk n k s w1 E (HE.out.below H1.out (Nat.le_refl _)).ez hk hkn hn (by have := Hls.out; omega)).mono ?_
  rintro e w2 ⟨⟨v, rfl, hv⟩, hb2⟩
  obtain ⟨g, cg, hve, hg1, hg2, hcg, hc⟩ := hv.at_ (by rw [encL_length]; omega)
  rw [encL_length] at hve hc hcg
  rw [hve]
  obtain ⟨t, ht⟩ : ∃ t, encT k s = t := ⟨_, rfl⟩
  have Ht := Lib.hid ht
  have hR : ∀ i, i < n → w2.cell? ⟨g, i * 2, none⟩ = some (.int .i64 (i : Int)) ∧ w2.cell? ⟨g, i * 2 + 1, none⟩ = some (.string (t i)) := fun i hi => by
    have := hc i hi
    rw [encL_at _ _ _ hi, ht] at this
    exact this
  have hb3 : Below w.heap.size w w2 := H1.out.trans (hb2.mono H1.out.size)
  have hmk := Hmk.out w2
  have hbU : Below w2.heap.size w2 (w2.alloc (.cells (madeCells #[.bool false] n) 4)) := (Below.refl _ w2).alloc (Nat.le_refl _) _
  have hrow := World.rowIs_made w2 (.bool false) n 4
  have hP : PickedS w2.heap.size (w2.alloc (.cells (madeCells #[.bool false] n) 4)) (.slice none 0 0) w2.heap.size n t [] [] :=
    ⟨OwnS.nil _ _, fun j hj => by rw [hrow.cell hj]; simp, fun j _ => hrow.frozen j, by simp [Value.ownBlock], by simp⟩
  have HP := Lib.hid (And.intro hP (And.intro hbU (And.intro hR hb3)))
  have Hg := Lib.hid hg2
  clear hP hbU hR hb3 hb2 hve hv hc hcg hg1 hg2 ht hrow
  go_wp2
  clear hmk
  obtain ⟨u, hu⟩ : ∃ u, w2.heap.size = u := ⟨_, rfl⟩
  rw [hu] at HP ⊢
  have hwu : w.heap.size ≤ u := by rw [← hu]; exact HP.out.2.2.2.size
  have Hu2 := Lib.hid hu
  clear hu
  go_loopw [14, 16] (fun vo vi wr => ∃ (i : Nat) (ps : List Nat), i ≤ len ∧ vi = .int .i64 i ∧ Hid (PickedS u wr vo u n t ps ps ∧ Below u w2 wr ∧ PickI n k ps)) (fun _ i _ => len - (intOf i).toNat)
  case atStart => exact ⟨0, [], by omega, rfl, Lib.hid ⟨HP.out.1, HP.out.2.1, PickI.nil _ _⟩⟩
  case round =>
    obtain ⟨i, ps, hi, rfl, H⟩ := hrel
    obtain ⟨av, cv, hve, hcv, _, _⟩ := OwnS.read H.out.1.own
    rw [pickL_length] at hve hcv
    have hle := H.out.2.2.le
    by_cases hgo : i < len ∧ ps.length < k
    · obtain ⟨hlt, hpl⟩ := hgo
      have hlt2 : (i : Int) < len := by omega
      have hpl2 : (ps.length : Int) < k := by omega
      have hpl3 : decide (ps.length < k) = true := by simpa using hpl
      have hbw : Below w.heap.size w wr := HP.out.2.2.2.trans (H.out.2.1.mono hwu)
      rcases HZ.out.below hbw with h0 | ⟨b, off, rfl, hb, hc⟩
      · omega
      have hzi := hc i hlt
      obtain ⟨q, hq⟩ : ∃ q, z i = q := ⟨_, rfl⟩
      rw [hq] at hzi
      have hyb := HZb.out i
      rw [hq] at hyb
      clear hc hq
      rw [hve]
      by_cases hin : 0 ≤ q ∧ q < n
      · obtain ⟨hy0, hqn⟩ := hin
        obtain ⟨p, rfl⟩ := Int.eq_ofNat_of_zero_le hy0
        have hp : p < n := by omega
        have hmk := H.out.1.mark p hp
        have hfr := H.out.1.free p hp
        by_cases hmem : p ∈ ps
        · have e1 : decide (p ∈ ps) = true := by simpa using hmem
          rw [e1] at hmk
          clear hmem
          go_wp2
          go_roundw
          case rel => exact ⟨i + 1, ps, by omega, by go_num, by rw [← hve]; exact H⟩
          case measure => simp [intOf]; omega
        · have e1 : decide (p ∈ ps) = false := by simpa using hmem
          rw [e1] at hmk
          have hgu : g < u := by have := Hg.out; have := Hu2.out; omega
          have hne : g ≠ u := by omega
          have hneb : b ≠ u := by omega
          have hho : OnlyB u wr (wr.setCell ⟨u, p, none⟩ (.bool true)) := OnlyB.setCell _ _ _ _
          have hz2 : (wr.setCell ⟨u, p, none⟩ (.bool true)).cell? ⟨b, off + i, none⟩ = some (.int .i64 (p : Int)) := (hho.cell (p := ⟨b, off + i, none⟩) hneb).trans hzi
          have hPs := H.out.1.set hp
          have hul : (pickL t ps).length ≤ 1000000 := by rw [pickL_length]; omega
          have hsz := (H.out.2.1).size
          have hB1 : Below u w2 (wr.setCell ⟨u, p, none⟩ (.bool true)) := H.out.2.1.setCell (p := ⟨u, p, none⟩) (Nat.le_refl _) _
          have hszu : u ≤ wr.heap.size := by have := Hu2.out; omega
          have hszu2 : u ≤ (wr.setCell ⟨u, p, none⟩ (.bool true)).heap.size := by have := hho.size; omega
          have hX := Lib.hid (And.intro hPs (And.intro hB1 (And.intro (H.out.2.2.snoc hp hmem hpl) hho.size)))
          have HV := Lib.hid hve
          rw [hve] at hPs
          have hown := Lib.hid hPs.own
          clear hmem hPs hB1 hho hve hz2
          have hz2 : (wr.setCell ⟨u, p, none⟩ (.bool true)).cell? ⟨b, off + i, none⟩ = some (.int .i64 (p : Int)) := by
            rw [World.cell?_setCell_other _ _ _ _ (fun he => hneb (Addr.mk.inj he).1.symm)]; exact hzi
          have hcs := HP.out.2.2.1 p hp
          have c1 : (wr.setCell ⟨u, p, none⟩ (.bool true)).cell? ⟨g, p * 2, none⟩ = some (.int .i64 (p : Int)) := by
            rw [World.cell?_setCell_other _ _ _ _ (fun he => hne (Addr.mk.inj he).1.symm)]
            exact (H.out.2.1.cell (p := ⟨g, p * 2, none⟩) hgu).trans hcs.1
          have c2 : (wr.setCell ⟨u, p, none⟩ (.bool true)).cell? ⟨g, p * 2 + 1, none⟩ = some (.string (t p)) := by
            rw [World.cell?_setCell_other _ _ _ _ (fun he => hne (Addr.mk.inj he).1.symm)]
            exact (H.out.2.1.cell (p := ⟨g, p * 2 + 1, none⟩) hgu).trans hcs.2
          clear hcs
          go_wp2_with (at_builtin; refine append_shardH 116 124 rfl rfl u wr.heap.size _ _ (p : Int) (t p) hX.out.2.2.2 rfl rfl hown.out hul hszu2 ?_)
          intro v' w' k1 k2 k3
          obtain ⟨hPs, hB1, hI, hsq⟩ := hX.out
          rw [HV.out] at hPs
          have hP2 := hPs.append k1 k2 (by rw [hsq]; exact k3)
          have hB2 : Below u w2 w' := (hB1.alloc hszu2 _).grown k2 (by simp; omega) (fun j e => (hPs.own.lt j e).1)
          have HR := Lib.hid (And.intro hP2 (And.intro hB2 hI))
          clear hPs hB1 hI hsq hP2 hB2 k1 k2 k3 hX hown HV
          go_wp2
          go_roundw
          case rel => exact ⟨i + 1, _, by omega, by go_num, HR⟩
          case measure => simp [intOf]; omega
      · have hy2 : ¬ (0 ≤ q) ∨ (0 ≤ q ∧ ¬ (q < n)) := by omega
        clear hin
        rcases hy2 with hy2 | ⟨hy2, hy3⟩
        all_goals
          go_wp2
          go_roundw
          case rel => exact ⟨i + 1, ps, by omega, by go_num, by rw [← hve]; exact H⟩
          case measure => simp [intOf]; omega
    · have hcase : (¬ (i : Int) < len) ∨ ((i : Int) < len ∧ ¬ (ps.length : Int) < k) := by omega
      have hP0 : PickedS u wr (.slice av ps.length cv) u n t ps ps := by rw [← hve]; exact H.out.1
      have HQ := Lib.hid (And.intro hP0 (And.intro H.out.2.1 (PickJ.start H.out.2.2)))
      rw [hve]
      obtain ⟨us, hus⟩ : ∃ us, us = ps := ⟨_, rfl⟩
      have HQ2 : Hid (PickedS u wr (.slice av ps.length cv) u n t ps us ∧ Below u w2 wr ∧ PickJ n k 0 ps us) := by rw [hus]; exact HQ
      obtain ⟨wx, hwx⟩ : ∃ wx : World, wx = wr := ⟨_, rfl⟩
      clear hP0 HQ H hgo hve hus hwx
      rcases hcase with h1 | ⟨h1, h2⟩
      all_goals
        go_wp2
        go_loopw [14, 17] (fun vo vi wr => ∃ (i : Nat) (qs : List Nat), i ≤ n ∧ vi = .int .i64 i ∧ Hid (PickedS u wr vo u n t qs us ∧ Below u w2 wr ∧ PickJ n k i qs us)) (fun _ i _ => n - (intOf i).toNat)
        case atStart => exact ⟨0, ps, by omega, rfl, HQ2⟩
        case round =>
          clear h1
          obtain ⟨i2, qs, hi2, rfl, H2⟩ := hrel
          obtain ⟨av2, cv2, hve2, _, _, _⟩ := OwnS.read H2.out.1.own
          rw [pickL_length] at hve2
          have hle2 := H2.out.2.2.base.le
          have hgu : g < u := by have := Hg.out; have := Hu2.out; omega
          by_cases hgo : i2 < n ∧ qs.length < k
          · obtain ⟨hlt, hpl⟩ := hgo
            have hlt2 : (i2 : Int) < n := by omega
            have hpl2 : (qs.length : Int) < k := by omega
            have hpl3 : decide (qs.length < k) = true := by simpa using hpl
            have hmk := H2.out.1.mark i2 hlt
            have hcs := HP.out.2.2.1 i2 hlt
            have c1 := (H2.out.2.1.cell (p := ⟨g, i2 * 2, none⟩) hgu).trans hcs.1
            have c2 := (H2.out.2.1.cell (p := ⟨g, i2 * 2 + 1, none⟩) hgu).trans hcs.2
            clear hcs
            by_cases hmem : i2 ∈ us
            · have e1 : decide (i2 ∈ us) = true := by simpa using hmem
              rw [e1] at hmk
              have hJ := Lib.hid (H2.out.2.2.skip hmem)
              clear hmem
              rw [hve2]
              go_wp2
              go_roundw
              case rel => exact ⟨i2 + 1, qs, by omega, by go_num, by rw [← hve2]; exact Lib.hid ⟨H2.out.1, H2.out.2.1, hJ.out⟩⟩
              case measure => simp [intOf]; omega
            · have e1 : decide (i2 ∈ us) = false := by simpa using hmem
              rw [e1] at hmk
              have hJ := H2.out.2.2.snoc hmem hlt hpl
              have hul : (pickL t qs).length ≤ 1000000 := by rw [pickL_length]; omega
              have hsz := (H2.out.2.1).size
              have hszu : u ≤ wr.heap.size := by have := Hu2.out; omega
              have hPs := H2.out.1
              rw [hve2] at hPs
              have hown := Lib.hid hPs.own
              have hX := Lib.hid (And.intro hPs (And.intro H2.out.2.1 hJ))
              rw [hve2]
              clear hmem hPs hJ hve2 H2
              go_wp2_with (at_builtin; refine append_shard 142 147 rfl rfl u _ _ (i2 : Int) (t i2) rfl rfl hown.out hul hszu ?_)
              intro v' w' k1 k2 k3
              obtain ⟨hPs, hB1, hJ⟩ := hX.out
              have hP2 := hPs.append k1 k2 k3
              have hB2 : Below u w2 w' := (hB1.alloc hszu _).grown k2 (by simp; omega) (fun j e => (hPs.own.lt j e).1)
              have HR := Lib.hid (And.intro hP2 (And.intro hB2 hJ))
              clear hPs hB1 hJ hP2 hB2 k1 k2 k3 hX hown
              go_wp2
              go_roundw
              case rel => exact ⟨i2 + 1, _, by omega, by go_num, HR⟩
              case measure => simp [intOf]; omega
          · have hql := H2.out.2.2.done hkn (by omega)
            obtain ⟨ar, cr, hve3, _, _, hSr⟩ := OwnS.read H2.out.1.own
            rw [pickL_length, hql] at hve3
            have hbw : Below w.heap.size w wr := HP.out.2.2.2.trans (H2.out.2.1.mono hwu)
            have hnd := H2.out.2.2.base.nd
            have hlq := H2.out.2.2.base.lt
            have hgd := pickL_good (n := n) (k := k) (s := s) hlq
            have hpf := pickL_full (t := encT k s) hnd (show k ≤ qs.length by omega)
            have hdc := pickL_dec (n := n) (s := s) hk (by omega) hn hnd (show k ≤ qs.length by omega) hlq
            have hgdA := pickL_good (n := n) (k := k) (s := s) (qs := List.range n) (fun q hq => List.mem_range.1 hq)
            have hpfA := pickL_full (t := encT k s) (k := k) (List.nodup_range (n := n)) (by rw [List.length_range]; exact hkn)
            have hdcA := pickL_dec (n := n) (s := s) hk (by omega) hn (List.nodup_range (n := n)) (by rw [List.length_range]; exact hkn) (fun q hq => List.mem_range.1 hq)
            have hagA := pickL_agrees (encT k s) (List.range n)
            rw [Ht.out] at hgd hpf hdc hgdA hpfA hdcA hagA
            rw [Hls.out] at hgd hdc hgdA hdcA
            have hR2 : ∀ i, i < n → wr.cell? ⟨g, i * 2, none⟩ = some (.int .i64 (i : Int)) ∧ wr.cell? ⟨g, i * 2 + 1, none⟩ = some (.string (t i)) := fun i hi => by
              have hcs := HP.out.2.2.1 i hi
              exact ⟨(H2.out.2.1.cell (p := ⟨g, i * 2, none⟩) hgu).trans hcs.1, (H2.out.2.1.cell (p := ⟨g, i * 2 + 1, none⟩) hgu).trans hcs.2⟩
            have hgw : g < wr.heap.size := by have := H2.out.1.lt; omega
            have hEr := HE.out.below hbw (Nat.le_refl _)
            have hlp : (pickL t qs).length = k := by rw [pickL_length]; exact hql
            have hlm : (pickL t qs).length ≤ maxLen := by rw [hlp]; unfold maxLen; omega
            have hdw := decode_walk wr.heap.size n k ls ar cr (pickL t qs) wr E hEr hk hkn hn (by omega) hlm (Nat.le_refl _) hSr
            rw [hlp] at hdw
            have Hdw := Lib.hid hdw
            have HF := Lib.hid (And.intro hbw (And.intro hgd (And.intro hpf hdc)))
            have HG := Lib.hid (And.intro hgdA (And.intro hpfA (And.intro hdcA (And.intro hagA (And.intro hR2 hgw)))))
            have HS := Lib.hid (And.intro hSr (And.intro hlp hlm))
            have hcase : (¬ (i2 : Int) < n) ∨ ((i2 : Int) < n ∧ ¬ (qs.length : Int) < k) := by omega
            rw [hve2]
            rw [hve2] at hve3
            have hkk : ¬ (qs.length : Int) < k := by omega
            have hkk2 : decide (qs.length < k) = false := by simp; omega
            have hav : av2 = ar ∧ cv2 = cr := by
              injection hve3 with e1 e2 e3
              exact ⟨e1, e3⟩
            obtain ⟨rfl, rfl⟩ := hav
            have hqk : (qs.length : Int) = k := by omega
            have HQL := Lib.hid hql
            clear hSr hbw hnd hlq hgd hpf hdc hgdA hpfA hdcA hagA hR2 hgw hEr hlp hlm hdw hgo hve2 hve3 H2 hle2 hqk
            subst hql
            rcases hcase with h3 | ⟨h3, _⟩
            all_goals
              go_wp2_with fail
              refine Hdw.out.mono ?_
              rintro e w4 ⟨hb4, hres⟩
              have hb4' := HF.out.1.trans (hb4.mono HF.out.1.size)
              have H4 := Lib.hid (And.intro hb4' hb4)
              clear hb4 hb4'
              rcases hres with ⟨hbad, rfl⟩ | ⟨_, hfew, rfl⟩ | ⟨_, _, rfl⟩
              · exact absurd HF.out.2.1 hbad
              · have := HF.out.2.2.1; omega
              have hdc := HF.out.2.2.2
              unfold decT at hdc
              rw [hdc]
              clear hdc
              have hrb := rebuild_walk wr.heap.size n qs.length ls y av2 cv2 (pickL t qs) w4 E (HE.out.below H4.out.1 (Nat.le_refl _)) hk hkn hn (by omega) hyn HS.out.2.2 H4.out.2.size (HS.out.1.below H4.out.2)
              rw [HS.out.2.1] at hrb
              have Hrb := Lib.hid hrb
              clear hrb
              go_wp2_with fail
              refine Hrb.out.mono ?_
              rintro e w5 ⟨hb5, hres⟩
              rcases hres with ⟨hbad, rfl⟩ | ⟨_, hfew, rfl⟩ | ⟨_, _, rfl⟩
              · exact absurd HF.out.2.1 hbad
              · have := HF.out.2.2.1; omega
              rw [HF.out.2.2.2, Ht.out]
              obtain ⟨T, hT⟩ : ∃ T, t y = T := ⟨_, rfl⟩
              rw [hT]
              have hb5' := H4.out.1.trans (hb5.mono H4.out.1.size)
              have hb5b : Below wr.heap.size wr w5 := H4.out.2.trans (hb5.mono H4.out.2.size)
              have hb6 : Below w.heap.size w (w5.alloc (.cells #[.int .i64 (y : Int), .string T] 85)) := hb5'.alloc hb5'.size _
              have hb6b : Below wr.heap.size wr (w5.alloc (.cells #[.int .i64 (y : Int), .string T] 85)) := hb5b.alloc hb5b.size _
              have hA : ShR wr.heap.size (w5.alloc (.cells #[.int .i64 (y : Int), .string T] 85)) (some ⟨g, 0, none⟩) (pickL t (List.range n)) := by
                refine .inr ⟨g, 0, rfl, HG.out.2.2.2.2.2, fun i hi => ?_⟩
                rw [pickL_length, List.length_range] at hi
                have hcs := HG.out.2.2.2.2.1 i hi
                have hgi : (pickL t (List.range n))[i]?.getD (0, ⟨#[]⟩) = ((i : Int), t i) := by simp [pickL, hi]
                rw [hgi, Nat.zero_add]
                exact ⟨(hb6b.cell (p := ⟨g, i * 2, none⟩) HG.out.2.2.2.2.2).trans hcs.1, (hb6b.cell (p := ⟨g, i * 2 + 1, none⟩) HG.out.2.2.2.2.2).trans hcs.2⟩
              have hln : (pickL t (List.range n)).length = n := by rw [pickL_length, List.length_range]
              have hag := agree_walk wr.heap.size n qs.length ls (some ⟨g, 0, none⟩) cg (pickL t (List.range n)) _ E (HE.out.below hb6 (Nat.le_refl _)) hk hkn hn (by omega) (by rw [hln]; unfold maxLen; omega) hb6b.size hA
              rw [hln] at hag
              have Hag := Lib.hid hag
              have hz5 : w5.heap.size < (w5.alloc (.cells #[.int .i64 (y : Int), .string T] 85)).heap.size := by simp
              have H6 := Lib.hid (And.intro hb6 (And.intro hb6b (And.intro hT hz5)))
              clear hb5 hb5' hb5b hb6 hb6b hA hln hag hT hz5
              go_wp2_with fail
              refine Hag.out.mono ?_
              rintro e w7 ⟨hb7, hres⟩
              rcases hres with ⟨hbad, rfl⟩ | ⟨_, hfew, rfl⟩ | ⟨_, _, rfl⟩
              · exact absurd HG.out.1 hbad
              · have := HG.out.2.1; omega
              rw [HG.out.2.2.1, Ht.out, HG.out.2.2.2.1]
              have x1 : w7.cell? ⟨w5.heap.size, 0, none⟩ = some (.int .i64 (y : Int)) := (hb7.cell (p := ⟨w5.heap.size, 0, none⟩) H6.out.2.2.2).trans (by simp)
              have x2 : w7.cell? ⟨w5.heap.size, 1, none⟩ = some (.string T) := (hb7.cell (p := ⟨w5.heap.size, 1, none⟩) H6.out.2.2.2).trans (by simp)
              have hb7b := H6.out.2.1.trans (hb7.mono H6.out.2.1.size)
              have y1 := (hb7b.cell (p := ⟨g, y * 2, none⟩) HG.out.2.2.2.2.2).trans (HG.out.2.2.2.2.1 y hyn).1
              have y2 := (hb7b.cell (p := ⟨g, y * 2 + 1, none⟩) HG.out.2.2.2.2.2).trans (HG.out.2.2.2.2.1 y hyn).2
              rw [H6.out.2.2.1] at y2
              have H7 := Lib.hid (H6.out.1.trans (hb7.mono H6.out.1.size))
              clear hb7 hb7b
              have hyi : (y : Int) < n := by omega
              go_wp2
              go_quiet (fail)
              go_wp2
              go_ret
              exact ⟨by simp, H7.out.trans (same_below' _ _)⟩

theorem ef_of_laid {W : World} (h : laidMetH Tryd.prog Rows.coderAnyRow.laid W) : ∃ E, ErrEf W E := by
  obtain ⟨a1, h1⟩ := err_of_laid h (n := "shardkeep/api.ErrBound") (g := 1) (text := errText 1) (List.mem_cons_self) (by kernel_rfl) (by kernel_rfl)
  obtain ⟨a2, h2⟩ := err_of_laid h (n := "shardkeep/api.ErrShape") (g := 2) (text := errText 2) (List.mem_cons_of_mem _ List.mem_cons_self) (by kernel_rfl) (by kernel_rfl)
  obtain ⟨a7, h7⟩ := err_of_laid h (n := "shardkeep/api.ErrFew") (g := 7) (text := errText 7) (List.mem_cons_of_mem _ (List.mem_cons_of_mem _ List.mem_cons_self)) (by kernel_rfl) (by kernel_rfl)
  obtain ⟨a3, h3⟩ := err_of_laid h (n := "shardkeep/api.ErrZero") (g := 11) (text := errText 11) (List.mem_cons_of_mem _ (List.mem_cons_of_mem _ (List.mem_cons_of_mem _ List.mem_cons_self))) (by kernel_rfl) (by kernel_rfl)
  exact ⟨fun i => if i = 1 then a1 else if i = 2 then a2 else if i = 7 then a7 else a3, ⟨h1.cell, h2.cell, h3.cell⟩, h7.cell⟩

theorem walk (n k : Int) (s : ByteArray) (ap : Option Addr) (len cap : Nat) (zs : List Int) (y : Int) (w : World) (_w0 : (Lit.int .i64 n).wf = true) (_w1 : (Lit.int .i64 k).wf = true) (_w2 : s.size ≤ maxLen) (w3 : IsRow .i64 w ap len cap zs) (_w4 : (Lit.int .i64 y).wf = true) (hL : laidMetH Tryd.prog Rows.coderAnyRow.laid w) :
    Calls Tryd.prog 18 #[.int .i64 n, .int .i64 k, .string s, .slice ap len cap, .int .i64 y] w fun e w' => e = .returned (.bool true) ∧ Below w.heap.size w w' := by
  obtain ⟨E, hE⟩ := ef_of_laid hL
  obtain ⟨z, hz, hzb, _, _⟩ := ints_of_isRow w3
  by_cases h : 1 ≤ k ∧ k ≤ n ∧ n ≤ 12 ∧ s.size ≤ 100 ∧ (len : Int) ≤ 40 ∧ 0 ≤ y ∧ y < n
  · obtain ⟨k, rfl⟩ := Int.eq_ofNat_of_zero_le (show 0 ≤ k by omega)
    obtain ⟨n, rfl⟩ := Int.eq_ofNat_of_zero_le (show 0 ≤ n by omega)
    obtain ⟨y, rfl⟩ := Int.eq_ofNat_of_zero_le (show 0 ≤ y by omega)
    exact walk_in n k s ap len cap y z w E hE (by omega) (by omega) (by omega) h.2.2.2.1 (by omega) (by omega) hz hzb
  · exact walk_out n k s ap len cap y w E hE.ez h
end Go.Proofs.YtfojimaafhpgbaaDoor.coderAny
