/- The walk of the law QuorumTwo. -/
import Derived.Test.YtmaalkjimppnkaaDoorQuB
import Derived.Test.YtmaalkjimppnkaaDoorQuC
import Derived.Test.YtmaalkjimppnkaaDoorQuD
import Derived.Test.YtmaalkjimppnkaaDoorCfg
import Derived.Test.YtmaalkjimppnkaaDoorEnv
namespace Go.Proofs.YtmaalkjimppnkaaDoor.quorumTwo
open Go.RowKit

theorem errs_of_laid {W : World} (h : laidMetH Tryd.prog Rows.quorumTwoRow.laid W) : ∃ E, ErrQx W E ∧ W.cell? ⟨0, 0, none⟩ = some (errV (E 4)) := by
  obtain ⟨a1, h1⟩ := err_of_laid h (n := "shardkeep/api.ErrBound") (g := 6) (text := errText 1) (List.mem_cons_self) (by kernel_rfl) (by kernel_rfl)
  obtain ⟨a2, h2⟩ := err_of_laid h (n := "shardkeep/api.ErrShape") (g := 5) (text := errText 2) (List.mem_cons_of_mem _ List.mem_cons_self) (by kernel_rfl) (by kernel_rfl)
  obtain ⟨a3, h3⟩ := err_of_laid h (n := "shardkeep/api.ErrName") (g := 3) (text := errText 3) (List.mem_cons_of_mem _ (List.mem_cons_of_mem _ List.mem_cons_self)) (by kernel_rfl) (by kernel_rfl)
  obtain ⟨a4, h4⟩ := err_of_laid h (n := "shardkeep/api.ErrNone") (g := 0) (text := errText 4) (List.mem_cons_of_mem _ (List.mem_cons_of_mem _ (List.mem_cons_of_mem _ List.mem_cons_self))) (by kernel_rfl) (by kernel_rfl)
  obtain ⟨a5, h5⟩ := err_of_laid h (n := "shardkeep/api.ErrExist") (g := 7) (text := errText 5) (List.mem_cons_of_mem _ (List.mem_cons_of_mem _ (List.mem_cons_of_mem _ (List.mem_cons_of_mem _ List.mem_cons_self)))) (by kernel_rfl) (by kernel_rfl)
  exact ⟨fun i => if i = 1 then a1 else if i = 2 then a2 else if i = 3 then a3 else if i = 4 then a4 else a5, ⟨⟨h1.cell, h3.cell, h5.cell⟩, h2.cell⟩, h4.cell⟩
theorem texts_nodup {L : List ByteArray} (hL : L.Nodup) {ps : List Nat} (hp : ps.Nodup) (hlt : ∀ q ∈ ps, q < L.length) : (ps.map fun p => L[p]?.getD (⟨#[]⟩ : ByteArray)).Nodup := by
  rw [List.nodup_iff_pairwise_ne, List.pairwise_map]
  refine List.Pairwise.imp_of_mem ?_ (List.nodup_iff_pairwise_ne.1 hp)
  intro p q h1 h2 hne e
  have k1 := hlt p h1
  have k2 := hlt q h2
  rw [List.getElem?_eq_getElem k1, List.getElem?_eq_getElem k2] at e
  simp only [Option.getD_some] at e
  have hw := List.pairwise_iff_getElem.1 (List.nodup_iff_pairwise_ne.1 hL)
  rcases Nat.lt_or_gt_of_ne hne with h | h
  · exact hw p q k1 k2 h e
  · exact hw q p k2 k1 h e.symm
theorem texts_mem {L : List ByteArray} {ps : List Nat} (hlt : ∀ q ∈ ps, q < L.length) : ∀ s ∈ (ps.map fun p => L[p]?.getD (⟨#[]⟩ : ByteArray)), s ∈ L := by
  intro s hs
  obtain ⟨p, hp, rfl⟩ := List.mem_map.1 hs
  rw [List.getElem?_eq_getElem (hlt p hp)]
  exact List.getElem_mem _
theorem meet_all {L A B : List ByteArray} (hA : ∀ s ∈ A, s ∈ L) (hB : ∀ s ∈ B, s ∈ L) : meetF L A B = (0, -1) :=
  meetF_ok (missF_none (fun j hj => by rw [List.getElem?_eq_getElem hj]; exact hA _ (List.getElem_mem hj))) (missF_none (fun j hj => by rw [List.getElem?_eq_getElem hj]; exact hB _ (List.getElem_mem hj)))
theorem both_length {L A B : List ByteArray} (hL : L.Nodup) (hA : A.Nodup) (hB : B.Nodup) (hAm : ∀ s ∈ A, s ∈ L) (hBm : ∀ s ∈ B, s ∈ L) : A.length + B.length ≤ L.length + (bothL L A B).length := by
  refine Nat.le_trans (shared hL hA hB hAm hBm) (Nat.add_le_add_left (Nat.le_of_eq (congrArg List.length (List.filter_congr fun x _ => ?_))) _)
  rw [Bool.eq_iff_iff]
  simp

set_option maxRecDepth 100000 in
set_option maxHeartbeats 8000000 in
theorem walk (n k : Int) (a : Option Addr) (len cap : Nat) (L : List ByteArray) (ap : Option Addr) (lp cp : Nat) (zp : List Int) (aq : Option Addr) (lq cq : Nat) (zq : List Int) (w : World) (hin : CfgIn w n k a len cap L) (h1 : IsRow .i64 w ap lp cp zp) (h2 : IsRow .i64 w aq lq cq zq) (hL : laidMetH Tryd.prog Rows.quorumTwoRow.laid w) :
    Calls Tryd.prog 3 #[.agg #[.int .i64 n, .int .i64 k, .slice a len cap], .slice ap lp cp, .slice aq lq cq] w fun e w' => e = .returned (.bool true) ∧ Below w.heap.size w w' := by
  obtain ⟨E, hE, hc4⟩ := errs_of_laid hL
  obtain ⟨z1, hz1, hzb1, hlp, _⟩ := ints_of_isRow h1
  obtain ⟨z2, hz2, hzb2, hlq, _⟩ := ints_of_isRow h2
  have ht := hin.t_
  have hcl : cap ≤ 9223372036854775807 := ht.max_
  have hlc := ht.cap_
  have hB0 : Below w.heap.size w (w.alloc (.cells #[.int .i64 n, .int .i64 k, .slice a len cap] 24)) := (Below.refl _ w).alloc (Nat.le_refl _) _
  have hzs : w.heap.size < (w.alloc (.cells #[.int .i64 n, .int .i64 k, .slice a len cap] 24)).heap.size := by simp
  have HB0 := Lib.hid (And.intro hB0 hzs)
  have HC0 := Lib.hid (CfgAt.new w n k (.slice a len cap))
  have HE := Lib.hid (And.intro hE hc4)
  have HT := Lib.hid ht
  have HZ1 := Lib.hid (And.intro hz1 hzb1)
  have HZ2 := Lib.hid (And.intro hz2 hzb2)
  have Hen := Lib.hid (lenough_walk _ E (hE.below hB0 (Nat.le_refl _)))
  have hlp9 : lp ≤ 9223372036854775807 := hlp
  have hlq9 : lq ≤ 9223372036854775807 := hlq
  obtain ⟨b0, hb0⟩ : ∃ b0, w.heap.size = b0 := ⟨_, rfl⟩
  have Hb0 := Lib.hid hb0
  clear hL hE hc4 hz1 hzb1 hz2 hzb2 h1 h2 hin ht hB0 hzs hb0 hlp hlq
  go_enter Tryd.func3, Tryd.ntmps3
  go_wp2_with fail
  refine Hen.out.mono ?_
  rintro e w1 ⟨rfl, hb1⟩
  have H1 := Lib.hid (HB0.out.1.trans (hb1.mono HB0.out.1.size))
  have HC1 := Lib.hid (HC0.out.below hb1 HB0.out.2)
  obtain ⟨c0, c1, c2⟩ := HC1.out
  have Hlc := Lib.hid (longc_walk n k w.heap.size a len cap L w1 HT.out.len_ (by have := HT.out.max_; omega) HT.out.sizeAt (HT.out.txs.below H1.out) H1.out.size)
  clear hb1
  obtain ⟨lc, hlcv⟩ : ∃ lc, longC L = lc := ⟨_, rfl⟩
  rw [hlcv] at Hlc
  have Hlv := Lib.hid hlcv
  clear hlcv
  have hlt0 : w.heap.size < w1.heap.size := by
    have h9 := lt_of_cell c0
    exact h9
  go_wp2_with fail
  refine Hlc.out.mono ?_
  rintro e w2 ⟨rfl, hb2⟩
  have H2 := Lib.hid (H1.out.trans (hb2.mono H1.out.size))
  have HC2 := Lib.hid (HC1.out.below hb2 hlt0)
  clear hb2 c0 c1 c2
  cases lc with
  | true =>
    go_wp2
    go_ret
    exact ⟨rfl, H2.out⟩
  | false =>
    by_cases g1 : 40 < lp
    · have g1a : (40 : Int) < lp := by omega
      have g1b : decide (40 < lp) = true := decide_eq_true g1
      clear g1
      go_wp2
      go_ret
      exact ⟨rfl, H2.out⟩
    have g1a : ¬ (40 : Int) < lp := by omega
    have g1b : decide (40 < lp) = false := decide_eq_false g1
    by_cases g2 : 40 < lq
    · have g2a : (40 : Int) < lq := by omega
      have g2b : decide (40 < lq) = true := decide_eq_true g2
      clear g1 g2
      go_wp2
      go_ret
      exact ⟨rfl, H2.out⟩
    have g2a : ¬ (40 : Int) < lq := by omega
    have g2b : decide (40 < lq) = false := decide_eq_false g2
    have hl30 : len ≤ 30 := by have h9 := (longC_no Hlv.out).1; have := HT.out.len_; omega
    obtain ⟨c0, c1, c2⟩ := HC2.out
    have hlt2 : w.heap.size < w2.heap.size := lt_of_cell c0
    have How := Lib.hid (ownc_walk n k w.heap.size a len cap L w2 HT.out.len_ (by omega) HT.out.nil_ (HT.out.txs.below H2.out) H2.out.size)
    go_wp2_with fail
    refine How.out.mono ?_
    rintro e w3 ⟨⟨v3, rfl, hv3⟩, hb3⟩
    obtain ⟨a3, cp3, rfl, hc3, hm3, _, ht3⟩ := hv3.read
    rw [HT.out.len_] at hc3
    have H3 := Lib.hid (H2.out.trans (hb3.mono H2.out.size))
    have HC3 := Lib.hid (HC2.out.below hb3 hlt2)
    have hlt3 : w.heap.size < w3.heap.size := Nat.lt_of_lt_of_le hlt2 hb3.size
    have Hq := Lib.hid (enough_walk n k w3.heap.size a3 len cp3 L w3 E (HE.out.1.below H3.out (Nat.le_refl _)) HT.out.len_ hc3 HT.out.sizeAt ht3 (Nat.le_refl _))
    rw [HT.out.len_]
    clear hb3 hv3 ht3 c0 c1 c2
    go_wp2_with fail
    refine Hq.out.mono ?_
    rintro e w4 ⟨hb4, hres⟩
    have H4 := Lib.hid (H3.out.trans (hb4.mono H3.out.size))
    have HC4 := Lib.hid (HC3.out.below hb4 hlt3)
    have hlt4 : w.heap.size < w4.heap.size := Nat.lt_of_lt_of_le hlt3 hb4.size
    clear hb4
    rcases hres with ⟨h0, he⟩ | ⟨_, v, hv, _, rfl⟩
    · obtain ⟨⟨k1, k2, k3⟩, k4, k5, _, _⟩ := configF_zero h0
      have hln := HT.out.len_
      obtain ⟨K, rfl⟩ := Int.eq_ofNat_of_zero_le (show 0 ≤ k by omega)
      obtain ⟨N, rfl⟩ := Int.eq_ofNat_of_zero_le (show 0 ≤ n by omega)
      obtain rfl : len = N := by omega
      obtain ⟨M, hM⟩ : ∃ M : Nat, M = (len + K + 1) / 2 := ⟨_, rfl⟩
      have hMe : ((len : Int) + K + 1) / 2 = ((M : Nat) : Int) := by omega
      rw [hMe] at he
      subst he
      have hMl : M ≤ len := by omega
      have hMn : (M : Int) ≤ len := by omega
      have hMd : decide (M ≤ len) = true := decide_eq_true hMl
      have hM2 : len + K ≤ M + M := by omega
      have HN := Lib.hid (And.intro k5 (And.intro h0 hM2))
      obtain ⟨c0, c1, c2⟩ := HC4.out
      have Hs1 := Lib.hid (some_walk w.heap.size a len cap L ap lp cp z1 M w4 HT.out.len_ (by omega) hMl (by omega) (HT.out.txs.below H4.out) H4.out.size ((HZ1.out.1.below H4.out).mono H4.out.size) HZ1.out.2)
      clear k5 h0 hM hMe hM2 hln k4
      go_wp2_with fail
      refine Hs1.out.mono ?_
      rintro e w5 ⟨hb5, vx, ps, rfl, hox, hnx, hpx, hlx⟩
      have hlX : (ps.map fun p => L[p]?.getD (⟨#[]⟩ : ByteArray)).length = M := by rw [List.length_map]; exact hlx
      obtain ⟨X, hX⟩ : ∃ X, (ps.map fun p => L[p]?.getD (⟨#[]⟩ : ByteArray)) = X := ⟨_, rfl⟩
      have hXn := texts_nodup HN.out.1 hnx hpx
      have hXm := texts_mem hpx
      rw [hX] at hox hlX hXn hXm
      obtain ⟨ax, cx, rfl, _, _, _, htx⟩ := hox.read
      rw [hlX]
      have H5 := Lib.hid (H4.out.trans (hb5.mono H4.out.size))
      have HC5 := Lib.hid (HC4.out.below hb5 hlt4)
      have hlt5 : w.heap.size < w5.heap.size := Nat.lt_of_lt_of_le hlt4 hb5.size
      have HX := Lib.hid (And.intro hlX (And.intro hXn (And.intro hXm htx)))
      clear hb5 hox hnx hpx hlx hlX hXn hXm hX htx c0 c1 c2
      obtain ⟨c0, c1, c2⟩ := HC5.out
      have Hs2 := Lib.hid (some_walk w.heap.size a len cap L aq lq cq z2 M w5 HT.out.len_ (by omega) hMl (by omega) (HT.out.txs.below H5.out) H5.out.size ((HZ2.out.1.below H5.out).mono H5.out.size) HZ2.out.2)
      go_wp2_with fail
      refine Hs2.out.mono ?_
      rintro e w6 ⟨hb6, vy, qs, rfl, hoy, hny, hpy, hly⟩
      have hlY : (qs.map fun p => L[p]?.getD (⟨#[]⟩ : ByteArray)).length = M := by rw [List.length_map]; exact hly
      obtain ⟨Y, hY⟩ : ∃ Y, (qs.map fun p => L[p]?.getD (⟨#[]⟩ : ByteArray)) = Y := ⟨_, rfl⟩
      have hYn := texts_nodup HN.out.1 hny hpy
      have hYm := texts_mem hpy
      rw [hY] at hoy hlY hYn hYm
      obtain ⟨ay, cy, rfl, _, _, _, hty⟩ := hoy.read
      rw [hlY]
      have H6 := Lib.hid (H5.out.trans (hb6.mono H5.out.size))
      have HC6 := Lib.hid (HC5.out.below hb6 hlt5)
      have hlt6 : w.heap.size < w6.heap.size := Nat.lt_of_lt_of_le hlt5 hb6.size
      have HY := Lib.hid (And.intro hlY (And.intro hYn (And.intro hYm (And.intro hty ((HX.out.2.2.2.below hb6).mono hb6.size)))))
      clear hb6 hoy hny hpy hly hlY hYn hYm hY hty c0 c1 c2
      obtain ⟨c0, c1, c2⟩ := HC6.out
      have How2 := Lib.hid (ownc_walk (len : Int) (K : Int) w.heap.size a len cap L w6 HT.out.len_ (by omega) HT.out.nil_ (HT.out.txs.below H6.out) H6.out.size)
      go_wp2_with fail
      refine How2.out.mono ?_
      rintro e w7 ⟨⟨v7, rfl, hv7⟩, hb7⟩
      obtain ⟨a7, cp7, rfl, hc7, hm7, _, ht7⟩ := hv7.read
      rw [HT.out.len_] at hc7
      have H7 := Lib.hid (H6.out.trans (hb7.mono H6.out.size))
      have HC7 := Lib.hid (HC6.out.below hb7 hlt6)
      have hlt7 : w.heap.size < w7.heap.size := Nat.lt_of_lt_of_le hlt6 hb7.size
      have Hm := Lib.hid (meet_walk (len : Int) (K : Int) w7.heap.size a7 len cp7 L ax M cx X ay M cy Y w7 E (HE.out.1.below H7.out (Nat.le_refl _)) ((H7.out.cell (lt_of_cell HE.out.2)).trans HE.out.2) HT.out.len_ hc7 HT.out.sizeAt ht7 (Nat.le_refl _)
        HX.out.1 HY.out.1 (by unfold maxLen; omega) (by unfold maxLen; omega) ((HY.out.2.2.2.2.below hb7).mono hb7.size) ((HY.out.2.2.2.1.below hb7).mono hb7.size))
      rw [HT.out.len_]
      clear hb7 hv7 ht7 c0 c1 c2
      go_wp2_with fail
      refine Hm.out.mono ?_
      rintro e w8 ⟨hb8, hres⟩
      have H8 := Lib.hid (H7.out.trans (hb8.mono H7.out.size))
      obtain ⟨c0, c1, c2⟩ := HC7.out.below hb8 hlt7
      clear hb8
      rcases hres with ⟨hn0, _⟩ | ⟨_, hn0, _⟩ | ⟨_, _, v8, hv8, rfl⟩
      · exact absurd HN.out.2.1 hn0
      · exact absurd (by rw [meet_all HX.out.2.2.1 HY.out.2.2.1]) hn0
      · obtain ⟨a8, cp8, rfl, _, _, _, _⟩ := hv8.read
        have hbl := both_length HN.out.1 HX.out.2.1 HY.out.2.1 HX.out.2.2.1 HY.out.2.2.1
        obtain ⟨lb, hlb⟩ : ∃ lb, (bothL L X Y).length = lb := ⟨_, rfl⟩
        have hKl : K ≤ lb := by
          have e1 := HX.out.1
          have e2 := HY.out.1
          have e3 := HT.out.len_
          have e4 := HN.out.2.2
          omega
        rw [hlb]
        have hKi : (K : Int) ≤ lb := by omega
        have hKd : decide (K ≤ lb) = true := decide_eq_true hKl
        clear hv8 hbl hlb
        go_wp2
        go_ret
        exact ⟨rfl, H8.out⟩
    · rcases hv with ⟨x, rfl⟩ | ⟨m, rfl⟩
      · go_wp2
        go_ret
        exact ⟨rfl, H4.out⟩
      · unfold faultV
        go_wp2
        go_ret
        exact ⟨rfl, H4.out⟩
end Go.Proofs.YtmaalkjimppnkaaDoor.quorumTwo
