/- The walk of the law RingMoves. -/
import Derived.Test.YtjgllhnecoibkaaGreatDoorPfC
import Derived.Test.YtjgllhnecoibkaaGreatDoorPtF
import Derived.Test.YtjgllhnecoibkaaGreatDoorRmA
import Derived.Test.YtjgllhnecoibkaaGreatDoorTxR
import Derived.Test.YtjgllhnecoibkaaGreatDoorPrP
import Derived.Test.YtjgllhnecoibkaaGreatDoorFl1
import Derived.Test.YtjgllhnecoibkaaGreatDoorEnv
import Derived.Lib.QuietBelow
import Derived.BigQuiet
namespace Go.Proofs.YtjgllhnecoibkaaGreatDoor
open Go.RowKit

set_option maxRecDepth 100000 in
set_option maxHeartbeats 1000000 in
theorem owntR_walk (n₀ : Nat) (a : Option Addr) (len cap : Nat) (L : List ByteArray) (w : World) (hlen : L.length = len) (hl : len * 16 ≤ 140737488351232) (ha : a = none → cap = 0) (hI : TxsAt n₀ w a L) :
    Calls Tryz.prog 10 #[.slice a len cap] w fun e w' => (∃ v, e = .returned v ∧ OwnT w.heap.size w' v L) ∧ Below w.heap.size w w' := by
  have hul : (([] : List ByteArray).length + L.length) * 16 ≤ 140737488355328 := by simp; omega
  have H := Lib.hid (And.intro hlen (And.intro hul (And.intro ha hI)))
  clear hlen hul ha hI
  go_enter Tryz.func10, Tryz.ntmps10
  go_wp2_with (at_builtin; refine append_txtsR 4 5 rfl rfl w.heap.size (.slice none 0 0) [] n₀ a len cap L rfl rfl (OwnT.nil _ _) H.out.1 H.out.2.1 H.out.2.2.1 H.out.2.2.2 (Nat.le_refl _) ?_)
  intro v' w' k1 k2 _
  have HR := Lib.hid (And.intro k1 ((Below.refl w.heap.size w).grown k2 (Nat.le_refl _) (fun j e => by simp [Value.ownBlock] at e)))
  clear k1 k2
  go_wp2
  go_ret
  exact ⟨⟨_, rfl, HR.out.1⟩, HR.out.2⟩

theorem nlt_total {H : ByteArray → Nat → Nat} {h : Nat} {a b : ByteArray} (hn : a ≠ b) : Rg.nlt H h a b ∨ Rg.nlt H h b a := by
  unfold Rg.nlt
  rcases Nat.lt_trichotomy (Rg.m8 H h a) (Rg.m8 H h b) with h1 | h1 | h1
  · exact .inl (.inl h1)
  · cases h2 : Rg.tlt a b with
    | true => exact .inl (.inr ⟨h1, rfl⟩)
    | false =>
      cases h3 : Rg.tlt b a with
      | true => exact .inr (.inr ⟨h1.symm, rfl⟩)
      | false => exact absurd (Rg.tlt_total h2 h3) hn
  · exact .inr (.inl h1)
theorem nlt_insert {H : ByteArray → Nat → Nat} {h : Nat} (x : ByteArray) : ∀ O : List ByteArray, O.Pairwise (Rg.nlt H h) → x ∉ O → ∃ O' : List ByteArray, O'.Perm (x :: O) ∧ O'.Pairwise (Rg.nlt H h)
  | [], _, _ => ⟨[x], List.Perm.refl _, by simp⟩
  | a :: O, hp, hx => by
    obtain ⟨hp1, hp2⟩ := List.pairwise_cons.1 hp
    have hne : a ≠ x := fun e => hx (by rw [e]; exact List.mem_cons_self ..)
    have hx2 : x ∉ O := fun e => hx (List.mem_cons_of_mem _ e)
    rcases nlt_total (H := H) (h := h) hne with h1 | h1
    · obtain ⟨O', h2, h3⟩ := nlt_insert x O hp2 hx2
      refine ⟨a :: O', (List.Perm.cons a h2).trans (List.Perm.swap x a O), List.pairwise_cons.2 ⟨fun b hb => ?_, h3⟩⟩
      rcases List.mem_cons.1 (h2.mem_iff.1 hb) with rfl | hb2
      · exact h1
      · exact hp1 b hb2
    · refine ⟨x :: a :: O, List.Perm.refl _, List.pairwise_cons.2 ⟨fun b hb => ?_, hp⟩⟩
      rcases List.mem_cons.1 hb with rfl | hb2
      · exact h1
      · exact Rg.nlt_trans h1 (hp1 b hb2)
theorem pref_exists {H : ByteArray → Nat → Nat} {h : Nat} : ∀ L : List ByteArray, L.Nodup → ∃ O, Rg.IsPref H h L O
  | [], _ => ⟨[], List.Perm.refl _, List.Pairwise.nil⟩
  | x :: L, hn => by
    obtain ⟨h1, h2⟩ := List.nodup_cons.1 hn
    obtain ⟨O, h3, h4⟩ := pref_exists (H := H) (h := h) L h2
    obtain ⟨O', h5, h6⟩ := nlt_insert (H := H) (h := h) x O h4 (fun e => h1 (h3.mem_iff.1 e))
    exact ⟨O', h5.trans (List.Perm.cons x h3), h6⟩
theorem chg_at {f g : ByteArray → List ByteArray} {keys : List ByteArray} {i : Nat} (hi : i < keys.length) (hne : f (keys[i]?.getD ⟨#[]⟩) ≠ g (keys[i]?.getD ⟨#[]⟩)) :
    (chg f g (keys.take i)).length < (chg f g keys).length ∧ (chg f g keys)[(chg f g (keys.take i)).length]?.getD ch0 = (keys[i]?.getD ⟨#[]⟩, f (keys[i]?.getD ⟨#[]⟩), g (keys[i]?.getD ⟨#[]⟩)) := by
  have e : chg f g keys = chg f g (keys.take (i + 1)) ++ chg f g (keys.drop (i + 1)) := by
    unfold chg
    rw [← List.filterMap_append, List.take_append_drop]
  rw [chg_take hi, if_neg hne] at e
  rw [e]
  refine ⟨by simp, ?_⟩
  rw [List.append_assoc, List.getElem?_append_right (Nat.le_refl _), Nat.sub_self]
  rfl
namespace ringMoves
open Go.BigFrame
set_option maxRecDepth 100000 in
set_option maxHeartbeats 16000000 in
theorem walk (a : Option Addr) (len cap : Nat) (L : List ByteArray) (a2 : Option Addr) (len2 cap2 : Nat) (L2 : List ByteArray) (ak : Option Addr) (lk ck : Nat) (K : List ByteArray) (n : Int) (w : World) (hin : TxsIn w a len cap L) (hin2 : TxsIn w a2 len2 cap2 L2) (hink : TxsIn w ak lk ck K) (hrk : lk * 16 ≤ 140737488351232) (_w3 : (Lit.int .i64 n).wf = true)
    (hL : laidMetH Tryz.prog Rows.ringMovesRow.laid w) :
    Calls Tryz.prog 4 #[.slice a len cap, .slice a2 len2 cap2, .slice ak lk ck, .int .i64 n] w fun e w' => e = .returned (.bool true) ∧ Below w.heap.size w w' := by
  obtain ⟨E, hE⟩ := env_of_drop 3 rfl hL
  have HE := Lib.hid hE
  have Hrd := Lib.hid (round_walk w E hE.rx)
  have HT := Lib.hid hin
  have HT2 := Lib.hid hin2
  have HK := Lib.hid hink
  have hml9 : cap ≤ 9223372036854775807 := hin.max_
  have hlc := hin.cap_
  have hml92 : cap2 ≤ 9223372036854775807 := hin2.max_
  have hlc2 := hin2.cap_
  have hmk9 : ck ≤ 9223372036854775807 := hink.max_
  have hlck := hink.cap_
  obtain ⟨f, hf⟩ := pref_fun L n.toNat
  obtain ⟨g, hg⟩ := pref_fun L2 n.toNat
  have Hfg := Lib.hid (And.intro hf hg)
  have Hrk := Lib.hid hrk
  clear hL hE hin hin2 hink hf hg hrk
  go_enter Tryz.func4, Tryz.ntmps4
  go_wp2_with fail
  refine Hrd.out.mono ?_
  rintro e w1 ⟨rfl, hb1⟩
  have H1 := Lib.hid hb1
  clear hb1
  obtain ⟨lt, hlt⟩ : ∃ lt, longT L = lt := ⟨_, rfl⟩
  have Hlt := Lib.hid hlt
  have Hlw := Lib.hid (longt_walk w.heap.size a len cap L w1 HT.out.len_ (by have := HT.out.max_; omega) HT.out.sizeAt (HT.out.txs.below H1.out))
  rw [hlt] at Hlw
  clear hlt
  go_wp2_with fail
  refine Hlw.out.mono ?_
  rintro e w' ⟨rfl, rfl⟩
  cases lt with
  | true =>
    go_wp2
    go_ret
    exact ⟨rfl, H1.out⟩
  | false =>
  obtain ⟨lt2, hlt2⟩ : ∃ lt2, longT L2 = lt2 := ⟨_, rfl⟩
  have Hlt2 := Lib.hid hlt2
  have Hlw2 := Lib.hid (longt_walk w.heap.size a2 len2 cap2 L2 w1 HT2.out.len_ (by have := HT2.out.max_; omega) HT2.out.sizeAt (HT2.out.txs.below H1.out))
  rw [hlt2] at Hlw2
  clear hlt2 Hlw
  go_wp2_with fail
  refine Hlw2.out.mono ?_
  rintro e w' ⟨rfl, rfl⟩
  cases lt2 with
  | true =>
    go_wp2
    go_ret
    exact ⟨rfl, H1.out⟩
  | false =>
  have hl40 := (longT_no Hlt.out).1
  have hl402 := (longT_no Hlt2.out).1
  rw [HT.out.len_] at hl40
  rw [HT2.out.len_] at hl402
  clear Hlw2
  rcases (show (20 < lk ∧ lk ≤ 200) ∨ lk ≤ 20 ∨ 200 < lk by omega) with ⟨g1, g2⟩ | g1 | g1
  · have g1a : (20 : Int) < lk := by omega
    have g1b : decide (20 < lk) = true := decide_eq_true g1
    have g2a : (lk : Int) ≤ 200 := by omega
    have g2b : decide (lk ≤ 200) = true := decide_eq_true g2
    clear g1 g2
    go_wp2
    go_ret
    exact ⟨rfl, H1.out⟩
  case' inr.inl =>
    have Hk2 : Hid (200 < lk → False) := Lib.hid (fun h => by omega)
    have g1a : ¬ (20 : Int) < lk := by omega
    have g1b : decide (20 < lk) = false := decide_eq_false (by omega)
  case' inr.inr =>
    have Hk2 : Hid (lk ≤ 200 → False) := Lib.hid (fun h => by omega)
    have g1a : (20 : Int) < lk := by omega
    have g1b : decide (20 < lk) = true := decide_eq_true (by omega)
    have g2a : ¬ (lk : Int) ≤ 200 := by omega
    have g2b : decide (lk ≤ 200) = false := decide_eq_false (by omega)
  all_goals
    clear g1
    go_wp2
    clear g1a g1b
    try clear g2a g2b
    go_loop [10] (fun vi => ∃ i : Nat, i ≤ lk ∧ vi = .int .i64 i ∧ Hid (∀ j, j < i → (K[j]?.getD (⟨#[]⟩ : ByteArray)).size ≤ 100)) (fun i => lk - (intOf i).toNat)
    case atStart => exact ⟨0, by omega, rfl, Lib.hid (fun j hj => by omega)⟩
    case round =>
      obtain ⟨i, hi, rfl, Hj⟩ := hrel
      have hi2 : i < lk ∨ i = lk := by omega
      rcases hi2 with hilt | rfl
      · have hilt2 : (i : Int) < lk := by omega
        rcases HK.out.txs.below H1.out with he | ⟨b, off, rfl, _, hcx⟩
        · exfalso
          have := HK.out.len_
          rw [he] at this; simp at this; omega
        have h1 := hcx i (by have := HK.out.len_; omega)
        have hxs := HK.out.sizeAt i
        obtain ⟨x, hx⟩ : ∃ x, K[i]?.getD (⟨#[]⟩ : ByteArray) = x := ⟨_, rfl⟩
        rw [hx] at h1 hxs
        unfold maxLen at hxs
        have Hx := Lib.hid hx
        clear hcx hx
        by_cases h60 : 100 < x.size
        · have g2 : (100 : Int) < x.size := by omega
          have g2d : decide (100 < x.size) = true := decide_eq_true h60
          clear h60
          go_wp2
          go_ret
          exact ⟨rfl, H1.out⟩
        · have g2 : ¬ (100 : Int) < x.size := by omega
          have g2d : decide (100 < x.size) = false := decide_eq_false h60
          have H60 := Lib.hid h60
          clear h60
          go_wp2
          go_round
          case rel => exact ⟨i + 1, by omega, by go_num, Lib.hid (fun j hj => by
            by_cases e : j = i
            · rw [e, Hx.out]; have := H60.out; omega
            · exact Hj.out j (by omega))⟩
          case measure => simp [intOf]; omega
      · -- the lists are copied, Moves
        have How := Lib.hid (ownt_walk w.heap.size a len cap L w1 HT.out.len_ (by omega) HT.out.nil_ (HT.out.txs.below H1.out))
        go_wp2_with fail
        refine How.out.mono ?_
        rintro e w2 ⟨⟨v2, rfl, hv2⟩, hb2⟩
        obtain ⟨aA, cA, rfl, hcA, hmA, _, htA⟩ := hv2.read
        rw [HT.out.len_] at hcA ⊢
        have H2 := Lib.hid (And.intro (H1.out.trans (hb2.mono H1.out.size)) htA)
        have How2 := Lib.hid (ownt_walk w.heap.size a2 len2 cap2 L2 w2 HT2.out.len_ (by omega) HT2.out.nil_ (HT2.out.txs.below H2.out.1))
        clear hb2 hv2 htA How
        go_wp2_with fail
        refine How2.out.mono ?_
        rintro e w3 ⟨⟨v3, rfl, hv3⟩, hb3⟩
        obtain ⟨aB, cB, rfl, hcB, hmB, _, htB⟩ := hv3.read
        rw [HT2.out.len_] at hcB ⊢
        have H3 := Lib.hid (And.intro (H2.out.1.trans (hb3.mono H2.out.1.size)) (And.intro ((H2.out.2.below hb3).mono hb3.size) htB))
        have How3 := Lib.hid (owntR_walk w.heap.size ak i ck K w3 HK.out.len_ Hrk.out HK.out.nil_ (HK.out.txs.below H3.out.1))
        clear hb3 hv3 htB How2
        go_wp2_with fail
        refine How3.out.mono ?_
        rintro e w4 ⟨⟨v4, rfl, hv4⟩, hb4⟩
        obtain ⟨aK, cK, rfl, hcK, hmK, _, htK⟩ := hv4.read
        rw [HK.out.len_] at hcK ⊢
        have H4 := Lib.hid (H3.out.1.trans (hb4.mono H3.out.1.size))
        have Hmv := Lib.hid (moves_walk n w4.heap.size aA len cA L aB len2 cB L2 aK i cK K f g w4 E (HE.out.rx.below H4.out (Nat.le_refl _)) HT.out.len_ (by unfold maxLen; omega) hcA HT.out.sizeAt ((H3.out.2.1.below hb4).mono hb4.size)
          HT2.out.len_ (by unfold maxLen; omega) hcB HT2.out.sizeAt ((H3.out.2.2.below hb4).mono hb4.size) HK.out.len_ (by unfold maxLen; omega) HK.out.sizeAt htK (Nat.le_refl _) Hfg.out.1 Hfg.out.2)
        clear hb4 hv4 htK How3
        go_wp2_with fail
        refine Hmv.out.mono ?_
        rintro e w7 ⟨hb7, hres⟩
        have H7 := Lib.hid (H4.out.trans (hb7.mono H4.out.size))
        have Hpf := Lib.hid (rpf_walk w.heap.size a len cap L n w7 HT.out.len_ hlc HT.out.sizeAt (HT.out.txs.below H7.out) H7.out.size (by unfold maxLen; omega))
        have HK100 := Lib.hid Hj.out
        have hKl := HK.out.len_
        rw [hKl] at hres
        clear hb7 Hmv Hj hKl
        rcases hres with ⟨h0, v7, hv7, hf7, rfl⟩ | ⟨h0, v7, hv7, rfl⟩
        · have Hf7 := Lib.hid hf7
          clear hv7 hf7
          by_cases hA : (lookF L n).1 = 0
          · have hA2 := (lookF_zero hA).2.2.2.2.2
            rw [hA2] at Hpf
            have hm1 : moveF L L2 i n = if (lookF L2 n).1 ≠ 0 then lookF L2 n else if 200 < i then (2, -1) else (0, -1) := by unfold moveF; rw [if_neg (by rw [hA]; decide)]
            rw [hm1] at h0 Hf7
            clear hA hA2 hm1
            go_wp2_with fail
            refine Hpf.out.mono ?_
            rintro e w8 ⟨rfl, hb8⟩
            unfold fltA
            have H8 := Lib.hid (H7.out.trans (hb8.mono H7.out.size))
            have hf8 := Hf7.out.below hb8 (Nat.le_refl _)
            obtain ⟨W, hW⟩ : ∃ W, w8.alloc (.cells #[.int .i64 0, .int .i64 (-1)] 31) = W := ⟨_, rfl⟩
            have hBW : Below w8.heap.size w8 W := by rw [← hW]; exact (Below.refl _ w8).alloc (Nat.le_refl _) _
            have hPW := Pair.new w8 (.int .i64 0) (.int .i64 (-1)) 31
            rw [hW] at hPW
            have hltW : w8.heap.size < W.heap.size := by rw [← hW]; simp
            have HB9 := Lib.hid (H8.out.trans (hBW.mono H8.out.size))
            have Hf9 := Lib.hid (hf8.below hBW (Nat.le_refl _))
            have Hge := Lib.hid (show w.heap.size ≤ w8.heap.size from H8.out.size)
            obtain ⟨bf, hbf⟩ : ∃ bf, w8.heap.size = bf := ⟨_, rfl⟩
            rw [hbf] at hPW hltW Hge
            have HP9 := Lib.hid (And.intro hPW hltW)
            have HWe := Lib.hid (And.intro hW hbf)
            clear hb8 hf8 hW hBW hPW hltW hbf Hpf Hf7
            go_upto_region 11 with fail
            rw [HWe.out.1, HWe.out.2]
            obtain ⟨p0, p1, p2, p3⟩ := HP9.out.1
            have Hpf2 := Lib.hid (rpf_walk w.heap.size a2 len2 cap2 L2 n W HT2.out.len_ hlc2 HT2.out.sizeAt (HT2.out.txs.below HB9.out) HB9.out.size (by unfold maxLen; omega))
            obtain ⟨F2, hF2⟩ : ∃ F2, lookF L2 n = F2 := ⟨_, rfl⟩
            rw [hF2] at Hpf2 h0 Hf9
            have HF2 := Lib.hid hF2
            clear hF2
            go_wp2_with fail
            refine Hpf2.out.mono ?_
            rintro e w10 ⟨rfl, hb10⟩
            unfold fltA
            have HB10 := Lib.hid (HB9.out.trans (hb10.mono HB9.out.size))
            have HP10 := Lib.hid (HP9.out.1.below hb10 HP9.out.2)
            have Hf10 := Lib.hid (Hf9.out.below hb10 (Nat.le_refl _))
            clear hb10 p0 p1 p2 p3 Hf9 HP9 Hpf2
            obtain ⟨p0, p1, p2, p3⟩ := HP10.out
            go_upto_region 13 with fail
            obtain ⟨W2, hW2⟩ : ∃ W2, (w10.setCell ⟨bf, 0, none⟩ (.int .i64 (F2.1 : Nat))).setCell ⟨bf, 1, none⟩ (.int .i64 F2.2) = W2 := ⟨_, rfl⟩
            have HP11 := Lib.hid (show Pair W2 bf (.int .i64 (F2.1 : Nat)) (.int .i64 F2.2) by rw [← hW2]; exact HP10.out.put _ _)
            have HB11 := Lib.hid (show Below w.heap.size w W2 by rw [← hW2]; exact (HB10.out.setCell (p := ⟨bf, 0, none⟩) Hge.out _).setCell (p := ⟨bf, 1, none⟩) Hge.out _)
            have Hf11 := Lib.hid (show FltV W2 E _ v7 by rw [← hW2]; exact FltV.put HP10.out Hf10.out _ _)
            rw [hW2]
            clear hW2 p0 p1 p2 p3 HP10 HB10 Hf10
            obtain ⟨p0, p1, p2, p3⟩ := HP11.out
            by_cases hB : F2.1 = 0
            · have hF3 : F2 = (0, -1) := by rw [← HF2.out]; exact (lookF_zero (by rw [HF2.out]; exact hB)).2.2.2.2.2
              subst hF3
              rw [if_neg (fun h => h rfl)] at h0
              have h200 : 200 < i := by
                rcases Nat.lt_or_ge 200 i with h | h
                · exact h
                · rw [if_neg (by omega)] at h0; exact absurd rfl h0
              try exact absurd h200 Hk2.out
              all_goals
                have g1 : (200 : Int) < i := by omega
                have g1d : decide (200 < i) = true := decide_eq_true h200
                have Hb := Lib.hid (bare_walk 2 W2)
                have Hf12 := Lib.hid (show FltV W2 E (2, -1) v7 by have h := Hf11.out; rw [if_neg (fun h => h rfl), if_pos h200] at h; exact h)
                clear hB h0 h200 Hf11 p0 p1 p2 p3
                obtain ⟨p0, p1, p2, p3⟩ := (show Pair W2 bf (.int .i64 0) (.int .i64 (-1)) from HP11.out)
                go_wp2_with fail
                refine Hb.out.mono ?_
                rintro e w12 ⟨rfl, hb12⟩
                have hlt2 := lt_of_cell p0
                have HB12 := Lib.hid (HB11.out.trans (hb12.mono HB11.out.size))
                have HP12 := Lib.hid (HP11.out.below hb12 hlt2)
                have Hf12b := Lib.hid (Hf12.out.below hb12 (Nat.le_refl _))
                clear hb12 p0 p1 p2 p3
                obtain ⟨p0, p1, p2, p3⟩ := (show Pair w12 bf (.int .i64 0) (.int .i64 (-1)) from HP12.out)
                go_upto_region 15 with fail
                obtain ⟨W3, hW3⟩ : ∃ W3, (w12.setCell ⟨bf, 0, none⟩ (.int .i64 2)).setCell ⟨bf, 1, none⟩ (.int .i64 (-1)) = W3 := ⟨_, rfl⟩
                have HP13 := Lib.hid (show Pair W3 bf (.int .i64 2) (.int .i64 (-1)) by rw [← hW3]; exact HP12.out.put _ _)
                have HB13 := Lib.hid (show Below w.heap.size w W3 by rw [← hW3]; exact (HB12.out.setCell (p := ⟨bf, 0, none⟩) Hge.out _).setCell (p := ⟨bf, 1, none⟩) Hge.out _)
                have Hf13 := Lib.hid (show FltV W3 E (2, -1) v7 by rw [← hW3]; exact FltV.put HP12.out Hf12b.out _ _)
                rw [hW3]
                clear hW3 p0 p1 p2 p3 HP12 HB12
                obtain ⟨p0, p1, p2, p3⟩ := HP13.out
                have Hfd := Lib.hid (faulted1_walk E (2, -1) (2, -1) v7 true W3 (HE.out.below HB13.out (Nat.le_refl _)) Hf13.out (by simp))
                go_wp2_with fail
                refine Hfd.out.mono ?_
                rintro e w14 ⟨rfl, hb14⟩
                have H14 := Lib.hid (HB13.out.trans (hb14.mono HB13.out.size))
                clear hb14
                go_wp2
                go_ret
                exact ⟨rfl, H14.out⟩
            · have Hfd := Lib.hid (faulted1_walk E F2 F2 v7 true W2 (HE.out.below HB11.out (Nat.le_refl _)) (by have h := Hf11.out; rw [if_pos hB] at h; exact h) (by simp))
              have e1 : ((F2.1 : Int) == 0) = false := beq_eq_false_iff_ne.2 (by omega)
              have e2 : (F2.1 == 0) = false := beq_eq_false_iff_ne.2 hB
              have hpos : (0 : Int) < (F2.1 : Nat) := by omega
              have hposd : decide (0 < F2.1) = true := decide_eq_true (by omega)
              clear hB h0 Hf11
              go_wp2_with fail
              refine Hfd.out.mono ?_
              rintro e w14 ⟨rfl, hb14⟩
              have H14 := Lib.hid (HB11.out.trans (hb14.mono HB11.out.size))
              clear hb14
              go_wp2
              go_ret
              exact ⟨rfl, H14.out⟩
          · have hm1 : moveF L L2 i n = lookF L n := by unfold moveF; rw [if_pos hA]
            rw [hm1] at Hf7
            obtain ⟨F1, hF1⟩ : ∃ F1, lookF L n = F1 := ⟨_, rfl⟩
            rw [hF1] at Hf7 Hpf hA
            clear hm1 h0 hF1
            go_wp2_with fail
            refine Hpf.out.mono ?_
            rintro e w8 ⟨rfl, hb8⟩
            have H8 := Lib.hid (H7.out.trans (hb8.mono H7.out.size))
            have hB9 : Below w8.heap.size w8 (w8.alloc (.cells #[.int .i64 (F1.1 : Nat), .int .i64 F1.2] 31)) := (Below.refl _ w8).alloc (Nat.le_refl _) _
            have H9 := Lib.hid (H8.out.trans (hB9.mono H8.out.size))
            have Hfd := Lib.hid (faulted1_walk E F1 F1 v7 true (w8.alloc (.cells #[.int .i64 (F1.1 : Nat), .int .i64 F1.2] 31)) (HE.out.below H9.out (Nat.le_refl _)) ((Hf7.out.below hb8 (Nat.le_refl _)).below hB9 (Nat.le_refl _)) (by simp))
            obtain ⟨F3, F4⟩ := F1
            unfold fltA
            dsimp only at hA Hfd H9 ⊢
            have e1 : ((F3 : Int) == 0) = false := beq_eq_false_iff_ne.2 (by omega)
            have e2 : (F3 == 0) = false := beq_eq_false_iff_ne.2 hA
            have hpos : (0 : Int) < (F3 : Nat) := by omega
            have hposd : decide (0 < F3) = true := decide_eq_true (by omega)
            clear hb8 Hf7 Hpf hB9 hA
            go_wp2_with fail
            refine Hfd.out.mono ?_
            rintro e w10 ⟨rfl, hb10⟩
            have H10 := Lib.hid (H9.out.trans (hb10.mono H9.out.size))
            clear hb10
            go_wp2
            go_ret
            exact ⟨rfl, H10.out⟩
        · have hA : (lookF L n).1 = 0 := by
            by_cases h : (lookF L n).1 = 0
            · exact h
            · unfold moveF at h0; rw [if_pos h] at h0; exact h0
          have hB : (lookF L2 n).1 = 0 := by
            by_cases h : (lookF L2 n).1 = 0
            · exact h
            · unfold moveF at h0; rw [if_neg (fun h => h hA), if_pos h] at h0; exact h0
          have hC : i ≤ 200 := by
            rcases Nat.lt_or_ge 200 i with h | h
            · unfold moveF at h0; rw [if_neg (fun h => h hA), if_neg (fun h => h hB), if_pos h] at h0; cases h0
            · exact h
          try exact absurd hC Hk2.out
          all_goals
            obtain ⟨q1, q2, q3, hn0, q4, hA2⟩ := lookF_zero hA
            obtain ⟨s1, s2, s3, _, s4, hB2⟩ := lookF_zero hB
            rw [HT.out.len_] at q4 q1
            rw [HT2.out.len_] at s4 s1
            obtain ⟨N, rfl⟩ := Int.eq_ofNat_of_zero_le hn0
            have hNl : N ≤ len := by omega
            have hNl2 : N ≤ len2 := by omega
            have HX := Lib.hid (And.intro (And.intro q1 (And.intro q2 q3)) (And.intro (And.intro s1 (And.intro s2 s3)) (And.intro hNl hNl2)))
            have Hfg2 : Hid ((∀ k O, Rg.IsPref ringH (Sm.hash (Sm.nats k)) L O → f k = O.take N) ∧ ∀ k O, Rg.IsPref ringH (Sm.hash (Sm.nats k)) L2 O → g k = O.take N) := Lib.hid (by have h := Hfg.out; rwa [Int.toNat_natCast] at h)
            obtain ⟨aC, cC, rfl, hcC, hmC, hR7⟩ := hv7.read
            have HR7 := Lib.hid hR7
            have hcl := chg_le f g K
            rw [HK.out.len_] at hcl
            obtain ⟨cl, hcle⟩ : ∃ cl, (chg f g K).length = cl := ⟨_, rfl⟩
            have Hcl := Lib.hid hcle
            rw [hcle] at hcC hcl ⊢
            have Hpf2 := Lib.hid (fun W (hW : Below w.heap.size w W) => rpf_walk w.heap.size a2 len2 cap2 L2 (N : Int) W HT2.out.len_ hlc2 HT2.out.sizeAt (HT2.out.txs.below hW) hW.size (by unfold maxLen; omega))
            rw [hA2] at Hpf
            rw [hB2] at Hpf2
            clear hv7 hR7 q1 q2 q3 q4 s1 s2 s3 s4 hn0 hA hB hA2 hB2 h0 Hfg hNl hNl2 hcle
            go_wp2_with fail
            refine Hpf.out.mono ?_
            rintro e w8 ⟨rfl, hb8⟩
            unfold fltA
            obtain ⟨W, hW⟩ : ∃ W, w8.alloc (.cells #[.int .i64 0, .int .i64 (-1)] 31) = W := ⟨_, rfl⟩
            have hBW : Below w8.heap.size w8 W := by rw [← hW]; exact (Below.refl _ w8).alloc (Nat.le_refl _) _
            have hPW := Pair.new w8 (.int .i64 0) (.int .i64 (-1)) 31
            rw [hW] at hPW
            have hltW : w8.heap.size < W.heap.size := by rw [← hW]; simp
            have HB9 := Lib.hid (hb8.trans (hBW.mono hb8.size))
            have Hge := Lib.hid hb8.size
            obtain ⟨bf, hbf⟩ : ∃ bf, w8.heap.size = bf := ⟨_, rfl⟩
            rw [hbf] at hPW hltW Hge
            have HP9 := Lib.hid (And.intro hPW hltW)
            have HWe := Lib.hid (And.intro hW hbf)
            clear hb8 hW hBW hPW hltW hbf Hpf
            go_upto_region 11 with fail
            rw [HWe.out.1, HWe.out.2]
            obtain ⟨p0, p1, p2, p3⟩ := HP9.out.1
            have Hpf3 := Lib.hid (Hpf2.out W (H7.out.trans (HB9.out.mono H7.out.size)))
            go_wp2_with fail
            refine Hpf3.out.mono ?_
            rintro e w10 ⟨rfl, hb10⟩
            unfold fltA
            have HB10 := Lib.hid (HB9.out.trans (hb10.mono HB9.out.size))
            have HP10 := Lib.hid (HP9.out.1.below hb10 HP9.out.2)
            clear hb10 p0 p1 p2 p3 HP9 Hpf2 Hpf3
            obtain ⟨p0, p1, p2, p3⟩ := HP10.out
            go_upto_region 13 with fail
            obtain ⟨W2, hW2⟩ : ∃ W2, (w10.setCell ⟨bf, 0, none⟩ (.int .i64 0)).setCell ⟨bf, 1, none⟩ (.int .i64 (-1)) = W2 := ⟨_, rfl⟩
            have HP11 := Lib.hid (show Pair W2 bf (.int .i64 0) (.int .i64 (-1)) by rw [← hW2]; exact HP10.out.put _ _)
            have hB11 : Below w7.heap.size w7 W2 := by rw [← hW2]; exact (HB10.out.setCell (p := ⟨bf, 0, none⟩) Hge.out _).setCell (p := ⟨bf, 1, none⟩) Hge.out _
            have HB11 := Lib.hid (H7.out.trans (hB11.mono H7.out.size))
            have HR11 := Lib.hid (HR7.out.below hB11)
            have Hs11 := Lib.hid hB11.size
            rw [hW2]
            clear hW2 p0 p1 p2 p3 HP10 HB10 hB11
            obtain ⟨p0, p1, p2, p3⟩ := HP11.out
            have g1 : ¬ (200 : Int) < i := by omega
            have g1d : decide (200 < i) = false := decide_eq_false (by omega)
            go_wp2
            clear p0 p1 p2 p3
            go_loopw [14, 15] (fun vat vi wr => ∃ k m : Nat, k ≤ i ∧ vi = .int .i64 k ∧ vat = .int .i64 m ∧ m ≤ 200 ∧ Hid (m = (chg f g (K.take k)).length ∧ Below W2.heap.size W2 wr)) (fun _ vi _ => i - (intOf vi).toNat)
            case atStart => exact ⟨0, 0, by omega, rfl, rfl, by omega, Lib.hid ⟨by simp [chg], Below.refl _ _⟩⟩
            case round =>
              obtain ⟨k, m, hk, rfl, rfl, hm200, Hr⟩ := hrel
              have HBr := Lib.hid (HB11.out.trans (Hr.out.2.mono HB11.out.size))
              have hk2 : k < i ∨ k = i := by omega
              rcases hk2 with hklt | rfl
              · have hklt2 : (k : Int) < i := by omega
                have hkK : k < K.length := by have := HK.out.len_; omega
                rcases HK.out.txs.below HBr.out with he | ⟨bk, ok, rfl, hbk, hcx⟩
                · exfalso
                  rw [he] at hkK; simp at hkK
                have h1 := hcx k hkK
                have hx100 := HK100.out k hklt
                have hnx := chg_take (f := f) (g := g) hkK
                have hat := chg_at (f := f) (g := g) hkK
                obtain ⟨x, hx⟩ : ∃ x, K[k]?.getD (⟨#[]⟩ : ByteArray) = x := ⟨_, rfl⟩
                rw [hx] at h1 hx100 hnx hat
                rw [← Hr.out.1] at hat
                have Hnx := Lib.hid (And.intro hnx hat)
                have Hx100 := Lib.hid hx100
                have Hkc := Lib.hid (fun (V : World) (hV : Below wr.heap.size wr V) => (hV.cell (p := ⟨bk, ok + k, none⟩) (by show bk < _; have := HBr.out.size; omega)).trans h1)
                obtain ⟨O1, hO1⟩ := pref_exists (H := ringH) (h := Sm.hash (Sm.nats x)) L HX.out.1.2.1
                obtain ⟨O2, hO2⟩ := pref_exists (H := ringH) (h := Sm.hash (Sm.nats x)) L2 HX.out.2.1.2.1
                have hfx := Hfg2.out.1 x O1 hO1
                have hgx := Hfg2.out.2 x O2 hO2
                have Hp1 := Lib.hid (rprefer_walk w.heap.size a len cap L x N O1 wr HT.out.len_ HX.out.1.1.1 HX.out.1.1.2 (fun s hs => nameB_le (HX.out.1.2.2 s hs)) HX.out.1.2.1 hx100 HX.out.2.2.1 hO1 (HT.out.txs.below HBr.out) HBr.out.size)
                have Hp2 := Lib.hid (fun W (hW : Below w.heap.size w W) => rprefer_walk w.heap.size a2 len2 cap2 L2 x N O2 W HT2.out.len_ HX.out.2.1.1.1 HX.out.2.1.1.2 (fun s hs => nameB_le (HX.out.2.1.2.2 s hs)) HX.out.2.1.2.1 Hx100.out HX.out.2.2.2 hO2 (HT2.out.txs.below hW) hW.size)
                rw [← hfx] at Hp1
                rw [← hgx] at Hp2
                clear hcx hx hnx hat hO1 hO2 hfx hgx hkK hx100
                go_wp2_with fail
                refine Hp1.out.mono ?_
                rintro e w12 ⟨hb12, vA, rfl, hvA⟩
                obtain ⟨aX, cX, rfl, hcX, hmX, _, htX⟩ := hvA.read
                have HB12 := Lib.hid (And.intro hb12 htX)
                have h1b := Hkc.out w12 hb12
                have Hp3 := Lib.hid (Hp2.out w12 (HBr.out.trans (hb12.mono HBr.out.size)))
                obtain ⟨la, hla⟩ : ∃ la, (f x).length = la := ⟨_, rfl⟩
                rw [hla] at hcX ⊢
                have Hla := Lib.hid hla
                clear hb12 htX hvA h1 Hp2 Hp1 hla
                go_wp2_with fail
                refine Hp3.out.mono ?_
                rintro e w13 ⟨hb13, vB, rfl, hvB⟩
                obtain ⟨aY, cY, rfl, hcY, hmY, _, htY⟩ := hvB.read
                have HB13 := Lib.hid (And.intro (HB12.out.1.trans (hb13.mono HB12.out.1.size)) (And.intro ((HB12.out.2.below hb13).mono hb13.size) htY))
                obtain ⟨lb, hlb⟩ : ∃ lb, (g x).length = lb := ⟨_, rfl⟩
                rw [hlb] at hcY ⊢
                have Hlb := Lib.hid hlb
                have Hs := Lib.hid (fun r hr => samet_walk w13.heap.size aX la cX (f x) aY lb cY (g x) r w13 Hla.out Hlb.out (by omega) HB13.out.2.1 HB13.out.2.2 hr)
                clear hb13 htY hvB h1b Hp3 hlb
                by_cases hfg : f x = g x
                · have Hs2 := Lib.hid (Hs.out true (decide_eq_true hfg))
                  have HR := Lib.hid (show m = (chg f g (K.take (k + 1))).length by rw [Hnx.out.1, if_pos hfg, List.append_nil, ← Hr.out.1])
                  clear hfg Hs
                  go_wp2_with fail
                  refine Hs2.out.mono ?_
                  rintro e w14 ⟨rfl, hb14⟩
                  have H14 := Lib.hid (Hr.out.2.trans ((HB13.out.1.trans (hb14.mono HB13.out.1.size)).mono Hr.out.2.size))
                  clear hb14
                  go_wp2
                  go_roundw
                  case rel => exact ⟨k + 1, m, by omega, by go_num, rfl, hm200, Lib.hid ⟨HR.out, H14.out⟩⟩
                  case measure => simp [intOf]; omega
                · have Hs2 := Lib.hid (Hs.out false (decide_eq_false hfg))
                  have HR := Lib.hid (show m + 1 = (chg f g (K.take (k + 1))).length by rw [Hnx.out.1, if_neg hfg, List.length_append, ← Hr.out.1]; rfl)
                  have hcat := Hnx.out.2 hfg
                  have hmcl : m < cl := by rw [← Hcl.out]; exact hcat.1
                  have Hcat := Lib.hid hcat.2
                  clear hfg Hs hcat
                  go_wp2_with fail
                  refine Hs2.out.mono ?_
                  rintro e w14 ⟨rfl, hb14⟩
                  have hbr14 := HB13.out.1.trans (hb14.mono HB13.out.1.size)
                  have H14 := Lib.hid (Hr.out.2.trans (hbr14.mono Hr.out.2.size))
                  have hkc := Hkc.out w14 hbr14
                  have htx := (HB13.out.2.1.below hb14).mono hb14.size
                  have hty := (HB13.out.2.2.below hb14).mono hb14.size
                  rcases (HR11.out.below (H14.out.mono Hs11.out)) with he | ⟨bc, oc, rfl, _, hcc⟩
                  · exfalso
                    have := Hcl.out
                    rw [he] at this; simp at this; omega
                  obtain ⟨a1, c1, a2', c2, d0, d1, d2, t1, t2, m1, m2⟩ := hcc m (by rw [Hcl.out]; exact hmcl)
                  rw [Hcat.out] at d0 d1 d2 t1 t2 m1 m2
                  dsimp only at d0 d1 d2 t1 t2 m1 m2
                  rw [Hla.out] at d1 m1
                  rw [Hlb.out] at d2 m2
                  have hsz14 : w7.heap.size ≤ w14.heap.size := Nat.le_trans Hs11.out H14.out.size
                  have e0 := cell_regrown d0
                  have e1 := cell_regrown d1
                  have e2 := cell_regrown d2
                  have e3 := cell_regrown hkc
                  have cS1 := fun d os => Calls.regrown_of (samet_walk w14.heap.size a1 la c1 (f x) aX la cX (f x) true (Go.Sort.grow (redrawn w14 d) os) Hla.out Hla.out m1 ((t1.mono hsz14).below (below_regrown w14 d os)) (htx.below (below_regrown w14 d os)) (by simp))
                  have cS2 := fun d os => Calls.regrown_of (samet_walk w14.heap.size a2' lb c2 (g x) aY lb cY (g x) true (Go.Sort.grow (redrawn w14 d) os) Hlb.out Hlb.out m2 ((t2.mono hsz14).below (below_regrown w14 d os)) (hty.below (below_regrown w14 d os)) (by simp))
                  have gm1 : decide ((cl : Int) ≤ m) = false := decide_eq_false (by omega)
                  have gm2 : decide (cl ≤ m) = false := decide_eq_false (by omega)
                  have gm3 : (m : Int) < cl := by omega
                  clear hb14 hbr14 hkc htx hty hcc d0 d1 d2 t1 t2 m1 m2
                  go_wp2
                  refine wp_region_quiet_below (by kernel_rfl) (by kernel_rfl) ?_
                  repeat (go_big_quiet_step (first | with_reducible exact cS1 _ _ | with_reducible exact cS2 _ _))
                  refine wpQuiet_nil ?_
                  intro w15 hw'
                  obtain ⟨⟨dq, osq⟩, hw15⟩ := hw'
                  have h15 : Below w14.heap.size w14 w15 := by rw [hw15]; exact below_regrown w14 dq osq
                  have H15 := Lib.hid (H14.out.trans (h15.mono H14.out.size))
                  clear hw15 h15 e0 e1 e2 e3 cS1 cS2 gm1 gm2 gm3
                  go_wp2
                  go_roundw
                  case rel => exact ⟨k + 1, m + 1, by omega, by go_num, by go_num, by omega, Lib.hid ⟨HR.out, H15.out⟩⟩
                  case measure => simp [intOf]; omega
              · have hmc : m = cl := by rw [Hr.out.1, List.take_of_length_le (by have := HK.out.len_; omega), Hcl.out]
                subst hmc
                go_wp2
                go_ret
                exact ⟨by simp, HBr.out⟩
end ringMoves
end Go.Proofs.YtjgllhnecoibkaaGreatDoor
