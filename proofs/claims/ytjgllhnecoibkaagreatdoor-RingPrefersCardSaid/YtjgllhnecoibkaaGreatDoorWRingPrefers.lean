/- The walk of the law RingPrefers. -/
import Derived.Test.YtjgllhnecoibkaaGreatDoorPfC
import Derived.Test.YtjgllhnecoibkaaGreatDoorPtF
import Derived.Test.YtjgllhnecoibkaaGreatDoorFl1
import Derived.Test.YtjgllhnecoibkaaGreatDoorEnv
namespace Go.Proofs.YtjgllhnecoibkaaGreatDoor.ringPrefers
open Go.RowKit

set_option maxRecDepth 100000 in
set_option maxHeartbeats 8000000 in
theorem walk (a : Option Addr) (len cap : Nat) (L : List ByteArray) (key : ByteArray) (n : Int) (w : World) (hin : TxsIn w a len cap L) (hks : key.size ≤ maxLen) (_w3 : (Lit.int .i64 n).wf = true) (hL : laidMetH Tryz.prog Rows.ringPrefersRow.laid w) :
    Calls Tryz.prog 3 #[.slice a len cap, .string key, .int .i64 n] w fun e w' => e = .returned (.bool true) ∧ Below w.heap.size w w' := by
  obtain ⟨E, hE⟩ := env_of_drop 3 rfl hL
  have HE := Lib.hid hE
  have Hrd := Lib.hid (round_walk w E hE.rx)
  have HT := Lib.hid hin
  have hml := hin.max_
  have hlc := hin.cap_
  have hml9 : cap ≤ 9223372036854775807 := hml
  obtain ⟨kl, hkl⟩ : ∃ kl, key.size = kl := ⟨_, rfl⟩
  have Hkl := Lib.hid (And.intro hkl hks)
  have hkl9 : kl ≤ 9223372036854775807 := by rw [← hkl]; exact hks
  clear hL hE hin hks
  go_enter Tryz.func3, Tryz.ntmps3
  go_wp2_with fail
  refine Hrd.out.mono ?_
  rintro e w1 ⟨rfl, hb1⟩
  have H1 := Lib.hid hb1
  clear hb1
  obtain ⟨lt, hlt⟩ : ∃ lt, longT L = lt := ⟨_, rfl⟩
  have Hlt := Lib.hid hlt
  have Hlw := Lib.hid (longt_walk w.heap.size a len cap L w1 HT.out.len_ (by have := HT.out.max_; omega) HT.out.sizeAt (HT.out.txs.below H1.out))
  rw [hlt] at Hlw
  clear hlt
  go_wp2_with fail
  refine Hlw.out.mono ?_
  rintro e w' ⟨rfl, rfl⟩
  cases lt with
  | true =>
    go_wp2
    go_ret
    exact ⟨rfl, H1.out⟩
  | false =>
    by_cases g2 : 100 < kl
    · have g2a : (100 : Int) < kl := by omega
      have g2b : decide (100 < kl) = true := decide_eq_true g2
      clear g2
      go_wp2
      go_ret
      exact ⟨rfl, H1.out⟩
    have g2a : ¬ (100 : Int) < kl := by omega
    have g2b : decide (100 < kl) = false := decide_eq_false g2
    have hl40 := (longT_no Hlt.out).1
    rw [HT.out.len_] at hl40
    have Hk100 := Lib.hid (show key.size ≤ 100 by rw [Hkl.out.1]; omega)
    clear g2
    -- the check
    have How := Lib.hid (ownt_walk w.heap.size a len cap L w1 HT.out.len_ (by omega) HT.out.nil_ (HT.out.txs.below H1.out))
    go_wp2_with fail
    refine How.out.mono ?_
    rintro e w2 ⟨⟨v2, rfl, hv2⟩, hb2⟩
    obtain ⟨a2, c2, rfl, hc2, hm2, _, ht2⟩ := hv2.read
    rw [HT.out.len_] at hc2 ⊢
    have H2 := Lib.hid (H1.out.trans (hb2.mono H1.out.size))
    have Hck := Lib.hid (check_walk w2.heap.size a2 len c2 L w2 E (HE.out.nx.below H2.out (Nat.le_refl _)) HT.out.len_ hc2 HT.out.sizeAt ht2 (Nat.le_refl _))
    clear hb2 hv2 ht2 How
    go_wp2_with fail
    refine Hck.out.mono ?_
    rintro e w3 ⟨⟨v3, rfl, hf3⟩, hb3⟩
    have H3 := Lib.hid (H2.out.trans (hb3.mono H2.out.size))
    have Hf3 := Lib.hid hf3
    have Hrn := Lib.hid (rnodes_walk w.heap.size a len cap L w3 HT.out.len_ hlc HT.out.sizeAt (HT.out.txs.below H3.out) H3.out.size)
    clear hb3 hf3 Hck
    go_wp2_with fail
    refine Hrn.out.mono ?_
    rintro e w4 ⟨rfl, hb4⟩
    have H4 := Lib.hid (H3.out.trans (hb4.mono H3.out.size))
    have Hfd := Lib.hid (faulted1_walk E (nodesF L) (nodesF L) v3 true w4 (HE.out.below H4.out (Nat.le_refl _)) (Hf3.out.below hb4 (Nat.le_refl _)) (by simp))
    unfold fltA
    obtain ⟨F, hF⟩ : ∃ F, nodesF L = F := ⟨_, rfl⟩
    rw [hF] at Hfd ⊢
    clear hb4 Hf3 Hrn hF
    go_wp2_with fail
    refine Hfd.out.mono ?_
    rintro e w5 ⟨rfl, hb5⟩
    have H5 := Lib.hid (H4.out.trans (hb5.mono H4.out.size))
    clear hb5 Hfd
    -- Prefer
    have How := Lib.hid (ownt_walk w.heap.size a len cap L w5 HT.out.len_ (by omega) HT.out.nil_ (HT.out.txs.below H5.out))
    go_wp2_with fail
    refine How.out.mono ?_
    rintro e w6 ⟨⟨v6, rfl, hv6⟩, hb6⟩
    obtain ⟨a6, c6, rfl, hc6, hm6, _, ht6⟩ := hv6.read
    rw [HT.out.len_] at hc6 ⊢
    have H6 := Lib.hid (H5.out.trans (hb6.mono H5.out.size))
    have Hp1 := Lib.hid (prefer_walk n key w6.heap.size a6 len c6 L w6 E (HE.out.rx.below H6.out (Nat.le_refl _)) HT.out.len_ (by unfold maxLen; omega) hc6 HT.out.sizeAt ht6 (Nat.le_refl _) Hkl.out.2)
    clear hb6 hv6 ht6 How
    go_wp2_with fail
    refine Hp1.out.mono ?_
    rintro e w7 ⟨hb7, hres⟩
    have H7 := Lib.hid (H6.out.trans (hb7.mono H6.out.size))
    have Hpf := Lib.hid (rpf_walk w.heap.size a len cap L n w7 HT.out.len_ hlc HT.out.sizeAt (HT.out.txs.below H7.out) H7.out.size (by unfold maxLen; omega))
    rcases hres with ⟨h0, v7, hv7, hf7, rfl⟩ | ⟨h0, v7, O, hO, hv7, rfl⟩
    · have Hf7 := Lib.hid hf7
      obtain ⟨F2, hF2⟩ : ∃ F2, lookF L n = F2 := ⟨_, rfl⟩
      rw [hF2] at h0 Hf7 Hpf
      clear hb7 hv7 hf7 hF2
      go_wp2_with fail
      refine Hpf.out.mono ?_
      rintro e w8 ⟨rfl, hb8⟩
      have H8 := Lib.hid (H7.out.trans (hb8.mono H7.out.size))
      have hB9 : Below w8.heap.size w8 (w8.alloc (.cells #[.int .i64 (F2.1 : Nat), .int .i64 F2.2] 31)) := (Below.refl _ w8).alloc (Nat.le_refl _) _
      have H9 := Lib.hid (H8.out.trans (hB9.mono H8.out.size))
      have Hfd := Lib.hid (faulted1_walk E F2 F2 v7 true (w8.alloc (.cells #[.int .i64 (F2.1 : Nat), .int .i64 F2.2] 31)) (HE.out.below H9.out (Nat.le_refl _)) ((Hf7.out.below hb8 (Nat.le_refl _)).below hB9 (Nat.le_refl _)) (by simp))
      obtain ⟨F3, F4⟩ := F2
      unfold fltA
      dsimp only at h0 Hfd H9 ⊢
      have hpos : (0 : Int) < (F3 : Nat) := by omega
      have hposd : decide (0 < F3) = true := decide_eq_true (by omega)
      clear hb8 Hf7 Hpf hB9 h0
      go_wp2_with fail
      refine Hfd.out.mono ?_
      rintro e w10 ⟨rfl, hb10⟩
      have H10 := Lib.hid (H9.out.trans (hb10.mono H9.out.size))
      clear hb10
      go_wp2
      go_ret
      exact ⟨rfl, H10.out⟩
    · obtain ⟨q1, q2, q3, hn0, q4, hF0⟩ := lookF_zero h0
      rw [HT.out.len_] at q4 q1
      obtain ⟨N, rfl⟩ := Int.eq_ofNat_of_zero_le hn0
      have hNl : N ≤ len := by omega
      rw [hF0] at Hpf
      rw [Int.toNat_natCast] at hv7
      have hlO : (O.take N).length = N := by
        rw [List.length_take, hO.1.length_eq, HT.out.len_]; omega
      obtain ⟨a7, c7, rfl, hc7, hm7, _, ht7⟩ := hv7.read
      rw [hlO] at hc7 ⊢
      have HX := Lib.hid (And.intro hO (And.intro hlO (And.intro ht7 (And.intro q1 (And.intro q2 q3)))))
      clear hb7 hO hlO hv7 ht7 q1 q2 q3 h0 hF0 q4 hn0
      go_wp2_with fail
      refine Hpf.out.mono ?_
      rintro e w8 ⟨rfl, hb8⟩
      unfold fltA
      have H8 := Lib.hid (H7.out.trans (hb8.mono H7.out.size))
      have hB9 : Below w8.heap.size w8 (w8.alloc (.cells #[.int .i64 ((0 : Nat) : Int), .int .i64 (-1)] 31)) := (Below.refl _ w8).alloc (Nat.le_refl _) _
      have H9 := Lib.hid (H8.out.trans (hB9.mono H8.out.size))
      have HA9 := Lib.hid ((HX.out.2.2.1.below hb8).mono hb8.size)
      have Hrp := Lib.hid (fun W (hW : Below w.heap.size w W) => rprefer_walk w.heap.size a len cap L key N O W HT.out.len_ HX.out.2.2.2.1.1 HX.out.2.2.2.1.2 (fun s hs => nameB_le (HX.out.2.2.2.2.2 s hs)) HX.out.2.2.2.2.1 Hk100.out hNl HX.out.1 (HT.out.txs.below hW) hW.size)
      have Hr9 := Lib.hid (Hrp.out _ H9.out)
      have HB9 := Lib.hid hB9
      clear hb8 hB9 Hpf Hrp
      go_wp2_with fail
      refine Hr9.out.mono ?_
      rintro e w10 ⟨hb10, v10, rfl, hv10⟩
      obtain ⟨a10, c10, rfl, hc10, hm10, _, ht10⟩ := hv10.read
      rw [HX.out.2.1]
      have H10 := Lib.hid (H9.out.trans (hb10.mono H9.out.size))
      have Hs := Lib.hid (samet_walk w10.heap.size a7 N c7 (O.take N) a10 N c10 (O.take N) true w10 HX.out.2.1 HX.out.2.1 (by unfold maxLen; omega) ((((HA9.out.below HB9.out).mono HB9.out.size).below hb10).mono hb10.size) ht10 (by simp))
      clear hb10 hv10 ht10 Hr9
      go_wp2_with fail
      refine Hs.out.mono ?_
      rintro e w11 ⟨rfl, hb11⟩
      have H11 := Lib.hid (H10.out.trans (hb11.mono H10.out.size))
      clear hb11
      go_wp2
      go_ret
      exact ⟨rfl, H11.out⟩
end Go.Proofs.YtjgllhnecoibkaaGreatDoor.ringPrefers
