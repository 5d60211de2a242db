/- The walk of the law QuorumMeets. -/
import Derived.Test.YtmaalkjimppnkaaDoorQuB
import Derived.Test.YtmaalkjimppnkaaDoorQuC
import Derived.Test.YtmaalkjimppnkaaDoorQuE
import Derived.Test.YtmaalkjimppnkaaDoorFl2
import Derived.Test.YtmaalkjimppnkaaDoorSamT
import Derived.Test.YtmaalkjimppnkaaDoorQuF
import Derived.Deep.CutRange
import Derived.Test.YtmaalkjimppnkaaDoorCfg
import Derived.Test.YtmaalkjimppnkaaDoorEnv
import Derived.Deep.RegionWith
namespace Go.Proofs.YtmaalkjimppnkaaDoor.quorumMeets
open Go.RowKit

set_option maxRecDepth 100000 in
set_option maxHeartbeats 16000000 in
theorem walk (n k : Int) (a : Option Addr) (len cap : Nat) (L : List ByteArray) (aA : Option Addr) (lA cA : Nat) (A : List ByteArray) (aB : Option Addr) (lB cB : Nat) (B : List ByteArray) (w : World) (hin : CfgIn w n k a len cap L) (hA : TxsIn w aA lA cA A) (hB : TxsIn w aB lB cB B) (hL : laidMetH Tryd.prog Rows.quorumMeetsRow.laid w) :
    Calls Tryd.prog 8 #[.agg #[.int .i64 n, .int .i64 k, .slice a len cap], .slice aA lA cA, .slice aB lB cB] w fun e w' => e = .returned (.bool true) ∧ Below w.heap.size w w' := by
  obtain ⟨E, hE⟩ := env_of_laid hL
  have ht := hin.t_
  have hcl : cap ≤ 9223372036854775807 := ht.max_
  have hlc := ht.cap_
  have hcA : cA ≤ 9223372036854775807 := hA.max_
  have hlA := hA.cap_
  have hcB : cB ≤ 9223372036854775807 := hB.max_
  have hlB := hB.cap_
  have hB0 : Below w.heap.size w (w.alloc (.cells #[.int .i64 n, .int .i64 k, .slice a len cap] 24)) := (Below.refl _ w).alloc (Nat.le_refl _) _
  have hzs : w.heap.size < (w.alloc (.cells #[.int .i64 n, .int .i64 k, .slice a len cap] 24)).heap.size := by simp
  have HB0 := Lib.hid (And.intro hB0 hzs)
  have HC0 := Lib.hid (CfgAt.new w n k (.slice a len cap))
  have HE := Lib.hid hE
  have HT := Lib.hid ht
  have HA := Lib.hid hA
  have HBB := Lib.hid hB
  have Hen := Lib.hid (lenough_walk _ E (hE.below hB0 (Nat.le_refl _)).qx)
  clear hL hE hin ht hA hB hB0 hzs
  go_enter Tryd.func8, Tryd.ntmps8
  go_wp2_with fail
  refine Hen.out.mono ?_
  rintro e w1 ⟨rfl, hb1⟩
  have H1 := Lib.hid (HB0.out.1.trans (hb1.mono HB0.out.1.size))
  have HC1 := Lib.hid (HC0.out.below hb1 HB0.out.2)
  obtain ⟨c0, c1, c2⟩ := HC1.out
  have Hlc := Lib.hid (longc_walk n k w.heap.size a len cap L w1 HT.out.len_ (by have := HT.out.max_; omega) HT.out.sizeAt (HT.out.txs.below H1.out) H1.out.size)
  clear hb1
  obtain ⟨lc, hlcv⟩ : ∃ lc, longC L = lc := ⟨_, rfl⟩
  rw [hlcv] at Hlc
  have Hlv := Lib.hid hlcv
  clear hlcv
  have hlt0 : w.heap.size < w1.heap.size := lt_of_cell c0
  go_wp2_with fail
  refine Hlc.out.mono ?_
  rintro e w2 ⟨rfl, hb2⟩
  have H2 := Lib.hid (H1.out.trans (hb2.mono H1.out.size))
  have HC2 := Lib.hid (HC1.out.below hb2 hlt0)
  clear hb2 c0 c1 c2
  cases lc with
  | true =>
    go_wp2
    go_ret
    exact ⟨rfl, H2.out⟩
  | false =>
    by_cases g1 : 30 < lA
    · have g1a : (30 : Int) < lA := by omega
      have g1b : decide (30 < lA) = true := decide_eq_true g1
      clear g1
      go_wp2
      go_ret
      exact ⟨rfl, H2.out⟩
    have g1a : ¬ (30 : Int) < lA := by omega
    have g1b : decide (30 < lA) = false := decide_eq_false g1
    by_cases g2 : 30 < lB
    · have g2a : (30 : Int) < lB := by omega
      have g2b : decide (30 < lB) = true := decide_eq_true g2
      clear g1 g2
      go_wp2
      go_ret
      exact ⟨rfl, H2.out⟩
    have g2a : ¬ (30 : Int) < lB := by omega
    have g2b : decide (30 < lB) = false := decide_eq_false g2
    have hl30 : len ≤ 30 := by have h9 := (longC_no Hlv.out).1; have := HT.out.len_; omega
    have hlA30 : lA ≤ 30 := by omega
    have hlB30 : lB ≤ 30 := by omega
    clear g1 g2
    go_wp2
    go_loop [8] (fun vi => ∃ i : Nat, i ≤ lA + lB ∧ vi = .int .i64 i) (fun i => lA + lB - (intOf i).toNat)
    case atStart => exact ⟨0, by omega, rfl⟩
    case round =>
      obtain ⟨i, hi, rfl⟩ := hrel
      have hi2 : i < lA + lB ∨ i = lA + lB := by omega
      rcases hi2 with hilt | hie
      · have hilt2 : (i : Int) < (lA : Int) + lB := by omega
        have hilt3 : decide (i < lA + lB) = true := decide_eq_true hilt
        by_cases hiA : i < lA
        · have hiA2 : (i : Int) < lA := by omega
          have hiA3 : ¬ (lA : Int) ≤ i := by omega
          have hiA4 : decide (lA ≤ i) = false := decide_eq_false (by omega)
          rcases HA.out.txs.below H2.out with he | ⟨b, off, rfl, _, hcx⟩
          · exfalso
            have := HA.out.len_
            rw [he] at this; simp at this; omega
          have h1 := hcx i (by have := HA.out.len_; omega)
          have hxs := HA.out.sizeAt i
          obtain ⟨x, hx⟩ : ∃ x, A[i]?.getD (⟨#[]⟩ : ByteArray) = x := ⟨_, rfl⟩
          rw [hx] at h1 hxs
          unfold maxLen at hxs
          clear hcx hx
          by_cases h60 : 60 < x.size
          · have q1 : (60 : Int) < x.size := by omega
            have q2 : decide (60 < x.size) = true := decide_eq_true h60
            clear h60
            go_wp2
            go_ret
            exact ⟨rfl, H2.out⟩
          · have q1 : ¬ (60 : Int) < x.size := by omega
            have q2 : decide (60 < x.size) = false := decide_eq_false h60
            clear h60
            go_wp2
            go_round
            case rel => exact ⟨i + 1, by omega, by go_num⟩
            case measure => simp [intOf]; omega
        · obtain ⟨j, rfl⟩ : ∃ j, i = lA + j := ⟨i - lA, by omega⟩
          have hj : j < lB := by omega
          have hj2 : (j : Int) < lB := by omega
          have hiA2 : ¬ ((lA : Int) + j < lA) := by omega
          have hiA3 : (lA : Int) ≤ (lA : Int) + j := by omega
          have hsub : (lA : Int) + j - lA = j := by omega
          rcases HBB.out.txs.below H2.out with he | ⟨b, off, rfl, _, hcx⟩
          · exfalso
            have := HBB.out.len_
            rw [he] at this; simp at this; omega
          have h1 := hcx j (by have := HBB.out.len_; omega)
          have hxs := HBB.out.sizeAt j
          obtain ⟨x, hx⟩ : ∃ x, B[j]?.getD (⟨#[]⟩ : ByteArray) = x := ⟨_, rfl⟩
          rw [hx] at h1 hxs
          unfold maxLen at hxs
          clear hcx hx
          by_cases h60 : 60 < x.size
          · have q1 : (60 : Int) < x.size := by omega
            have q2 : decide (60 < x.size) = true := decide_eq_true h60
            clear h60 hiA
            go_wp2
            go_ret
            exact ⟨rfl, H2.out⟩
          · have q1 : ¬ (60 : Int) < x.size := by omega
            have q2 : decide (60 < x.size) = false := decide_eq_false h60
            clear h60 hiA
            go_wp2
            go_round
            case rel => exact ⟨lA + j + 1, by omega, by go_num⟩
            case measure => simp [intOf]; omega
      · have hie2 : ¬ (i : Int) < (lA : Int) + lB := by omega
        obtain ⟨c0, c1, c2⟩ := HC2.out
        have hlt2 : w.heap.size < w2.heap.size := lt_of_cell c0
        have Hcf := Lib.hid (rconfig_walk n k w.heap.size a len cap L w2 HT.out.len_ hlc HT.out.sizeAt (HT.out.txs.below H2.out) H2.out.size)
        obtain ⟨F, hF⟩ : ∃ F, configF n k L = F := ⟨_, rfl⟩
        have HF := Lib.hid hF
        rw [hF] at Hcf
        clear hie hF
        go_wp2_with fail
        refine Hcf.out.mono ?_
        rintro e w3 ⟨rfl, hb3⟩
        unfold fltA
        have H3 := Lib.hid (H2.out.trans (hb3.mono H2.out.size))
        have HC3 := Lib.hid (HC2.out.below hb3 hlt2)
        clear hb3 c0 c1 c2
        obtain ⟨c0, c1, c2⟩ := HC3.out
        have hPW := Pair.new w3 (.int .i64 (F.1 : Nat)) (.int .i64 F.2) 74
        have hBW : Below w.heap.size w (w3.alloc (.cells #[.int .i64 (F.1 : Nat), .int .i64 F.2] 74)) := H3.out.alloc H3.out.size _
        have hCW : CfgAt (w3.alloc (.cells #[.int .i64 (F.1 : Nat), .int .i64 F.2] 74)) w.heap.size n k (.slice a len cap) := HC3.out.below ((Below.refl w3.heap.size w3).alloc (Nat.le_refl _) _) (lt_of_cell c0)
        obtain ⟨W, hW⟩ : ∃ W, w3.alloc (.cells #[.int .i64 (F.1 : Nat), .int .i64 F.2] 74) = W := ⟨_, rfl⟩
        rw [hW] at hPW hBW hCW
        have hltF : w.heap.size < w3.heap.size := lt_of_cell c0
        have Hbw := Lib.hid hltF
        have HW := Lib.hid hW
        obtain ⟨bf, hbf⟩ : ∃ bf, w3.heap.size = bf := ⟨_, rfl⟩
        rw [hbf] at hPW hltF Hbw
        have Hbf := Lib.hid hbf
        have HX := Lib.hid (And.intro hPW (And.intro hBW hCW))
        clear c0 c1 c2 hW hbf hPW hBW hCW
        go_upto_region 10 with fail
        rw [HW.out, Hbf.out]
        go_cut [84] from 79 (fun s84 wx => s84 = .bool false ∧ Hid (Below w.heap.size w wx ∧ Pair wx bf (.int .i64 (F.1 : Nat)) (.int .i64 F.2) ∧ bf < wx.heap.size ∧ CfgAt wx w.heap.size n k (.slice a len cap)))
        case first =>
          obtain ⟨p0, p1, _, _⟩ := HX.out.1
          obtain ⟨c0, c1, c2⟩ := HX.out.2.2
          have hBd : Below w.heap.size w W.drew := HX.out.2.1.drew
          have How := Lib.hid (ownc_walk n k w.heap.size a len cap L W.drew HT.out.len_ (by omega) HT.out.nil_ (HT.out.txs.below hBd) hBd.size)
          have HBd := Lib.hid (And.intro hBd (And.intro (show Pair W.drew bf (.int .i64 (F.1 : Nat)) (.int .i64 F.2) from ⟨HX.out.1.c0, HX.out.1.c1, HX.out.1.f0, HX.out.1.f1⟩) (And.intro (show bf < W.drew.heap.size from lt_of_cell p0) (show CfgAt W.drew w.heap.size n k (.slice a len cap) from ⟨c0, c1, c2⟩))))
          clear hBd
          go_region_with (first
            | (go_at_call 16; refine How.out.mono ?_; rintro e wA ⟨⟨vA, rfl, hvA⟩, hbA⟩; obtain ⟨aX, cX, rfl, hcX, _, _, htX⟩ := hvA.read; rw [HT.out.len_] at hcX; have HAA := Lib.hid (And.intro (HBd.out.1.trans (hbA.mono HBd.out.1.size)) (And.intro hcX htX)); have HPA := Lib.hid (And.intro (HBd.out.2.1.below hbA HBd.out.2.2.1) (And.intro (Nat.lt_of_lt_of_le HBd.out.2.2.1 hbA.size) (HBd.out.2.2.2.below hbA (by have := HBd.out.2.2.1; omega)))); obtain ⟨p0A, p1A, _, _⟩ := HPA.out.1; rw [HT.out.len_]; clear hvA hbA htX)
            | (go_at_call 40; refine (qcheck_walk n k wA.heap.size aX len cX L wA E (HE.out.below HAA.out.1 (Nat.le_refl _)).qx HT.out.len_ HAA.out.2.1 HT.out.sizeAt HAA.out.2.2 (Nat.le_refl _)).mono ?_; rintro e wB ⟨⟨vB, rfl, hvB⟩, hbB⟩; rw [HF.out] at hvB; have HBx := Lib.hid (And.intro (HAA.out.1.trans (hbB.mono HAA.out.1.size)) hvB); have HPB := Lib.hid (And.intro (HPA.out.1.below hbB HPA.out.2.1) (And.intro (Nat.lt_of_lt_of_le HPA.out.2.1 hbB.size) (HPA.out.2.2.below hbB (by have := HPA.out.2.1; omega)))); obtain ⟨p0B, p1B, _, _⟩ := HPB.out.1; clear hvB hbB)
            | (go_at_call 39; refine (faulted2_walk E F F vB true wB (HE.out.below HBx.out.1 (Nat.le_refl _)) HBx.out.2 (by simp)).mono ?_; rintro e wC ⟨rfl, hbC⟩; have HPC := Lib.hid (And.intro (HBx.out.1.trans (hbC.mono HBx.out.1.size)) (And.intro (HPB.out.1.below hbC HPB.out.2.1) (And.intro (Nat.lt_of_lt_of_le HPB.out.2.1 hbC.size) (HPB.out.2.2.below hbC (by have := HPB.out.2.1; omega))))); obtain ⟨p0C, p1C, _, _⟩ := HPC.out.2.1; clear hbC))
          all_goals
            go_wp2_with fail
            go_meet
            exact ⟨by simp, HPC⟩
        case rest =>
          obtain ⟨rfl, H4⟩ := hcut
          obtain ⟨w4, hw4⟩ : ∃ w4, wc = w4 := ⟨_, rfl⟩
          subst hw4
          obtain ⟨c0, c1, c2⟩ := H4.out.2.2.2
          have How := Lib.hid (ownc_walk n k w.heap.size a len cap L wc HT.out.len_ (by omega) HT.out.nil_ (HT.out.txs.below H4.out.1) H4.out.1.size)
          go_wp2_with fail
          refine How.out.mono ?_
          rintro e w5 ⟨⟨v5, rfl, hv5⟩, hb5⟩
          obtain ⟨a5, cp5, rfl, hc5, hm5, _, ht5⟩ := hv5.read
          rw [HT.out.len_] at hc5
          have H5 := Lib.hid (And.intro (H4.out.1.trans (hb5.mono H4.out.1.size)) (And.intro (H4.out.2.1.below hb5 H4.out.2.2.1) (And.intro (Nat.lt_of_lt_of_le H4.out.2.2.1 hb5.size) (H4.out.2.2.2.below hb5 (by have := H4.out.2.2.1; omega)))))
          have Hq := Lib.hid (enough_walk n k w5.heap.size a5 len cp5 L w5 E (HE.out.below H5.out.1 (Nat.le_refl _)).qx HT.out.len_ hc5 HT.out.sizeAt ht5 (Nat.le_refl _))
          rw [HT.out.len_]
          clear hb5 hv5 ht5 c0 c1 c2
          go_wp2_with fail
          refine Hq.out.mono ?_
          rintro e w6 ⟨hb6, hres⟩
          have H6 := Lib.hid (And.intro (H5.out.1.trans (hb6.mono H5.out.1.size)) (And.intro (H5.out.2.1.below hb6 H5.out.2.2.1) (And.intro (Nat.lt_of_lt_of_le H5.out.2.2.1 hb6.size) (H5.out.2.2.2.below hb6 (by have := H5.out.2.2.1; omega)))))
          clear hb6
          -- one form of what Enough answers
          have hone : ∃ (m : Int) (v : Value), e = .returned (.tuple #[.int .i64 m, v]) ∧ ((F.1 = 0 ∧ m = (n + k + 1) / 2 ∧ v = .nilIface) ∨ (F.1 ≠ 0 ∧ m = 0 ∧ FltV w6 E F v)) := by
            rw [HF.out] at hres
            rcases hres with ⟨h0, rfl⟩ | ⟨h0, v, _, hv, rfl⟩
            · exact ⟨_, _, rfl, .inl ⟨h0, rfl, rfl⟩⟩
            · exact ⟨_, _, rfl, .inr ⟨h0, rfl, hv⟩⟩
          obtain ⟨m, ve, rfl, hme⟩ := hone
          have Hme := Lib.hid hme
          obtain ⟨c0, c1, c2⟩ := H6.out.2.2.2
          have How2 := Lib.hid (ownc_walk n k w.heap.size a len cap L w6 HT.out.len_ (by omega) HT.out.nil_ (HT.out.txs.below H6.out.1) H6.out.1.size)
          clear hres hme
          go_wp2_with fail
          refine How2.out.mono ?_
          rintro e w7 ⟨⟨v7, rfl, hv7⟩, hb7⟩
          obtain ⟨a7, cp7, rfl, hc7, hm7, _, ht7⟩ := hv7.read
          rw [HT.out.len_] at hc7
          have H7 := Lib.hid (And.intro (H6.out.1.trans (hb7.mono H6.out.1.size)) (And.intro (H6.out.2.1.below hb7 H6.out.2.2.1) (And.intro (Nat.lt_of_lt_of_le H6.out.2.2.1 hb7.size) (H6.out.2.2.2.below hb7 (by have := H6.out.2.2.1; omega)))))
          have HC7 := Lib.hid ht7
          have Hb67 := Lib.hid hb7
          rw [HT.out.len_]
          clear hb7 hv7 ht7 c0 c1 c2
          have hul1 : ([] : List ByteArray).length + A.length ≤ 1000000 := by simp; have := HA.out.len_; omega
          have hul2 : ([] : List ByteArray).length + B.length ≤ 1000000 := by simp; have := HBB.out.len_; omega
          have HU := Lib.hid (And.intro hul1 hul2)
          clear hul1 hul2
          go_wp2_with (at_builtin; refine append_txts 94 95 rfl rfl w7.heap.size (.slice none 0 0) [] w.heap.size aA lA cA A rfl rfl (OwnT.nil _ _) HA.out.len_ HU.out.1 HA.out.nil_ (HA.out.txs.below H7.out.1) (Nat.le_refl _) ?_)
          intro v8 w8 k1 k2 k3
          have hO8 : OwnT w7.heap.size w8 v8 A := by simpa using k1
          have hb8 : Below w7.heap.size w7 w8 := (Below.refl _ _).grown k2 (Nat.le_refl _) (fun j e => by simp [Value.ownBlock] at e)
          obtain ⟨a8, c8, rfl, hc8, _, _, ht8⟩ := hO8.read
          have H8 := Lib.hid (And.intro hb8 ht8)
          clear k1 k2 k3 hO8 hb8 ht8
          rw [HA.out.len_]
          go_wp2_with (at_builtin; refine append_txts 97 98 rfl rfl w8.heap.size (.slice none 0 0) [] w.heap.size aB lB cB B rfl rfl (OwnT.nil _ _) HBB.out.len_ HU.out.2 HBB.out.nil_ (HBB.out.txs.below (H7.out.1.trans (H8.out.1.mono H7.out.1.size))) (Nat.le_refl _) ?_)
          intro v9 w9 k1 k2 k3
          have hO9 : OwnT w8.heap.size w9 v9 B := by simpa using k1
          have hb9 : Below w8.heap.size w8 w9 := (Below.refl _ _).grown k2 (Nat.le_refl _) (fun j e => by simp [Value.ownBlock] at e)
          obtain ⟨a9, c9, rfl, hc9, _, _, ht9⟩ := hO9.read
          have hb79 : Below w7.heap.size w7 w9 := H8.out.1.trans (hb9.mono H8.out.1.size)
          have H9 := Lib.hid (And.intro (H7.out.1.trans (hb79.mono H7.out.1.size)) (And.intro (H7.out.2.1.below hb79 H7.out.2.2.1) (And.intro (Nat.lt_of_lt_of_le H7.out.2.2.1 hb79.size) (H7.out.2.2.2.below hb79 (by have := H7.out.2.2.1; omega)))))
          have HE9 := HE.out.below H9.out.1 (Nat.le_refl _)
          have Hm := Lib.hid (meet_walk n k w9.heap.size a7 len cp7 L a8 lA c8 A a9 lB c9 B w9 E HE9.qx HE9.c4 HT.out.len_ hc7 HT.out.sizeAt ((HC7.out.below hb79).mono hb79.size) (Nat.le_refl _)
            HA.out.len_ HBB.out.len_ (by unfold maxLen; omega) (by unfold maxLen; omega) (((H8.out.2.below hb9).mono hb9.size)) ht9)
          have Hb79 := Lib.hid (Hb67.out.trans (hb79.mono Hb67.out.size))
          clear k1 k2 k3 hO9 hb9 ht9 hb79 HE9
          rw [HBB.out.len_]
          go_wp2_with fail
          refine Hm.out.mono ?_
          rintro e w10 hmo
          obtain ⟨hb10, al, ll, cl, bv, rfl, hmp⟩ := hmo.pair
          have H10 := Lib.hid (And.intro (H9.out.1.trans (hb10.mono H9.out.1.size)) (And.intro (H9.out.2.1.below hb10 H9.out.2.2.1) (And.intro (Nat.lt_of_lt_of_le H9.out.2.2.1 hb10.size) (H9.out.2.2.2.below hb10 (by have := H9.out.2.2.1; omega)))))
          have HM := Lib.hid hmp
          have Hb610 := Lib.hid (Hb79.out.trans (hb10.mono Hb79.out.size))
          clear hmo hb10 hmp
          obtain ⟨p0, p1, _, _⟩ := H10.out.2.1
          obtain ⟨c0, c1, c2⟩ := H10.out.2.2.2
          by_cases h0 : F.1 = 0
          · have hz := configF_zero (n := n) (k := k) (L := L) (by rw [HF.out]; exact h0)
            obtain ⟨⟨k1, k2, k3⟩, k4, _, _, k5⟩ := hz
            have hln := HT.out.len_
            rw [HF.out] at k5
            subst k5
            obtain ⟨K, rfl⟩ := Int.eq_ofNat_of_zero_le (show 0 ≤ k by omega)
            obtain ⟨N, rfl⟩ := Int.eq_ofNat_of_zero_le (show 0 ≤ n by omega)
            obtain rfl : len = N := by omega
            have hK : 1 ≤ K ∧ K ≤ len ∧ len ≤ 12 := ⟨by omega, by omega, by omega⟩
            obtain ⟨hm, rfl⟩ : m = (((len + K + 1) / 2 : Nat) : Int) ∧ ve = .nilIface := by
              rcases Hme.out with ⟨_, h1, h2⟩ | ⟨h1, _⟩
              · exact ⟨by rw [h1]; omega, h2⟩
              · exact absurd rfl h1
            have HMz : Hid (((meetF L A B).1 ≠ 0 ∧ FltV w10 E (meetF L A B) bv ∧ Value.slice al ll cl = .slice none 0 0) ∨ ((meetF L A B).1 = 0 ∧ OwnT w9.heap.size w10 (.slice al ll cl) (bothL L A B) ∧ bv = .nilIface)) := Lib.hid (by
              rcases HM.out with ⟨h1, _⟩ | ⟨_, h1⟩ | ⟨_, h1⟩
              · rw [HF.out] at h1; exact absurd rfl h1
              · exact .inl h1
              · exact .inr h1)
            obtain ⟨mm, hmm⟩ : ∃ mm, (len + K + 1) / 2 = mm := ⟨_, rfl⟩
            have Hen2 := renough_walk len K (.slice a len cap) w10 hK.1 hK.2.1 hK.2.2
            rw [hmm] at hm Hen2
            subst hm
            have HP10 : Pair w10 bf (.int .i64 0) (.int .i64 (-1)) := by simpa using H10.out.2.1
            have HP := Lib.hid HP10
            have Hen2 := Lib.hid Hen2
            clear HP10 p0 p1 h0 k1 k2 k3 k4 hln hmm hK
            obtain ⟨p0, p1, q0, q1⟩ := HP.out
            go_wp2_with fail
            refine Hen2.out.mono ?_
            rintro e w11 ⟨rfl, hb11⟩
            have H11 := Lib.hid (And.intro (H10.out.1.trans (hb11.mono H10.out.1.size)) (And.intro (HP.out.below hb11 H10.out.2.2.1) (And.intro (Nat.lt_of_lt_of_le H10.out.2.2.1 hb11.size) (And.intro (H10.out.2.2.2.below hb11 (by have := H10.out.2.2.1; omega)) hb11))))
            clear hb11 p0 p1 q0 q1 c0 c1 c2
            obtain ⟨p0, p1, q0, q1⟩ := H11.out.2.1
            obtain ⟨c0, c1, c2⟩ := H11.out.2.2.2.1
            have hAl := HA.out.len_
            have hBl := HBB.out.len_
            have Hal := Lib.hid hAl
            have Hbl := Lib.hid hBl
            clear hAl hBl
            go_wp2
            go_loopw [16] (fun vi wr => ∃ i : Nat, i ≤ lA + lB ∧ vi = .int .i64 i ∧ ((wr = w11 ∧ Hid (AllIn L A B i)) ∨ (∃ k' : Int, wr = (w11.setCell ⟨bf, 0, none⟩ (.int .i64 5)).setCell ⟨bf, 1, none⟩ (.int .i64 k') ∧ Hid (meetF L A B = (5, k'))))) (fun i _ => lA + lB - (intOf i).toNat)
            case atStart => exact ⟨0, by omega, rfl, .inl ⟨rfl, Lib.hid ⟨fun j h => by omega, fun j h => by omega⟩⟩⟩
            case round =>
              obtain ⟨i, hi, rfl, ⟨hwr, Hj⟩ | ⟨k', rfl, Hmt⟩⟩ := hrel
              · have hwr2 := hwr.symm
                subst hwr2
                have hi2 : i < lA + lB ∨ i = lA + lB := by omega
                rcases hi2 with hilt | hie
                · have hilt2 : (i : Int) < (lA : Int) + lB := by omega
                  by_cases hiA : i < lA
                  · have hiA2 : (i : Int) < lA := by omega
                    rcases HA.out.txs.below H11.out.1 with he | ⟨b, off, rfl, _, hcx⟩
                    · exfalso
                      have := Hal.out
                      rw [he] at this; simp at this; omega
                    have h1 := hcx i (by have := Hal.out; omega)
                    obtain ⟨x, hx⟩ : ∃ x, A[i]?.getD (⟨#[]⟩ : ByteArray) = x := ⟨_, rfl⟩
                    rw [hx] at h1
                    have Hx := Lib.hid hx
                    have Hix := ridx_walk w.heap.size a len cap L x w11 HT.out.len_ (by unfold maxLen; omega) (HT.out.txs.below H11.out.1)
                    clear hcx hx hiA
                    by_cases hxL : x ∈ L
                    · obtain ⟨q, hq, hql⟩ := idxT_in hxL
                      have hq0 : ¬ ((q : Int) < 0) := by omega
                      rw [hq] at Hix
                      have Hix := Lib.hid Hix
                      have HR : Hid (AllIn L A B (i + 1)) := Lib.hid (Hj.out.nextA (by have := Hal.out; omega) (by rw [Hx.out]; exact hxL))
                      clear hxL
                      go_wp2_with fail
                      refine Hix.out.mono ?_
                      rintro e w' ⟨rfl, rfl⟩
                      go_wp2
                      go_roundw
                      case rel => exact ⟨i + 1, by omega, by go_num, .inl ⟨by first | trivial | rfl, HR⟩⟩
                      case measure => simp [intOf]; omega
                    · rw [idxT_out hxL] at Hix
                      have Hix := Lib.hid Hix
                      have HR : Hid (meetF L A B = (5, ((i : Nat) : Int))) := Lib.hid (Hj.out.missA (by have := Hal.out; omega) (by rw [Hx.out]; exact hxL))
                      clear hxL
                      go_wp2_with fail
                      refine Hix.out.mono ?_
                      rintro e w' ⟨rfl, rfl⟩
                      go_wp2
                      go_roundw
                      case rel => exact ⟨i + 1, by omega, by go_num, .inr ⟨(i : Nat), by first | trivial | rfl, HR⟩⟩
                      case measure => simp [intOf]; omega
                  · obtain ⟨j, rfl⟩ : ∃ j, i = lA + j := ⟨i - lA, by omega⟩
                    have hjl : j < lB := by omega
                    have hj2 : (j : Int) < lB := by omega
                    have hiA2 : ¬ ((lA : Int) + j < lA) := by omega
                    have hsub : (lA : Int) + j - lA = j := by omega
                    rcases HBB.out.txs.below H11.out.1 with he | ⟨b, off, rfl, _, hcx⟩
                    · exfalso
                      have := Hbl.out
                      rw [he] at this; simp at this; omega
                    have h1 := hcx j (by have := Hbl.out; omega)
                    obtain ⟨x, hx⟩ : ∃ x, B[j]?.getD (⟨#[]⟩ : ByteArray) = x := ⟨_, rfl⟩
                    rw [hx] at h1
                    have Hx := Lib.hid hx
                    have Hix := ridx_walk w.heap.size a len cap L x w11 HT.out.len_ (by unfold maxLen; omega) (HT.out.txs.below H11.out.1)
                    clear hcx hx hiA
                    by_cases hxL : x ∈ L
                    · obtain ⟨q, hq, hql⟩ := idxT_in hxL
                      have hq0 : ¬ ((q : Int) < 0) := by omega
                      rw [hq] at Hix
                      have Hix := Lib.hid Hix
                      have HR : Hid (AllIn L A B (lA + j + 1)) := Lib.hid (by have h9 := Hj.out; rw [← Hal.out] at h9 ⊢; exact h9.nextB (by rw [Hx.out]; exact hxL))
                      clear hxL
                      go_wp2_with fail
                      refine Hix.out.mono ?_
                      rintro e w' ⟨rfl, rfl⟩
                      go_wp2
                      go_roundw
                      case rel => exact ⟨lA + j + 1, by omega, by go_num, .inl ⟨by first | trivial | rfl, HR⟩⟩
                      case measure => simp [intOf]; omega
                    · rw [idxT_out hxL] at Hix
                      have Hix := Lib.hid Hix
                      have HR : Hid (meetF L A B = (5, ((j : Nat) : Int))) := Lib.hid (by have h9 := Hj.out; rw [← Hal.out] at h9; exact h9.missB (by have := Hbl.out; omega) (by rw [Hx.out]; exact hxL))
                      clear hxL
                      go_wp2_with fail
                      refine Hix.out.mono ?_
                      rintro e w' ⟨rfl, rfl⟩
                      go_wp2
                      go_roundw
                      case rel => exact ⟨lA + j + 1, by omega, by go_num, .inr ⟨(j : Nat), by first | trivial | rfl, HR⟩⟩
                      case measure => simp [intOf]; omega
                · have hie2 : ¬ (i : Int) < (lA : Int) + lB := by omega
                  have hmt : meetF L A B = (0, -1) := Hj.out.all (by have := Hal.out; have := Hbl.out; omega)
                  obtain ⟨hown, rfl⟩ : OwnT w9.heap.size w10 (.slice al ll cl) (bothL L A B) ∧ bv = .nilIface := by
                    rcases HMz.out with ⟨h1, _⟩ | ⟨_, h1⟩
                    · rw [hmt] at h1; exact absurd rfl h1
                    · exact h1
                  obtain ⟨al2, cl2, hlv, hc10, hm10, _, ht10⟩ := hown.read
                  simp only [Value.slice.injEq] at hlv
                  obtain ⟨rfl, rfl, rfl⟩ := hlv
                  have Hl := Lib.hid (And.intro ((ht10.below H11.out.2.2.2.2).mono H11.out.2.2.2.2.size) hm10)
                  obtain ⟨ll, hll⟩ : ∃ ll, (bothL L A B).length = ll := ⟨_, rfl⟩
                  rw [hll] at hc10 ⊢
                  have Hll := Lib.hid hll
                  clear hmt hown hm10 ht10 hll
                  go_wp2
                  trace "loop"
                  go_loopw [19, 20] (fun vo vi wr => ∃ i : Nat, i ≤ len ∧ vi = .int .i64 i ∧ Hid (OwnT w11.heap.size wr vo (bothL (L.take i) A B) ∧ Below w11.heap.size w11 wr)) (fun _ i _ => len - (intOf i).toNat)
                  case atStart => exact ⟨0, by omega, rfl, Lib.hid ⟨by simpa [bothL] using OwnT.nil _ _, Below.refl _ _⟩⟩
                  case round =>
                    obtain ⟨i, hi, rfl, Hr⟩ := hrel
                    have HBr := Lib.hid (H11.out.1.trans (Hr.out.2.mono H11.out.1.size))
                    have hCr := H11.out.2.2.2.1.below Hr.out.2 (Nat.lt_trans Hbw.out H11.out.2.2.1)
                    obtain ⟨c0, c1, c2⟩ := hCr
                    have hi2 : i < len ∨ i = len := by omega
                    rcases hi2 with hilt | rfl
                    · have hilt2 : (i : Int) < len := by omega
                      rcases HT.out.txs.below HBr.out with he | ⟨b, off, rfl, _, hcx⟩
                      · exfalso
                        have := HT.out.len_
                        rw [he] at this; simp at this; omega
                      have h1 := hcx i (by have := HT.out.len_; omega)
                      have hnx := take_filter L (fun s => decide (s ∈ A) && decide (s ∈ B)) (k := i) (by have := HT.out.len_; omega)
                      obtain ⟨x, hx⟩ : ∃ x, L[i]?.getD (⟨#[]⟩ : ByteArray) = x := ⟨_, rfl⟩
                      rw [hx] at h1 hnx
                      have hca := ridx_walk w.heap.size aA lA cA A x wr HA.out.len_ (by unfold maxLen; omega) (HA.out.txs.below HBr.out)
                      have hcb := ridx_walk w.heap.size aB lB cB B x wr HBB.out.len_ (by unfold maxLen; omega) (HBB.out.txs.below HBr.out)
                      clear hcx hx
                      by_cases hxA : x ∈ A
                      · obtain ⟨qa, hqa, _⟩ := idxT_in hxA
                        have hqa0 : (0 : Int) ≤ qa := by omega
                        rw [hqa] at hca
                        have Hca := Lib.hid hca
                        by_cases hxB : x ∈ B
                        · obtain ⟨qb, hqb, _⟩ := idxT_in hxB
                          have hqb0 : (0 : Int) ≤ qb := by omega
                          rw [hqb] at hcb
                          have Hcb := Lib.hid hcb
                          rw [if_pos (by simp [hxA, hxB])] at hnx
                          have Hnx := Lib.hid hnx
                          have hown := Lib.hid Hr.out.1
                          have hul : (bothL (L.take i) A B).length ≤ 1000000 := by
                            have h8 := List.length_filter_le (fun s => decide (s ∈ A) && decide (s ∈ B)) (L.take i)
                            have h9 := List.length_take_le i L
                            unfold bothL
                            omega
                          have hszr := Hr.out.2.size
                          clear hxA hxB hca hcb hqa hqb hnx
                          go_wp2_with fail
                          refine Hca.out.mono ?_
                          rintro e w' ⟨rfl, rfl⟩
                          go_wp2_with fail
                          refine Hcb.out.mono ?_
                          rintro e w' ⟨rfl, rfl⟩
                          go_wp2_with (at_builtin; refine append_txt 205 211 rfl rfl w11.heap.size _ _ x rfl rfl hown.out hul hszr ?_)
                          intro v' w' k1 k2 _
                          have hlt := hown.out
                          have hO2 : OwnT w11.heap.size w' v' (bothL (L.take (i + 1)) A B) := by
                            rw [show bothL (L.take (i + 1)) A B = bothL (L.take i) A B ++ [x] from by unfold bothL; rw [Hnx.out]]
                            exact k1
                          have hB3 : Below w11.heap.size w11 w' := (Hr.out.2.alloc hszr _).grown k2 (by simp; omega) (fun j e => (Own1.lt hlt j e).1)
                          have HR := Lib.hid (And.intro hO2 hB3)
                          clear k1 k2 hO2 hB3 hlt
                          go_wp2
                          go_roundw
                          case rel => exact ⟨i + 1, by omega, by go_num, HR⟩
                          case measure => simp [intOf]; omega
                        · rw [idxT_out hxB] at hcb
                          have Hcb := Lib.hid hcb
                          rw [if_neg (by simp [hxB])] at hnx
                          have Hnx := Lib.hid hnx
                          clear hxA hxB hca hcb hqa hnx
                          go_wp2_with fail
                          refine Hca.out.mono ?_
                          rintro e w' ⟨rfl, rfl⟩
                          go_wp2_with fail
                          refine Hcb.out.mono ?_
                          rintro e w' ⟨rfl, rfl⟩
                          go_wp2
                          go_roundw
                          case rel => exact ⟨i + 1, by omega, by go_num, Lib.hid ⟨by rw [show bothL (L.take (i + 1)) A B = bothL (L.take i) A B from by unfold bothL; rw [Hnx.out]]; exact Hr.out.1, Hr.out.2⟩⟩
                          case measure => simp [intOf]; omega
                      · rw [idxT_out hxA] at hca
                        have Hca := Lib.hid hca
                        rw [if_neg (by simp [hxA])] at hnx
                        have Hnx := Lib.hid hnx
                        clear hxA hca hcb hnx
                        go_wp2_with fail
                        refine Hca.out.mono ?_
                        rintro e w' ⟨rfl, rfl⟩
                        go_wp2
                        go_roundw
                        case rel => exact ⟨i + 1, by omega, by go_num, Lib.hid ⟨by rw [show bothL (L.take (i + 1)) A B = bothL (L.take i) A B from by unfold bothL; rw [Hnx.out]]; exact Hr.out.1, Hr.out.2⟩⟩
                        case measure => simp [intOf]; omega
                    · have hown := Hr.out.1
                      rw [List.take_of_length_le (by have := HT.out.len_; omega)] at hown
                      obtain ⟨ar, cr, hve, hcr, _, _, htr⟩ := hown.read
                      rw [Hll.out] at hve hcr
                      rw [hve]
                      have Hs := Lib.hid (samet_walk wr.heap.size al ll cl (bothL L A B) ar ll cr (bothL L A B) true wr Hll.out Hll.out (by have := Hl.out.2; unfold maxLen at this ⊢; omega) ((Hl.out.1.below Hr.out.2).mono Hr.out.2.size) htr (by simp))
                      clear hown hve htr
                      go_wp2_with fail
                      refine Hs.out.mono ?_
                      rintro e w12 ⟨rfl, hb12⟩
                      have H12 := Lib.hid (HBr.out.trans (hb12.mono HBr.out.size))
                      clear hb12
                      go_wp2
                      go_ret
                      exact ⟨rfl, H12.out⟩
              · have hP2 := H11.out.2.1.put (.int .i64 5) (.int .i64 k')
                obtain ⟨z0, z1, _, _⟩ := hP2
                have hF5 : FltV w10 E (5, k') bv ∧ Value.slice al ll cl = .slice none 0 0 := by
                  rcases HMz.out with ⟨_, h1, h2⟩ | ⟨h1, _⟩
                  · rw [Hmt.out] at h1; exact ⟨h1, h2⟩
                  · rw [Hmt.out] at h1; exact absurd h1 (by simp)
                obtain ⟨hbv, hlv⟩ := hF5
                simp only [Value.slice.injEq] at hlv
                obtain ⟨rfl, rfl, rfl⟩ := hlv
                have hbw : Below w.heap.size w ((w11.setCell ⟨bf, 0, none⟩ (.int .i64 5)).setCell ⟨bf, 1, none⟩ (.int .i64 k')) := (H11.out.1.setCell (p := ⟨bf, 0, none⟩) (Nat.le_of_lt Hbw.out) _).setCell (p := ⟨bf, 1, none⟩) (Nat.le_of_lt Hbw.out) _
                have hfp := FltV.put H11.out.2.1 (hbv.below H11.out.2.2.2.2 (Nat.le_refl _)) (.int .i64 5) (.int .i64 k')
                obtain ⟨W2, hW2⟩ : ∃ W2, (w11.setCell ⟨bf, 0, none⟩ (.int .i64 5)).setCell ⟨bf, 1, none⟩ (.int .i64 k') = W2 := ⟨_, rfl⟩
                rw [hW2] at z0 z1 hbw hfp ⊢
                have Hf2 := Lib.hid (faulted2_walk E (5, k') (5, k') bv true W2 (HE.out.below hbw (Nat.le_refl _)) hfp (by simp))
                have HW2 := Lib.hid hbw
                clear hbv hbw hfp hW2 p0 p1 q0 q1 c0 c1 c2
                have hi2 : i < lA + lB ∨ i = lA + lB := by omega
                rcases hi2 with hilt | hie
                case' inl =>
                  have hilt2 : (i : Int) < (lA : Int) + lB := by omega
                case' inr =>
                  have hilt2 : ¬ (i : Int) < (lA : Int) + lB := by omega
                all_goals
                  go_wp2_with fail
                  refine Hf2.out.mono ?_
                  rintro e w12 ⟨rfl, hb12⟩
                  have H12 := Lib.hid (HW2.out.trans (hb12.mono HW2.out.size))
                  clear hb12
                  go_wp2
                  go_ret
                  exact ⟨rfl, H12.out⟩
          · have hpos : (0 : Int) < (F.1 : Nat) := by omega
            have hposd : decide (0 < F.1) = true := decide_eq_true (by omega)
            obtain ⟨rfl, hfv⟩ : m = 0 ∧ FltV w6 E F ve := by
              rcases Hme.out with ⟨h, _⟩ | ⟨_, h1, h2⟩
              · exact absurd h h0
              · exact ⟨h1, h2⟩
            obtain ⟨hbv, hlv⟩ : FltV w10 E F bv ∧ Value.slice al ll cl = .slice none 0 0 := by
              have h9 := HM.out
              unfold MeetP at h9
              rw [HF.out] at h9
              rcases h9 with ⟨_, h1, h2⟩ | ⟨h1, _⟩ | ⟨h1, _⟩
              · exact ⟨h1, h2⟩
              · exact absurd h1 h0
              · exact absurd h1 h0
            simp only [Value.slice.injEq] at hlv
            obtain ⟨rfl, rfl, rfl⟩ := hlv
            have Hf1 := Lib.hid (faulted2_walk E F F ve true w10 (HE.out.below H10.out.1 (Nat.le_refl _)) (hfv.below Hb610.out (Nat.le_refl _)) (by simp))
            have Hbv := Lib.hid hbv
            clear hfv hbv h0
            go_wp2_with fail
            refine Hf1.out.mono ?_
            rintro e w11 ⟨rfl, hb11⟩
            have H11 := Lib.hid (And.intro (H10.out.1.trans (hb11.mono H10.out.1.size)) (H10.out.2.1.below hb11 H10.out.2.2.1))
            have Hf2 := Lib.hid (faulted2_walk E F F bv true w11 (HE.out.below H11.out.1 (Nat.le_refl _)) (Hbv.out.below hb11 (Nat.le_refl _)) (by simp))
            clear hb11 p0 p1 c0 c1 c2
            obtain ⟨p0, p1, _, _⟩ := H11.out.2
            go_wp2_with fail
            refine Hf2.out.mono ?_
            rintro e w12 ⟨rfl, hb12⟩
            have H12 := Lib.hid (H11.out.1.trans (hb12.mono H11.out.1.size))
            clear hb12
            go_wp2
            go_ret
            exact ⟨rfl, H12.out⟩
end Go.Proofs.YtmaalkjimppnkaaDoor.quorumMeets
