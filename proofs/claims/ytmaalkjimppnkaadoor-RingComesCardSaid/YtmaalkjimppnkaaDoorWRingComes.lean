/- The walk of the law RingComes. -/
import Derived.Test.YtmaalkjimppnkaaDoorPtF
import Derived.Test.YtmaalkjimppnkaaDoorEnv
namespace Go.Proofs.YtmaalkjimppnkaaDoor.ringComes
open Go.RowKit

theorem errs_of_laid {W : World} (h : laidMetH Tryd.prog Rows.ringComesRow.laid W) : ∃ E, ErrRx W E := by
  obtain ⟨a1, h1⟩ := err_of_laid h (n := "shardkeep/api.ErrBound") (g := 6) (text := errText 1) (List.mem_cons_of_mem _ (List.mem_cons_of_mem _ (List.mem_cons_of_mem _ List.mem_cons_self))) (by kernel_rfl) (by kernel_rfl)
  obtain ⟨a3, h3⟩ := err_of_laid h (n := "shardkeep/api.ErrName") (g := 3) (text := errText 3) (List.mem_cons_of_mem _ (List.mem_cons_of_mem _ (List.mem_cons_of_mem _ (List.mem_cons_of_mem _ List.mem_cons_self)))) (by kernel_rfl) (by kernel_rfl)
  obtain ⟨a5, h5⟩ := err_of_laid h (n := "shardkeep/api.ErrExist") (g := 7) (text := errText 5) (List.mem_cons_of_mem _ (List.mem_cons_of_mem _ (List.mem_cons_of_mem _ (List.mem_cons_of_mem _ (List.mem_cons_of_mem _ List.mem_cons_self))))) (by kernel_rfl) (by kernel_rfl)
  obtain ⟨a7, h7⟩ := err_of_laid h (n := "shardkeep/api.ErrFew") (g := 8) (text := errText 7) (List.mem_cons_of_mem _ (List.mem_cons_of_mem _ (List.mem_cons_of_mem _ (List.mem_cons_of_mem _ (List.mem_cons_of_mem _ (List.mem_cons_of_mem _ List.mem_cons_self)))))) (by kernel_rfl) (by kernel_rfl)
  exact ⟨fun i => if i = 1 then a1 else if i = 3 then a3 else if i = 5 then a5 else a7, ⟨⟨h1.cell, h3.cell, h5.cell⟩, h7.cell⟩⟩
/-- what is left of a list without a text. -/
def restL (l : List ByteArray) (x : ByteArray) : List ByteArray := l.filter fun s => decide (s ≠ x)
theorem rest_take (l : List ByteArray) (x : ByteArray) {i : Nat} (hi : i < l.length) : restL (l.take (i + 1)) x = if l[i]?.getD ⟨#[]⟩ = x then restL (l.take i) x else restL (l.take i) x ++ [l[i]?.getD ⟨#[]⟩] := by
  unfold restL
  rw [List.take_succ_eq_append_getElem hi, List.filter_append, List.getElem?_eq_getElem hi]
  simp only [Option.getD_some, List.filter_cons, List.filter_nil]
  by_cases h : l[i] = x
  · rw [if_neg (by simpa using h), if_pos h, List.append_nil]
  · rw [if_pos (by simpa using h), if_neg h]
set_option maxRecDepth 100000 in
set_option maxHeartbeats 8000000 in
theorem walk (a : Option Addr) (len cap : Nat) (L : List ByteArray) (more key : ByteArray) (n : Int) (w : World) (hin : TxsIn w a len cap L) (hms : more.size ≤ maxLen) (hks : key.size ≤ maxLen) (_w3 : (Lit.int .i64 n).wf = true) (hL : laidMetH Tryd.prog Rows.ringComesRow.laid w) :
    Calls Tryd.prog 10 #[.slice a len cap, .string more, .string key, .int .i64 n] w fun e w' => e = .returned (.bool true) ∧ Below w.heap.size w w' := by
  obtain ⟨E, hE⟩ := errs_of_laid hL
  have HE := Lib.hid hE
  have Hrd := Lib.hid (round_walk w E hE)
  have HT := Lib.hid hin
  have hml := hin.max_
  have hlc := hin.cap_
  have hml9 : cap ≤ 9223372036854775807 := hml
  obtain ⟨ml, hmle⟩ : ∃ ml, more.size = ml := ⟨_, rfl⟩
  have Hml := Lib.hid (And.intro hmle hms)
  have hmz9 : ml ≤ 9223372036854775807 := by rw [← hmle]; exact hms
  obtain ⟨kl, hkl⟩ : ∃ kl, key.size = kl := ⟨_, rfl⟩
  have Hkl := Lib.hid (And.intro hkl hks)
  have hkl9 : kl ≤ 9223372036854775807 := by rw [← hkl]; exact hks
  clear hL hE hin hks hms
  go_enter Tryd.func10, Tryd.ntmps10
  go_wp2_with fail
  refine Hrd.out.mono ?_
  rintro e w1 ⟨rfl, hb1⟩
  have H1 := Lib.hid hb1
  clear hb1
  obtain ⟨lt, hlt⟩ : ∃ lt, longT L = lt := ⟨_, rfl⟩
  have Hlt := Lib.hid hlt
  have Hlw := Lib.hid (longt_walk w.heap.size a len cap L w1 HT.out.len_ (by have := HT.out.max_; omega) HT.out.sizeAt (HT.out.txs.below H1.out))
  rw [hlt] at Hlw
  clear hlt
  go_wp2_with fail
  refine Hlw.out.mono ?_
  rintro e w' ⟨rfl, rfl⟩
  cases lt with
  | true =>
    go_wp2
    go_ret
    exact ⟨rfl, H1.out⟩
  | false =>
    by_cases g1 : 100 < ml
    · have g1a : (100 : Int) < ml := by omega
      have g1b : decide (100 < ml) = true := decide_eq_true g1
      clear g1
      go_wp2
      go_ret
      exact ⟨rfl, H1.out⟩
    have g1a : ¬ (100 : Int) < ml := by omega
    have g1b : decide (100 < ml) = false := decide_eq_false g1
    by_cases g2 : 100 < kl
    · have g2a : (100 : Int) < kl := by omega
      have g2b : decide (100 < kl) = true := decide_eq_true g2
      clear g1 g2
      go_wp2
      go_ret
      exact ⟨rfl, H1.out⟩
    have g2a : ¬ (100 : Int) < kl := by omega
    have g2b : decide (100 < kl) = false := decide_eq_false g2
    have hl40 := (longT_no Hlt.out).1
    rw [HT.out.len_] at hl40
    have hul0 : ([] : List ByteArray).length + L.length ≤ 1000000 := by simp; have := HT.out.len_; omega
    have HU := Lib.hid hul0
    clear g1 g2 hul0
    go_wp2_with (at_builtin; refine append_txts 34 35 rfl rfl w.heap.size (.slice none 0 0) [] w.heap.size a len cap L rfl rfl (OwnT.nil _ _) HT.out.len_ HU.out HT.out.nil_ (HT.out.txs.below H1.out) H1.out.size ?_)
    intro v1 w2 k1 k2 k3
    have HO1 := Lib.hid (And.intro (show OwnT w.heap.size w2 v1 L by simpa using k1) (H1.out.grown k2 H1.out.size (fun j e => by simp [Value.ownBlock] at e)))
    have hul1 : L.length ≤ 1000000 := by have := HT.out.len_; omega
    have hszo := HO1.out.2.size
    clear k1 k2 k3
    go_wp2_with (at_builtin; refine append_txt 37 39 rfl rfl w.heap.size v1 L more rfl rfl HO1.out.1 hul1 hszo ?_)
    intro v2 w3 k1 k2 k3
    have H3 := Lib.hid ((HO1.out.2.alloc hszo _).grown k2 (by simp; omega) (fun j e => (Own1.lt HO1.out.1 j e).1))
    obtain ⟨a2, c2, hve2, hc2, hm2, _, ht2⟩ := k1.read
    obtain ⟨len2, hl2⟩ : ∃ len2, (L ++ [more]).length = len2 := ⟨_, rfl⟩
    have hl2e : len2 = len + 1 := by rw [← hl2, List.length_append, HT.out.len_]; rfl
    rw [hl2] at hve2 hc2
    have hsz2 : ∀ j : Nat, ((L ++ [more])[j]?.getD (⟨#[]⟩ : ByteArray)).size ≤ maxLen := fun j => by
      by_cases hj : j < (L ++ [more]).length
      · rw [List.getElem?_eq_getElem hj]
        rcases List.mem_append.1 (List.getElem_mem hj) with h | h
        · exact HT.out.siz_ _ h
        · simp only [Option.getD_some]; rw [List.mem_singleton.1 h]; exact Hml.out.2
      · rw [List.getElem?_eq_none (by omega)]; exact Nat.zero_le _
    have H2L := Lib.hid (And.intro hl2 (And.intro hl2e (And.intro hc2 (And.intro ht2 hsz2))))
    have hl2m : len2 ≤ maxLen := by unfold maxLen; omega
    rw [hve2]
    clear k1 k2 k3 hve2 ht2 hl2 hsz2 hl2e hul1 hszo
    have How := Lib.hid (ownt_walk w.heap.size a len cap L w3 HT.out.len_ (by omega) HT.out.nil_ (HT.out.txs.below H3.out))
    go_wp2_with fail
    refine How.out.mono ?_
    rintro e w4 ⟨⟨v4, rfl, hv4⟩, hb4⟩
    obtain ⟨a4, c4, rfl, hc4, hm4, _, ht4⟩ := hv4.read
    rw [HT.out.len_] at hc4
    have H4 := Lib.hid (H3.out.trans (hb4.mono H3.out.size))
    have HT2 := Lib.hid ((H2L.out.2.2.2.1.below hb4).mono hb4.size)
    have Hp1 := Lib.hid (prefer_walk n key w4.heap.size a4 len c4 L w4 E (HE.out.below H4.out (Nat.le_refl _)) HT.out.len_ (by unfold maxLen; omega) hc4 HT.out.sizeAt ht4 (Nat.le_refl _) Hkl.out.2)
    rw [HT.out.len_]
    clear hb4 hv4 ht4
    go_wp2_with fail
    refine Hp1.out.mono ?_
    rintro e w5 ⟨hb5, hres⟩
    have H5 := Lib.hid (H4.out.trans (hb5.mono H4.out.size))
    rcases hres with ⟨_, v, hv, _, rfl⟩ | ⟨h0, v5, O, hO, hv5, rfl⟩
    · clear hb5
      rcases hv with ⟨x, rfl⟩ | ⟨m, rfl⟩
      · go_wp2
        go_ret
        exact ⟨rfl, H5.out⟩
      · unfold faultV
        go_wp2
        go_ret
        exact ⟨rfl, H5.out⟩
    · obtain ⟨q1, q2, q3, hn0, q4, _⟩ := lookF_zero h0
      rw [HT.out.len_] at q4
      obtain ⟨N, rfl⟩ := Int.eq_ofNat_of_zero_le hn0
      have hNl : N ≤ len := by omega
      have hlO : (O.take N).length = N := by
        rw [List.length_take, hO.1.length_eq, HT.out.len_]; omega
      rw [Int.toNat_natCast] at hv5
      obtain ⟨a5, c5, rfl, hc5, hm5, _, ht5⟩ := hv5.read
      rw [hlO] at hc5 ⊢
      have HX := Lib.hid (And.intro hO (And.intro hlO ht5))
      have HT3 := Lib.hid ((HT2.out.below hb5).mono hb5.size)
      have Hp2 := Lib.hid (prefer_walk (N : Int) key w5.heap.size a2 len2 c2 (L ++ [more]) w5 E (HE.out.below H5.out (Nat.le_refl _)) H2L.out.1 hl2m H2L.out.2.2.1 H2L.out.2.2.2.2 HT3.out (Nat.le_refl _) Hkl.out.2)
      clear hb5 hO hlO hv5 ht5 q1 q2 q3 h0 q4 hn0
      go_wp2_with fail
      refine Hp2.out.mono ?_
      rintro e w6 ⟨hb6, hres⟩
      have H6 := Lib.hid (H5.out.trans (hb6.mono H5.out.size))
      have HA6 := Lib.hid ((HX.out.2.2.below hb6).mono hb6.size)
      rcases hres with ⟨_, v, hv, _, rfl⟩ | ⟨h0, v6, O2, hO2, hv6, rfl⟩
      · clear hb6
        rcases hv with ⟨x, rfl⟩ | ⟨m, rfl⟩
        · go_wp2
          go_ret
          exact ⟨rfl, H6.out⟩
        · unfold faultV
          go_wp2
          go_ret
          exact ⟨rfl, H6.out⟩
      · obtain ⟨_, p2, _, _, _, _⟩ := lookF_zero h0
        have hcm := Rg.comes HX.out.1 hO2 p2 N
        have hlO2 : O2.length = len2 := by rw [hO2.1.length_eq, H2L.out.1]
        have hlen2 := H2L.out.2.1
        rw [Int.toNat_natCast] at hv6
        obtain ⟨Q, hQ⟩ : ∃ Q, O2.take N = Q := ⟨_, rfl⟩
        have hlQ : Q.length = N := by rw [← hQ, List.length_take]; omega
        rw [hQ] at hv6 hcm
        obtain ⟨a6, c6, rfl, hc6, hm6, _, ht6⟩ := hv6.read
        rw [hlQ] at hc6 ⊢
        have hcm1 : N - 1 ≤ (restL Q more).length := by
          have := hcm.1
          unfold restL
          omega
        have hcm2 : restL Q more = (O.take N).take (restL Q more).length := hcm.2
        have hrl : (restL Q more).length ≤ N := by
          have := List.length_filter_le (fun s => decide (s ≠ more)) Q
          unfold restL
          omega
        have HQ := Lib.hid (And.intro hlQ (And.intro hcm1 (And.intro hcm2 (And.intro ht6 hrl))))
        clear hb6 hO2 hv6 ht6 h0 p2 hcm hlO2 hlen2 hQ hlQ hcm1 hcm2 hrl
        have hN9 : N ≤ 9223372036854775807 := by omega
        go_wp2
        go_loopw [14, 15] (fun vo vi wr => ∃ i : Nat, i ≤ N ∧ vi = .int .i64 i ∧ Hid (OwnT w6.heap.size wr vo (restL (Q.take i) more) ∧ Below w6.heap.size w6 wr)) (fun _ i _ => N - (intOf i).toNat)
        case atStart => exact ⟨0, by omega, rfl, Lib.hid ⟨by simpa [restL] using OwnT.nil _ _, Below.refl _ _⟩⟩
        case round =>
          obtain ⟨i, hi, rfl, Hr⟩ := hrel
          have hi2 : i < N ∨ i = N := by omega
          rcases hi2 with hilt | rfl
          · have hilt2 : (i : Int) < N := by omega
            rcases HQ.out.2.2.2.1.below Hr.out.2 with he | ⟨b, off, rfl, _, hcx⟩
            · exfalso
              have := HQ.out.1
              rw [he] at this; simp at this; omega
            have h1 := hcx i (by have := HQ.out.1; omega)
            have hnx := rest_take Q more (i := i) (by have := HQ.out.1; omega)
            obtain ⟨x, hx⟩ : ∃ x, Q[i]?.getD ⟨#[]⟩ = x := ⟨_, rfl⟩
            rw [hx] at h1 hnx
            have Hnx := Lib.hid hnx
            clear hcx hx hnx
            by_cases hxe : x = more
            · subst hxe
              go_wp2
              go_roundw
              case rel => exact ⟨i + 1, by omega, by go_num, Lib.hid (by rw [Hnx.out, if_pos rfl]; exact Hr.out)⟩
              case measure => simp [intOf]; omega
            · have e1 := txt_ne hxe
              have e2 : (x.toList != more.toList) = true := by rw [bne, e1]; rfl
              have hown := Lib.hid Hr.out.1
              have hul : (restL (Q.take i) more).length ≤ 1000000 := by
                have h8 := List.length_filter_le (fun s => decide (s ≠ more)) (Q.take i)
                have h9 := List.length_take_le i Q
                unfold restL
                omega
              have hszr := Hr.out.2.size
              have Hxe := Lib.hid hxe
              clear hxe
              go_wp2_with (at_builtin; refine append_txt 87 92 rfl rfl w6.heap.size _ _ x rfl rfl hown.out hul hszr ?_)
              intro v' w' k1 k2 _
              have hB2 : Below w6.heap.size w6 w' := (Hr.out.2.alloc hszr _).grown k2 (by simp; omega) (fun j e => (Own1.lt hown.out j e).1)
              have HR : Hid (OwnT w6.heap.size w' v' (restL (Q.take (i + 1)) more) ∧ Below w6.heap.size w6 w') := Lib.hid ⟨by rw [Hnx.out, if_neg Hxe.out]; exact k1, hB2⟩
              clear k1 k2 hB2 hown
              go_wp2
              go_roundw
              case rel => exact ⟨i + 1, by omega, by go_num, HR⟩
              case measure => simp [intOf]; omega
          · have hown := Hr.out.1
            rw [List.take_of_length_le (by have := HQ.out.1; omega)] at hown
            obtain ⟨ar, cr, hve, hcr, _, _, htr⟩ := hown.read
            obtain ⟨m, hm⟩ : ∃ m, (restL Q more).length = m := ⟨_, rfl⟩
            have q1 := HQ.out.2.1
            have q2 := HQ.out.2.2.1
            have q3 := HQ.out.2.2.2.2
            rw [hm] at hve hcr q1 q2 q3
            rw [hve]
            have HBr := Lib.hid (H6.out.trans (Hr.out.2.mono H6.out.size))
            have hA : TxsAt w6.heap.size wr a5 ((O.take i).take m) := TxsAt.take m (HA6.out.below Hr.out.2)
            have hlm : ((O.take i).take m).length = m := by rw [← q2]; exact hm
            have Hs := Lib.hid (fun cc => samet_walk wr.heap.size ar m cr (restL Q more) a5 m cc ((O.take i).take m) true wr hm hlm (by unfold maxLen; omega) htr (hA.mono Hr.out.2.size) (by rw [← q2]; simp))
            have hge : (i : Int) - 1 ≤ (m : Int) := by omega
            have hge2 : (i : Int) ≤ (m : Int) + 1 := by omega
            have hge3 : decide (i ≤ m + 1) = true := decide_eq_true (by omega)
            have hmc : (m : Int) ≤ c5 := by omega
            clear hown hve htr hm q2 hA hlm
            go_wp2_with fail
            refine (Hs.out _).mono ?_
            rintro e w9 ⟨rfl, hb9⟩
            have H9 := Lib.hid (HBr.out.trans (hb9.mono HBr.out.size))
            clear hb9
            go_wp2
            go_ret
            exact ⟨rfl, H9.out⟩
end Go.Proofs.YtmaalkjimppnkaaDoor.ringComes
