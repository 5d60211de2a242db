/- The walk of the law RingTurned. -/
import Derived.Test.YtmaalkjimppnkaaDoorPtF
import Derived.Test.YtmaalkjimppnkaaDoorEnv
namespace Go.Proofs.YtmaalkjimppnkaaDoor.ringTurned
open Go.RowKit

theorem errs_of_laid {W : World} (h : laidMetH Tryd.prog Rows.ringTurnedRow.laid W) : ∃ E, ErrRx W E := by
  obtain ⟨a1, h1⟩ := err_of_laid h (n := "shardkeep/api.ErrBound") (g := 6) (text := errText 1) (List.mem_cons_of_mem _ (List.mem_cons_of_mem _ (List.mem_cons_of_mem _ List.mem_cons_self))) (by kernel_rfl) (by kernel_rfl)
  obtain ⟨a3, h3⟩ := err_of_laid h (n := "shardkeep/api.ErrName") (g := 3) (text := errText 3) (List.mem_cons_of_mem _ (List.mem_cons_of_mem _ (List.mem_cons_of_mem _ (List.mem_cons_of_mem _ List.mem_cons_self)))) (by kernel_rfl) (by kernel_rfl)
  obtain ⟨a5, h5⟩ := err_of_laid h (n := "shardkeep/api.ErrExist") (g := 7) (text := errText 5) (List.mem_cons_of_mem _ (List.mem_cons_of_mem _ (List.mem_cons_of_mem _ (List.mem_cons_of_mem _ (List.mem_cons_of_mem _ List.mem_cons_self))))) (by kernel_rfl) (by kernel_rfl)
  obtain ⟨a7, h7⟩ := err_of_laid h (n := "shardkeep/api.ErrFew") (g := 8) (text := errText 7) (List.mem_cons_of_mem _ (List.mem_cons_of_mem _ (List.mem_cons_of_mem _ (List.mem_cons_of_mem _ (List.mem_cons_of_mem _ (List.mem_cons_of_mem _ List.mem_cons_self)))))) (by kernel_rfl) (by kernel_rfl)
  exact ⟨fun i => if i = 1 then a1 else if i = 3 then a3 else if i = 5 then a5 else a7, ⟨⟨h1.cell, h3.cell, h5.cell⟩, h7.cell⟩⟩
theorem nodes_ok {L : List ByteArray} (h1 : 1 ≤ L.length ∧ L.length ≤ 16) (hn : L.Nodup) (hs : ∀ s ∈ L, nameB s = true) : nodesF L = (0, -1) := by
  refine nodesF_ok h1 (fun j hj => ?_)
  have e : L[j]?.getD ⟨#[]⟩ = L[j] := by rw [List.getElem?_eq_getElem hj]; rfl
  refine badAt_ok (by rw [e]; exact hs _ (List.getElem_mem hj)) (fun hm => ?_)
  rw [e] at hm
  obtain ⟨i, hi, e2⟩ := List.mem_take_iff_getElem.1 hm
  exact List.pairwise_iff_getElem.1 (List.nodup_iff_pairwise_ne.1 hn) i j (by omega) hj (by omega) e2
theorem look_ok {L : List ByteArray} {n : Int} (h1 : 1 ≤ L.length ∧ L.length ≤ 16) (hn : L.Nodup) (hs : ∀ s ∈ L, nameB s = true) (h0 : 0 ≤ n) (hl : n ≤ L.length) : (lookF L n).1 = 0 := by
  unfold lookF
  rw [nodes_ok h1 hn hs, if_pos rfl, if_neg (by omega), if_neg (by omega)]
theorem size_str : ∀ w, (Go.sizeOf 9).run Tryd.prog w = .ok 1 w := fun _ => by kernel_rfl
set_option maxRecDepth 100000 in
theorem elem_str : Tryd.prog.elem 22 = 9 := by kernel_rfl
theorem slice_from {w : World} {a : Option Addr} {len cap n₀ : Nat} {L : List ByteArray} (hlen : L.length = len) (hcap : len ≤ cap) (ha : a = none → cap = 0) (hI : TxsAt n₀ w a L) (k : Nat) (hb : k ≤ len) :
    ∃ a1, (∀ W, (Instr.slice 22 (.slice a len cap) (some (.int .i64 (k : Int))) none none).run Tryd.prog W = .ok (.slice a1 (len - k) (cap - k)) W) ∧ TxsAt n₀ w a1 (L.drop k) ∧ (a1 = none → cap - k = 0) := by
  refine ⟨if cap = k then a else a.map (·.add (k * 1)), fun W => ?_, ?_, ?_⟩
  · have h := run_slice_l (P := Tryd.prog) (w := W) 22 a len cap (by rw [elem_str]; exact Tryd.underlying22) .i64 (k : Int) (by omega) (by omega)
    rw [elem_str, size_str] at h
    rw [h]
    rfl
  · rcases hI with rfl | ⟨b, off, rfl, hbl, hc⟩
    · exact .inl (by simp)
    · by_cases hk : k = len
      · left; rw [hk, ← hlen]; simp
      · right
        rw [if_neg (by omega)]
        refine ⟨b, off + k, by simp [Go.WideShapes.add_plain], hbl, fun j hj => ?_⟩
        have hj2 : k + j < L.length := by simp at hj; omega
        rw [Nat.add_assoc, hc _ hj2, List.getElem?_drop]
  · intro h
    by_cases hk : cap = k
    · omega
    · rw [if_neg hk] at h
      have := ha (by simpa using h)
      omega
set_option maxRecDepth 100000 in
set_option maxHeartbeats 8000000 in
theorem walk (a : Option Addr) (len cap : Nat) (L : List ByteArray) (by_ : Int) (key : ByteArray) (n less : Int) (w : World) (hin : TxsIn w a len cap L) (_w1 : (Lit.int .i64 by_).wf = true) (hks : key.size ≤ maxLen) (_w3 : (Lit.int .i64 n).wf = true) (_w4 : (Lit.int .i64 less).wf = true) (hL : laidMetH Tryd.prog Rows.ringTurnedRow.laid w) :
    Calls Tryd.prog 11 #[.slice a len cap, .int .i64 by_, .string key, .int .i64 n, .int .i64 less] w fun e w' => e = .returned (.bool true) ∧ Below w.heap.size w w' := by
  obtain ⟨E, hE⟩ := errs_of_laid hL
  have HE := Lib.hid hE
  have Hrd := Lib.hid (round_walk w E hE)
  have HT := Lib.hid hin
  have hml := hin.max_
  have hlc := hin.cap_
  have hml9 : cap ≤ 9223372036854775807 := hml
  obtain ⟨kl, hkl⟩ : ∃ kl, key.size = kl := ⟨_, rfl⟩
  have Hkl := Lib.hid (And.intro hkl hks)
  have hkl9 : kl ≤ 9223372036854775807 := by rw [← hkl]; exact hks
  clear hL hE hin hks
  go_enter Tryd.func11, Tryd.ntmps11
  go_wp2_with fail
  refine Hrd.out.mono ?_
  rintro e w1 ⟨rfl, hb1⟩
  have H1 := Lib.hid hb1
  clear hb1
  obtain ⟨lt, hlt⟩ : ∃ lt, longT L = lt := ⟨_, rfl⟩
  have Hlt := Lib.hid hlt
  have Hlw := Lib.hid (longt_walk w.heap.size a len cap L w1 HT.out.len_ (by have := HT.out.max_; omega) HT.out.sizeAt (HT.out.txs.below H1.out))
  rw [hlt] at Hlw
  clear hlt
  go_wp2_with fail
  refine Hlw.out.mono ?_
  rintro e w' ⟨rfl, rfl⟩
  cases lt with
  | true =>
    go_wp2
    go_ret
    exact ⟨rfl, H1.out⟩
  | false =>
    by_cases g1 : 100 < kl
    · have g1a : (100 : Int) < kl := by omega
      have g1b : decide (100 < kl) = true := decide_eq_true g1
      clear g1
      go_wp2
      go_ret
      exact ⟨rfl, H1.out⟩
    have g1a : ¬ (100 : Int) < kl := by omega
    have g1b : decide (100 < kl) = false := decide_eq_false g1
    by_cases g2 : by_ < 0
    · clear g1
      go_wp2
      go_ret
      exact ⟨rfl, H1.out⟩
    obtain ⟨k, rfl⟩ := Int.eq_ofNat_of_zero_le (show 0 ≤ by_ by omega)
    have g2a : ¬ ((k : Int) < 0) := g2
    by_cases g3 : len < k
    · have g3a : (len : Int) < k := by omega
      have g3b : decide (len < k) = true := decide_eq_true g3
      clear g1 g3 g2
      go_wp2
      go_ret
      exact ⟨rfl, H1.out⟩
    have g3a : ¬ (len : Int) < k := by omega
    have g3b : decide (len < k) = false := decide_eq_false g3
    by_cases g4 : less < 0
    · clear g1 g3 g2
      go_wp2
      go_ret
      exact ⟨rfl, H1.out⟩
    by_cases g5 : n < less
    · clear g1 g3 g2
      go_wp2
      go_ret
      exact ⟨rfl, H1.out⟩
    obtain ⟨N, rfl⟩ := Int.eq_ofNat_of_zero_le (show 0 ≤ n by omega)
    obtain ⟨M, rfl⟩ := Int.eq_ofNat_of_zero_le (show 0 ≤ less by omega)
    have g4a : ¬ ((M : Int) < 0) := g4
    have g5a : ¬ ((N : Int) < M) := g5
    have g5b : decide (N < M) = false := decide_eq_false (by omega)
    have hMN : M ≤ N := by omega
    have hl40 := (longT_no Hlt.out).1
    rw [HT.out.len_] at hl40
    have hkl2 : k ≤ len := by omega
    have hki : (k : Int) ≤ len := by omega
    have hkc : (k : Int) ≤ cap := by omega
    obtain ⟨ad, hsl, htd, hadn⟩ := slice_from HT.out.len_ hlc HT.out.nil_ (HT.out.txs.below H1.out) k hkl2
    have hulD : ([] : List ByteArray).length + (L.drop k).length ≤ 1000000 := by simp; have := HT.out.len_; omega
    have HD := Lib.hid (And.intro htd (And.intro hadn (And.intro (show (L.drop k).length = len - k by simp [HT.out.len_]) hulD)))
    clear g1 g2 g3 g4 g5 htd hadn hulD
    go_wp2_with (at_builtin; refine append_txts 51 54 rfl rfl w.heap.size (.slice none 0 0) [] w.heap.size ad (len - k) (cap - k) (L.drop k) rfl rfl (OwnT.nil _ _) HD.out.2.2.1 HD.out.2.2.2 HD.out.2.1 HD.out.1 H1.out.size ?_)
    intro v1 w2 k1 k2 k3
    have HO1 := Lib.hid (And.intro (show OwnT w.heap.size w2 v1 (L.drop k) by simpa using k1) (H1.out.grown k2 H1.out.size (fun j e => by simp [Value.ownBlock] at e)))
    have hulT : (L.drop k).length + (L.take k).length ≤ 1000000 := by simp; have := HT.out.len_; omega
    have HU := Lib.hid (And.intro (show (L.take k).length = k by simp [HT.out.len_]; omega) hulT)
    clear k1 k2 k3 hulT hsl
    go_wp2_with (at_builtin; refine append_txts 56 59 rfl rfl w.heap.size v1 (L.drop k) w.heap.size a k cap (L.take k) rfl rfl HO1.out.1 HU.out.1 HU.out.2 HT.out.nil_ ((HT.out.txs.below HO1.out.2).take k) HO1.out.2.size ?_)
    intro v2 w3 k1 k2 k3
    have H3 := Lib.hid (HO1.out.2.grown k2 HO1.out.2.size (fun j e => (Own1.lt HO1.out.1 j e).1))
    obtain ⟨L2, hL2⟩ : ∃ L2, L.drop k ++ L.take k = L2 := ⟨_, rfl⟩
    have hperm : L2.Perm L := by
      rw [← hL2]
      refine (List.perm_append_comm).trans ?_
      rw [List.take_append_drop]
    rw [hL2] at k1
    obtain ⟨a2, c2, hve2, hc2, hm2, _, ht2⟩ := k1.read
    have hl2 : L2.length = len := by rw [hperm.length_eq, HT.out.len_]
    rw [hl2] at hve2 hc2
    have H2L := Lib.hid (And.intro hperm (And.intro hl2 (And.intro hc2 ht2)))
    have hsz2 : ∀ j : Nat, (L2[j]?.getD (⟨#[]⟩ : ByteArray)).size ≤ maxLen := fun j => by
      by_cases hj : j < L2.length
      · rw [List.getElem?_eq_getElem hj]
        exact HT.out.siz_ _ (hperm.mem_iff.1 (List.getElem_mem hj))
      · rw [List.getElem?_eq_none (by omega)]; exact Nat.zero_le _
    have Hsz2 := Lib.hid hsz2
    rw [hve2]
    clear k1 k2 k3 hL2 hperm hve2 hc2 ht2 hl2 hsz2
    have How := Lib.hid (ownt_walk w.heap.size a len cap L w3 HT.out.len_ (by omega) HT.out.nil_ (HT.out.txs.below H3.out))
    go_wp2_with fail
    refine How.out.mono ?_
    rintro e w4 ⟨⟨v4, rfl, hv4⟩, hb4⟩
    obtain ⟨a4, c4, rfl, hc4, hm4, _, ht4⟩ := hv4.read
    rw [HT.out.len_] at hc4
    have H4 := Lib.hid (H3.out.trans (hb4.mono H3.out.size))
    have HT2 := Lib.hid ((H2L.out.2.2.2.below hb4).mono hb4.size)
    have Hp1 := Lib.hid (prefer_walk (N : Int) key w4.heap.size a4 len c4 L w4 E (HE.out.below H4.out (Nat.le_refl _)) HT.out.len_ (by unfold maxLen; omega) hc4 HT.out.sizeAt ht4 (Nat.le_refl _) Hkl.out.2)
    rw [HT.out.len_]
    clear hb4 hv4 ht4
    go_wp2_with fail
    refine Hp1.out.mono ?_
    rintro e w5 ⟨hb5, hres⟩
    have H5 := Lib.hid (H4.out.trans (hb5.mono H4.out.size))
    rcases hres with ⟨_, v, hv, _, rfl⟩ | ⟨h0, v5, O, hO, hv5, rfl⟩
    · clear hb5
      rcases hv with ⟨x, rfl⟩ | ⟨m, rfl⟩
      · go_wp2
        go_ret
        exact ⟨rfl, H5.out⟩
      · unfold faultV
        go_wp2
        go_ret
        exact ⟨rfl, H5.out⟩
    · obtain ⟨q1, q2, q3, _, q4, _⟩ := lookF_zero h0
      rw [HT.out.len_] at q4
      have hlO : (O.take N).length = N := by
        rw [List.length_take, hO.1.length_eq, HT.out.len_]; omega
      rw [Int.toNat_natCast] at hv5
      obtain ⟨a5, c5, rfl, hc5, hm5, _, ht5⟩ := hv5.read
      rw [hlO] at hc5 ⊢
      have HX := Lib.hid (And.intro hO (And.intro hlO (And.intro ht5 (And.intro q1 (And.intro q2 q3)))))
      have HT3 := Lib.hid ((HT2.out.below hb5).mono hb5.size)
      have Hp2 := Lib.hid (prefer_walk (N : Int) key w5.heap.size a2 len c2 L2 w5 E (HE.out.below H5.out (Nat.le_refl _)) H2L.out.2.1 (by unfold maxLen; omega) H2L.out.2.2.1 Hsz2.out HT3.out (Nat.le_refl _) Hkl.out.2)
      clear hb5 hO hlO hv5 ht5 q1 q2 q3 h0
      have hNl : N ≤ len := by omega
      clear q4
      have hz2 : ∀ x : Nat, x ≤ len → (lookF L2 (x : Int)).1 = 0 := fun x hx => by
        have hp := H2L.out.1
        have e1 := H2L.out.2.1
        have e2 := HT.out.len_
        have q := HX.out.2.2.2
        refine look_ok (by omega) ((hp.nodup_iff).2 q.2.1) (fun s hs => q.2.2 s (hp.mem_iff.1 hs)) (by omega) (by omega)
      have Hz2 := Lib.hid hz2
      clear hz2
      go_wp2_with fail
      refine Hp2.out.mono ?_
      rintro e w6 ⟨hb6, hres⟩
      rcases hres with ⟨hne, _⟩ | ⟨_, v6, O2, hO2, hv6, rfl⟩
      · exact absurd (Hz2.out N hNl) hne
      have H6 := Lib.hid (H5.out.trans (hb6.mono H5.out.size))
      have HT4 := Lib.hid ((HT3.out.below hb6).mono hb6.size)
      have HA6 := Lib.hid ((HX.out.2.2.1.below hb6).mono hb6.size)
      obtain rfl : O2 = O := hO2.unique HX.out.1 H2L.out.1
      rw [Int.toNat_natCast] at hv6
      obtain ⟨a6, c6, rfl, hc6, hm6, _, ht6⟩ := hv6.read
      rw [HX.out.2.1] at hc6 ⊢
      have HB6 := Lib.hid ht6
      have Hp3 := Lib.hid (prefer_walk (M : Int) key w6.heap.size a2 len c2 L2 w6 E (HE.out.below H6.out (Nat.le_refl _)) H2L.out.2.1 (by unfold maxLen; omega) H2L.out.2.2.1 Hsz2.out HT4.out (Nat.le_refl _) Hkl.out.2)
      clear hb6 hO2 hv6 ht6
      go_wp2_with fail
      refine Hp3.out.mono ?_
      rintro e w7 ⟨hb7, hres⟩
      rcases hres with ⟨hne, _⟩ | ⟨_, v7, O3, hO3, hv7, rfl⟩
      · exact absurd (Hz2.out M (by omega)) hne
      have H7 := Lib.hid (H6.out.trans (hb7.mono H6.out.size))
      have HA7 := Lib.hid ((HA6.out.below hb7).mono hb7.size)
      have HB7 := Lib.hid ((HB6.out.below hb7).mono hb7.size)
      obtain rfl : O3 = O2 := hO3.unique HX.out.1 H2L.out.1
      rw [Int.toNat_natCast] at hv7
      obtain ⟨a7, c7, rfl, hc7, hm7, _, ht7⟩ := hv7.read
      have hlM : (O3.take M).length = M := by
        rw [List.length_take, HX.out.1.1.length_eq, HT.out.len_]; omega
      rw [hlM] at hc7 ⊢
      have hMi : (M : Int) ≤ c5 := by omega
      have Hs1 := Lib.hid (samet_walk w7.heap.size a5 N c5 (O3.take N) a6 N c6 (O3.take N) true w7 HX.out.2.1 HX.out.2.1 (by unfold maxLen; omega) HA7.out HB7.out (by simp))
      clear hb7 hO3 hv7
      have HC7 := Lib.hid ht7
      have HlM := Lib.hid hlM
      clear ht7 hlM
      go_wp2_with fail
      refine Hs1.out.mono ?_
      rintro e w8 ⟨rfl, hb8⟩
      have H8 := Lib.hid (H7.out.trans (hb8.mono H7.out.size))
      have htk : (O3.take N).take M = O3.take M := by rw [List.take_take, Nat.min_eq_left hMN]
      have hA8 := TxsAt.take M ((HA7.out.below hb8).mono hb8.size)
      rw [htk] at hA8
      have Hs2 := Lib.hid (fun cc => samet_walk w8.heap.size a7 M c7 (O3.take M) a5 M cc (O3.take M) true w8 HlM.out HlM.out (by unfold maxLen; omega) ((HC7.out.below hb8).mono hb8.size) hA8 (by simp))
      clear hb8 htk hA8
      go_wp2_with fail
      refine (Hs2.out _).mono ?_
      rintro e w9 ⟨rfl, hb9⟩
      have H9 := Lib.hid (H8.out.trans (hb9.mono H8.out.size))
      clear hb9
      go_wp2
      go_ret
      exact ⟨rfl, H9.out⟩
end Go.Proofs.YtmaalkjimppnkaaDoor.ringTurned
