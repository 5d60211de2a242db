/- The walk of the law CoderEncodes. -/
import Derived.Test.YtfojimaafhpgbaaDoorCodM
import Derived.Test.YtfojimaafhpgbaaDoorEnv
namespace Go.Proofs.YtfojimaafhpgbaaDoor.coderEncodes
open Go.RowKit

set_option maxRecDepth 100000 in
set_option maxHeartbeats 1000000 in
theorem walk_skip (n k : Int) (s : ByteArray) (w : World) (E : Nat → Addr) (hE : ErrEnv w E) (h : (100 < s.size ∧ s.size ≤ 1000) ∨ 3000 < s.size) :
    Calls Tryd.prog 19 #[.int .i64 n, .int .i64 k, .string s] w fun e w' => e = .returned (.bool true) ∧ Below w.heap.size w w' := by
  have Hu := Lib.hid (single_walk w E hE.ez)
  obtain ⟨ls, hls⟩ : ∃ ls, s.size = ls := ⟨_, rfl⟩
  rw [hls] at h
  clear hE
  rcases h with ⟨h1, h2⟩ | h3
  · have g1 : (100 : Int) < ls := by omega
    have g2 : (ls : Int) ≤ 1000 := by omega
    have g1d : decide (100 < ls) = true := by simp; omega
    have g2d : decide (ls ≤ 1000) = true := by simp; omega
    go_enter Tryd.func19, Tryd.ntmps19
    go_wp2_with fail
    refine Hu.out.mono ?_
    rintro e w1 ⟨rfl, hb⟩
    go_wp2
    go_ret
    exact ⟨rfl, hb⟩
  · have g1 : (100 : Int) < ls := by omega
    have g2 : ¬ (ls : Int) ≤ 1000 := by omega
    have g3 : (3000 : Int) < ls := by omega
    have g1d : decide (100 < ls) = true := by simp; omega
    have g2d : decide (ls ≤ 1000) = false := by simp; omega
    have g3d : decide (3000 < ls) = true := by simp; omega
    go_enter Tryd.func19, Tryd.ntmps19
    go_wp2_with fail
    refine Hu.out.mono ?_
    rintro e w1 ⟨rfl, hb⟩
    go_wp2
    go_ret
    exact ⟨rfl, hb⟩

set_option maxRecDepth 100000 in
set_option maxHeartbeats 2000000 in
theorem walk_bad (n k : Int) (s : ByteArray) (w : World) (E : Nat → Addr) (hE : ErrEnv w E) (h0 : s.size ≤ 100 ∨ 1000 < s.size ∧ s.size ≤ 3000) (h : ¬ (1 ≤ k ∧ k ≤ n ∧ n ≤ 12) ∨ 1000 < s.size) :
    Calls Tryd.prog 19 #[.int .i64 n, .int .i64 k, .string s] w fun e w' => e = .returned (.bool true) ∧ Below w.heap.size w w' := by
  have Hu := Lib.hid (single_walk w E hE.ez)
  have HE := Lib.hid hE
  have Heb := Lib.hid (fun V hV => encode_bad n k s V E hV h)
  obtain ⟨ls, hls⟩ : ∃ ls, s.size = ls := ⟨_, rfl⟩
  rw [hls] at h h0
  have hg : isSpreadB n k = false ∨ isSpreadB n k = true ∧ 1000 < ls := by
    by_cases hs : 1 ≤ k ∧ k ≤ n ∧ n ≤ 12
    · exact .inr ⟨decide_eq_true hs, by omega⟩
    · exact .inl (decide_eq_false hs)
  have e2 : decide ((2 : Int) = ((1 : Nat) : Int) + 1) = true := rfl
  clear hE h
  have hcase : (¬ (100 : Int) < ls) ∨ ((100 : Int) < ls ∧ ¬ (ls : Int) ≤ 1000) := by omega
  have g3 : ¬ (3000 : Int) < ls := by omega
  have Hg := Lib.hid hg
  clear h0 hg
  rcases hcase with g1 | ⟨g1, g2⟩
  all_goals
    go_enter Tryd.func19, Tryd.ntmps19
    go_wp2_with fail
    refine Hu.out.mono ?_
    rintro e w1 ⟨rfl, hb1⟩
    have H1 := Lib.hid hb1
    clear hb1
    go_wp2_with fail
    refine (Heb.out w1 (HE.out.below H1.out (Nat.le_refl _)).ez).mono ?_
    rintro e w2 ⟨rfl, hb2⟩
    have H2 := Lib.hid (H1.out.trans (hb2.mono H1.out.size))
    clear hb2
    go_wp2_with fail
    refine (isspread_walk n k w2).mono ?_
    rintro e w' ⟨rfl, rfl⟩
    rcases Hg.out with hs | ⟨hs, hl⟩
    · rw [hs]
      clear hs
      go_wp2_with fail
      refine (coded_err E 1 (by decide) 2 w2 (HE.out.below H2.out (Nat.le_refl _))).mono ?_
      rintro e w4 ⟨rfl, hb4⟩
      rw [e2]
      have H4 := Lib.hid (H2.out.trans (hb4.mono H2.out.size))
      clear hb4
      go_wp2
      go_ret
      exact ⟨rfl, H4.out⟩
    · rw [hs]
      clear hs
      have hl2 : (1000 : Int) < ls := by omega
      have hl2d : decide (1000 < ls) = true := by simp; omega
      clear hl
      go_wp2_with fail
      refine (coded_err E 1 (by decide) 2 w2 (HE.out.below H2.out (Nat.le_refl _))).mono ?_
      rintro e w4 ⟨rfl, hb4⟩
      rw [e2]
      have H4 := Lib.hid (H2.out.trans (hb4.mono H2.out.size))
      clear hb4
      go_wp2
      go_ret
      exact ⟨rfl, H4.out⟩

set_option maxRecDepth 100000 in
set_option maxHeartbeats 2000000 in
theorem walk_ok (n k : Nat) (s : ByteArray) (w : World) (E : Nat → Addr) (hE : ErrEnv w E) (hk : 1 ≤ k) (hkn : k ≤ n) (hn : n ≤ 12) (hs : s.size ≤ 100) :
    Calls Tryd.prog 19 #[.int .i64 n, .int .i64 k, .string s] w fun e w' => e = .returned (.bool true) ∧ Below w.heap.size w w' := by
  have Hu := Lib.hid (single_walk w E hE.ez)
  have HE := Lib.hid hE
  have He := Lib.hid (fun V hV => encode_walk n k s V E hV hk hkn hn (by omega))
  have Hr := Lib.hid (fun V => rencode_walk n k s V hk hkn hn (by omega))
  have es : isSpreadB n k = true := decide_eq_true (by omega)
  have Es := Lib.hid es
  obtain ⟨ls, hls⟩ : ∃ ls, s.size = ls := ⟨_, rfl⟩
  rw [hls] at hs
  have g1 : ¬ (100 : Int) < ls := by omega
  have g3 : ¬ (3000 : Int) < ls := by omega
  have g4 : ¬ (1000 : Int) < ls := by omega
  obtain ⟨L, hL⟩ : ∃ L, encL n k s = L := ⟨_, rfl⟩
  have hLl : L.length ≤ maxLen := by rw [← hL, encL_length]; unfold maxLen; omega
  rw [hL] at He Hr
  have HLl := Lib.hid hLl
  clear hE es hL hLl
  go_enter Tryd.func19, Tryd.ntmps19
  go_wp2_with fail
  refine Hu.out.mono ?_
  rintro e w1 ⟨rfl, hb1⟩
  have H1 := Lib.hid hb1
  clear hb1
  go_wp2_with fail
  refine (He.out w1 (HE.out.below H1.out (Nat.le_refl _)).ez).mono ?_
  rintro e w2 ⟨⟨v, rfl, hv⟩, hb2⟩
  obtain ⟨a, c, hve, _, _, hSh⟩ := OwnS.read hv
  rw [hve]
  have H2 := Lib.hid (And.intro (H1.out.trans (hb2.mono H1.out.size)) hSh)
  clear hve hv hSh hb2
  go_wp2_with fail
  refine (isspread_walk n k w2).mono ?_
  rintro e w' ⟨rfl, rfl⟩
  rw [Es.out]
  go_wp2_with fail
  refine (Hr.out w2).mono ?_
  rintro e w3 ⟨⟨v3, rfl, hv3⟩, hb3⟩
  obtain ⟨a3, c3, hve3, _, _, hSh3⟩ := OwnS.read hv3
  rw [hve3]
  have H3 := Lib.hid (H2.out.1.trans (hb3.mono H2.out.1.size))
  have Hss := Lib.hid (samesh_walk w3.heap.size a a3 c c3 L w3 HLl.out ((H2.out.2.below hb3).mono hb3.size) hSh3)
  clear hve3 hv3 hSh3 hb3
  go_wp2_with fail
  refine Hss.out.mono ?_
  rintro e w4 ⟨rfl, q, hq⟩
  have H4 : Hid (Below w.heap.size w w4) := Lib.hid (by rw [hq]; exact H3.out.trans (same_below' _ q))
  clear hq
  go_wp2
  go_ret
  exact ⟨rfl, H4.out⟩

theorem walk (n k : Int) (s : ByteArray) (w : World) (_w0 : (Lit.int .i64 n).wf = true) (_w1 : (Lit.int .i64 k).wf = true) (_w2 : s.size ≤ maxLen) (hL : laidMetH Tryd.prog Rows.coderEncodesRow.laid w) :
    Calls Tryd.prog 19 #[.int .i64 n, .int .i64 k, .string s] w fun e w' => e = .returned (.bool true) ∧ Below w.heap.size w w' := by
  obtain ⟨E, hE⟩ := env_of_laid hL
  by_cases h0 : (100 < s.size ∧ s.size ≤ 1000) ∨ 3000 < s.size
  · exact walk_skip n k s w E hE h0
  by_cases h : 1 ≤ k ∧ k ≤ n ∧ n ≤ 12 ∧ s.size ≤ 1000
  · obtain ⟨k, rfl⟩ := Int.eq_ofNat_of_zero_le (show 0 ≤ k by omega)
    obtain ⟨n, rfl⟩ := Int.eq_ofNat_of_zero_le (show 0 ≤ n by omega)
    exact walk_ok n k s w E hE (by omega) (by omega) (by omega) (by omega)
  · exact walk_bad n k s w E hE (by omega) (by omega)
end Go.Proofs.YtfojimaafhpgbaaDoor.coderEncodes
