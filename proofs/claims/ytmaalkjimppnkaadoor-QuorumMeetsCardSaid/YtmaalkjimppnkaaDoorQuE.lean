/- Walks: the document's ConfigFault, Enough. -/
import Derived.Test.YtmaalkjimppnkaaDoorQuA
import Derived.Test.YtmaalkjimppnkaaDoorNdr
namespace Go.Proofs.YtmaalkjimppnkaaDoor
open Go.RowKit

set_option maxRecDepth 100000 in
set_option maxHeartbeats 2000000 in
theorem rconfig_walk (n k : Int) (n₀ : Nat) (a : Option Addr) (len cap : Nat) (L : List ByteArray) (w : World) (hlen : L.length = len) (hcap : len ≤ cap) (hsz : ∀ j : Nat, (L[j]?.getD (⟨#[]⟩ : ByteArray)).size ≤ maxLen) (hI : TxsAt n₀ w a L) (hn : n₀ ≤ w.heap.size) :
    Calls Tryd.prog 38 #[cfgV n k (.slice a len cap)] w fun e w' => e = .returned (fltA (configF n k L)) ∧ Below w.heap.size w w' := by
  have hB1 : Below w.heap.size w (w.alloc (.cells #[.int .i64 n, .int .i64 k, .slice a len cap] 24)) := (Below.refl _ w).alloc (Nat.le_refl _) _
  have hC := (CfgAt.new w n k (.slice a len cap)).below ((Below.refl (w.alloc (.cells #[.int .i64 n, .int .i64 k, .slice a len cap] 24)).heap.size _).alloc (Nat.le_refl _) (.cells #[.int .i64 0, .int .i64 0] 74)) (by simp)
  have hP := Pair.new (w.alloc (.cells #[.int .i64 n, .int .i64 k, .slice a len cap] 24)) (.int .i64 0) (.int .i64 0) 74
  have hB2 : Below w.heap.size w ((w.alloc (.cells #[.int .i64 n, .int .i64 k, .slice a len cap] 24)).alloc (.cells #[.int .i64 0, .int .i64 0] 74)) := hB1.alloc hB1.size _
  have hz1 : (w.alloc (.cells #[.int .i64 n, .int .i64 k, .slice a len cap] 24)).heap.size = w.heap.size + 1 := by simp
  have hz2 : ((w.alloc (.cells #[.int .i64 n, .int .i64 k, .slice a len cap] 24)).alloc (.cells #[.int .i64 0, .int .i64 0] 74)).heap.size = w.heap.size + 2 := by simp
  rw [hz1] at hP
  obtain ⟨W, hW⟩ : ∃ W, (w.alloc (.cells #[.int .i64 n, .int .i64 k, .slice a len cap] 24)).alloc (.cells #[.int .i64 0, .int .i64 0] 74) = W := ⟨_, rfl⟩
  rw [hW] at hC hP hB2 hz2
  have HI := Lib.hid ((hI.mono hn).below hB2)
  obtain ⟨b0, hb0⟩ : ∃ b0, w.heap.size = b0 := ⟨_, rfl⟩
  have hset : ∀ V, Below w.heap.size w V → ∀ u v : Value, Below w.heap.size w ((V.setCell ⟨b0 + 1, 0, none⟩ u).setCell ⟨b0 + 1, 1, none⟩ v) := fun V hV u v => (hV.setCell (p := ⟨b0 + 1, 0, none⟩) (by show w.heap.size ≤ b0 + 1; omega) u).setCell (p := ⟨b0 + 1, 1, none⟩) (by show w.heap.size ≤ b0 + 1; omega) v
  rw [hb0] at hC hP hz2
  have hlt : b0 + 1 < W.heap.size := by omega
  have hlt0 : b0 < W.heap.size := by omega
  have HH := Lib.hid (And.intro hC (And.intro hP (And.intro hB2 (And.intro hlt hlt0))))
  have HW := Lib.hid hW
  have Hb0 := Lib.hid hb0
  have Hset := Lib.hid hset
  have Hl := Lib.hid hlen
  have Hsz := Lib.hid hsz
  obtain ⟨F, hF⟩ : ∃ F, configF n k L = F := ⟨_, rfl⟩
  have HF := Lib.hid hF
  rw [hF]
  clear hB1 hC hP hB2 hz1 hz2 hlt hlt0 hset hW hb0 hF hI hlen hsz
  cases hs : isSpreadB n k with
  | false =>
    have hF2 : F = (2, -1) := by rw [← HF.out, configF_bad hs]
    subst hF2
    have Hs := Lib.hid hs
    have Hb := Lib.hid (bare_walk 2 W)
    clear hs
    go_enter Tryd.func38, Tryd.ntmps38
    go_wp2_with fail
    rw [HW.out, Hb0.out]
    refine (isspread_walk n k W).mono ?_
    rintro e w' ⟨rfl, hw'⟩
    subst hw'
    rw [Hs.out]
    go_wp2_with fail
    refine Hb.out.mono ?_
    rintro e w1 ⟨rfl, hb1⟩
    obtain ⟨p0, p1, q0, q1⟩ := HH.out.2.1.below hb1 HH.out.2.2.2.1
    have HB1 := Lib.hid (HH.out.2.2.1.trans (hb1.mono HH.out.2.2.1.size))
    clear hb1
    go_wp2
    exact bodyPost_ret (v := fltA (2, -1)) (by simp [results, Tryd.results38, fltA, p0, p1, go_sem]) rfl ⟨rfl, Hset.out _ HB1.out _ _⟩
  | true =>
    have hsp := of_decide_eq_true hs
    obtain ⟨k, rfl⟩ := Int.eq_ofNat_of_zero_le (show 0 ≤ k by omega)
    obtain ⟨n, rfl⟩ := Int.eq_ofNat_of_zero_le (show 0 ≤ n by omega)
    have Hs := Lib.hid hs
    by_cases hl : len = n
    · subst hl
      have hF2 : F = nodesF L := by rw [← HF.out, configF_nodes hs (by have := Hl.out; omega)]
      have HF2 := Lib.hid hF2
      have Hk := Lib.hid (rnodes_walk w.heap.size a len cap L W Hl.out hcap Hsz.out HI.out HH.out.2.2.1.size)
      obtain ⟨c0, c1, c2⟩ := HH.out.1
      clear hs hsp hF2
      go_enter Tryd.func38, Tryd.ntmps38
      go_wp2_with fail
      rw [HW.out, Hb0.out]
      refine (isspread_walk (len : Int) (k : Int) W).mono ?_
      rintro e w' ⟨rfl, hw'⟩
      subst hw'
      rw [Hs.out]
      go_wp2_with fail
      refine Hk.out.mono ?_
      rintro e w1 ⟨rfl, hb1⟩
      rw [← HF2.out]
      obtain ⟨p0, p1, q0, q1⟩ := HH.out.2.1.below hb1 HH.out.2.2.2.1
      have HB1 := Lib.hid (HH.out.2.2.1.trans (hb1.mono HH.out.2.2.1.size))
      unfold fltA
      clear hb1 c0 c1 c2
      go_wp2
      exact bodyPost_ret (v := fltA F) (by simp [results, Tryd.results38, fltA, p0, p1, go_sem]) rfl ⟨rfl, Hset.out _ HB1.out _ _⟩
    · have hF2 : F = (3, -1) := by rw [← HF.out, configF_shape hs (by have := Hl.out; omega)]
      subst hF2
      have e1 : ((len : Int) == (n : Int)) = false := beq_eq_false_iff_ne.2 (by omega)
      have e2 : ((len : Int) != (n : Int)) = true := bne_iff_ne.2 (by omega)
      have e3 : (len == n) = false := beq_eq_false_iff_ne.2 hl
      have Hb := Lib.hid (bare_walk 3 W)
      obtain ⟨c0, c1, c2⟩ := HH.out.1
      clear hs hsp hl
      go_enter Tryd.func38, Tryd.ntmps38
      go_wp2_with fail
      rw [HW.out, Hb0.out]
      refine (isspread_walk (n : Int) (k : Int) W).mono ?_
      rintro e w' ⟨rfl, hw'⟩
      subst hw'
      rw [Hs.out]
      go_wp2_with fail
      refine Hb.out.mono ?_
      rintro e w1 ⟨rfl, hb1⟩
      obtain ⟨p0, p1, q0, q1⟩ := HH.out.2.1.below hb1 HH.out.2.2.2.1
      have HB1 := Lib.hid (HH.out.2.2.1.trans (hb1.mono HH.out.2.2.1.size))
      clear hb1 c0 c1 c2
      go_wp2
      exact bodyPost_ret (v := fltA (3, -1)) (by simp [results, Tryd.results38, fltA, p0, p1, go_sem]) rfl ⟨rfl, Hset.out _ HB1.out _ _⟩
set_option maxRecDepth 100000 in
set_option maxHeartbeats 1000000 in
theorem renough_walk (n k : Nat) (v : Value) (w : World) (hk : 1 ≤ k) (hkn : k ≤ n) (hn : n ≤ 12) :
    Calls Tryd.prog 41 #[cfgV n k v] w fun e w' => e = .returned (.int .i64 (((n + k + 1) / 2 : Nat) : Int)) ∧ Below w.heap.size w w' := by
  have hB1 : Below w.heap.size w (w.alloc (.cells #[.int .i64 n, .int .i64 k, v] 24)) := (Below.refl _ w).alloc (Nat.le_refl _) _
  have hC := CfgAt.new w n k v
  obtain ⟨W, hW⟩ : ∃ W, w.alloc (.cells #[.int .i64 n, .int .i64 k, v] 24) = W := ⟨_, rfl⟩
  rw [hW] at hB1 hC
  obtain ⟨c0, c1, _⟩ := hC
  have HW := Lib.hid hW
  have HB := Lib.hid hB1
  clear hW hB1
  go_enter Tryd.func41, Tryd.ntmps41
  go_wp2
  rw [HW.out]
  go_loop [3] (fun vi => ∃ i : Nat, i ≤ (n + k + 1) / 2 ∧ vi = .int .i64 i) (fun i => 13 - (intOf i).toNat)
  case atStart => exact ⟨0, by omega, rfl⟩
  case round =>
    obtain ⟨i, hi, rfl⟩ := hrel
    by_cases hlt : 2 * i < n + k
    · have hlt2 : 2 * (i : Int) < (n : Int) + k := by omega
      have hlt3 : decide (2 * i < n + k) = true := decide_eq_true hlt
      have hi13 : i < 13 := by omega
      go_wp2
      go_round
      case rel => exact ⟨i + 1, by omega, by go_num⟩
      case measure => simp [intOf]; omega
    · have hlt2 : ¬ 2 * (i : Int) < (n : Int) + k := by omega
      have hlt3 : decide (2 * i < n + k) = false := decide_eq_false hlt
      have hie : i = (n + k + 1) / 2 := by omega
      have Hie := Lib.hid hie
      clear hie
      go_wp2
      go_ret
      exact ⟨ret_i (by have := Hie.out; omega), HB.out⟩
end Go.Proofs.YtmaalkjimppnkaaDoor
