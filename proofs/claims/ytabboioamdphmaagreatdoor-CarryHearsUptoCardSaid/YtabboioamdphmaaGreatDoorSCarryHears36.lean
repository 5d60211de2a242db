/- The walk of the document's NodesFault. -/
import Derived.Test.YtabboioamdphmaaGreatDoorSCarryHears16
import Derived.Deep.QuietTactic
import Derived.BigQuiet
import Derived.Test.YtabboioamdphmaaGreatDoorSCarryHears33
import Derived.Test.YtabboioamdphmaaGreatDoorSCarryHears29
namespace Go.Proofs.YtabboioamdphmaaGreatDoor
open Go.RowKit

def fltA (f : Nat × Int) : Value := .agg #[.int .i64 (f.1 : Nat), .int .i64 f.2]
theorem drewN_below (w : World) (n : Nat) : Below w.heap.size w (w.drewN n) := ⟨rfl, rfl, rfl, Nat.le_refl _, fun _ _ => rfl⟩
set_option maxRecDepth 100000 in
set_option maxHeartbeats 4000000 in
theorem rnodes_walk (n₀ : Nat) (a : Option Addr) (len cap : Nat) (L : List ByteArray) (w : World) (hlen : L.length = len) (hcap : len ≤ cap) (hsz : ∀ j : Nat, (L[j]?.getD (⟨#[]⟩ : ByteArray)).size ≤ maxLen) (hI : TxsAt n₀ w a L) (hn : n₀ ≤ w.heap.size) :
    Calls Tryz.prog 38 #[.slice a len cap] w fun e w' => e = .returned (fltA (nodesF L)) ∧ Below w.heap.size w w' := by
  have hP := Pair.new w (.int .i64 0) (.int .i64 0) 36
  have hB0 : Below w.heap.size w (w.alloc (.cells #[.int .i64 0, .int .i64 0] 36)) := (Below.refl _ w).alloc (Nat.le_refl _) _
  have hz : w.heap.size < (w.alloc (.cells #[.int .i64 0, .int .i64 0] 36)).heap.size := by simp
  obtain ⟨W0, hW0⟩ : ∃ W0, w.alloc (.cells #[.int .i64 0, .int .i64 0] 36) = W0 := ⟨_, rfl⟩
  rw [hW0] at hP hB0 hz
  have hI0 := (hI.mono hn).below hB0
  obtain ⟨bb, hbb⟩ : ∃ bb, w.heap.size = bb := ⟨_, rfl⟩
  rw [hbb] at hP hz
  have HB := Lib.hid (And.intro hP (And.intro hB0 hz))
  have HW := Lib.hid hW0
  have Hbb := Lib.hid hbb
  have HI := Lib.hid hI0
  obtain ⟨F, hF⟩ : ∃ F, nodesF L = F := ⟨_, rfl⟩
  have HF := Lib.hid hF
  rw [hF]
  have hset : ∀ V, Below w.heap.size w V → ∀ u v : Value, Below w.heap.size w ((V.setCell ⟨bb, 0, none⟩ u).setCell ⟨bb, 1, none⟩ v) := fun V hV u v => (hV.setCell (p := ⟨bb, 0, none⟩) (Nat.le_of_eq hbb) u).setCell (p := ⟨bb, 1, none⟩) (Nat.le_of_eq hbb) v
  have Hset := Lib.hid hset
  have Hl := Lib.hid hlen
  have Hs := Lib.hid hsz
  clear hF hW0 hbb hP hB0 hz hset hI hI0
  by_cases hb : 1 ≤ len ∧ len ≤ 16
  · have hm' : len ≤ 9223372036854775807 := by omega
    have Hr : Hid (1 ≤ L.length ∧ L.length ≤ 16) := Lib.hid (by rw [hlen]; exact hb)
    have g1 : ¬ (len : Int) < 1 := by omega
    have g1d : decide (len < 1) = false := decide_eq_false (by omega)
    have g2 : ¬ (16 : Int) < len := by omega
    have g2d : decide (16 < len) = false := decide_eq_false (by omega)
    have hcap2 : (len : Int) ≤ cap := by omega
    clear hb hlen hsz hcap
    go_enter Tryz.func38, Tryz.ntmps38
    go_wp2
    rw [HW.out, Hbb.out]
    go_loopw [3] (fun vi wr => ∃ k : Nat, k ≤ len ∧ vi = .int .i64 k ∧ Hid ((∀ j, j < k → badAt L j = 0) ∧ ∃ q, wr = W0.drewN q)) (fun i _ => len - (intOf i).toNat)
    case atStart => exact ⟨0, by omega, rfl, Lib.hid ⟨fun j hj => by omega, 0, rfl⟩⟩
    case round =>
      obtain ⟨k, hk, rfl, Hz⟩ := hrel
      have hk2 : k < len ∨ k = len := by omega
      have hpw : Pair wr bb (.int .i64 0) (.int .i64 0) ∧ Below w.heap.size w wr ∧ bb < wr.heap.size ∧ TxsAt w.heap.size wr a L := by
        obtain ⟨_, q, hq⟩ := Hz.out
        rw [hq]
        exact ⟨HB.out.1.drewN q, HB.out.2.1.trans ((drewN_below W0 q).mono HB.out.2.1.size), HB.out.2.2, HI.out⟩
      have HP := Lib.hid hpw
      clear hpw
      rcases hk2 with hlt | rfl
      · have hlt2 : (k : Int) < len := by omega
        have hk3 : (k : Int) ≤ cap := by omega
        rcases HP.out.2.2.2 with he | ⟨b, off, rfl, hbl, hc⟩
        · exfalso
          have := Hl.out
          rw [he] at this; simp at this; omega
        have h1 := hc k (by have := Hl.out; omega)
        obtain ⟨x, hx⟩ : ∃ x, L[k]?.getD ⟨#[]⟩ = x := ⟨_, rfl⟩
        have hxs := Hs.out k
        rw [hx] at h1 hxs
        have Hx := Lib.hid hx
        have Hn := Lib.hid (rname_walk x wr hxs)
        clear hc hx hxs
        cases hnb : nameB x with
        | false =>
          rw [hnb] at Hn
          have hF2 : F = (4, (k : Int)) := by
            have hbad : badAt L k = 4 := badAt_name (by rw [Hx.out]; exact hnb)
            rw [← HF.out, nodesF_at Hr.out (by have := Hl.out; omega) Hz.out.1 (by omega), hbad]
          clear hnb
          subst hF2
          obtain ⟨p0, p1, q0, q1⟩ := HP.out.1
          go_wp2_with fail
          refine Hn.out.mono ?_
          rintro e w' ⟨rfl, rfl⟩
          go_wp2
          exact bodyPost_ret (v := fltA (4, (k : Int))) (by simp [results, Tryz.results38, fltA, p0, p1, go_sem]) rfl ⟨rfl, Hset.out _ HP.out.2.1 _ _⟩
        | true =>
          rw [hnb] at Hn
          obtain ⟨y, hy⟩ : ∃ y, idxT (L.take k) x = y := ⟨_, rfl⟩
          have hq : ∀ n c, Calls Tryz.prog 50 #[.slice (some ⟨b, off, none⟩) k c, .string x] (wr.drewN n) fun e w' => e = .returned (.int .i64 y) ∧ w' = wr.drewN n := fun n c => by
            rw [← hy]
            exact (ridx_walk w.heap.size (some ⟨b, off, none⟩) k c (L.take k) x (wr.drewN n) (at_take (by have := Hl.out; omega)) (by have := Hl.out; have := Hr.out; unfold maxLen; omega) (TxsAt.take k HP.out.2.2.2)).mono fun e w' h => ⟨h.1, h.2.symm⟩
          have Hq := Lib.hid hq
          have hmem := (idxT_range (L.take k) x).2.2
          rw [hy] at hmem
          by_cases hm : x ∈ L.take k
          · have hy0 : 0 ≤ y := hmem.2 hm
            have hF2 : F = (6, (k : Int)) := by
              have hbad : badAt L k = 6 := badAt_exist (by rw [Hx.out]; exact hnb) (by rw [Hx.out]; exact hm)
              rw [← HF.out, nodesF_at Hr.out (by have := Hl.out; omega) Hz.out.1 (by omega), hbad]
            clear hnb hmem hm hq hy
            subst hF2
            obtain ⟨p0, p1, q0, q1⟩ := HP.out.1
            go_wp2_with fail
            refine Hn.out.mono ?_
            rintro e w' ⟨rfl, rfl⟩
            go_wp2
            go_quiet ((go_at_call 50; exact Calls.quiet_of_same (Hq.out _ _)))
            go_wp2
            exact bodyPost_ret (v := fltA (6, (k : Int))) (by simp [results, Tryz.results38, fltA, p0, p1, go_sem]) rfl ⟨rfl, Hset.out _ (HP.out.2.1.trans ((drewN_below wr _).mono HP.out.2.1.size)) _ _⟩
          · have hy0 : ¬ 0 ≤ y := fun h => hm (hmem.1 h)
            have hbad : badAt L k = 0 := badAt_ok (by rw [Hx.out]; exact hnb) (by rw [Hx.out]; exact hm)
            have Hbad := Lib.hid hbad
            clear hnb hmem hm hbad hq hy
            go_wp2_with fail
            refine Hn.out.mono ?_
            rintro e w' ⟨rfl, rfl⟩
            go_wp2
            go_quiet ((go_at_call 50; exact Calls.quiet_of_same (Hq.out _ _)))
            go_wp2
            go_roundw
            case rel => exact ⟨k + 1, by omega, by go_num, Lib.hid ⟨fun j hj => by
              by_cases e : j = k
              · rw [e]; exact Hbad.out
              · exact Hz.out.1 j (by omega), by
                obtain ⟨_, q, hq⟩ := Hz.out
                exact ⟨q + nq, by rw [hq, World.drewN_drewN]⟩⟩⟩
            case measure => simp [intOf]; omega
      · have hF2 : F = (0, -1) := by rw [← HF.out, nodesF_ok Hr.out (fun j hj => Hz.out.1 j (by have := Hl.out; omega))]
        subst hF2
        have Hfn := Lib.hid (fine_walk wr)
        go_wp2_with fail
        refine Hfn.out.mono ?_
        rintro e w1 ⟨rfl, hb1⟩
        obtain ⟨p0, p1, q0, q1⟩ := HP.out.1.below hb1 HP.out.2.2.1
        have HB1 := Lib.hid (HP.out.2.1.trans (hb1.mono HP.out.2.1.size))
        clear hb1
        go_wp2
        exact bodyPost_ret (v := fltA (0, -1)) (by simp [results, Tryz.results38, fltA, p0, p1, go_sem]) rfl ⟨rfl, Hset.out _ HB1.out _ _⟩
  · have hF2 : F = (2, -1) := by rw [← HF.out, nodesF_out (by rw [hlen]; exact hb)]
    subst hF2
    have hcase : len < 1 ∨ (¬ len < 1 ∧ 16 < len) := by omega
    rcases hcase with h1 | ⟨h1, h2⟩
    case' inl =>
      have g1 : (len : Int) < 1 := by omega
      have g1d : decide (len < 1) = true := decide_eq_true h1
    case' inr =>
      have g1 : ¬ (len : Int) < 1 := by omega
      have g1d : decide (len < 1) = false := decide_eq_false h1
      have g2 : (16 : Int) < len := by omega
      have g2d : decide (16 < len) = true := decide_eq_true h2
    all_goals
      clear hb hlen hsz hcap h1
      try clear h2
      have Hfn := Lib.hid (bare_walk 2 W0)
      go_enter Tryz.func38, Tryz.ntmps38
      go_wp2_with fail
      rw [HW.out, Hbb.out]
      refine Hfn.out.mono ?_
      rintro e w1 ⟨rfl, hb1⟩
      obtain ⟨p0, p1, q0, q1⟩ := HB.out.1.below hb1 HB.out.2.2
      have HB1 := Lib.hid (HB.out.2.1.trans (hb1.mono HB.out.2.1.size))
      clear hb1
      go_wp2
      exact bodyPost_ret (v := fltA (2, -1)) (by simp [results, Tryz.results38, fltA, p0, p1, go_sem]) rfl ⟨rfl, Hset.out _ HB1.out _ _⟩
end Go.Proofs.YtabboioamdphmaaGreatDoor
/- Walks: the document's ConfigFault, Enough. -/
namespace Go.Proofs.YtabboioamdphmaaGreatDoor
open Go.RowKit

set_option maxRecDepth 100000 in
set_option maxHeartbeats 2000000 in
theorem rconfig_walk (n k : Int) (n₀ : Nat) (a : Option Addr) (len cap : Nat) (L : List ByteArray) (w : World) (hlen : L.length = len) (hcap : len ≤ cap) (hsz : ∀ j : Nat, (L[j]?.getD (⟨#[]⟩ : ByteArray)).size ≤ maxLen) (hI : TxsAt n₀ w a L) (hn : n₀ ≤ w.heap.size) :
    Calls Tryz.prog 10 #[cfgV n k (.slice a len cap)] w fun e w' => e = .returned (fltA (configF n k L)) ∧ Below w.heap.size w w' := by
  have hB1 : Below w.heap.size w (w.alloc (.cells #[.int .i64 n, .int .i64 k, .slice a len cap] 24)) := (Below.refl _ w).alloc (Nat.le_refl _) _
  have hC := (CfgAt.new w n k (.slice a len cap)).below ((Below.refl (w.alloc (.cells #[.int .i64 n, .int .i64 k, .slice a len cap] 24)).heap.size _).alloc (Nat.le_refl _) (.cells #[.int .i64 0, .int .i64 0] 36)) (by simp)
  have hP := Pair.new (w.alloc (.cells #[.int .i64 n, .int .i64 k, .slice a len cap] 24)) (.int .i64 0) (.int .i64 0) 36
  have hB2 : Below w.heap.size w ((w.alloc (.cells #[.int .i64 n, .int .i64 k, .slice a len cap] 24)).alloc (.cells #[.int .i64 0, .int .i64 0] 36)) := hB1.alloc hB1.size _
  have hz1 : (w.alloc (.cells #[.int .i64 n, .int .i64 k, .slice a len cap] 24)).heap.size = w.heap.size + 1 := by simp
  have hz2 : ((w.alloc (.cells #[.int .i64 n, .int .i64 k, .slice a len cap] 24)).alloc (.cells #[.int .i64 0, .int .i64 0] 36)).heap.size = w.heap.size + 2 := by simp
  rw [hz1] at hP
  obtain ⟨W, hW⟩ : ∃ W, (w.alloc (.cells #[.int .i64 n, .int .i64 k, .slice a len cap] 24)).alloc (.cells #[.int .i64 0, .int .i64 0] 36) = W := ⟨_, rfl⟩
  rw [hW] at hC hP hB2 hz2
  have HI := Lib.hid ((hI.mono hn).below hB2)
  obtain ⟨b0, hb0⟩ : ∃ b0, w.heap.size = b0 := ⟨_, rfl⟩
  have hset : ∀ V, Below w.heap.size w V → ∀ u v : Value, Below w.heap.size w ((V.setCell ⟨b0 + 1, 0, none⟩ u).setCell ⟨b0 + 1, 1, none⟩ v) := fun V hV u v => (hV.setCell (p := ⟨b0 + 1, 0, none⟩) (by show w.heap.size ≤ b0 + 1; omega) u).setCell (p := ⟨b0 + 1, 1, none⟩) (by show w.heap.size ≤ b0 + 1; omega) v
  rw [hb0] at hC hP hz2
  have hlt : b0 + 1 < W.heap.size := by omega
  have hlt0 : b0 < W.heap.size := by omega
  have HH := Lib.hid (And.intro hC (And.intro hP (And.intro hB2 (And.intro hlt hlt0))))
  have HW := Lib.hid hW
  have Hb0 := Lib.hid hb0
  have Hset := Lib.hid hset
  have Hl := Lib.hid hlen
  have Hsz := Lib.hid hsz
  obtain ⟨F, hF⟩ : ∃ F, configF n k L = F := ⟨_, rfl⟩
  have HF := Lib.hid hF
  rw [hF]
  clear hB1 hC hP hB2 hz1 hz2 hlt hlt0 hset hW hb0 hF hI hlen hsz
  cases hs : isSpreadB n k with
  | false =>
    have hF2 : F = (2, -1) := by rw [← HF.out, configF_bad hs]
    subst hF2
    have Hs := Lib.hid hs
    have Hb := Lib.hid (bare_walk 2 W)
    clear hs
    go_enter Tryz.func10, Tryz.ntmps10
    go_wp2_with fail
    rw [HW.out, Hb0.out]
    refine (isspread_walk n k W).mono ?_
    rintro e w' ⟨rfl, hw'⟩
    subst hw'
    rw [Hs.out]
    go_wp2_with fail
    refine Hb.out.mono ?_
    rintro e w1 ⟨rfl, hb1⟩
    obtain ⟨p0, p1, q0, q1⟩ := HH.out.2.1.below hb1 HH.out.2.2.2.1
    have HB1 := Lib.hid (HH.out.2.2.1.trans (hb1.mono HH.out.2.2.1.size))
    clear hb1
    go_wp2
    exact bodyPost_ret (v := fltA (2, -1)) (by simp [results, Tryz.results10, fltA, p0, p1, go_sem]) rfl ⟨rfl, Hset.out _ HB1.out _ _⟩
  | true =>
    have hsp := of_decide_eq_true hs
    obtain ⟨k, rfl⟩ := Int.eq_ofNat_of_zero_le (show 0 ≤ k by omega)
    obtain ⟨n, rfl⟩ := Int.eq_ofNat_of_zero_le (show 0 ≤ n by omega)
    have Hs := Lib.hid hs
    by_cases hl : len = n
    · subst hl
      have hF2 : F = nodesF L := by rw [← HF.out, configF_nodes hs (by have := Hl.out; omega)]
      have HF2 := Lib.hid hF2
      have Hk := Lib.hid (rnodes_walk w.heap.size a len cap L W Hl.out hcap Hsz.out HI.out HH.out.2.2.1.size)
      obtain ⟨c0, c1, c2⟩ := HH.out.1
      clear hs hsp hF2
      go_enter Tryz.func10, Tryz.ntmps10
      go_wp2_with fail
      rw [HW.out, Hb0.out]
      refine (isspread_walk (len : Int) (k : Int) W).mono ?_
      rintro e w' ⟨rfl, hw'⟩
      subst hw'
      rw [Hs.out]
      go_wp2_with fail
      refine Hk.out.mono ?_
      rintro e w1 ⟨rfl, hb1⟩
      rw [← HF2.out]
      obtain ⟨p0, p1, q0, q1⟩ := HH.out.2.1.below hb1 HH.out.2.2.2.1
      have HB1 := Lib.hid (HH.out.2.2.1.trans (hb1.mono HH.out.2.2.1.size))
      unfold fltA
      clear hb1 c0 c1 c2
      go_wp2
      exact bodyPost_ret (v := fltA F) (by simp [results, Tryz.results10, fltA, p0, p1, go_sem]) rfl ⟨rfl, Hset.out _ HB1.out _ _⟩
    · have hF2 : F = (3, -1) := by rw [← HF.out, configF_shape hs (by have := Hl.out; omega)]
      subst hF2
      have e1 : ((len : Int) == (n : Int)) = false := beq_eq_false_iff_ne.2 (by omega)
      have e2 : ((len : Int) != (n : Int)) = true := bne_iff_ne.2 (by omega)
      have e3 : (len == n) = false := beq_eq_false_iff_ne.2 hl
      have Hb := Lib.hid (bare_walk 3 W)
      obtain ⟨c0, c1, c2⟩ := HH.out.1
      clear hs hsp hl
      go_enter Tryz.func10, Tryz.ntmps10
      go_wp2_with fail
      rw [HW.out, Hb0.out]
      refine (isspread_walk (n : Int) (k : Int) W).mono ?_
      rintro e w' ⟨rfl, hw'⟩
      subst hw'
      rw [Hs.out]
      go_wp2_with fail
      refine Hb.out.mono ?_
      rintro e w1 ⟨rfl, hb1⟩
      obtain ⟨p0, p1, q0, q1⟩ := HH.out.2.1.below hb1 HH.out.2.2.2.1
      have HB1 := Lib.hid (HH.out.2.2.1.trans (hb1.mono HH.out.2.2.1.size))
      clear hb1 c0 c1 c2
      go_wp2
      exact bodyPost_ret (v := fltA (3, -1)) (by simp [results, Tryz.results10, fltA, p0, p1, go_sem]) rfl ⟨rfl, Hset.out _ HB1.out _ _⟩
set_option maxRecDepth 100000 in
set_option maxHeartbeats 1000000 in
theorem renough_walk (n k : Nat) (v : Value) (w : World) (hk : 1 ≤ k) (hkn : k ≤ n) (hn : n ≤ 12) :
    Calls Tryz.prog 51 #[cfgV n k v] w fun e w' => e = .returned (.int .i64 (((n + k + 1) / 2 : Nat) : Int)) ∧ Below w.heap.size w w' := by
  have hB1 : Below w.heap.size w (w.alloc (.cells #[.int .i64 n, .int .i64 k, v] 24)) := (Below.refl _ w).alloc (Nat.le_refl _) _
  have hC := CfgAt.new w n k v
  obtain ⟨W, hW⟩ : ∃ W, w.alloc (.cells #[.int .i64 n, .int .i64 k, v] 24) = W := ⟨_, rfl⟩
  rw [hW] at hB1 hC
  obtain ⟨c0, c1, _⟩ := hC
  have HW := Lib.hid hW
  have HB := Lib.hid hB1
  clear hW hB1
  go_enter Tryz.func51, Tryz.ntmps51
  go_wp2
  rw [HW.out]
  go_loop [3] (fun vi => ∃ i : Nat, i ≤ (n + k + 1) / 2 ∧ vi = .int .i64 i) (fun i => 13 - (intOf i).toNat)
  case atStart => exact ⟨0, by omega, rfl⟩
  case round =>
    obtain ⟨i, hi, rfl⟩ := hrel
    by_cases hlt : 2 * i < n + k
    · have hlt2 : 2 * (i : Int) < (n : Int) + k := by omega
      have hlt3 : decide (2 * i < n + k) = true := decide_eq_true hlt
      have hi13 : i < 13 := by omega
      go_wp2
      go_round
      case rel => exact ⟨i + 1, by omega, by go_num⟩
      case measure => simp [intOf]; omega
    · have hlt2 : ¬ 2 * (i : Int) < (n : Int) + k := by omega
      have hlt3 : decide (2 * i < n + k) = false := decide_eq_false hlt
      have hie : i = (n + k + 1) / 2 := by omega
      have Hie := Lib.hid hie
      clear hie
      go_wp2
      go_ret
      exact ⟨ret_i (by have := Hie.out; omega), HB.out⟩
end Go.Proofs.YtabboioamdphmaaGreatDoor
/- The walks of shardkeeplaw2's enough, longConfig, OwnConfig. -/
namespace Go.Proofs.YtabboioamdphmaaGreatDoor
open Go.RowKit

theorem configA : configF 1 1 [⟨#[97]⟩] = (0, -1) := by decide +kernel
def longC (L : List ByteArray) : Bool := decide (30 < L.length) || L.any fun s => decide (60 < s.size)
set_option maxRecDepth 100000 in
set_option maxHeartbeats 2000000 in
theorem longc_walk (n k : Int) (n₀ : Nat) (a : Option Addr) (len cap : Nat) (L : List ByteArray) (w : World) (hlen : L.length = len) (hm : len ≤ maxLen) (hsz : ∀ j : Nat, (L[j]?.getD (⟨#[]⟩ : ByteArray)).size ≤ maxLen) (hI : TxsAt n₀ w a L) (hn : n₀ ≤ w.heap.size) :
    Calls Tryz.prog 6 #[cfgV n k (.slice a len cap)] w fun e w' => e = .returned (.bool (longC L)) ∧ Below w.heap.size w w' := by
  have hB0 : Below w.heap.size w (w.alloc (.cells #[.int .i64 n, .int .i64 k, .slice a len cap] 24)) := (Below.refl _ w).alloc (Nat.le_refl _) _
  have hC := CfgAt.new w n k (.slice a len cap)
  have hm9 : len ≤ 9223372036854775807 := hm
  obtain ⟨W, hW⟩ : ∃ W, w.alloc (.cells #[.int .i64 n, .int .i64 k, .slice a len cap] 24) = W := ⟨_, rfl⟩
  rw [hW] at hB0 hC
  have HB := Lib.hid hB0
  have HC := Lib.hid hC
  have HI := Lib.hid ((hI.mono hn).below hB0)
  have Hsz := Lib.hid hsz
  have Hl := Lib.hid hlen
  have HW := Lib.hid hW
  obtain ⟨r, hr⟩ : ∃ r, longC L = r := ⟨_, rfl⟩
  have Hr := Lib.hid hr
  rw [hr]
  by_cases h30 : 30 < len
  · have hrt : r = true := by rw [← hr]; unfold longC; rw [decide_eq_true (by omega)]; rfl
    subst hrt
    have g1 : (30 : Int) < len := by omega
    have g1d : decide (30 < len) = true := decide_eq_true h30
    obtain ⟨c0, c1, c2⟩ := HC.out
    clear hr hB0 hC hI hsz hlen hm h30 hW
    go_enter Tryz.func6, Tryz.ntmps6
    go_wp2
    go_ret
    exact ⟨rfl, by rw [HW.out]; exact HB.out⟩
  · have g1 : ¬ (30 : Int) < len := by omega
    have g1d : decide (30 < len) = false := decide_eq_false h30
    clear hr hB0 hC hI hsz hlen hm h30 hW
    go_enter Tryz.func6, Tryz.ntmps6
    go_wp2
    rw [HW.out]
    go_loop [3] (fun vi => ∃ i : Nat, i ≤ len ∧ vi = .int .i64 i ∧ Hid (∀ j, j < i → ¬ 60 < (L[j]?.getD (⟨#[]⟩ : ByteArray)).size)) (fun i => len - (intOf i).toNat)
    case atStart => exact ⟨0, by omega, rfl, Lib.hid (fun j hj => by omega)⟩
    case round =>
      obtain ⟨i, hi, rfl, Hj⟩ := hrel
      obtain ⟨c0, c1, c2⟩ := HC.out
      have hi2 : i < len ∨ i = len := by omega
      rcases hi2 with hilt | rfl
      · have hilt2 : (i : Int) < len := by omega
        rcases HI.out with he | ⟨b, off, rfl, _, hcx⟩
        · exfalso
          have := Hl.out
          rw [he] at this; simp at this; omega
        have h1 := hcx i (by have := Hl.out; omega)
        obtain ⟨x, hx⟩ : ∃ x, L[i]?.getD (⟨#[]⟩ : ByteArray) = x := ⟨_, rfl⟩
        rw [hx] at h1
        have Hx := Lib.hid hx
        have hxs := Hsz.out i
        rw [hx] at hxs
        unfold maxLen at hxs
        clear hcx hx
        by_cases h60 : 60 < x.size
        · have hrt : r = true := by
            rw [← Hr.out]; unfold longC
            rw [Bool.or_eq_true]; right
            rw [List.any_eq_true]
            have hil : i < L.length := by have := Hl.out; omega
            have h9 := Hx.out
            rw [List.getElem?_eq_getElem hil] at h9
            exact ⟨x, by simp only [Option.getD_some] at h9; rw [← h9]; exact List.getElem_mem hil, decide_eq_true h60⟩
          subst hrt
          have g2 : (60 : Int) < x.size := by omega
          have g2d : decide (60 < x.size) = true := decide_eq_true h60
          clear h60
          go_wp2
          go_ret
          exact ⟨rfl, HB.out⟩
        · have g2 : ¬ (60 : Int) < x.size := by omega
          have g2d : decide (60 < x.size) = false := decide_eq_false h60
          have H60 := Lib.hid h60
          clear h60
          go_wp2
          go_round
          case rel => exact ⟨i + 1, by omega, by go_num, Lib.hid (fun j hj => by
            by_cases e : j = i
            · rw [e, Hx.out]; exact H60.out
            · exact Hj.out j (by omega))⟩
          case measure => simp [intOf]; omega
      · have hrf : r = false := by
          rw [← Hr.out]; unfold longC
          rw [decide_eq_false (by have := Hl.out; omega), Bool.false_or, List.any_eq_false]
          intro s hs
          obtain ⟨j, hj, rfl⟩ := List.getElem_of_mem hs
          have h9 := Hj.out j (by have := Hl.out; omega)
          rw [List.getElem?_eq_getElem hj] at h9
          simpa using h9
        subst hrf
        go_wp2
        go_ret
        exact ⟨rfl, HB.out⟩
theorem longC_no {L : List ByteArray} (h : longC L = false) : L.length ≤ 30 ∧ ∀ s ∈ L, s.size ≤ 60 := by
  unfold longC at h
  rw [Bool.or_eq_false_iff, decide_eq_false_iff_not, List.any_eq_false] at h
  exact ⟨by omega, fun s hs => by have := h.2 s hs; simp at this; omega⟩
theorem grown_setCell (w : World) (p : Addr) (u : Value) : w.grownBy (w.setCell p u) (some p.block) :=
  ⟨rfl, rfl, rfl, by simp [World.setCell], fun i _ hne => Below.heap_setCell w p u i (fun e => hne (by rw [e]))⟩
theorem Own1.setCell {E : TypeId} {B : Nat} {w : World} {v : Value} {us : List Value} (h : Own1 E B w v us) (p : Addr) (u : Value) (hne : v.ownBlock ≠ some p.block) : Own1 E B (w.setCell p u) v us :=
  h.kept (grown_setCell w p u) (by cases e : v.ownBlock with | none => exact .inl rfl | some k => exact .inr (by rw [← e]; exact hne))
set_option maxRecDepth 100000 in
set_option maxHeartbeats 2000000 in
theorem ownc_walk (n k : Int) (n₀ : Nat) (a : Option Addr) (len cap : Nat) (L : List ByteArray) (w : World) (hlen : L.length = len) (hl : len ≤ 1000) (ha : a = none → cap = 0) (hI : TxsAt n₀ w a L) (hn : n₀ ≤ w.heap.size) :
    Calls Tryz.prog 9 #[cfgV n k (.slice a len cap)] w fun e w' => (∃ v, e = .returned (cfgV n k v) ∧ OwnT w.heap.size w' v L) ∧ Below w.heap.size w w' := by
  have hB0 : Below w.heap.size w ((w.alloc (.cells #[.int .i64 n, .int .i64 k, .slice a len cap] 24)).alloc (.cells #[.int .i64 0, .int .i64 0, .slice none 0 0] 24)) := ((Below.refl _ w).alloc (Nat.le_refl _) _).alloc (by simp) _
  have hc : ∀ j, ((w.alloc (.cells #[.int .i64 n, .int .i64 k, .slice a len cap] 24)).alloc (.cells #[.int .i64 0, .int .i64 0, .slice none 0 0] 24)).cell? ⟨w.heap.size, j, none⟩ = (#[.int .i64 n, .int .i64 k, .slice a len cap] : Array Value)[j]? := fun j => by
    rw [World.cell?_alloc_lt _ _ _ (by simp), World.cell?_alloc_at _ _ _ _ rfl]
  have hr : ∀ j, ((w.alloc (.cells #[.int .i64 n, .int .i64 k, .slice a len cap] 24)).alloc (.cells #[.int .i64 0, .int .i64 0, .slice none 0 0] 24)).cell? ⟨w.heap.size + 1, j, none⟩ = (#[.int .i64 0, .int .i64 0, .slice none 0 0] : Array Value)[j]? := fun j => by
    rw [World.cell?_alloc_at _ _ _ _ (by simp)]
  have hf : ∀ b j, b = w.heap.size ∨ b = w.heap.size + 1 → ((w.alloc (.cells #[.int .i64 n, .int .i64 k, .slice a len cap] 24)).alloc (.cells #[.int .i64 0, .int .i64 0, .slice none 0 0] 24)).frozen? ⟨b, j, none⟩ = false := fun b j hb => by
    rcases hb with rfl | rfl <;> simp
  have hzs : ((w.alloc (.cells #[.int .i64 n, .int .i64 k, .slice a len cap] 24)).alloc (.cells #[.int .i64 0, .int .i64 0, .slice none 0 0] 24)).heap.size = w.heap.size + 2 := by simp
  have hI0 := (hI.mono hn).below hB0
  obtain ⟨W, hW⟩ : ∃ W, (w.alloc (.cells #[.int .i64 n, .int .i64 k, .slice a len cap] 24)).alloc (.cells #[.int .i64 0, .int .i64 0, .slice none 0 0] 24) = W := ⟨_, rfl⟩
  rw [hW] at hB0 hc hr hf hzs hI0
  have HW := Lib.hid hW
  have HF := Lib.hid (And.intro hB0 (And.intro hc (And.intro hr (And.intro hf hzs))))
  have hul : ([] : List ByteArray).length + L.length ≤ 1000000 := by simp; omega
  have Hlen := Lib.hid (And.intro hlen hul)
  have Hha := Lib.hid ha
  have HI := Lib.hid hI0
  clear hB0 hc hr hf hzs hI hI0 hW ha hlen hul
  go_enter Tryz.func9, Tryz.ntmps9
  go_wp2_with (at_builtin; refine append_txts 4 6 rfl rfl w.heap.size (.slice none 0 0) [] w.heap.size a len cap L rfl rfl (OwnT.nil _ _) Hlen.out.1 Hlen.out.2 Hha.out (by rw [HW.out]; exact HI.out) (by rw [HW.out]; exact HF.out.1.size) ?_)
  rw [HW.out]
  intro v' w' k1 k2 k3
  obtain ⟨a', cap', hve, hcp, hmx, _, _⟩ := k1.read
  obtain ⟨hB0, hc, hr, hf, hzs⟩ := HF.out
  have kc : ∀ b j, b < W.heap.size → w'.cell? ⟨b, j, none⟩ = W.cell? ⟨b, j, none⟩ := fun b j hb => World.cell?_of_block (k2.block b hb (by simp [Value.ownBlock]))
  have kf : ∀ b j, b < W.heap.size → w'.frozen? ⟨b, j, none⟩ = W.frozen? ⟨b, j, none⟩ := fun b j hb => World.frozen?_of_block (k2.block b hb (by simp [Value.ownBlock]))
  have c0 := (kc w.heap.size 0 (by omega)).trans (hc 0)
  have c1 := (kc w.heap.size 1 (by omega)).trans (hc 1)
  have c2 := (kc w.heap.size 2 (by omega)).trans (hc 2)
  have f2 := (kf w.heap.size 2 (by omega)).trans (hf _ 2 (.inl rfl))
  have r0 := (kc (w.heap.size + 1) 0 (by omega)).trans (hr 0)
  have r1 := (kc (w.heap.size + 1) 1 (by omega)).trans (hr 1)
  have r2 := (kc (w.heap.size + 1) 2 (by omega)).trans (hr 2)
  have q0 := (kf (w.heap.size + 1) 0 (by omega)).trans (hf _ 0 (.inr rfl))
  have q1 := (kf (w.heap.size + 1) 1 (by omega)).trans (hf _ 1 (.inr rfl))
  have q2 := (kf (w.heap.size + 1) 2 (by omega)).trans (hf _ 2 (.inr rfl))
  simp at c0 c1 c2 r0 r1 r2
  have hB1 : Below w.heap.size w w' := hB0.grown k2 hB0.size (fun j e => by simp [Value.ownBlock] at e)
  have hnb : ∀ p : Addr, p.block < w.heap.size + 2 → v'.ownBlock ≠ some p.block := fun p hp e => by
    rcases k3 with h | h
    · rw [h] at e; simp [Value.ownBlock] at e
    · rw [h] at e
      have := Option.some.inj e
      omega
  have hK := Lib.hid (And.intro k1 (And.intro hB1 hnb))
  rw [hve]
  have HV := Lib.hid hve
  clear k1 k2 k3 hB1 hnb hve kc kf hB0 hc hr hf hzs
  go_wp2
  refine bodyPost_ret (v := cfgV n k (.slice a' L.length cap')) (by simp [results, Tryz.results9, r0, r1, r2, go_sem]) rfl ⟨⟨.slice a' L.length cap', rfl, ?_⟩, ?_⟩
  · have h1 := hK.out.1
    rw [HV.out] at h1
    have hn := hK.out.2.2
    rw [HV.out] at hn
    refine Own1.setCell (Own1.setCell (Own1.setCell (Own1.setCell h1 _ _ (hn _ ?_)) _ _ (hn _ ?_)) _ _ (hn _ ?_)) _ _ (hn _ ?_) <;> (simp only; omega)
  · exact (((hK.out.2.1.setCell (by simp only; omega) _).setCell (by simp only; omega) _).setCell (by simp only; omega) _).setCell (by simp only; omega) _
end Go.Proofs.YtabboioamdphmaaGreatDoor
/- Walks: the law's bidFault, asked. -/
namespace Go.Proofs.YtabboioamdphmaaGreatDoor
section
open Go.RowKit Go.Maps Go.BigFrame

structure BidAt (w : World) (b : Nat) (pt : Bool) (who op cf n k : Int) (v : Value) (key text : ByteArray) : Prop where
  c0 : w.cell? ⟨b, 0, none⟩ = some (.bool pt)
  c1 : w.cell? ⟨b, 1, none⟩ = some (.int .i64 who)
  c2 : w.cell? ⟨b, 2, none⟩ = some (.int .i64 op)
  c3 : w.cell? ⟨b, 3, none⟩ = some (.int .i64 cf)
  c4 : w.cell? ⟨b, 4, none⟩ = some (.int .i64 n)
  c5 : w.cell? ⟨b, 5, none⟩ = some (.int .i64 k)
  c6 : w.cell? ⟨b, 6, none⟩ = some v
  c7 : w.cell? ⟨b, 7, none⟩ = some (.string key)
  c8 : w.cell? ⟨b, 8, none⟩ = some (.string text)
theorem BidAt.new (w : World) (pt : Bool) (who op cf n k : Int) (v : Value) (key text : ByteArray) : BidAt (w.alloc (.cells #[.bool pt, .int .i64 who, .int .i64 op, .int .i64 cf, .int .i64 n, .int .i64 k, v, .string key, .string text] 64)) w.heap.size pt who op cf n k v key text := ⟨by simp, by simp, by simp, by simp, by simp, by simp, by simp, by simp, by simp⟩
theorem BidAt.below {m : Nat} {w w' : World} {b : Nat} {pt : Bool} {who op cf n k : Int} {v : Value} {key text : ByteArray} (h : BidAt w b pt who op cf n k v key text) (hb : Below m w w') (hn : b < m) : BidAt w' b pt who op cf n k v key text := by
  have c : ∀ {j x}, w.cell? ⟨b, j, none⟩ = some x → w'.cell? ⟨b, j, none⟩ = some x := fun {j x} h9 => (hb.cell (p := ⟨b, j, none⟩) hn).trans h9
  exact ⟨c h.c0, c h.c1, c h.c2, c h.c3, c h.c4, c h.c5, c h.c6, c h.c7, c h.c8⟩
theorem nameK : nameB ⟨#[107]⟩ = true := by decide +kernel
end
end Go.Proofs.YtabboioamdphmaaGreatDoor
/- The walk of a get's choose. -/
namespace Go.Proofs.YtabboioamdphmaaGreatDoor
section
open Go.RowKit Go.Maps Go.BigFrame

end
end Go.Proofs.YtabboioamdphmaaGreatDoor
/- The walk of a put's choose. -/
namespace Go.Proofs.YtabboioamdphmaaGreatDoor
section
open Go.RowKit Go.Maps Go.BigFrame

end
end Go.Proofs.YtabboioamdphmaaGreatDoor
/- The walk of a client's Hear. -/
namespace Go.Proofs.YtabboioamdphmaaGreatDoor
section
open Go.RowKit Go.Maps Go.BigFrame

end
end Go.Proofs.YtabboioamdphmaaGreatDoor
