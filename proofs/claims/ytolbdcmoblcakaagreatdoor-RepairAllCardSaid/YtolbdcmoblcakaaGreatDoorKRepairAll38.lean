/- Walks: shardkeeplaw3's mended; coded, whatever the error. -/
import Derived.Test.YtolbdcmoblcakaaGreatDoorKRepairAll35
import Derived.Test.YtolbdcmoblcakaaGreatDoorKRepairAll37
import Derived.Test.YtolbdcmoblcakaaGreatDoorKRepairAll23
import Derived.Test.YtolbdcmoblcakaaGreatDoorKRepairAll05
import Derived.Test.YtolbdcmoblcakaaGreatDoorKRepairAll06
import Derived.Test.YtolbdcmoblcakaaGreatDoorKRepairAll36
namespace Go.Proofs.YtolbdcmoblcakaaGreatDoor
section
open Go.RowKit Go.Maps Go.BigFrame

/-- coded, whatever the error. -/
theorem coded3_of (E : Nat → Addr) (c : Int) (v : Value) (w : World) (hE : ErrEnv w E) (h : errOf E c v) :
    Calls Tryz.prog 18 #[v, .int .i64 c] w fun e w' => e = .returned (.bool true) ∧ Below w.heap.size w w' := by
  rcases h with ⟨rfl, rfl⟩ | ⟨i, hi, rfl, rfl⟩
  · exact (coded3_nil 0 w).mono fun e w' h => by
      obtain ⟨h1, rfl⟩ := h
      exact ⟨h1, Below.refl _ _⟩
  · exact (coded3_err E i hi ((i : Int) + 1) w hE).mono fun e w' h => ⟨by rw [h.1, decide_eq_true rfl], h.2⟩
theorem best_none : bestOf 1 1 (toldC ⟨#[107]⟩ (consH [none])) = ((0, 0), ⟨#[]⟩, false) := rfl
set_option maxRecDepth 100000 in
set_option maxHeartbeats 4000000 in
theorem mended_walk (w : World) (E : Nat → Addr) (hE : ErrEnv w E) :
    Calls Tryz.prog 5 #[] w fun e w' => e = .returned (.bool true) ∧ Below w.heap.size w w' := by
  obtain ⟨W1, hW1⟩ : ∃ W1, w.alloc (.cells #[.string ⟨#[97]⟩] 9) = W1 := ⟨_, rfl⟩
  obtain ⟨tb, htb⟩ : ∃ tb, w.heap.size = tb := ⟨_, rfl⟩
  have hs1 : W1.heap.size = tb + 1 := by rw [← hW1, ← htb]; simp
  obtain ⟨W2, hW2⟩ : ∃ W2, W1.alloc (.cells #[.int .i64 1, .int .i64 1, .slice (some ⟨tb, 0, none⟩) 1 1] 24) = W2 := ⟨_, rfl⟩
  have hs2 : W2.heap.size = tb + 2 := by rw [← hW2]; simp [hs1]
  obtain ⟨W3, hW3⟩ : ∃ W3, W2.alloc (.cells #[.pointer none] 59) = W3 := ⟨_, rfl⟩
  have hB1 : Below w.heap.size w W1 := by rw [← hW1]; exact (Below.refl _ w).alloc (Nat.le_refl _) _
  have hB2 : Below W1.heap.size W1 W2 := by rw [← hW2]; exact (Below.refl _ W1).alloc (Nat.le_refl _) _
  have hB3 : Below W2.heap.size W2 W3 := by rw [← hW3]; exact (Below.refl _ W2).alloc (Nat.le_refl _) _
  have hB12 : Below w.heap.size w W2 := hB1.trans (hB2.mono hB1.size)
  have hB : Below w.heap.size w W3 := hB12.trans (hB3.mono hB12.size)
  have g1 : W1.heap[tb]? = some (.cells #[.string ⟨#[97]⟩] 9 (0, 0)) := by rw [← hW1, ← htb]; exact heap_alloc_new _ _
  have g3 : W3.heap[tb]? = some (.cells #[.string ⟨#[97]⟩] 9 (0, 0)) := ((hB3.block tb (by rw [hs2]; omega)).trans (hB2.block tb (by rw [hs1]; omega))).trans g1
  have g2 : W2.heap[tb + 1]? = some (.cells #[.int .i64 1, .int .i64 1, .slice (some ⟨tb, 0, none⟩) 1 1] 24 (0, 0)) := by rw [← hW2, ← hs1]; exact heap_alloc_new _ _
  have gp : W3.heap[tb + 2]? = some (.cells #[.pointer none] 59 (0, 0)) := by rw [← hW3, ← hs2]; exact heap_alloc_new _ _
  have hs3 : W3.heap.size = tb + 3 := by rw [← hW3]; simp [hs2]
  have c0 : W2.cell? ⟨tb + 1, 0, none⟩ = some (.int .i64 1) := cell_of_heap g2 0
  have c1 : W2.cell? ⟨tb + 1, 1, none⟩ = some (.int .i64 1) := cell_of_heap g2 1
  have c2 : W2.cell? ⟨tb + 1, 2, none⟩ = some (.slice (some ⟨tb, 0, none⟩) 1 1) := cell_of_heap g2 2
  have hIn : LookIn W3 E W3.heap.size (some ⟨tb, 0, none⟩) 1 1 [⟨#[97]⟩] ⟨#[107]⟩ (some ⟨tb + 2, 0, none⟩) 1 (fun b => b < W3.heap.size) [none] :=
    ⟨hE.below hB (Nat.le_refl _), rfl, Nat.le_refl _, fun j => by
      cases j with
      | zero => show (1 : Nat) ≤ maxLen; unfold maxLen; omega
      | succ j => show (0 : Nat) ≤ maxLen; omega, .inr ⟨tb, 0, rfl, by omega, fun j hj => by
      obtain rfl : j = 0 := by simpa using hj
      exact cell_of_heap g3 0⟩, Nat.le_refl _, by show (1 : Nat) ≤ maxLen; unfold maxLen; omega, rfl, by omega, .inr ⟨tb + 2, 0, rfl, by omega, fun j hj => by
      obtain rfl : j = 0 := by simpa [ptrsH] using hj
      exact cell_of_heap gp 0⟩, (RackAt.nil (fun b hb => hb)).pushNone⟩
  have Hm := Lib.hid (missing_walk hIn 1 1 1)
  have HB := Lib.hid hB
  unfold cfgV at Hm
  clear hB1 hB2 hB3 hB12 hB g1 g2 g3 gp hs3 hIn hE
  go_enter Tryz.func5, Tryz.ntmps5
  go_wp2_with fail
  refine Hm.out.mono ?_
  rintro e w1 ⟨hb1, vm, vl, v, rfl, hr⟩
  have HB1 : Hid (Below w.heap.size w w1) := Lib.hid (HB.out.trans (hb1.mono HB.out.size))
  have h2 : vl = .slice none 0 0 ∧ v = .nilIface := by
    rcases hr with ⟨r0, _⟩ | ⟨_, r1, _⟩ | ⟨_, _, r2, ⟨_, _, r3⟩ | ⟨t, s, r4, _⟩⟩
    · exact absurd (by rw [configA]) r0
    · exact absurd rfl r1
    · exact ⟨r3, r2⟩
    · have h9 : bestOf 1 1 (toldC ⟨#[107]⟩ (consH [none])) = (t, s, true) := r4
      rw [best_none] at h9
      simp at h9
  obtain ⟨rfl, rfl⟩ := h2
  clear hr hb1
  go_wp2
  go_ret
  exact ⟨by simp, HB1.out⟩
end
end Go.Proofs.YtolbdcmoblcakaaGreatDoor
/- Walks: the document's ConfigFault, Enough. -/
namespace Go.Proofs.YtolbdcmoblcakaaGreatDoor
open Go.RowKit

set_option maxRecDepth 100000 in
set_option maxHeartbeats 2000000 in
theorem rconfig_walk (n k : Int) (n₀ : Nat) (a : Option Addr) (len cap : Nat) (L : List ByteArray) (w : World) (hlen : L.length = len) (hcap : len ≤ cap) (hsz : ∀ j : Nat, (L[j]?.getD (⟨#[]⟩ : ByteArray)).size ≤ maxLen) (hI : TxsAt n₀ w a L) (hn : n₀ ≤ w.heap.size) :
    Calls Tryz.prog 12 #[cfgV n k (.slice a len cap)] w fun e w' => e = .returned (fltA (configF n k L)) ∧ Below w.heap.size w w' := by
  have hB1 : Below w.heap.size w (w.alloc (.cells #[.int .i64 n, .int .i64 k, .slice a len cap] 24)) := (Below.refl _ w).alloc (Nat.le_refl _) _
  have hC := (CfgAt.new w n k (.slice a len cap)).below ((Below.refl (w.alloc (.cells #[.int .i64 n, .int .i64 k, .slice a len cap] 24)).heap.size _).alloc (Nat.le_refl _) (.cells #[.int .i64 0, .int .i64 0] 42)) (by simp)
  have hP := Pair.new (w.alloc (.cells #[.int .i64 n, .int .i64 k, .slice a len cap] 24)) (.int .i64 0) (.int .i64 0) 42
  have hB2 : Below w.heap.size w ((w.alloc (.cells #[.int .i64 n, .int .i64 k, .slice a len cap] 24)).alloc (.cells #[.int .i64 0, .int .i64 0] 42)) := hB1.alloc hB1.size _
  have hz1 : (w.alloc (.cells #[.int .i64 n, .int .i64 k, .slice a len cap] 24)).heap.size = w.heap.size + 1 := by simp
  have hz2 : ((w.alloc (.cells #[.int .i64 n, .int .i64 k, .slice a len cap] 24)).alloc (.cells #[.int .i64 0, .int .i64 0] 42)).heap.size = w.heap.size + 2 := by simp
  rw [hz1] at hP
  obtain ⟨W, hW⟩ : ∃ W, (w.alloc (.cells #[.int .i64 n, .int .i64 k, .slice a len cap] 24)).alloc (.cells #[.int .i64 0, .int .i64 0] 42) = W := ⟨_, rfl⟩
  rw [hW] at hC hP hB2 hz2
  have HI := Lib.hid ((hI.mono hn).below hB2)
  obtain ⟨b0, hb0⟩ : ∃ b0, w.heap.size = b0 := ⟨_, rfl⟩
  have hset : ∀ V, Below w.heap.size w V → ∀ u v : Value, Below w.heap.size w ((V.setCell ⟨b0 + 1, 0, none⟩ u).setCell ⟨b0 + 1, 1, none⟩ v) := fun V hV u v => (hV.setCell (p := ⟨b0 + 1, 0, none⟩) (by show w.heap.size ≤ b0 + 1; omega) u).setCell (p := ⟨b0 + 1, 1, none⟩) (by show w.heap.size ≤ b0 + 1; omega) v
  rw [hb0] at hC hP hz2
  have hlt : b0 + 1 < W.heap.size := by omega
  have hlt0 : b0 < W.heap.size := by omega
  have HH := Lib.hid (And.intro hC (And.intro hP (And.intro hB2 (And.intro hlt hlt0))))
  have HW := Lib.hid hW
  have Hb0 := Lib.hid hb0
  have Hset := Lib.hid hset
  have Hl := Lib.hid hlen
  have Hsz := Lib.hid hsz
  obtain ⟨F, hF⟩ : ∃ F, configF n k L = F := ⟨_, rfl⟩
  have HF := Lib.hid hF
  rw [hF]
  clear hB1 hC hP hB2 hz1 hz2 hlt hlt0 hset hW hb0 hF hI hlen hsz
  cases hs : isSpreadB n k with
  | false =>
    have hF2 : F = (2, -1) := by rw [← HF.out, configF_bad hs]
    subst hF2
    have Hs := Lib.hid hs
    have Hb := Lib.hid (bare_walk 2 W)
    clear hs
    go_enter Tryz.func12, Tryz.ntmps12
    go_wp2_with fail
    rw [HW.out, Hb0.out]
    refine (isspread_walk n k W).mono ?_
    rintro e w' ⟨rfl, hw'⟩
    subst hw'
    rw [Hs.out]
    go_wp2_with fail
    refine Hb.out.mono ?_
    rintro e w1 ⟨rfl, hb1⟩
    obtain ⟨p0, p1, q0, q1⟩ := HH.out.2.1.below hb1 HH.out.2.2.2.1
    have HB1 := Lib.hid (HH.out.2.2.1.trans (hb1.mono HH.out.2.2.1.size))
    clear hb1
    go_wp2
    exact bodyPost_ret (v := fltA (2, -1)) (by simp [results, Tryz.results12, fltA, p0, p1, go_sem]) rfl ⟨rfl, Hset.out _ HB1.out _ _⟩
  | true =>
    have hsp := of_decide_eq_true hs
    obtain ⟨k, rfl⟩ := Int.eq_ofNat_of_zero_le (show 0 ≤ k by omega)
    obtain ⟨n, rfl⟩ := Int.eq_ofNat_of_zero_le (show 0 ≤ n by omega)
    have Hs := Lib.hid hs
    by_cases hl : len = n
    · subst hl
      have hF2 : F = nodesF L := by rw [← HF.out, configF_nodes hs (by have := Hl.out; omega)]
      have HF2 := Lib.hid hF2
      have Hk := Lib.hid (rnodes_walk w.heap.size a len cap L W Hl.out hcap Hsz.out HI.out HH.out.2.2.1.size)
      obtain ⟨c0, c1, c2⟩ := HH.out.1
      clear hs hsp hF2
      go_enter Tryz.func12, Tryz.ntmps12
      go_wp2_with fail
      rw [HW.out, Hb0.out]
      refine (isspread_walk (len : Int) (k : Int) W).mono ?_
      rintro e w' ⟨rfl, hw'⟩
      subst hw'
      rw [Hs.out]
      go_wp2_with fail
      refine Hk.out.mono ?_
      rintro e w1 ⟨rfl, hb1⟩
      rw [← HF2.out]
      obtain ⟨p0, p1, q0, q1⟩ := HH.out.2.1.below hb1 HH.out.2.2.2.1
      have HB1 := Lib.hid (HH.out.2.2.1.trans (hb1.mono HH.out.2.2.1.size))
      unfold fltA
      clear hb1 c0 c1 c2
      go_wp2
      exact bodyPost_ret (v := fltA F) (by simp [results, Tryz.results12, fltA, p0, p1, go_sem]) rfl ⟨rfl, Hset.out _ HB1.out _ _⟩
    · have hF2 : F = (3, -1) := by rw [← HF.out, configF_shape hs (by have := Hl.out; omega)]
      subst hF2
      have e1 : ((len : Int) == (n : Int)) = false := beq_eq_false_iff_ne.2 (by omega)
      have e2 : ((len : Int) != (n : Int)) = true := bne_iff_ne.2 (by omega)
      have e3 : (len == n) = false := beq_eq_false_iff_ne.2 hl
      have Hb := Lib.hid (bare_walk 3 W)
      obtain ⟨c0, c1, c2⟩ := HH.out.1
      clear hs hsp hl
      go_enter Tryz.func12, Tryz.ntmps12
      go_wp2_with fail
      rw [HW.out, Hb0.out]
      refine (isspread_walk (n : Int) (k : Int) W).mono ?_
      rintro e w' ⟨rfl, hw'⟩
      subst hw'
      rw [Hs.out]
      go_wp2_with fail
      refine Hb.out.mono ?_
      rintro e w1 ⟨rfl, hb1⟩
      obtain ⟨p0, p1, q0, q1⟩ := HH.out.2.1.below hb1 HH.out.2.2.2.1
      have HB1 := Lib.hid (HH.out.2.2.1.trans (hb1.mono HH.out.2.2.1.size))
      clear hb1 c0 c1 c2
      go_wp2
      exact bodyPost_ret (v := fltA (3, -1)) (by simp [results, Tryz.results12, fltA, p0, p1, go_sem]) rfl ⟨rfl, Hset.out _ HB1.out _ _⟩
end Go.Proofs.YtolbdcmoblcakaaGreatDoor
/- Walks: shardkeeplaw3's longTexts, shelvesFit. -/
namespace Go.Proofs.YtolbdcmoblcakaaGreatDoor
section
open Go.RowKit Go.Maps Go.BigFrame

/-- are the texts too long for a statement? -/
def longT3 (L : List ByteArray) : Bool := decide (30 < L.length) || L.any fun s => decide (100 < s.size)
theorem longT3_no {L : List ByteArray} (h : longT3 L = false) : L.length ≤ 30 ∧ ∀ s ∈ L, s.size ≤ 100 := by
  unfold longT3 at h
  rw [Bool.or_eq_false_iff, decide_eq_false_iff_not, List.any_eq_false] at h
  exact ⟨by omega, fun s hs => by have := h.2 s hs; simp at this; omega⟩
set_option maxRecDepth 100000 in
set_option maxHeartbeats 2000000 in
theorem longt3_walk (n₀ : Nat) (a : Option Addr) (len cap : Nat) (L : List ByteArray) (w : World) (hlen : L.length = len) (hm : len ≤ maxLen) (hsz : ∀ j : Nat, (L[j]?.getD (⟨#[]⟩ : ByteArray)).size ≤ maxLen) (hI : TxsAt n₀ w a L) :
    Calls Tryz.prog 6 #[.slice a len cap] w fun e w' => e = .returned (.bool (longT3 L)) ∧ w = w' := by
  have hm9 : len ≤ 9223372036854775807 := hm
  have HI := Lib.hid hI
  have Hsz := Lib.hid hsz
  have Hl := Lib.hid hlen
  obtain ⟨r, hr⟩ : ∃ r, longT3 L = r := ⟨_, rfl⟩
  have Hr := Lib.hid hr
  rw [hr]
  by_cases h30 : 30 < len
  · have hrt : r = true := by rw [← hr]; unfold longT3; rw [decide_eq_true (by omega)]; rfl
    subst hrt
    have g1 : (30 : Int) < len := by omega
    have g1d : decide (30 < len) = true := decide_eq_true h30
    clear hr hI hsz hlen hm h30
    go_enter Tryz.func6, Tryz.ntmps6
    go_wp2
    go_ret
    exact ⟨rfl, rfl⟩
  · have g1 : ¬ (30 : Int) < len := by omega
    have g1d : decide (30 < len) = false := decide_eq_false h30
    clear hr hI hsz hlen hm h30
    go_enter Tryz.func6, Tryz.ntmps6
    go_wp2
    go_loop [3] (fun vi => ∃ i : Nat, i ≤ len ∧ vi = .int .i64 i ∧ Hid (∀ j, j < i → ¬ 100 < (L[j]?.getD (⟨#[]⟩ : ByteArray)).size)) (fun i => len - (intOf i).toNat)
    case atStart => exact ⟨0, by omega, rfl, Lib.hid (fun j hj => by omega)⟩
    case round =>
      obtain ⟨i, hi, rfl, Hj⟩ := hrel
      have hi2 : i < len ∨ i = len := by omega
      rcases hi2 with hilt | rfl
      · have hilt2 : (i : Int) < len := by omega
        rcases HI.out with he | ⟨b, off, rfl, _, hcx⟩
        · exfalso
          have := Hl.out
          rw [he] at this; simp at this; omega
        have h1 := hcx i (by have := Hl.out; omega)
        obtain ⟨x, hx⟩ : ∃ x, L[i]?.getD (⟨#[]⟩ : ByteArray) = x := ⟨_, rfl⟩
        rw [hx] at h1
        have Hx := Lib.hid hx
        have hxs := Hsz.out i
        rw [hx] at hxs
        unfold maxLen at hxs
        clear hcx hx
        by_cases h60 : 100 < x.size
        · have hrt : r = true := by
            rw [← Hr.out]; unfold longT3
            rw [Bool.or_eq_true]; right
            rw [List.any_eq_true]
            have hil : i < L.length := by have := Hl.out; omega
            have h9 := Hx.out
            rw [List.getElem?_eq_getElem hil] at h9
            exact ⟨x, by simp only [Option.getD_some] at h9; rw [← h9]; exact List.getElem_mem hil, decide_eq_true h60⟩
          subst hrt
          have g2 : (100 : Int) < x.size := by omega
          have g2d : decide (100 < x.size) = true := decide_eq_true h60
          clear h60
          go_wp2
          go_ret
          exact ⟨rfl, rfl⟩
        · have g2 : ¬ (100 : Int) < x.size := by omega
          have g2d : decide (100 < x.size) = false := decide_eq_false h60
          have H60 := Lib.hid h60
          clear h60
          go_wp2
          go_round
          case rel => exact ⟨i + 1, by omega, by go_num, Lib.hid (fun j hj => by
            by_cases e : j = i
            · rw [e, Hx.out]; have := H60.out; omega
            · exact Hj.out j (by omega))⟩
          case measure => simp [intOf]; omega
      · have hrf : r = false := by
          rw [← Hr.out]; unfold longT3
          rw [decide_eq_false (by have := Hl.out; omega), Bool.false_or, List.any_eq_false]
          intro s hs
          obtain ⟨j, hj, rfl⟩ := List.getElem_of_mem hs
          have h9 := Hj.out j (by have := Hl.out; omega)
          rw [List.getElem?_eq_getElem hj] at h9
          simpa using h9
        subst hrf
        go_wp2
        go_ret
        exact ⟨rfl, rfl⟩
set_option maxRecDepth 100000 in
set_option maxHeartbeats 8000000 in
/-- shelvesFit answers, whatever. -/
theorem sfit_walk (w : World) (a : Option Addr) (len cap : Nat) (l : List ShelfS) (hA : ShsIn w a len cap l) :
    Calls Tryz.prog 7 #[.slice a len cap] w fun e w' => (∃ r, e = .returned (.bool r)) ∧ Below w.heap.size w w' := by
  obtain ⟨hl, hc, hm, ha, hR, hok⟩ := hA
  have hm9 : len ≤ 9223372036854775807 := by unfold maxLen at hm; omega
  have Hl := Lib.hid (And.intro hl (And.intro hR hok))
  clear hl ha hR hok hm
  go_enter Tryz.func7, Tryz.ntmps7
  go_wp2
  go_loopw [3, 4] (fun vn vi wr => ∃ (i : Nat) (z : Int), i ≤ len ∧ vi = .int .i64 i ∧ vn = .int .i64 z ∧ Hid (Below w.heap.size w wr)) (fun _ vi _ => len - (intOf vi).toNat)
  case atStart => exact ⟨0, 0, by omega, rfl, rfl, Lib.hid (Below.refl _ _)⟩
  case round =>
    obtain ⟨i, z, hi, rfl, rfl, Hr⟩ := hrel
    have hi2 : i < len ∨ i = len := by omega
    rcases hi2 with hilt | rfl
    · have hilt2 : (i : Int) < len := by omega
      rcases Hl.out.2.1 with he | ⟨b, off, rfl, hbl, hcx⟩
      · exfalso
        have := Hl.out.1
        rw [he] at this; simp at this; omega
      obtain ⟨_, ad, cp, k1, q1, q2, q3, q4⟩ := hcx i (by rw [Hl.out.1]; exact hilt)
      have hvok := Hl.out.2.2 i hilt
      obtain ⟨⟨nn, L⟩, hx⟩ : ∃ x, l[i]?.getD shelf0 = x := ⟨_, rfl⟩
      rw [hx] at k1 q1 q4 hvok
      dsimp only at k1 q1 q4 hvok
      obtain ⟨n, hn⟩ : ∃ n, L.length = n := ⟨_, rfl⟩
      rw [hn] at k1 q1
      have hn9 : n ≤ 9223372036854775807 := by unfold maxLen at q2; omega
      have KW : Hid (∀ W, Below w.heap.size w W → W.cell? ⟨b, off + i * 2 + 1, none⟩ = some (.slice ad n cp)) := Lib.hid fun W hb => (hb.cell (p := ⟨b, off + i * 2 + 1, none⟩) hbl).trans k1
      have HQ := Lib.hid (And.intro q4 (And.intro hn (And.intro Hr.out hvok)))
      clear hcx hx q1 q2 q3 q4 hn hbl Hr k1 hvok
      go_wp2
      go_loopw [3, 5] (fun vn vj wi => ∃ (j : Nat) (z : Int), j ≤ n ∧ vj = .int .i64 j ∧ vn = .int .i64 z ∧ Hid (Below w.heap.size w wi)) (fun _ vj _ => n - (intOf vj).toNat)
      case atStart => exact ⟨0, _, by omega, rfl, rfl, Lib.hid HQ.out.2.2.1⟩
      case round =>
        obtain ⟨j, z, hj, rfl, rfl, Hj⟩ := hrel
        have kw := KW.out _ Hj.out
        have hj2 : j < n ∨ j = n := by omega
        rcases hj2 with hjlt | rfl
        · have hjlt2 : (j : Int) < n := by omega
          rcases HQ.out.1.below Hj.out with he | ⟨b', off', rfl, _, hcx⟩
          · exfalso
            have := HQ.out.2.1
            rw [he] at this; simp at this; omega
          obtain ⟨f0, f1, f2, f3, f4⟩ := VrR.at5 hcx (i := j) (by rw [HQ.out.2.1]; exact hjlt)
          have hv9 := HQ.out.2.2.2 (L[j]?.getD ver0) (by
            have hjl : j < L.length := by rw [HQ.out.2.1]; exact hjlt
            rw [List.getElem?_eq_getElem hjl]
            exact List.getElem_mem hjl)
          obtain ⟨⟨x1, x2, x3, x4, x5⟩, hx⟩ : ∃ x, L[j]?.getD ver0 = x := ⟨_, rfl⟩
          rw [hx] at f0 f1 f2 f3 f4 hv9
          dsimp only at f0 f1 f2 f3 f4
          have hx5 : x5.size ≤ 9223372036854775807 := by have h9 := hv9.2.2.2.2; unfold maxLen at h9; exact h9
          have HB := Lib.hid (fun (o : Obj) => Hj.out.alloc Hj.out.size o)
          clear hcx hx hv9
          have hcs : (200 < x3 ∧ x3 ≤ 1000) ∨ (200 < x3 ∧ ¬ x3 ≤ 1000) ∨ ¬ 200 < x3 := by omega
          rcases hcs with ⟨h1, h2⟩ | ⟨h1, h2⟩ | h1
          · go_wp2
            go_ret
            exact ⟨⟨_, rfl⟩, HB.out _⟩
          · go_wp2
            go_roundw
            case rel => exact ⟨j + 1, _, by omega, by go_num, rfl, Lib.hid (HB.out _)⟩
            case measure => simp [intOf]; omega
          · go_wp2
            go_roundw
            case rel => exact ⟨j + 1, _, by omega, by go_num, rfl, Lib.hid (HB.out _)⟩
            case measure => simp [intOf]; omega
        · go_wp2
          go_roundw
          case rel => exact ⟨i + 1, _, by omega, by go_num, rfl, Hj⟩
          case measure => simp [intOf]; omega
    · go_wp2
      go_ret
      exact ⟨⟨_, rfl⟩, Hr.out⟩
end
end Go.Proofs.YtolbdcmoblcakaaGreatDoor
/- Printed out of RpK: racks of holds alone. -/
namespace Go.Proofs.YtolbdcmoblcakaaGreatDoor.HO
section
open Go.RowKit Go.Maps Go.BigFrame

structure Sit (w W : World) (E : Nat → Addr) (n k : Int) (a : Option Addr) (len cap : Nat) (L : List ByteArray) (cb : Nat) (key : ByteArray) (pa : Option Addr) (pl : Nat) (Z : Nat → Prop) (sl : List Slot) : Prop where
  bel : Below w.heap.size w W
  env : ErrEnv w E
  cfg : CfgAt W cb n k (.slice a len cap)
  cfz : Z cb
  txs : TxsIn w a len cap L
  len30 : len ≤ 30
  key_ : key.size ≤ maxLen
  pl_ : sl.length = pl
  max_ : pl ≤ 9223372036854775807
  ptrH : PtrR W pa (ptrsH sl)
  pzH : ∀ x, pa = some x → Z x.block
  low : ∀ b, b < w.heap.size → Z b
  rack : RackAt Z W sl
theorem Sit.below {w W W' : World} {E : Nat → Addr} {n k : Int} {a : Option Addr} {len cap : Nat} {L : List ByteArray} {cb : Nat} {key : ByteArray} {pa : Option Addr} {pl : Nat} {Z : Nat → Prop} {sl : List Slot} (h : Sit w W E n k a len cap L cb key pa pl Z sl) (hb : Below W.heap.size W W') : Sit w W' E n k a len cap L cb key pa pl Z sl :=
  ⟨h.bel.trans (hb.mono h.bel.size), h.env, h.cfg.below hb (h.rack.hZ _ h.cfz), h.cfz, h.txs, h.len30, h.key_, h.pl_, h.max_, h.ptrH.below hb, h.pzH, h.low, h.rack.below' hb (Nat.le_refl _)⟩
/-- .. all that has been made beside the rack is of Z from now on. -/
theorem Sit.grow {w W W' : World} {E : Nat → Addr} {n k : Int} {a : Option Addr} {len cap : Nat} {L : List ByteArray} {cb : Nat} {key : ByteArray} {pa : Option Addr} {pl : Nat} {Z : Nat → Prop} {sl : List Slot} (h : Sit w W E n k a len cap L cb key pa pl Z sl) (hb : Below W.heap.size W W') : Sit w W' E n k a len cap L cb key pa pl (fun b => Z b ∨ (W.heap.size ≤ b ∧ b < W'.heap.size)) sl :=
  ⟨h.bel.trans (hb.mono h.bel.size), h.env, h.cfg.below hb (h.rack.hZ _ h.cfz), .inl h.cfz, h.txs, h.len30, h.key_, h.pl_, h.max_, h.ptrH.below hb, fun x e => .inl (h.pzH x e), fun b hb => .inl (h.low b hb), h.rack.below hb (Nat.le_refl _)⟩
theorem ptrR_kept {Z : Nat → Prop} {w w' : World} {a : Option Addr} {ps : List (Option Addr)} (h : PtrR w a ps) (hk : KeptBut (fun b => ¬ Z b) w w') (hz : ∀ x, a = some x → Z x.block) : PtrR w' a ps := by
  rcases h with e | ⟨b, off, e, hb, hc⟩
  · exact .inl e
  · exact .inr ⟨b, off, e, Nat.lt_of_lt_of_le hb hk.size, fun j hj => kept_in (p := ⟨b, off + j, none⟩) hk (show Z b from hz ⟨b, off, none⟩ e) (hc j hj)⟩
/-- .. pairs of the rack turn. -/
theorem Sit.kept {w W W' : World} {E : Nat → Addr} {n k : Int} {a : Option Addr} {len cap : Nat} {L : List ByteArray} {cb : Nat} {key : ByteArray} {pa : Option Addr} {pl : Nat} {Z : Nat → Prop} {sl sl' : List Slot} (h : Sit w W E n k a len cap L cb key pa pl Z sl) (hk : KeptBut (fun b => ¬ Z b) W W') (hr : RackAt Z W' sl') (h1 : ptrsH sl' = ptrsH sl) : Sit w W' E n k a len cap L cb key pa pl Z sl' := by
  refine ⟨h.bel.trans (hk.below h.bel.size fun b hb => ?_), h.env, ⟨kept_in (p := ⟨cb, 0, none⟩) hk h.cfz h.cfg.c0, kept_in (p := ⟨cb, 1, none⟩) hk h.cfz h.cfg.c1, kept_in (p := ⟨cb, 2, none⟩) hk h.cfz h.cfg.c2⟩, h.cfz, h.txs, h.len30, h.key_, ?_, h.max_, by rw [h1]; exact ptrR_kept h.ptrH hk h.pzH, h.pzH, h.low, hr⟩
  · rcases Nat.lt_or_ge b w.heap.size with h9 | h9
    · exact absurd (h.low b h9) hb
    · exact h9
  · rw [← size_ptrsH, h1, size_ptrsH]; exact h.pl_
theorem Sit.errs {w W : World} {E : Nat → Addr} {n k : Int} {a : Option Addr} {len cap : Nat} {L : List ByteArray} {cb : Nat} {key : ByteArray} {pa : Option Addr} {pl : Nat} {Z : Nat → Prop} {sl : List Slot} (h : Sit w W E n k a len cap L cb key pa pl Z sl) : ErrEnv W E := h.env.below h.bel (Nat.le_refl _)
theorem Sit.own {w W : World} {E : Nat → Addr} {n k : Int} {a : Option Addr} {len cap : Nat} {L : List ByteArray} {cb : Nat} {key : ByteArray} {pa : Option Addr} {pl : Nat} {Z : Nat → Prop} {sl : List Slot} (h : Sit w W E n k a len cap L cb key pa pl Z sl) :
    Calls Tryz.prog 10 #[cfgV n k (.slice a len cap)] W fun e w' => ∃ a' cap', e = .returned (cfgV n k (.slice a' len cap')) ∧ Below W.heap.size W w' ∧ Sit w w' E n k a len cap L cb key pa pl Z sl ∧ LookIn w' E w'.heap.size a' len cap' L key pa pl Z sl := by
  refine (ownc_walk n k w.heap.size a len cap L W h.txs.len_ (by have := h.len30; omega) h.txs.nil_ (h.txs.txs.below h.bel) h.bel.size).mono fun e w' hp => ?_
  obtain ⟨⟨v, rfl, hv⟩, hb⟩ := hp
  obtain ⟨a', cap', rfl, hc, hm, _, ht⟩ := hv.read
  have hs := h.below hb
  have hl := h.txs.len_
  rw [hl] at hc ⊢
  exact ⟨a', cap', rfl, hb, hs, hs.errs, hl, hc, h.txs.sizeAt, ht, Nat.le_refl _, hs.key_, hs.pl_, hs.max_, hs.ptrH, hs.rack⟩
theorem Sit.hx {w W : World} {E : Nat → Addr} {n k : Int} {a : Option Addr} {len cap : Nat} {L : List ByteArray} {cb : Nat} {key : ByteArray} {pa : Option Addr} {pl : Nat} {Z : Nat → Prop} {sl : List Slot} (h : Sit w W E n k a len cap L cb key pa pl Z sl) (w' : World) (hk : KeptBut (fun b => ¬ Z b) W w') : ErrHx w' E :=
  (h.env.below (h.bel.trans (hk.below h.bel.size fun b hb => by
    rcases Nat.lt_or_ge b w.heap.size with h9 | h9
    · exact absurd (h.low b h9) hb
    · exact h9)) (Nat.le_refl _)).hx'
end
end Go.Proofs.YtolbdcmoblcakaaGreatDoor.HO
/- Plain: of n shards of one text some are left; k of them tell it; the others are mended. -/
namespace Go.Proofs.YtolbdcmoblcakaaGreatDoor
section
open Go.RowKit

/-- k texts of an object tell it. -/
theorem decR_is {k n : Nat} {s : ByteArray} {P : List Sh} (hk : 1 ≤ k) (hk2 : k ≤ 12) (hl : P.length = k) (hu : UnlikeS P) (hg : ∀ x ∈ P, GoodS n (wideN k s.size) x) (hn : n ≤ 12) (he : ∀ x ∈ P, x.2 = encT k s x.1.toNat) : textOf (decF P k (wideN k s.size)) s.size = s := by
  refine text_ext (textOf_size _ _) fun p hp => ?_
  rw [textOf_size] at hp
  rw [sb_textOf (decF_lt P k _), if_pos hp]
  have hwf := (wide_facts k s.size hk).1
  obtain ⟨W, hW⟩ : ∃ W, wideN k s.size = W := ⟨_, rfl⟩
  have hW0 : 0 < W := by
    rw [hW] at hwf
    rcases Nat.eq_zero_or_pos W with h | h
    · rw [h, Nat.mul_zero] at hwf; omega
    · exact h
  rw [hW] at hwf ⊢
  have hpk : p / W < k := Nat.div_lt_of_lt_mul (by rw [Nat.mul_comm]; omega)
  have hpm : p % W < W := Nat.mod_lt _ hW0
  have hv : Mx.By (fun l => sb s (l * W + p % W)) := fun l => sb_lt _ _
  have hx : Bytes (numS P) := fun x hx => by have := numS_lt hg x hx; omega
  have hxl : (numS P).length = k := by rw [numS_length]; exact hl
  have hb := Mx.back (by omega) hxl hx (numS_unlike hu hg) hv (show p / W < 256 by omega)
  rw [Mx.top_is (by omega) hv hpk] at hb
  unfold decF
  rw [Mx.dot_congr (r' := fun i => bas (numS P) i (p / W)) (v' := fun i => Mx.dot (Mx.spr k ((numS P)[i]?.getD 0)) (fun l => sb s (l * W + p % W)) k) (fun _ _ => rfl) (fun i hi => ?_), hb]
  · show sb s (p / W * W + p % W) = _
    rw [Nat.mul_comm, Nat.div_add_mod]
  · have hil : i < P.length := by omega
    rw [numS_at hil, List.getElem?_eq_getElem hil]
    show sb P[i].2 _ = _
    rw [he _ (List.getElem_mem hil), sb_encT k s _ (by rw [hW]; exact hpm)]
    unfold encF
    rw [hW]
    rfl
/-- shards of an object at places. -/
def pickR (k : Nat) (s : ByteArray) (qs : List Nat) : List Sh := qs.map fun p : Nat => ((p : Int), encT k s p)
theorem pickR_good {n k : Nat} {s : ByteArray} {qs : List Nat} (h : ∀ q ∈ qs, q < n) : ∀ x ∈ pickR k s qs, GoodS n (wideN k s.size) x := fun x hx => by
  obtain ⟨q, hq, rfl⟩ := List.mem_map.1 hx
  have := h q hq
  exact ⟨by simp, by simpa using this, encT_size _ _ _⟩
theorem pickR_unlike {k : Nat} {s : ByteArray} {qs : List Nat} (h : qs.Nodup) : UnlikeS (pickR k s qs) := by
  unfold UnlikeS pickR
  rw [List.pairwise_map]
  exact (List.nodup_iff_pairwise_ne.1 h).imp fun {a b} hab e => hab (by have e2 : (a : Int) = b := e; omega)
theorem pickR_dec {n k : Nat} {s : ByteArray} {qs : List Nat} (hk : 1 ≤ k) (hk2 : k ≤ 12) (hn : n ≤ 12) (h : qs.Nodup) (hl : k ≤ qs.length) (hlt : ∀ q ∈ qs, q < n) : textOf (decF (pickS k (pickR k s qs)) k (wideN k s.size)) s.size = s := by
  have hs : ∀ q ∈ qs.take k, q < n := fun q hq => hlt q (List.mem_of_mem_take hq)
  have hn2 : (qs.take k).Nodup := h.sublist (List.take_sublist _ _)
  have hp : pickS k (pickR k s qs) = pickR k s (qs.take k) := by
    rw [pickS_all (pickR_unlike h)]
    unfold pickR
    rw [List.map_take]
  rw [hp]
  refine decR_is hk hk2 (by simp [pickR]; omega) (pickR_unlike hn2) (pickR_good hs) hn (fun x hx => ?_)
  obtain ⟨q, hq, rfl⟩ := List.mem_map.1 hx
  rfl
/-- the version of place q. -/
def xv (k : Nat) (s : ByteArray) (q : Nat) : Ver := (1, 0, (s.size : Int), (q : Int), encT k s q)
theorem can_xv {n k : Nat} {s : ByteArray} {q : Nat} (hs : s.size ≤ 1000) (hq : q < n) : canB n k (xv k s q) = true := by
  unfold canB xv
  dsimp only
  rw [Bool.and_eq_true]
  refine ⟨by decide, decide_eq_true ⟨by omega, by omega, by omega, by omega, ?_⟩⟩
  rw [Int.toNat_natCast]; exact encT_size _ _ _
theorem has_pick {k : Nat} {s : ByteArray} {ps : List Nat} {q : Nat} (h : q ∉ ps) : hasAt (pickR k s ps) (q : Int) = false := by
  unfold hasAt pickR
  rw [List.any_map, List.any_eq_false]
  intro p hp e
  have e2 : (p : Int) = (q : Int) := by simpa using e
  exact h (by have : p = q := by omega
              rw [← this]; exact hp)
theorem groups_on {n k : Nat} {s : ByteArray} (hs : s.size ≤ 1000) : ∀ (qs ps : List Nat), (ps ++ qs).Nodup → (∀ q ∈ qs, q < n) → (qs.map (xv k s)).foldl (stepG n k) [((1, 0), (s.size : Int), pickR k s ps)] = [((1, 0), (s.size : Int), pickR k s (ps ++ qs))]
  | [], ps, _, _ => by simp
  | q :: r, ps, hn, hq => by
    have hnot : q ∉ ps := fun h => by
      have := List.nodup_append.1 hn
      exact this.2.2 q h q (List.mem_cons_self ..) rfl
    have h1 : stepG n k [((1, 0), (s.size : Int), pickR k s ps)] (xv k s q) = [((1, 0), (s.size : Int), pickR k s (ps ++ [q]))] := by
      rw [stepG_map (can_xv hs (hq q (List.mem_cons_self ..))) (hasG_mem.2 ⟨_, List.mem_singleton_self _, rfl⟩)]
      have ha : addG ((1, 0), (s.size : Int), pickR k s ps) (xv k s q) = ((1, 0), (s.size : Int), pickR k s (ps ++ [q])) := by
        unfold addG
        rw [if_pos ⟨rfl, has_pick hnot⟩]
        simp [pickR, sh, xv]
      rw [List.map_singleton, if_pos (show (((1, 0), (s.size : Int), pickR k s ps) : Grp).1 = tg (xv k s q) from rfl), ha]
    rw [List.map_cons, List.foldl_cons, h1, groups_on hs r (ps ++ [q]) (by simpa using hn) (fun x hx => hq x (List.mem_cons_of_mem _ hx))]
    simp
theorem groups_xv {n k : Nat} {s : ByteArray} (hs : s.size ≤ 1000) (qs : List Nat) (hn : qs.Nodup) (hq : ∀ q ∈ qs, q < n) : groupsL n k (qs.map (xv k s)) = if qs = [] then [] else [((1, 0), (s.size : Int), pickR k s qs)] := by
  cases qs with
  | nil => rfl
  | cons q r =>
    rw [if_neg (by simp)]
    have h1 : stepG n k [] (xv k s q) = [((1, 0), (s.size : Int), pickR k s [q])] := by
      rw [stepG_new (can_xv hs (hq q (List.mem_cons_self ..))) rfl]
      have ha : addG (tg (xv k s q), (xv k s q).2.2.1, []) (xv k s q) = ((1, 0), (s.size : Int), pickR k s [q]) := by
        unfold addG
        rw [if_pos ⟨rfl, rfl⟩]
        rfl
      rw [ha]
      rfl
    show ((q :: r).map (xv k s)).foldl (stepG n k) [] = _
    rw [List.map_cons, List.foldl_cons, h1, groups_on hs r [q] (by simpa using hn) (fun x hx => hq x (List.mem_cons_of_mem _ hx))]
    rfl
/-- what is told: of those that are left. -/
def leftG (n : Nat) (g : Nat → Bool) : List Nat := (List.range n).filter fun q => !g q
def goneG (n : Nat) (g : Nat → Bool) : List Nat := (List.range n).filter g
theorem part_len (g : Nat → Bool) : ∀ n, (leftG n g).length + (goneG n g).length = n
  | 0 => rfl
  | n + 1 => by
    have := part_len g n
    unfold leftG goneG at *
    rw [List.range_succ, List.filter_append, List.filter_append, List.length_append, List.length_append]
    cases h : g n <;> simp [h] <;> omega
theorem goneG_succ (n : Nat) (g : Nat → Bool) : goneG (n + 1) g = goneG n g ++ if g n = true then [n] else [] := by
  unfold goneG
  rw [List.range_succ, List.filter_append]
  cases h : g n <;> simp [h]
/-- what each has. -/
def conG (n k : Nat) (s key : ByteArray) (g : Nat → Bool) : List (Option (List Kp)) := (List.range n).map fun q => some (if g q = true then [] else [(key, xv k s q)])
theorem conG_at {n k : Nat} {s key : ByteArray} {g : Nat → Bool} {q : Nat} (hq : q < n) : (conG n k s key g)[q]? = some (some (if g q = true then [] else [(key, xv k s q)])) := by
  unfold conG
  rw [List.getElem?_map, List.getElem?_range hq]; rfl
theorem conG_len (n k : Nat) (s key : ByteArray) (g : Nat → Bool) : (conG n k s key g).length = n := by simp [conG]
theorem getL_one (key : ByteArray) (x : Ver) : getL [(key, x)] key = [x] := by simp [getL]
theorem toldG_at {n k : Nat} {s key : ByteArray} {g : Nat → Bool} {q : Nat} (hq : q < n) : (toldC key (conG n k s key g))[q]?.getD [] = if g q = true then [] else [xv k s q] := by
  rw [toldC_at (conG_at hq)]
  cases h : g q
  · simp [conT, getL_one]
  · simp [conT, getL]
theorem told_flat (k : Nat) (s key : ByteArray) (g : Nat → Bool) : ∀ n, (toldC key (conG n k s key g)).flatten = (leftG n g).map (xv k s)
  | 0 => rfl
  | n + 1 => by
    have := told_flat k s key g n
    unfold toldC conG leftG at *
    rw [List.range_succ, List.map_append, List.map_append, List.flatten_append, this, List.filter_append, List.map_append]
    cases h : g n
    · simp [h, conT, getL_one]
    · simp [h, conT, getL]
theorem leftG_ok (n : Nat) (g : Nat → Bool) : (leftG n g).Nodup ∧ ∀ q ∈ leftG n g, q < n := ⟨List.nodup_range.sublist List.filter_sublist, fun q hq => by simpa using (List.mem_filter.1 hq).1⟩
theorem ra_best {n k : Nat} {s key : ByteArray} {g : Nat → Bool} (hk : 1 ≤ k) (hkn : k ≤ n) (hn : n ≤ 12) (hs : s.size ≤ 1000) :
    bestOf n k (toldC key (conG n k s key g)) = if k ≤ (leftG n g).length then ((1, 0), s, true) else ((0, 0), ⟨#[]⟩, false) := by
  unfold bestOf
  rw [told_flat, groups_xv hs _ (leftG_ok n g).1 (leftG_ok n g).2]
  by_cases h : k ≤ (leftG n g).length
  · rw [if_pos h, if_neg (by intro e; rw [e] at h; simp at h; omega)]
    have h1 : bestG k [((1, 0), (s.size : Int), pickR k s (leftG n g))] = some ((1, 0), (s.size : Int), pickR k s (leftG n g)) := by
      show bestStep k none _ = _
      unfold bestStep
      rw [if_pos ⟨by simpa [pickR] using h, rfl⟩]
    rw [h1]
    unfold bestAns
    dsimp only
    rw [Int.toNat_natCast, pickR_dec hk (by omega) hn (leftG_ok n g).1 h (leftG_ok n g).2]
  · rw [if_neg h]
    by_cases h0 : leftG n g = []
    · rw [if_pos h0]; rfl
    · rw [if_neg h0]
      have h1 : bestG k [((1, 0), (s.size : Int), pickR k s (leftG n g))] = none := by
        show bestStep k none _ = _
        unfold bestStep
        rw [if_neg (fun e => h (by simpa [pickR] using e.1))]
      rw [h1]; rfl
theorem must_xv {n k : Nat} {s : ByteArray} {i : Nat} (hi : i < n) : (mustL n k (1, 0) s)[i]?.getD ver0 = xv k s i := by
  rw [mustL_at hi]
  unfold encL
  rw [List.getElem?_map, List.getElem?_range hi]
  rfl
theorem ra_lack {n k : Nat} {s key : ByteArray} {g : Nat → Bool} : lackL (mustL n k (1, 0) s) (toldC key (conG n k s key g)) = goneG n g := by
  unfold lackL goneG
  rw [mustL_length]
  refine List.filter_congr fun i hi => ?_
  have hin : i < n := by simpa using hi
  rw [must_xv hin, toldG_at hin]
  cases h : g i
  · simp [inV]
  · simp [inV]
theorem right_xv {k : Nat} {s : ByteArray} {q : Nat} (hk : 1 ≤ k) (hk2 : k ≤ 12) (hs : s.size ≤ 100) (hq : q < 12) : rightB (xv k s q) = true := by
  unfold rightB xv
  dsimp only
  rw [Bool.and_eq_true]
  refine ⟨by decide, decide_eq_true ⟨by omega, by omega, by omega, by omega, ?_⟩⟩
  rw [encT_size]
  have := wide_le k s.size hk
  omega
theorem put_xv {k : Nat} {s key : ByteArray} {q : Nat} (hkey : nameB key = true) (hk : 1 ≤ k) (hk2 : k ≤ 12) (hs : s.size ≤ 100) (hq : q < 12) : errM false [] key (xv k s q) = 0 ∧ afterP false [] key (xv k s q) = [(key, xv k s q)] := by
  have h1 : errM false [] key (xv k s q) = 0 := by
    rw [errM_none hkey (right_xv hk hk2 hs hq) (fun j hj => by simp at hj)]; rfl
  refine ⟨h1, ?_⟩
  unfold afterP
  rw [if_pos h1]
  rfl
theorem conG_congr {n k : Nat} {s key : ByteArray} {g g' : Nat → Bool} (h : ∀ q, q < n → g q = g' q) : conG n k s key g = conG n k s key g' := by
  unfold conG
  refine List.map_congr_left fun q hq => ?_
  rw [h q (by simpa using hq)]
theorem conG_set {n k : Nat} {s key : ByteArray} {g : Nat → Bool} {i : Nat} (_hi : i < n) : (conG n k s key g).set i (some [(key, xv k s i)]) = conG n k s key (fun q => g q && decide (q ≠ i)) := by
  refine List.ext_getElem? fun j => ?_
  rw [List.getElem?_set]
  by_cases e : i = j
  · subst e
    rw [if_pos rfl, conG_len, if_pos _hi, conG_at _hi]
    simp
  · rw [if_neg e]
    by_cases hj : j < n
    · rw [conG_at hj, conG_at hj]
      have : decide (j ≠ i) = true := decide_eq_true (fun h => e h.symm)
      rw [this, Bool.and_true]
    · rw [List.getElem?_eq_none (by rw [conG_len]; omega), List.getElem?_eq_none (by rw [conG_len]; omega)]
theorem mend_on {n k : Nat} {s key : ByteArray} (hkey : nameB key = true) (hk : 1 ≤ k) (hkn : k ≤ n) (hn : n ≤ 12) (hs : s.size ≤ 100) : ∀ (ls : List Nat) (g : Nat → Bool) (d : Nat), ls.Nodup → (∀ i ∈ ls, i < n ∧ g i = true) →
    mendF key (mustL n k (1, 0) s) ls (conG n k s key g) d = (conG n k s key (fun q => g q && decide (q ∉ ls)), 0, d + ls.length)
  | [], g, d, _, _ => by
    show (conG n k s key g, (0 : Int), d) = _
    rw [conG_congr (g' := fun q => g q && decide (q ∉ ([] : List Nat))) (fun q _ => by simp)]
    rfl
  | i :: r, g, d, hnd, h => by
    obtain ⟨hin, hgi⟩ := h i (List.mem_cons_self ..)
    have hnd2 := List.nodup_cons.1 hnd
    have hc : (conG n k s key g)[i]?.getD none = some [] := by rw [conG_at hin, hgi]; rfl
    obtain ⟨p1, p2⟩ := put_xv (k := k) (s := s) (q := i) hkey hk (by omega) hs (by omega)
    rw [mendF_ok hc (by rw [must_xv hin, p1]; rfl), must_xv hin, p2, conG_set hin, mend_on hkey hk hkn hn hs r _ (d + 1) hnd2.2 (fun x hx => ⟨(h x (List.mem_cons_of_mem _ hx)).1, by
      have hne : x ≠ i := fun e => hnd2.1 (e ▸ hx)
      simp [(h x (List.mem_cons_of_mem _ hx)).2, hne]⟩)]
    rw [conG_congr (g' := fun q => g q && decide (q ∉ i :: r)) (fun q _ => by
      by_cases e1 : q = i
      · subst e1; simp
      · by_cases e2 : q ∈ r <;> simp [e1, e2])]
    rw [List.length_cons, show d + 1 + r.length = d + (r.length + 1) by omega]
theorem ra_mend {n k : Nat} {s key : ByteArray} {g : Nat → Bool} (hkey : nameB key = true) (hk : 1 ≤ k) (hkn : k ≤ n) (hn : n ≤ 12) (hs : s.size ≤ 100) :
    mendF key (mustL n k (1, 0) s) (lackL (mustL n k (1, 0) s) (toldC key (conG n k s key g))) (conG n k s key g) 0 = (conG n k s key (fun _ => false), 0, (goneG n g).length) := by
  rw [ra_lack, mend_on hkey hk hkn hn hs (goneG n g) g 0 (List.nodup_range.sublist List.filter_sublist) (fun i hi => by
    have := List.mem_filter.1 hi
    exact ⟨by simpa using this.1, this.2⟩), Nat.zero_add]
  rw [conG_congr (g' := fun _ => false) (fun q hq => by
    cases h : g q
    · simp
    · have : q ∈ goneG n g := List.mem_filter.2 ⟨by simpa using hq, h⟩
      simp [this])]
theorem left_all (n : Nat) : (leftG n fun _ => false) = List.range n := by simp [leftG]
theorem gone_none (n : Nat) : (goneG n fun _ => false) = [] := by simp [goneG]
end
end Go.Proofs.YtolbdcmoblcakaaGreatDoor
