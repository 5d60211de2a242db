/- Walks: the document's Decimal of a digit, its PreferFault. -/
import Derived.Test.YtjgllhnecoibkaaGreatDoorPtD
import Derived.Test.YtjgllhnecoibkaaGreatDoorNdr
import Derived.Test.YtjgllhnecoibkaaGreatDoorSums
import Derived.Deep.CutRange
namespace Go.Proofs.YtjgllhnecoibkaaGreatDoor
open Go.RowKit

set_option maxRecDepth 100000 in
set_option maxHeartbeats 4000000 in
theorem rbelow_walk (k : Nat) (hk : k < 8) (w : World) :
    Calls Tryz.prog 63 #[.int .i64 (-(k : Int))] w fun e w' => e = .returned (.string (digT k)) ∧ Below w.heap.size w w' := by
  have Hb := Lib.hid (fun (W : World) => rbyte_walk (48 + k) W (by omega))
  rcases (show k = 0 ∨ k = 1 ∨ k = 2 ∨ k = 3 ∨ k = 4 ∨ k = 5 ∨ k = 6 ∨ k = 7 by omega) with rfl | rfl | rfl | rfl | rfl | rfl | rfl | rfl
  all_goals
    clear hk
    go_enter Tryz.func63, Tryz.ntmps63
    go_wp2_with fail
    refine (Hb.out _).mono ?_
    rintro e w' ⟨rfl, hb⟩
    have HB := Lib.hid hb
    clear hb
    go_wp2
    go_ret
    exact ⟨rfl, HB.out⟩
set_option maxRecDepth 100000 in
set_option maxHeartbeats 1000000 in
theorem rdec_walk (k : Nat) (hk : k < 8) (w : World) :
    Calls Tryz.prog 39 #[.int .i64 k] w fun e w' => e = .returned (.string (digT k)) ∧ Below w.heap.size w w' := by
  have H1 := Lib.hid (rbelow_walk k hk w)
  have g1 : ¬ (k : Int) < 0 := by omega
  go_enter Tryz.func39, Tryz.ntmps39
  go_wp2_with fail
  refine H1.out.mono ?_
  rintro e w' ⟨rfl, hb⟩
  have HB := Lib.hid hb
  clear hb
  go_wp2
  go_ret
  exact ⟨rfl, HB.out⟩
set_option maxRecDepth 100000 in
set_option maxHeartbeats 4000000 in
theorem rpf_walk (n₀ : Nat) (a : Option Addr) (len cap : Nat) (L : List ByteArray) (n : Int) (w : World) (hlen : L.length = len) (hcap : len ≤ cap) (hsz : ∀ j : Nat, (L[j]?.getD (⟨#[]⟩ : ByteArray)).size ≤ maxLen) (hI : TxsAt n₀ w a L) (hn : n₀ ≤ w.heap.size) (hlm : len ≤ maxLen) :
    Calls Tryz.prog 13 #[.slice a len cap, .int .i64 n] w fun e w' => e = .returned (fltA (lookF L n)) ∧ Below w.heap.size w w' := by
  have hlm9 : len ≤ 9223372036854775807 := hlm
  have hB1 : Below w.heap.size w (w.alloc (.cells #[.int .i64 0, .int .i64 0] 31)) := (Below.refl _ w).alloc (Nat.le_refl _) _
  have hP := Pair.new w (.int .i64 0) (.int .i64 0) 31
  obtain ⟨W, hW⟩ : ∃ W, w.alloc (.cells #[.int .i64 0, .int .i64 0] 31) = W := ⟨_, rfl⟩
  have hltW : w.heap.size < W.heap.size := by rw [← hW]; simp
  rw [hW] at hP hB1
  have Hk := Lib.hid (rnodes_walk w.heap.size a len cap L W hlen hcap hsz ((hI.mono hn).below hB1) hB1.size)
  obtain ⟨b0, hb0⟩ : ∃ b0, w.heap.size = b0 := ⟨_, rfl⟩
  have hset : ∀ V, Below w.heap.size w V → ∀ u v : Value, Below w.heap.size w ((V.setCell ⟨b0, 0, none⟩ u).setCell ⟨b0, 1, none⟩ v) := fun V hV u v => (hV.setCell (p := ⟨b0, 0, none⟩) (by show w.heap.size ≤ b0; omega) u).setCell (p := ⟨b0, 1, none⟩) (by show w.heap.size ≤ b0; omega) v
  rw [hb0] at hP hltW
  have HH := Lib.hid (And.intro hP (And.intro hB1 hltW))
  have HW := Lib.hid hW
  have Hb0 := Lib.hid hb0
  have Hset := Lib.hid hset
  obtain ⟨F, hF⟩ : ∃ F, nodesF L = F := ⟨_, rfl⟩
  have hlF : lookF L n = if F.1 = 0 then (if (len : Int) < n then (8, -1) else if n < 0 then (2, -1) else (0, -1)) else F := by unfold lookF; rw [hF, hlen]
  rw [hF] at Hk
  have HlF := Lib.hid hlF
  have HF0 : Hid (F.1 = 0 → F = (0, -1)) := Lib.hid (fun h => by
    have h9 := nodesF_zero (L := L) (by rw [hF]; exact h)
    rw [← hF]; exact h9.2.2.2)
  obtain ⟨G, hG⟩ : ∃ G, lookF L n = G := ⟨_, rfl⟩
  rw [hG] at HlF ⊢
  clear hP hB1 hltW hW hset hb0 hF hI hlen hsz hlF hG
  go_enter Tryz.func13, Tryz.ntmps13
  go_wp2_with fail
  rw [HW.out, Hb0.out]
  refine Hk.out.mono ?_
  rintro e w1 ⟨rfl, hb1⟩
  unfold fltA
  have H1 := Lib.hid (And.intro (HH.out.2.1.trans (hb1.mono HH.out.2.1.size)) (And.intro (HH.out.1.below hb1 HH.out.2.2) (Nat.lt_of_lt_of_le HH.out.2.2 hb1.size)))
  clear hb1
  obtain ⟨F1, F2⟩ := F
  go_upto_region 2 with fail
  have hB2 : Below w1.heap.size w1 (w1.alloc (.cells #[.int .i64 (F1 : Nat), .int .i64 F2] 31)) := (Below.refl _ _).alloc (Nat.le_refl _) _
  have hPF := Pair.new w1 (.int .i64 (F1 : Nat)) (.int .i64 F2) 31
  have hP2 := H1.out.2.1.below hB2 H1.out.2.2
  have hb2 : w1.heap.size < (w1.alloc (.cells #[.int .i64 (F1 : Nat), .int .i64 F2] 31)).heap.size := by simp
  obtain ⟨W2, hW2⟩ : ∃ W2, w1.alloc (.cells #[.int .i64 (F1 : Nat), .int .i64 F2] 31) = W2 := ⟨_, rfl⟩
  rw [hW2] at hB2 hPF hP2 hb2 ⊢
  have H2 := Lib.hid (And.intro (H1.out.1.trans (hB2.mono H1.out.1.size)) (And.intro hP2 (And.intro (Nat.lt_of_lt_of_le H1.out.2.2 hB2.size) hPF)))
  clear hW2 hB2 hPF hP2 hb2
  obtain ⟨p0, p1, q0, q1⟩ := H2.out.2.1
  obtain ⟨r0, r1, _, _⟩ := H2.out.2.2.2
  by_cases h0 : F1 = 0
  · have hF1 := HF0.out h0
    simp only [Prod.mk.injEq] at hF1
    obtain ⟨rfl, rfl⟩ := hF1
    have hG : G = if (len : Int) < n then (8, -1) else if n < 0 then (2, -1) else (0, -1) := by rw [HlF.out, if_pos rfl]
    clear HlF HF0 Hk h0
    by_cases h1 : (len : Int) < n
    · rw [if_pos h1] at hG
      subst hG
      have Hb := Lib.hid (bare_walk 8 W2)
      go_wp2_with fail
      refine Hb.out.mono ?_
      rintro e w3 ⟨rfl, hb3⟩
      obtain ⟨p0', p1', q0', q1'⟩ := H2.out.2.1.below hb3 H2.out.2.2.1
      have H3 := Lib.hid (H2.out.1.trans (hb3.mono H2.out.1.size))
      clear hb3 p0 p1 q0 q1 r0 r1
      go_wp2
      exact bodyPost_ret (v := fltA (8, -1)) (by simp [results, Tryz.results13, fltA, p0', p1', go_sem]) rfl ⟨rfl, Hset.out _ H3.out _ _⟩
    · rw [if_neg h1] at hG
      by_cases h2 : n < 0
      · rw [if_pos h2] at hG
        subst hG
        have Hb := Lib.hid (bare_walk 2 W2)
        go_wp2_with fail
        refine Hb.out.mono ?_
        rintro e w3 ⟨rfl, hb3⟩
        obtain ⟨p0', p1', q0', q1'⟩ := H2.out.2.1.below hb3 H2.out.2.2.1
        have H3 := Lib.hid (H2.out.1.trans (hb3.mono H2.out.1.size))
        clear hb3 p0 p1 q0 q1 r0 r1
        go_wp2
        exact bodyPost_ret (v := fltA (2, -1)) (by simp [results, Tryz.results13, fltA, p0', p1', go_sem]) rfl ⟨rfl, Hset.out _ H3.out _ _⟩
      · rw [if_neg h2] at hG
        subst hG
        go_wp2
        exact bodyPost_ret (v := fltA (0, -1)) (by simp [results, Tryz.results13, fltA, p0, p1, go_sem]) rfl ⟨rfl, Hset.out _ H2.out.1 _ _⟩
  · have hpos : (0 : Int) < (F1 : Nat) := by omega
    have hposd : decide (0 < F1) = true := decide_eq_true (by omega)
    have hG : G = (F1, F2) := by rw [HlF.out, if_neg h0]
    subst hG
    clear h0 HlF HF0 Hk
    go_wp2
    exact bodyPost_ret (v := fltA (F1, F2)) (by simp [results, Tryz.results13, fltA, p0, p1, go_sem]) rfl ⟨rfl, Hset.out _ H2.out.1 _ _⟩
end Go.Proofs.YtjgllhnecoibkaaGreatDoor
