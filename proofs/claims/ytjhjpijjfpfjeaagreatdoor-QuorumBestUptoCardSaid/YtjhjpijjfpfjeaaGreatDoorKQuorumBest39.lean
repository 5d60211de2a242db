/- The walks of shardkeeplaw2's enough, longConfig, OwnConfig. -/
import Derived.Test.YtjhjpijjfpfjeaaGreatDoorKQuorumBest26
import Derived.Test.YtjhjpijjfpfjeaaGreatDoorKQuorumBest38
import Derived.Test.YtjhjpijjfpfjeaaGreatDoorKQuorumBest24
import Derived.Lib.SmallJoins
namespace Go.Proofs.YtjhjpijjfpfjeaaGreatDoor
open Go.RowKit

theorem nameA : nameB ⟨#[97]⟩ = true := by decide +kernel
theorem configA : configF 1 1 [⟨#[97]⟩] = (0, -1) := by decide +kernel
set_option maxRecDepth 100000 in
set_option maxHeartbeats 1000000 in
theorem lenough_walk (w : World) (E : Nat → Addr) (hE : ErrQx w E) :
    Calls Tryz.prog 4 #[] w fun e w' => e = .returned (.bool true) ∧ Below w.heap.size w w' := by
  have hB0 : Below w.heap.size w (w.alloc (.cells #[.string ⟨#[97]⟩] 9)) := (Below.refl _ w).alloc (Nat.le_refl _) _
  have hT : TxsAt (w.alloc (.cells #[.string ⟨#[97]⟩] 9)).heap.size (w.alloc (.cells #[.string ⟨#[97]⟩] 9)) (some ⟨w.heap.size, 0, none⟩) [⟨#[97]⟩] :=
    .inr ⟨w.heap.size, 0, rfl, by simp, fun j hj => by
      obtain rfl : j = 0 := by simpa using hj
      simp⟩
  have Hk := Lib.hid (enough_walk 1 1 _ (some ⟨w.heap.size, 0, none⟩) 1 1 [⟨#[97]⟩] _ E (hE.below hB0 (Nat.le_refl _)) rfl (Nat.le_refl _) (fun j => by
    cases j with
    | zero => show (1 : Nat) ≤ maxLen; unfold maxLen; omega
    | succ j => show (0 : Nat) ≤ maxLen; omega) hT (Nat.le_refl _))
  have HB := Lib.hid hB0
  clear hB0 hT hE
  go_enter Tryz.func4, Tryz.ntmps4
  go_wp2_with fail
  refine Hk.out.mono ?_
  rintro e w1 ⟨hb1, ⟨_, rfl⟩ | ⟨h, _⟩⟩
  · have HB1 := Lib.hid (HB.out.trans (hb1.mono HB.out.size))
    clear hb1
    go_wp2
    go_ret
    exact ⟨rfl, HB1.out⟩
  · exact absurd (by rw [configA]) h
/-- is a configuration too long for a statement? -/
def longC (L : List ByteArray) : Bool := decide (30 < L.length) || L.any fun s => decide (60 < s.size)
set_option maxRecDepth 100000 in
set_option maxHeartbeats 2000000 in
theorem longc_walk (n k : Int) (n₀ : Nat) (a : Option Addr) (len cap : Nat) (L : List ByteArray) (w : World) (hlen : L.length = len) (hm : len ≤ maxLen) (hsz : ∀ j : Nat, (L[j]?.getD (⟨#[]⟩ : ByteArray)).size ≤ maxLen) (hI : TxsAt n₀ w a L) (hn : n₀ ≤ w.heap.size) :
    Calls Tryz.prog 5 #[cfgV n k (.slice a len cap)] w fun e w' => e = .returned (.bool (longC L)) ∧ Below w.heap.size w w' := by
  have hB0 : Below w.heap.size w (w.alloc (.cells #[.int .i64 n, .int .i64 k, .slice a len cap] 24)) := (Below.refl _ w).alloc (Nat.le_refl _) _
  have hC := CfgAt.new w n k (.slice a len cap)
  have hm9 : len ≤ 9223372036854775807 := hm
  obtain ⟨W, hW⟩ : ∃ W, w.alloc (.cells #[.int .i64 n, .int .i64 k, .slice a len cap] 24) = W := ⟨_, rfl⟩
  rw [hW] at hB0 hC
  have HB := Lib.hid hB0
  have HC := Lib.hid hC
  have HI := Lib.hid ((hI.mono hn).below hB0)
  have Hsz := Lib.hid hsz
  have Hl := Lib.hid hlen
  have HW := Lib.hid hW
  obtain ⟨r, hr⟩ : ∃ r, longC L = r := ⟨_, rfl⟩
  have Hr := Lib.hid hr
  rw [hr]
  by_cases h30 : 30 < len
  · have hrt : r = true := by rw [← hr]; unfold longC; rw [decide_eq_true (by omega)]; rfl
    subst hrt
    have g1 : (30 : Int) < len := by omega
    have g1d : decide (30 < len) = true := decide_eq_true h30
    obtain ⟨c0, c1, c2⟩ := HC.out
    clear hr hB0 hC hI hsz hlen hm h30 hW
    go_enter Tryz.func5, Tryz.ntmps5
    go_wp2
    go_ret
    exact ⟨rfl, by rw [HW.out]; exact HB.out⟩
  · have g1 : ¬ (30 : Int) < len := by omega
    have g1d : decide (30 < len) = false := decide_eq_false h30
    clear hr hB0 hC hI hsz hlen hm h30 hW
    go_enter Tryz.func5, Tryz.ntmps5
    go_wp2
    rw [HW.out]
    go_loop [3] (fun vi => ∃ i : Nat, i ≤ len ∧ vi = .int .i64 i ∧ Hid (∀ j, j < i → ¬ 60 < (L[j]?.getD (⟨#[]⟩ : ByteArray)).size)) (fun i => len - (intOf i).toNat)
    case atStart => exact ⟨0, by omega, rfl, Lib.hid (fun j hj => by omega)⟩
    case round =>
      obtain ⟨i, hi, rfl, Hj⟩ := hrel
      obtain ⟨c0, c1, c2⟩ := HC.out
      have hi2 : i < len ∨ i = len := by omega
      rcases hi2 with hilt | rfl
      · have hilt2 : (i : Int) < len := by omega
        rcases HI.out with he | ⟨b, off, rfl, _, hcx⟩
        · exfalso
          have := Hl.out
          rw [he] at this; simp at this; omega
        have h1 := hcx i (by have := Hl.out; omega)
        obtain ⟨x, hx⟩ : ∃ x, L[i]?.getD (⟨#[]⟩ : ByteArray) = x := ⟨_, rfl⟩
        rw [hx] at h1
        have Hx := Lib.hid hx
        have hxs := Hsz.out i
        rw [hx] at hxs
        unfold maxLen at hxs
        clear hcx hx
        by_cases h60 : 60 < x.size
        · have hrt : r = true := by
            rw [← Hr.out]; unfold longC
            rw [Bool.or_eq_true]; right
            rw [List.any_eq_true]
            have hil : i < L.length := by have := Hl.out; omega
            have h9 := Hx.out
            rw [List.getElem?_eq_getElem hil] at h9
            exact ⟨x, by simp only [Option.getD_some] at h9; rw [← h9]; exact List.getElem_mem hil, decide_eq_true h60⟩
          subst hrt
          have g2 : (60 : Int) < x.size := by omega
          have g2d : decide (60 < x.size) = true := decide_eq_true h60
          clear h60
          go_wp2
          go_ret
          exact ⟨rfl, HB.out⟩
        · have g2 : ¬ (60 : Int) < x.size := by omega
          have g2d : decide (60 < x.size) = false := decide_eq_false h60
          have H60 := Lib.hid h60
          clear h60
          go_wp2
          go_round
          case rel => exact ⟨i + 1, by omega, by go_num, Lib.hid (fun j hj => by
            by_cases e : j = i
            · rw [e, Hx.out]; exact H60.out
            · exact Hj.out j (by omega))⟩
          case measure => simp [intOf]; omega
      · have hrf : r = false := by
          rw [← Hr.out]; unfold longC
          rw [decide_eq_false (by have := Hl.out; omega), Bool.false_or, List.any_eq_false]
          intro s hs
          obtain ⟨j, hj, rfl⟩ := List.getElem_of_mem hs
          have h9 := Hj.out j (by have := Hl.out; omega)
          rw [List.getElem?_eq_getElem hj] at h9
          simpa using h9
        subst hrf
        go_wp2
        go_ret
        exact ⟨rfl, HB.out⟩
theorem longC_no {L : List ByteArray} (h : longC L = false) : L.length ≤ 30 ∧ ∀ s ∈ L, s.size ≤ 60 := by
  unfold longC at h
  rw [Bool.or_eq_false_iff, decide_eq_false_iff_not, List.any_eq_false] at h
  exact ⟨by omega, fun s hs => by have := h.2 s hs; simp at this; omega⟩
theorem grown_setCell (w : World) (p : Addr) (u : Value) : w.grownBy (w.setCell p u) (some p.block) :=
  ⟨rfl, rfl, rfl, by simp [World.setCell], fun i _ hne => Below.heap_setCell w p u i (fun e => hne (by rw [e]))⟩
theorem Own1.setCell {E : TypeId} {B : Nat} {w : World} {v : Value} {us : List Value} (h : Own1 E B w v us) (p : Addr) (u : Value) (hne : v.ownBlock ≠ some p.block) : Own1 E B (w.setCell p u) v us :=
  h.kept (grown_setCell w p u) (by cases e : v.ownBlock with | none => exact .inl rfl | some k => exact .inr (by rw [← e]; exact hne))
set_option maxRecDepth 100000 in
set_option maxHeartbeats 2000000 in
theorem ownc_walk (n k : Int) (n₀ : Nat) (a : Option Addr) (len cap : Nat) (L : List ByteArray) (w : World) (hlen : L.length = len) (hl : len ≤ 1000) (ha : a = none → cap = 0) (hI : TxsAt n₀ w a L) (hn : n₀ ≤ w.heap.size) :
    Calls Tryz.prog 8 #[cfgV n k (.slice a len cap)] w fun e w' => (∃ v, e = .returned (cfgV n k v) ∧ OwnT w.heap.size w' v L) ∧ Below w.heap.size w w' := by
  have hB0 : Below w.heap.size w ((w.alloc (.cells #[.int .i64 n, .int .i64 k, .slice a len cap] 24)).alloc (.cells #[.int .i64 0, .int .i64 0, .slice none 0 0] 24)) := ((Below.refl _ w).alloc (Nat.le_refl _) _).alloc (by simp) _
  have hc : ∀ j, ((w.alloc (.cells #[.int .i64 n, .int .i64 k, .slice a len cap] 24)).alloc (.cells #[.int .i64 0, .int .i64 0, .slice none 0 0] 24)).cell? ⟨w.heap.size, j, none⟩ = (#[.int .i64 n, .int .i64 k, .slice a len cap] : Array Value)[j]? := fun j => by
    rw [World.cell?_alloc_lt _ _ _ (by simp), World.cell?_alloc_at _ _ _ _ rfl]
  have hr : ∀ j, ((w.alloc (.cells #[.int .i64 n, .int .i64 k, .slice a len cap] 24)).alloc (.cells #[.int .i64 0, .int .i64 0, .slice none 0 0] 24)).cell? ⟨w.heap.size + 1, j, none⟩ = (#[.int .i64 0, .int .i64 0, .slice none 0 0] : Array Value)[j]? := fun j => by
    rw [World.cell?_alloc_at _ _ _ _ (by simp)]
  have hf : ∀ b j, b = w.heap.size ∨ b = w.heap.size + 1 → ((w.alloc (.cells #[.int .i64 n, .int .i64 k, .slice a len cap] 24)).alloc (.cells #[.int .i64 0, .int .i64 0, .slice none 0 0] 24)).frozen? ⟨b, j, none⟩ = false := fun b j hb => by
    rcases hb with rfl | rfl <;> simp
  have hzs : ((w.alloc (.cells #[.int .i64 n, .int .i64 k, .slice a len cap] 24)).alloc (.cells #[.int .i64 0, .int .i64 0, .slice none 0 0] 24)).heap.size = w.heap.size + 2 := by simp
  have hI0 := (hI.mono hn).below hB0
  obtain ⟨W, hW⟩ : ∃ W, (w.alloc (.cells #[.int .i64 n, .int .i64 k, .slice a len cap] 24)).alloc (.cells #[.int .i64 0, .int .i64 0, .slice none 0 0] 24) = W := ⟨_, rfl⟩
  rw [hW] at hB0 hc hr hf hzs hI0
  have HW := Lib.hid hW
  have HF := Lib.hid (And.intro hB0 (And.intro hc (And.intro hr (And.intro hf hzs))))
  have hul : ([] : List ByteArray).length + L.length ≤ 1000000 := by simp; omega
  have Hlen := Lib.hid (And.intro hlen hul)
  have Hha := Lib.hid ha
  have HI := Lib.hid hI0
  clear hB0 hc hr hf hzs hI hI0 hW ha hlen hul
  go_enter Tryz.func8, Tryz.ntmps8
  go_wp2_with (at_builtin; refine append_txts 4 6 rfl rfl w.heap.size (.slice none 0 0) [] w.heap.size a len cap L rfl rfl (OwnT.nil _ _) Hlen.out.1 Hlen.out.2 Hha.out (by rw [HW.out]; exact HI.out) (by rw [HW.out]; exact HF.out.1.size) ?_)
  rw [HW.out]
  intro v' w' k1 k2 k3
  obtain ⟨a', cap', hve, hcp, hmx, _, _⟩ := k1.read
  obtain ⟨hB0, hc, hr, hf, hzs⟩ := HF.out
  have kc : ∀ b j, b < W.heap.size → w'.cell? ⟨b, j, none⟩ = W.cell? ⟨b, j, none⟩ := fun b j hb => World.cell?_of_block (k2.block b hb (by simp [Value.ownBlock]))
  have kf : ∀ b j, b < W.heap.size → w'.frozen? ⟨b, j, none⟩ = W.frozen? ⟨b, j, none⟩ := fun b j hb => World.frozen?_of_block (k2.block b hb (by simp [Value.ownBlock]))
  have c0 := (kc w.heap.size 0 (by omega)).trans (hc 0)
  have c1 := (kc w.heap.size 1 (by omega)).trans (hc 1)
  have c2 := (kc w.heap.size 2 (by omega)).trans (hc 2)
  have f2 := (kf w.heap.size 2 (by omega)).trans (hf _ 2 (.inl rfl))
  have r0 := (kc (w.heap.size + 1) 0 (by omega)).trans (hr 0)
  have r1 := (kc (w.heap.size + 1) 1 (by omega)).trans (hr 1)
  have r2 := (kc (w.heap.size + 1) 2 (by omega)).trans (hr 2)
  have q0 := (kf (w.heap.size + 1) 0 (by omega)).trans (hf _ 0 (.inr rfl))
  have q1 := (kf (w.heap.size + 1) 1 (by omega)).trans (hf _ 1 (.inr rfl))
  have q2 := (kf (w.heap.size + 1) 2 (by omega)).trans (hf _ 2 (.inr rfl))
  simp at c0 c1 c2 r0 r1 r2
  have hB1 : Below w.heap.size w w' := hB0.grown k2 hB0.size (fun j e => by simp [Value.ownBlock] at e)
  have hnb : ∀ p : Addr, p.block < w.heap.size + 2 → v'.ownBlock ≠ some p.block := fun p hp e => by
    rcases k3 with h | h
    · rw [h] at e; simp [Value.ownBlock] at e
    · rw [h] at e
      have := Option.some.inj e
      omega
  have hK := Lib.hid (And.intro k1 (And.intro hB1 hnb))
  rw [hve]
  have HV := Lib.hid hve
  clear k1 k2 k3 hB1 hnb hve kc kf hB0 hc hr hf hzs
  go_wp2
  refine bodyPost_ret (v := cfgV n k (.slice a' L.length cap')) (by simp [results, Tryz.results8, r0, r1, r2, go_sem]) rfl ⟨⟨.slice a' L.length cap', rfl, ?_⟩, ?_⟩
  · have h1 := hK.out.1
    rw [HV.out] at h1
    have hn := hK.out.2.2
    rw [HV.out] at hn
    refine Own1.setCell (Own1.setCell (Own1.setCell (Own1.setCell h1 _ _ (hn _ ?_)) _ _ (hn _ ?_)) _ _ (hn _ ?_)) _ _ (hn _ ?_) <;> (simp only; omega)
  · exact (((hK.out.2.1.setCell (by simp only; omega) _).setCell (by simp only; omega) _).setCell (by simp only; omega) _).setCell (by simp only; omega) _
end Go.Proofs.YtjhjpijjfpfjeaaGreatDoor
/- Walks: the document's ConfigFault, Enough. -/
namespace Go.Proofs.YtjhjpijjfpfjeaaGreatDoor
open Go.RowKit

set_option maxRecDepth 100000 in
set_option maxHeartbeats 2000000 in
theorem rconfig_walk (n k : Int) (n₀ : Nat) (a : Option Addr) (len cap : Nat) (L : List ByteArray) (w : World) (hlen : L.length = len) (hcap : len ≤ cap) (hsz : ∀ j : Nat, (L[j]?.getD (⟨#[]⟩ : ByteArray)).size ≤ maxLen) (hI : TxsAt n₀ w a L) (hn : n₀ ≤ w.heap.size) :
    Calls Tryz.prog 10 #[cfgV n k (.slice a len cap)] w fun e w' => e = .returned (fltA (configF n k L)) ∧ Below w.heap.size w w' := by
  have hB1 : Below w.heap.size w (w.alloc (.cells #[.int .i64 n, .int .i64 k, .slice a len cap] 24)) := (Below.refl _ w).alloc (Nat.le_refl _) _
  have hC := (CfgAt.new w n k (.slice a len cap)).below ((Below.refl (w.alloc (.cells #[.int .i64 n, .int .i64 k, .slice a len cap] 24)).heap.size _).alloc (Nat.le_refl _) (.cells #[.int .i64 0, .int .i64 0] 38)) (by simp)
  have hP := Pair.new (w.alloc (.cells #[.int .i64 n, .int .i64 k, .slice a len cap] 24)) (.int .i64 0) (.int .i64 0) 38
  have hB2 : Below w.heap.size w ((w.alloc (.cells #[.int .i64 n, .int .i64 k, .slice a len cap] 24)).alloc (.cells #[.int .i64 0, .int .i64 0] 38)) := hB1.alloc hB1.size _
  have hz1 : (w.alloc (.cells #[.int .i64 n, .int .i64 k, .slice a len cap] 24)).heap.size = w.heap.size + 1 := by simp
  have hz2 : ((w.alloc (.cells #[.int .i64 n, .int .i64 k, .slice a len cap] 24)).alloc (.cells #[.int .i64 0, .int .i64 0] 38)).heap.size = w.heap.size + 2 := by simp
  rw [hz1] at hP
  obtain ⟨W, hW⟩ : ∃ W, (w.alloc (.cells #[.int .i64 n, .int .i64 k, .slice a len cap] 24)).alloc (.cells #[.int .i64 0, .int .i64 0] 38) = W := ⟨_, rfl⟩
  rw [hW] at hC hP hB2 hz2
  have HI := Lib.hid ((hI.mono hn).below hB2)
  obtain ⟨b0, hb0⟩ : ∃ b0, w.heap.size = b0 := ⟨_, rfl⟩
  have hset : ∀ V, Below w.heap.size w V → ∀ u v : Value, Below w.heap.size w ((V.setCell ⟨b0 + 1, 0, none⟩ u).setCell ⟨b0 + 1, 1, none⟩ v) := fun V hV u v => (hV.setCell (p := ⟨b0 + 1, 0, none⟩) (by show w.heap.size ≤ b0 + 1; omega) u).setCell (p := ⟨b0 + 1, 1, none⟩) (by show w.heap.size ≤ b0 + 1; omega) v
  rw [hb0] at hC hP hz2
  have hlt : b0 + 1 < W.heap.size := by omega
  have hlt0 : b0 < W.heap.size := by omega
  have HH := Lib.hid (And.intro hC (And.intro hP (And.intro hB2 (And.intro hlt hlt0))))
  have HW := Lib.hid hW
  have Hb0 := Lib.hid hb0
  have Hset := Lib.hid hset
  have Hl := Lib.hid hlen
  have Hsz := Lib.hid hsz
  obtain ⟨F, hF⟩ : ∃ F, configF n k L = F := ⟨_, rfl⟩
  have HF := Lib.hid hF
  rw [hF]
  clear hB1 hC hP hB2 hz1 hz2 hlt hlt0 hset hW hb0 hF hI hlen hsz
  cases hs : isSpreadB n k with
  | false =>
    have hF2 : F = (2, -1) := by rw [← HF.out, configF_bad hs]
    subst hF2
    have Hs := Lib.hid hs
    have Hb := Lib.hid (bare_walk 2 W)
    clear hs
    go_enter Tryz.func10, Tryz.ntmps10
    go_wp2_with fail
    rw [HW.out, Hb0.out]
    refine (isspread_walk n k W).mono ?_
    rintro e w' ⟨rfl, hw'⟩
    subst hw'
    rw [Hs.out]
    go_wp2_with fail
    refine Hb.out.mono ?_
    rintro e w1 ⟨rfl, hb1⟩
    obtain ⟨p0, p1, q0, q1⟩ := HH.out.2.1.below hb1 HH.out.2.2.2.1
    have HB1 := Lib.hid (HH.out.2.2.1.trans (hb1.mono HH.out.2.2.1.size))
    clear hb1
    go_wp2
    exact bodyPost_ret (v := fltA (2, -1)) (by simp [results, Tryz.results10, fltA, p0, p1, go_sem]) rfl ⟨rfl, Hset.out _ HB1.out _ _⟩
  | true =>
    have hsp := of_decide_eq_true hs
    obtain ⟨k, rfl⟩ := Int.eq_ofNat_of_zero_le (show 0 ≤ k by omega)
    obtain ⟨n, rfl⟩ := Int.eq_ofNat_of_zero_le (show 0 ≤ n by omega)
    have Hs := Lib.hid hs
    by_cases hl : len = n
    · subst hl
      have hF2 : F = nodesF L := by rw [← HF.out, configF_nodes hs (by have := Hl.out; omega)]
      have HF2 := Lib.hid hF2
      have Hk := Lib.hid (rnodes_walk w.heap.size a len cap L W Hl.out hcap Hsz.out HI.out HH.out.2.2.1.size)
      obtain ⟨c0, c1, c2⟩ := HH.out.1
      clear hs hsp hF2
      go_enter Tryz.func10, Tryz.ntmps10
      go_wp2_with fail
      rw [HW.out, Hb0.out]
      refine (isspread_walk (len : Int) (k : Int) W).mono ?_
      rintro e w' ⟨rfl, hw'⟩
      subst hw'
      rw [Hs.out]
      go_wp2_with fail
      refine Hk.out.mono ?_
      rintro e w1 ⟨rfl, hb1⟩
      rw [← HF2.out]
      obtain ⟨p0, p1, q0, q1⟩ := HH.out.2.1.below hb1 HH.out.2.2.2.1
      have HB1 := Lib.hid (HH.out.2.2.1.trans (hb1.mono HH.out.2.2.1.size))
      unfold fltA
      clear hb1 c0 c1 c2
      go_wp2
      exact bodyPost_ret (v := fltA F) (by simp [results, Tryz.results10, fltA, p0, p1, go_sem]) rfl ⟨rfl, Hset.out _ HB1.out _ _⟩
    · have hF2 : F = (3, -1) := by rw [← HF.out, configF_shape hs (by have := Hl.out; omega)]
      subst hF2
      have e1 : ((len : Int) == (n : Int)) = false := beq_eq_false_iff_ne.2 (by omega)
      have e2 : ((len : Int) != (n : Int)) = true := bne_iff_ne.2 (by omega)
      have e3 : (len == n) = false := beq_eq_false_iff_ne.2 hl
      have Hb := Lib.hid (bare_walk 3 W)
      obtain ⟨c0, c1, c2⟩ := HH.out.1
      clear hs hsp hl
      go_enter Tryz.func10, Tryz.ntmps10
      go_wp2_with fail
      rw [HW.out, Hb0.out]
      refine (isspread_walk (n : Int) (k : Int) W).mono ?_
      rintro e w' ⟨rfl, hw'⟩
      subst hw'
      rw [Hs.out]
      go_wp2_with fail
      refine Hb.out.mono ?_
      rintro e w1 ⟨rfl, hb1⟩
      obtain ⟨p0, p1, q0, q1⟩ := HH.out.2.1.below hb1 HH.out.2.2.2.1
      have HB1 := Lib.hid (HH.out.2.2.1.trans (hb1.mono HH.out.2.2.1.size))
      clear hb1 c0 c1 c2
      go_wp2
      exact bodyPost_ret (v := fltA (3, -1)) (by simp [results, Tryz.results10, fltA, p0, p1, go_sem]) rfl ⟨rfl, Hset.out _ HB1.out _ _⟩
end Go.Proofs.YtjhjpijjfpfjeaaGreatDoor
/- The walks of shardkeeplaw2's faulted and coded. -/
namespace Go.Proofs.YtjhjpijjfpfjeaaGreatDoor
open Go.RowKit

set_option maxRecDepth 100000 in
set_option maxHeartbeats 1000000 in
theorem faulted2_walk (E : Nat → Addr) (f g : Nat × Int) (v : Value) (r : Bool) (w : World) (hE : ErrEnv w E) (h : FltV w E f v) (hr : r = decide (f.1 = g.1 ∧ (f.1 = 0 ∨ f.2 = g.2))) :
    Calls Tryz.prog 12 #[v, .agg #[.int .i64 (g.1 : Nat), .int .i64 g.2]] w fun e w' => e = .returned (.bool r) ∧ Below w.heap.size w w' := by
  obtain ⟨c, at'⟩ := f
  obtain ⟨d, bt⟩ := g
  simp only at hr
  have hB0 : Below w.heap.size w (w.alloc (.cells #[.int .i64 (d : Nat), .int .i64 bt] 38)) := (Below.refl _ w).alloc (Nat.le_refl _) _
  have Hc := Lib.hid (code_flt (hE.below hB0 (Nat.le_refl _)) (h.below hB0 (Nat.le_refl _)))
  have Hb := Lib.hid hB0
  have z0 : (w.alloc (.cells #[.int .i64 (d : Nat), .int .i64 bt] 38)).cell? ⟨w.heap.size, 0, none⟩ = some (.int .i64 (d : Nat)) := by simp
  have z1 : (w.alloc (.cells #[.int .i64 (d : Nat), .int .i64 bt] 38)).cell? ⟨w.heap.size, 1, none⟩ = some (.int .i64 bt) := by simp
  have hz : w.heap.size < (w.alloc (.cells #[.int .i64 (d : Nat), .int .i64 bt] 38)).heap.size := by simp
  have Hz := Lib.hid (And.intro z0 (And.intro z1 hz))
  clear hE h hB0 z0 z1 hz
  have hcs : (c ≠ d ∧ r = false) ∨ (c = d ∧ c = 0 ∧ r = true) ∨ (c = d ∧ c ≠ 0 ∧ at' = bt ∧ r = true) ∨ (c = d ∧ c ≠ 0 ∧ at' ≠ bt ∧ r = false) := by
    rw [hr]
    by_cases h1 : c = d
    · by_cases h2 : c = 0
      · exact .inr (.inl ⟨h1, h2, decide_eq_true ⟨h1, .inl h2⟩⟩)
      · by_cases h3 : at' = bt
        · exact .inr (.inr (.inl ⟨h1, h2, h3, decide_eq_true ⟨h1, .inr h3⟩⟩))
        · exact .inr (.inr (.inr ⟨h1, h2, h3, decide_eq_false (fun ⟨_, h⟩ => h.elim h2 h3)⟩))
    · exact .inl ⟨h1, decide_eq_false (fun ⟨h, _⟩ => h1 h)⟩
  clear hr
  rcases hcs with ⟨h1, rfl⟩ | ⟨rfl, rfl, rfl⟩ | ⟨rfl, h2, rfl, rfl⟩ | ⟨rfl, h2, h3, rfl⟩
  case' inl =>
    have e1 : ((c : Int) == (d : Int)) = false := beq_eq_false_iff_ne.2 (by omega)
    have e1b : decide (c = d) = false := by simpa using h1
    have e1c : (c == d) = false := by simpa using h1
  case' inr.inr.inl =>
    have e2 : ((c : Int) == 0) = false := beq_eq_false_iff_ne.2 (by omega)
    have e2b : (c == 0) = false := by simpa using h2
  case' inr.inr.inr =>
    have e2 : ((c : Int) == 0) = false := beq_eq_false_iff_ne.2 (by omega)
    have e2b : (c == 0) = false := by simpa using h2
    have e3 : (at' == bt) = false := by simpa using h3
  all_goals
    try clear h1
    try clear h2
    try clear h3
    go_enter Tryz.func12, Tryz.ntmps12
    go_wp2_with fail
    refine Hc.out.mono ?_
    rintro e w1 ⟨rfl, hb1⟩
    have k0 := (hb1.cell (p := ⟨w.heap.size, 0, none⟩) Hz.out.2.2).trans Hz.out.1
    have k1 := (hb1.cell (p := ⟨w.heap.size, 1, none⟩) Hz.out.2.2).trans Hz.out.2.1
    have HB := Lib.hid (Hb.out.trans (hb1.mono Hb.out.size))
    clear hb1
    go_wp2
    go_ret
    exact ⟨rfl, HB.out⟩
end Go.Proofs.YtjhjpijjfpfjeaaGreatDoor
/- A configuration that comes in. -/
namespace Go.Proofs.YtjhjpijjfpfjeaaGreatDoor
open Go.RowKit Go.ChangeShapes Go.WideShapes

/-- What the walk is told of a configuration that came in. -/
structure CfgIn (w : World) (n k : Int) (a : Option Addr) (len cap : Nat) (L : List ByteArray) : Prop where
  n_ : -9223372036854775808 ≤ n ∧ n ≤ 9223372036854775807
  k_ : -9223372036854775808 ≤ k ∧ k ≤ 9223372036854775807
  t_ : TxsIn w a len cap L
set_option maxRecDepth 100000 in
theorem open_config {H : Type} {enc : TypeId × Value → H} {W : World} {base : Nat} {v : Value} {d : DataW H} {p : List MemPlace} (hv : Value.okWide Tryz.prog W .any base 24 v) (h : DataW.Trod enc Tryz.prog W 0 (fun _ => true) true 24 v d p) :
    ∃ n k a len cap L, v = .agg #[.int .i64 n, .int .i64 k, .slice a len cap] ∧ CfgIn W n k a len cap L := by
  obtain ⟨v0, v1, v2, y0, y1, y2, m, rfl, _, _, h0, h1, h2⟩ := Joins.open_agg3 Tryz.underlying24 (by kernel_rfl) (by kernel_rfl) hv h
  obtain ⟨n, e0, _, w0⟩ := DataW.trod_int Tryz.underlying3 h0
  obtain ⟨k, e1, _, w1⟩ := DataW.trod_int Tryz.underlying3 h1
  obtain ⟨a, len, cap, L, e2, hL⟩ := texts_of_trod h2
  simp at e0 e1
  subst e0 e1 e2
  exact ⟨n, k, a, len, cap, L, rfl, bounds_i64 w0, bounds_i64 w1, hL⟩
/-- What the walk is told of a tag that came in. -/
def TagIn (n m : Int) : Prop := (-9223372036854775808 ≤ n ∧ n ≤ 9223372036854775807) ∧ (-9223372036854775808 ≤ m ∧ m ≤ 9223372036854775807)
set_option maxRecDepth 100000 in
theorem open_tag {H : Type} {enc : TypeId × Value → H} {W : World} {base : Nat} {v : Value} {d : DataW H} {p : List MemPlace} (hv : Value.okWide Tryz.prog W .any base 30 v) (h : DataW.Trod enc Tryz.prog W 0 (fun _ => true) true 30 v d p) :
    ∃ n m, v = .agg #[.int .i64 n, .int .i64 m] ∧ TagIn n m := by
  obtain ⟨v0, v1, y0, y1, k, rfl, _, _, h0, h1⟩ := Joins.open_agg2 Tryz.underlying30 (by kernel_rfl) (by kernel_rfl) hv h
  obtain ⟨n, e0, _, w0⟩ := DataW.trod_int Tryz.underlying3 h0
  obtain ⟨m, e1, _, w1⟩ := DataW.trod_int Tryz.underlying3 h1
  simp at e0 e1
  subst e0 e1
  exact ⟨n, m, rfl, bounds_i64 w0, bounds_i64 w1⟩
end Go.Proofs.YtjhjpijjfpfjeaaGreatDoor
