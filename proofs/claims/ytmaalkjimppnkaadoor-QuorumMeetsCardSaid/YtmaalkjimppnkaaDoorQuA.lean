/- The walks of quorum.Check, quorum.Enough. -/
import Derived.Test.YtmaalkjimppnkaaDoorNds
import Derived.Test.YtmaalkjimppnkaaDoorMatL
namespace Go.Proofs.YtmaalkjimppnkaaDoor
open Go.RowKit

structure ErrQx (w : World) (E : Nat → Addr) : Prop where
  nx : ErrNx w E
  c2 : w.cell? ⟨5, 0, none⟩ = some (errV (E 2))
theorem ErrQx.below {n : Nat} {w w' : World} {E : Nat → Addr} (hb : Below n w w') (hn : w.heap.size ≤ n) (h : ErrQx w E) : ErrQx w' E :=
  ⟨h.nx.below hb hn, (hb.cell (Nat.lt_of_lt_of_le (lt_of_cell h.c2) hn)).trans h.c2⟩
theorem ErrEnv.qx {w : World} {E : Nat → Addr} (h : ErrEnv w E) : ErrQx w E := ⟨h.nx, h.c2⟩
/-- what the check of a configuration answers. -/
def configF (n k : Int) (L : List ByteArray) : Nat × Int := if isSpreadB n k = true then (if (L.length : Int) = n then nodesF L else (3, -1)) else (2, -1)
theorem configF_bad {n k : Int} {L : List ByteArray} (h : isSpreadB n k = false) : configF n k L = (2, -1) := by unfold configF; rw [h]; rfl
theorem configF_shape {n k : Int} {L : List ByteArray} (h : isSpreadB n k = true) (hl : (L.length : Int) ≠ n) : configF n k L = (3, -1) := by unfold configF; rw [if_pos h, if_neg hl]
theorem configF_nodes {n k : Int} {L : List ByteArray} (h : isSpreadB n k = true) (hl : (L.length : Int) = n) : configF n k L = nodesF L := by unfold configF; rw [if_pos h, if_pos hl]
theorem configF_zero {n k : Int} {L : List ByteArray} (h : (configF n k L).1 = 0) : (1 ≤ k ∧ k ≤ n ∧ n ≤ 12) ∧ (L.length : Int) = n ∧ L.Nodup ∧ (∀ s ∈ L, nameB s = true) ∧ configF n k L = (0, -1) := by
  cases hs : isSpreadB n k with
  | false => rw [configF_bad hs] at h; cases h
  | true =>
    by_cases hl : (L.length : Int) = n
    · rw [configF_nodes hs hl] at h ⊢
      have := nodesF_zero h
      exact ⟨of_decide_eq_true hs, hl, this.2.1, this.2.2.1, this.2.2.2⟩
    · rw [configF_shape hs hl] at h; cases h
/-- a configuration by value. -/
abbrev cfgV (n k : Int) (v : Value) : Value := .agg #[.int .i64 n, .int .i64 k, v]
/-- its box. -/
structure CfgAt (w : World) (b : Nat) (n k : Int) (v : Value) : Prop where
  c0 : w.cell? ⟨b, 0, none⟩ = some (.int .i64 n)
  c1 : w.cell? ⟨b, 1, none⟩ = some (.int .i64 k)
  c2 : w.cell? ⟨b, 2, none⟩ = some v
theorem CfgAt.new (w : World) (n k : Int) (v : Value) : CfgAt (w.alloc (.cells #[.int .i64 n, .int .i64 k, v] 24)) w.heap.size n k v := ⟨by simp, by simp, by simp⟩
theorem CfgAt.below {m : Nat} {w w' : World} {b : Nat} {n k : Int} {v : Value} (h : CfgAt w b n k v) (hb : Below m w w') (hn : b < m) : CfgAt w' b n k v :=
  ⟨(hb.cell (p := ⟨b, 0, none⟩) hn).trans h.c0, (hb.cell (p := ⟨b, 1, none⟩) hn).trans h.c1, (hb.cell (p := ⟨b, 2, none⟩) hn).trans h.c2⟩

set_option maxRecDepth 100000 in
set_option maxHeartbeats 2000000 in
theorem qcheck_walk (n k : Int) (n₀ : Nat) (a : Option Addr) (len cap : Nat) (L : List ByteArray) (w : World) (E : Nat → Addr) (hE : ErrQx w E) (hlen : L.length = len) (hcap : len ≤ cap) (hsz : ∀ j : Nat, (L[j]?.getD (⟨#[]⟩ : ByteArray)).size ≤ maxLen) (hI : TxsAt n₀ w a L) (hn : n₀ ≤ w.heap.size) :
    Calls Tryd.prog 40 #[cfgV n k (.slice a len cap)] w fun e w' => (∃ v, e = .returned v ∧ FltV w' E (configF n k L) v) ∧ Below w.heap.size w w' := by
  have hB0 : Below w.heap.size w (w.alloc (.cells #[.int .i64 n, .int .i64 k, .slice a len cap] 24)) := (Below.refl _ w).alloc (Nat.le_refl _) _
  have hz : w.heap.size < (w.alloc (.cells #[.int .i64 n, .int .i64 k, .slice a len cap] 24)).heap.size := by simp
  have hE0 := hE.below hB0 (Nat.le_refl _)
  have hC := CfgAt.new w n k (.slice a len cap)
  have hI0 := (hI.mono hn).below hB0
  cases hs : isSpreadB n k with
  | false =>
    have hp := powers_bad n k _ (errV (E 1)) hE0.nx.c1 (of_decide_eq_false hs)
    have Hp := Lib.hid hp
    have HB := Lib.hid hB0
    rw [configF_bad hs]
    clear hs hp hB0 hz hE0 hE hC hI0 hI hsz hlen
    go_enter Tryd.func40, Tryd.ntmps40
    go_wp2_with fail
    refine Hp.out.mono ?_
    rintro e w1 ⟨rfl, hq⟩
    have HB1 : Hid (Below w.heap.size w w1) := Lib.hid (by
      obtain ⟨q, rfl⟩ := hq
      exact HB.out.trans (same_below' _ q))
    clear hq
    go_wp2
    go_ret
    exact ⟨⟨_, rfl, .inr (.inl ⟨1, by decide, rfl, rfl⟩)⟩, HB1.out⟩
  | true =>
    have hsp := of_decide_eq_true hs
    obtain ⟨k, rfl⟩ := Int.eq_ofNat_of_zero_le (show 0 ≤ k by omega)
    obtain ⟨n, rfl⟩ := Int.eq_ofNat_of_zero_le (show 0 ≤ n by omega)
    have Hp := Lib.hid (powers_walk n k (w.alloc (.cells #[.int .i64 (n : Int), .int .i64 (k : Int), .slice a len cap] 24)) (by omega) (by omega) (by omega))
    have HB := Lib.hid (And.intro hB0 hz)
    have HE := Lib.hid hE0
    have HC := Lib.hid hC
    have HI := Lib.hid hI0
    have Hsz := Lib.hid hsz
    have Hlen := Lib.hid hlen
    by_cases hl : len = n
    · subst hl
      obtain ⟨F, hF⟩ : ∃ F, configF (len : Int) (k : Int) L = F := ⟨_, rfl⟩
      have hF2 := hF
      rw [configF_nodes hs (by omega)] at hF2
      have HF := Lib.hid hF2
      rw [hF]
      clear hF hF2 hs hsp hB0 hz hE0 hE hC hI0 hI hsz hlen
      go_enter Tryd.func40, Tryd.ntmps40
      go_wp2_with fail
      refine Hp.out.mono ?_
      rintro e w1 ⟨⟨v, bs, cps, rfl, _⟩, hb1⟩
      have HB1 := Lib.hid (HB.out.1.trans (hb1.mono HB.out.1.size))
      obtain ⟨c0, c1, c2⟩ := HC.out.below hb1 HB.out.2
      have Hk := Lib.hid (check_walk w.heap.size a len cap L w1 E (HE.out.below hb1 (Nat.le_refl _)).nx Hlen.out hcap Hsz.out (HI.out.below (hb1.mono HB.out.1.size)) HB1.out.size)
      clear hb1
      go_wp2_with fail
      refine Hk.out.mono ?_
      rintro e w2 ⟨⟨v, rfl, hv⟩, hb2⟩
      rw [HF.out] at hv
      have HV := Lib.hid (And.intro hv (HB1.out.trans (hb2.mono HB1.out.size)))
      clear hv hb2
      go_wp2
      go_ret
      exact ⟨⟨_, rfl, HV.out.1⟩, HV.out.2⟩
    · have e1 : ((len : Int) == (n : Int)) = false := beq_eq_false_iff_ne.2 (by omega)
      have e2 : ((len : Int) != (n : Int)) = true := bne_iff_ne.2 (by omega)
      have e3 : (len == n) = false := beq_eq_false_iff_ne.2 hl
      rw [configF_shape hs (by omega)]
      clear hs hsp hB0 hz hE0 hE hC hI0 hI hsz hlen hl
      go_enter Tryd.func40, Tryd.ntmps40
      go_wp2_with fail
      refine Hp.out.mono ?_
      rintro e w1 ⟨⟨v, bs, cps, rfl, _⟩, hb1⟩
      have HB1 := Lib.hid (HB.out.1.trans (hb1.mono HB.out.1.size))
      obtain ⟨c0, c1, c2⟩ := HC.out.below hb1 HB.out.2
      have hsh := (HE.out.below hb1 (Nat.le_refl _)).c2
      clear hb1
      go_wp2
      go_ret
      exact ⟨⟨_, rfl, .inr (.inl ⟨2, by decide, rfl, rfl⟩)⟩, HB1.out⟩

/-- what Enough answers. -/
def EnoughOut (w w' : World) (E : Nat → Addr) (n k : Int) (L : List ByteArray) (e : Ending) : Prop := Below w.heap.size w w' ∧
  (((configF n k L).1 = 0 ∧ e = .returned (.tuple #[.int .i64 ((n + k + 1) / 2), .nilIface])) ∨ ((configF n k L).1 ≠ 0 ∧ ∃ v, ((∃ x, v = errV x) ∨ ∃ m, v = faultV m) ∧ FltV w' E (configF n k L) v ∧ e = .returned (.tuple #[.int .i64 0, v])))
set_option maxRecDepth 100000 in
set_option maxHeartbeats 2000000 in
theorem enough_walk (n k : Int) (n₀ : Nat) (a : Option Addr) (len cap : Nat) (L : List ByteArray) (w : World) (E : Nat → Addr) (hE : ErrQx w E) (hlen : L.length = len) (hcap : len ≤ cap) (hsz : ∀ j : Nat, (L[j]?.getD (⟨#[]⟩ : ByteArray)).size ≤ maxLen) (hI : TxsAt n₀ w a L) (hn : n₀ ≤ w.heap.size) :
    Calls Tryd.prog 15 #[cfgV n k (.slice a len cap)] w fun e w' => EnoughOut w w' E n k L e := by
  have hB0 : Below w.heap.size w (w.alloc (.cells #[.int .i64 n, .int .i64 k, .slice a len cap] 24)) := (Below.refl _ w).alloc (Nat.le_refl _) _
  have hz : w.heap.size < (w.alloc (.cells #[.int .i64 n, .int .i64 k, .slice a len cap] 24)).heap.size := by simp
  have Hk := Lib.hid (qcheck_walk n k w.heap.size a len cap L _ E (hE.below hB0 (Nat.le_refl _)) hlen hcap hsz ((hI.mono hn).below hB0) hB0.size)
  have HB := Lib.hid (And.intro hB0 hz)
  have HC := Lib.hid (CfgAt.new w n k (.slice a len cap))
  have Hz := Lib.hid (fun h => configF_zero (n := n) (k := k) (L := L) h)
  obtain ⟨F, hF⟩ : ∃ F, configF n k L = F := ⟨_, rfl⟩
  have HF := Lib.hid hF
  rw [hF] at Hk Hz
  clear hF hB0 hz hE hI hsz hlen
  go_enter Tryd.func15, Tryd.ntmps15
  go_wp2_with fail
  refine Hk.out.mono ?_
  rintro e w1 ⟨⟨v, rfl, hv⟩, hb1⟩
  have HB1 := Lib.hid (HB.out.1.trans (hb1.mono HB.out.1.size))
  obtain ⟨c0, c1, c2⟩ := HC.out.below hb1 HB.out.2
  clear hb1
  by_cases h0 : F.1 = 0
  · obtain ⟨hF0, rfl⟩ := hv.nil h0
    obtain ⟨⟨h1, h2, h3⟩, _⟩ := Hz.out h0
    have H0 := Lib.hid h0
    clear hv h0 hF0
    go_wp2
    go_ret2
    exact ⟨HB1.out, .inl ⟨by rw [HF.out]; exact H0.out, rfl⟩⟩
  · have H0 := Lib.hid (And.intro h0 (And.intro (hv.some_ h0) hv))
    rcases hv.some_ h0 with ⟨x, rfl⟩ | ⟨m, rfl⟩
    · clear hv h0
      go_wp2
      go_ret2
      exact ⟨HB1.out, .inr ⟨by rw [HF.out]; exact H0.out.1, _, H0.out.2.1, by rw [HF.out]; exact H0.out.2.2, rfl⟩⟩
    · unfold faultV at H0 ⊢
      clear hv h0
      go_wp2
      go_ret2
      exact ⟨HB1.out, .inr ⟨by rw [HF.out]; exact H0.out.1, _, H0.out.2.1, by rw [HF.out]; exact H0.out.2.2, rfl⟩⟩
end Go.Proofs.YtmaalkjimppnkaaDoor
