/- The walks of quorum.Check, quorum.Enough. -/
import Derived.Test.YtabboioamdphmaaGreatDoorKAskHears18
import Derived.Test.YtabboioamdphmaaGreatDoorKAskHears11
namespace Go.Proofs.YtabboioamdphmaaGreatDoor
open Go.RowKit

structure ErrQx (w : World) (E : Nat → Addr) : Prop where
  nx : ErrNx w E
  c2 : w.cell? ⟨2, 0, none⟩ = some (errV (E 2))
theorem ErrQx.below {n : Nat} {w w' : World} {E : Nat → Addr} (hb : Below n w w') (hn : w.heap.size ≤ n) (h : ErrQx w E) : ErrQx w' E :=
  ⟨h.nx.below hb hn, (hb.cell (Nat.lt_of_lt_of_le (lt_of_cell h.c2) hn)).trans h.c2⟩
theorem ErrEnv.qx {w : World} {E : Nat → Addr} (h : ErrEnv w E) : ErrQx w E := ⟨h.nx, h.c2⟩
/-- what the check of a configuration answers. -/
def configF (n k : Int) (L : List ByteArray) : Nat × Int := if isSpreadB n k = true then (if (L.length : Int) = n then nodesF L else (3, -1)) else (2, -1)
theorem configF_bad {n k : Int} {L : List ByteArray} (h : isSpreadB n k = false) : configF n k L = (2, -1) := by unfold configF; rw [h]; rfl
theorem configF_shape {n k : Int} {L : List ByteArray} (h : isSpreadB n k = true) (hl : (L.length : Int) ≠ n) : configF n k L = (3, -1) := by unfold configF; rw [if_pos h, if_neg hl]
theorem configF_nodes {n k : Int} {L : List ByteArray} (h : isSpreadB n k = true) (hl : (L.length : Int) = n) : configF n k L = nodesF L := by unfold configF; rw [if_pos h, if_pos hl]
theorem configF_zero {n k : Int} {L : List ByteArray} (h : (configF n k L).1 = 0) : (1 ≤ k ∧ k ≤ n ∧ n ≤ 12) ∧ (L.length : Int) = n ∧ L.Nodup ∧ (∀ s ∈ L, nameB s = true) ∧ configF n k L = (0, -1) := by
  cases hs : isSpreadB n k with
  | false => rw [configF_bad hs] at h; cases h
  | true =>
    by_cases hl : (L.length : Int) = n
    · rw [configF_nodes hs hl] at h ⊢
      have := nodesF_zero h
      exact ⟨of_decide_eq_true hs, hl, this.2.1, this.2.2.1, this.2.2.2⟩
    · rw [configF_shape hs hl] at h; cases h
/-- a configuration by value. -/
abbrev cfgV (n k : Int) (v : Value) : Value := .agg #[.int .i64 n, .int .i64 k, v]
/-- its box. -/
structure CfgAt (w : World) (b : Nat) (n k : Int) (v : Value) : Prop where
  c0 : w.cell? ⟨b, 0, none⟩ = some (.int .i64 n)
  c1 : w.cell? ⟨b, 1, none⟩ = some (.int .i64 k)
  c2 : w.cell? ⟨b, 2, none⟩ = some v
theorem CfgAt.new (w : World) (n k : Int) (v : Value) : CfgAt (w.alloc (.cells #[.int .i64 n, .int .i64 k, v] 24)) w.heap.size n k v := ⟨by simp, by simp, by simp⟩
theorem CfgAt.below {m : Nat} {w w' : World} {b : Nat} {n k : Int} {v : Value} (h : CfgAt w b n k v) (hb : Below m w w') (hn : b < m) : CfgAt w' b n k v :=
  ⟨(hb.cell (p := ⟨b, 0, none⟩) hn).trans h.c0, (hb.cell (p := ⟨b, 1, none⟩) hn).trans h.c1, (hb.cell (p := ⟨b, 2, none⟩) hn).trans h.c2⟩

set_option maxRecDepth 100000 in
set_option maxHeartbeats 2000000 in
theorem qcheck_walk (n k : Int) (n₀ : Nat) (a : Option Addr) (len cap : Nat) (L : List ByteArray) (w : World) (E : Nat → Addr) (hE : ErrQx w E) (hlen : L.length = len) (hcap : len ≤ cap) (hsz : ∀ j : Nat, (L[j]?.getD (⟨#[]⟩ : ByteArray)).size ≤ maxLen) (hI : TxsAt n₀ w a L) (hn : n₀ ≤ w.heap.size) :
    Calls Tryz.prog 33 #[cfgV n k (.slice a len cap)] w fun e w' => (∃ v, e = .returned v ∧ FltV w' E (configF n k L) v) ∧ Below w.heap.size w w' := by
  have hB0 : Below w.heap.size w (w.alloc (.cells #[.int .i64 n, .int .i64 k, .slice a len cap] 24)) := (Below.refl _ w).alloc (Nat.le_refl _) _
  have hz : w.heap.size < (w.alloc (.cells #[.int .i64 n, .int .i64 k, .slice a len cap] 24)).heap.size := by simp
  have hE0 := hE.below hB0 (Nat.le_refl _)
  have hC := CfgAt.new w n k (.slice a len cap)
  have hI0 := (hI.mono hn).below hB0
  cases hs : isSpreadB n k with
  | false =>
    have hp := powers_bad n k _ (errV (E 1)) hE0.nx.c1 (of_decide_eq_false hs)
    have Hp := Lib.hid hp
    have HB := Lib.hid hB0
    rw [configF_bad hs]
    clear hs hp hB0 hz hE0 hE hC hI0 hI hsz hlen
    go_enter Tryz.func33, Tryz.ntmps33
    go_wp2_with fail
    refine Hp.out.mono ?_
    rintro e w1 ⟨rfl, hq⟩
    have HB1 : Hid (Below w.heap.size w w1) := Lib.hid (by
      obtain ⟨q, rfl⟩ := hq
      exact HB.out.trans (same_below' _ q))
    clear hq
    go_wp2
    go_ret
    exact ⟨⟨_, rfl, .inr (.inl ⟨1, by decide, rfl, rfl⟩)⟩, HB1.out⟩
  | true =>
    have hsp := of_decide_eq_true hs
    obtain ⟨k, rfl⟩ := Int.eq_ofNat_of_zero_le (show 0 ≤ k by omega)
    obtain ⟨n, rfl⟩ := Int.eq_ofNat_of_zero_le (show 0 ≤ n by omega)
    have Hp := Lib.hid (powers_walk n k (w.alloc (.cells #[.int .i64 (n : Int), .int .i64 (k : Int), .slice a len cap] 24)) (by omega) (by omega) (by omega))
    have HB := Lib.hid (And.intro hB0 hz)
    have HE := Lib.hid hE0
    have HC := Lib.hid hC
    have HI := Lib.hid hI0
    have Hsz := Lib.hid hsz
    have Hlen := Lib.hid hlen
    by_cases hl : len = n
    · subst hl
      obtain ⟨F, hF⟩ : ∃ F, configF (len : Int) (k : Int) L = F := ⟨_, rfl⟩
      have hF2 := hF
      rw [configF_nodes hs (by omega)] at hF2
      have HF := Lib.hid hF2
      rw [hF]
      clear hF hF2 hs hsp hB0 hz hE0 hE hC hI0 hI hsz hlen
      go_enter Tryz.func33, Tryz.ntmps33
      go_wp2_with fail
      refine Hp.out.mono ?_
      rintro e w1 ⟨⟨v, bs, cps, rfl, _⟩, hb1⟩
      have HB1 := Lib.hid (HB.out.1.trans (hb1.mono HB.out.1.size))
      obtain ⟨c0, c1, c2⟩ := HC.out.below hb1 HB.out.2
      have Hk := Lib.hid (check_walk w.heap.size a len cap L w1 E (HE.out.below hb1 (Nat.le_refl _)).nx Hlen.out hcap Hsz.out (HI.out.below (hb1.mono HB.out.1.size)) HB1.out.size)
      clear hb1
      go_wp2_with fail
      refine Hk.out.mono ?_
      rintro e w2 ⟨⟨v, rfl, hv⟩, hb2⟩
      rw [HF.out] at hv
      have HV := Lib.hid (And.intro hv (HB1.out.trans (hb2.mono HB1.out.size)))
      clear hv hb2
      go_wp2
      go_ret
      exact ⟨⟨_, rfl, HV.out.1⟩, HV.out.2⟩
    · have e1 : ((len : Int) == (n : Int)) = false := beq_eq_false_iff_ne.2 (by omega)
      have e2 : ((len : Int) != (n : Int)) = true := bne_iff_ne.2 (by omega)
      have e3 : (len == n) = false := beq_eq_false_iff_ne.2 hl
      rw [configF_shape hs (by omega)]
      clear hs hsp hB0 hz hE0 hE hC hI0 hI hsz hlen hl
      go_enter Tryz.func33, Tryz.ntmps33
      go_wp2_with fail
      refine Hp.out.mono ?_
      rintro e w1 ⟨⟨v, bs, cps, rfl, _⟩, hb1⟩
      have HB1 := Lib.hid (HB.out.1.trans (hb1.mono HB.out.1.size))
      obtain ⟨c0, c1, c2⟩ := HC.out.below hb1 HB.out.2
      have hsh := (HE.out.below hb1 (Nat.le_refl _)).c2
      clear hb1
      go_wp2
      go_ret
      exact ⟨⟨_, rfl, .inr (.inl ⟨2, by decide, rfl, rfl⟩)⟩, HB1.out⟩

/-- what Enough answers. -/
def EnoughOut (w w' : World) (E : Nat → Addr) (n k : Int) (L : List ByteArray) (e : Ending) : Prop := Below w.heap.size w w' ∧
  (((configF n k L).1 = 0 ∧ e = .returned (.tuple #[.int .i64 ((n + k + 1) / 2), .nilIface])) ∨ ((configF n k L).1 ≠ 0 ∧ ∃ v, ((∃ x, v = errV x) ∨ ∃ m, v = faultV m) ∧ FltV w' E (configF n k L) v ∧ e = .returned (.tuple #[.int .i64 0, v])))
set_option maxRecDepth 100000 in
set_option maxHeartbeats 2000000 in
theorem enough_walk (n k : Int) (n₀ : Nat) (a : Option Addr) (len cap : Nat) (L : List ByteArray) (w : World) (E : Nat → Addr) (hE : ErrQx w E) (hlen : L.length = len) (hcap : len ≤ cap) (hsz : ∀ j : Nat, (L[j]?.getD (⟨#[]⟩ : ByteArray)).size ≤ maxLen) (hI : TxsAt n₀ w a L) (hn : n₀ ≤ w.heap.size) :
    Calls Tryz.prog 68 #[cfgV n k (.slice a len cap)] w fun e w' => EnoughOut w w' E n k L e := by
  have hB0 : Below w.heap.size w (w.alloc (.cells #[.int .i64 n, .int .i64 k, .slice a len cap] 24)) := (Below.refl _ w).alloc (Nat.le_refl _) _
  have hz : w.heap.size < (w.alloc (.cells #[.int .i64 n, .int .i64 k, .slice a len cap] 24)).heap.size := by simp
  have Hk := Lib.hid (qcheck_walk n k w.heap.size a len cap L _ E (hE.below hB0 (Nat.le_refl _)) hlen hcap hsz ((hI.mono hn).below hB0) hB0.size)
  have HB := Lib.hid (And.intro hB0 hz)
  have HC := Lib.hid (CfgAt.new w n k (.slice a len cap))
  have Hz := Lib.hid (fun h => configF_zero (n := n) (k := k) (L := L) h)
  obtain ⟨F, hF⟩ : ∃ F, configF n k L = F := ⟨_, rfl⟩
  have HF := Lib.hid hF
  rw [hF] at Hk Hz
  clear hF hB0 hz hE hI hsz hlen
  go_enter Tryz.func68, Tryz.ntmps68
  go_wp2_with fail
  refine Hk.out.mono ?_
  rintro e w1 ⟨⟨v, rfl, hv⟩, hb1⟩
  have HB1 := Lib.hid (HB.out.1.trans (hb1.mono HB.out.1.size))
  obtain ⟨c0, c1, c2⟩ := HC.out.below hb1 HB.out.2
  clear hb1
  by_cases h0 : F.1 = 0
  · obtain ⟨hF0, rfl⟩ := hv.nil h0
    obtain ⟨⟨h1, h2, h3⟩, _⟩ := Hz.out h0
    have H0 := Lib.hid h0
    clear hv h0 hF0
    go_wp2
    go_ret2
    exact ⟨HB1.out, .inl ⟨by rw [HF.out]; exact H0.out, rfl⟩⟩
  · have H0 := Lib.hid (And.intro h0 (And.intro (hv.some_ h0) hv))
    rcases hv.some_ h0 with ⟨x, rfl⟩ | ⟨m, rfl⟩
    · clear hv h0
      go_wp2
      go_ret2
      exact ⟨HB1.out, .inr ⟨by rw [HF.out]; exact H0.out.1, _, H0.out.2.1, by rw [HF.out]; exact H0.out.2.2, rfl⟩⟩
    · unfold faultV at H0 ⊢
      clear hv h0
      go_wp2
      go_ret2
      exact ⟨HB1.out, .inr ⟨by rw [HF.out]; exact H0.out.1, _, H0.out.2.1, by rw [HF.out]; exact H0.out.2.2, rfl⟩⟩
end Go.Proofs.YtabboioamdphmaaGreatDoor
/- Walks of the document's upTo and Spread; of both Times where they do not go together. -/
namespace Go.Proofs.YtabboioamdphmaaGreatDoor
open Go.RowKit

set_option maxHeartbeats 1000000 in
theorem upto_walk (k : Nat) (w : World) (hk : k ≤ 255) :
    Calls Tryz.prog 114 #[.int .i64 k] w fun e w' => (∃ v, e = .returned v ∧ OwnB w.heap.size w' v (List.range k)) ∧ Below w.heap.size w w' := by
  go_enter Tryz.func114, Tryz.ntmps114
  go_wp2
  go_loopw [3, 4] (fun v vi wr => ∃ i : Nat, i ≤ k ∧ vi = .int .i64 i ∧ Hid (OwnB w.heap.size wr v (List.range i) ∧ Below w.heap.size w wr)) (fun _ i _ => k - (intOf i).toNat)
  case atStart => exact ⟨0, by omega, rfl, Lib.hid ⟨OwnB.nil _ _, Below.refl _ _⟩⟩
  case round =>
    obtain ⟨i, hi, rfl, H⟩ := hrel
    have hi2 : i < k ∨ i = k := by omega
    rcases hi2 with hlt | rfl
    · have hlt2 : (i : Int) < k := by omega
      have hmod : (i : Int) % 256 = i := by omega
      have hl : (List.range i).length + 1 ≤ 140737488355328 := by simp; omega
      have hs2 := H.out.2.size
      go_wp2_with (at_builtin; refine append_byte 10 13 rfl rfl w.heap.size _ _ i rfl rfl H.out.1 hl hs2 ?_)
      intro v' w' k1 k2 k3
      have hb : Below w.heap.size w w' := (H.out.2.alloc hs2 _).grown k2 (by simp; omega) (fun q e => (H.out.1.lt q e).1)
      have hr : OwnB w.heap.size w' v' (List.range (i + 1)) := by rw [List.range_succ]; exact k1
      have HR := Lib.hid (And.intro hr hb)
      clear k1 k2 k3 hb hr
      go_wp2
      go_roundw
      case rel => exact ⟨i + 1, by omega, by go_num, HR⟩
      case measure => simp [intOf]; omega
    · go_wp2
      go_ret
      exact ⟨⟨_, rfl, H.out.1⟩, H.out.2⟩

set_option maxRecDepth 100000 in
set_option maxHeartbeats 4000000 in
theorem rspread_walk (n k : Nat) (w : World) (hk : 1 ≤ k) (hkn : k ≤ n) (hn : n ≤ 12) :
    Calls Tryz.prog 90 #[.int .i64 n, .int .i64 k] w fun e w' => (∃ v bs caps, e = .returned v ∧ OwnM w.heap.size w' v n k bs caps (Mx.spr k)) ∧ Below w.heap.size w w' := by
  have hmk := fun (W : World) => run_make_row' (P := Tryz.prog) (w := W) 112 5 (.int .u8 0) 1 Tryz.underlying112 info_uint8 rfl .i64 .i64 k (by omega) (by omega)
  have Hmk := Lib.hid hmk
  clear hmk
  go_enter Tryz.func90, Tryz.ntmps90
  go_wp2_with fail
  refine (upto_walk k w (by omega)).mono ?_
  rintro e w1 ⟨⟨vx, rfl, hvx⟩, hb1⟩
  obtain ⟨ax, cx, hve, _, _, hIx⟩ := OwnB.row hvx
  rw [hve, List.length_range]
  have HX := Lib.hid hIx
  have HB1 := Lib.hid hb1
  have hsw := hb1.size
  clear hve hvx hIx hb1
  go_wp2
  go_loopw [6, 7] (fun vo vi wr => ∃ (i : Nat) (bs caps : Nat → Nat), i ≤ n ∧ vi = .int .i64 i ∧ Hid (OwnM w1.heap.size wr vo i k bs caps (Mx.spr k) ∧ Below w1.heap.size w1 wr)) (fun _ i _ => n - (intOf i).toNat)
  case atStart => exact ⟨0, fun _ => 0, fun _ => 0, by omega, rfl, Lib.hid ⟨OwnM.nil _ _ _ _ _ _, Below.refl _ _⟩⟩
  case round =>
    obtain ⟨i, bs, caps, hi, rfl, H⟩ := hrel
    have hi2 : i < n ∨ i = n := by omega
    rcases hi2 with hlt | rfl
    · have hlt2 : (i : Int) < n := by omega
      have hmk := Hmk.out wr
      obtain ⟨wo, rfl⟩ : ∃ wo : World, wo = wr := ⟨_, rfl⟩
      go_wp2
      have hsz := H.out.2.size
      have hrow := RowV.made wo k
      obtain ⟨W0, hW0⟩ : ∃ W0, (wo.alloc (.cells (madeCells #[.int .u8 0] k) 5)) = W0 := ⟨_, rfl⟩
      have hb0 : Below w1.heap.size w1 W0 := by rw [← hW0]; exact H.out.2.alloc hsz _
      have hm0 : OwnM w1.heap.size W0 u6 i k bs caps (Mx.spr k) := by rw [← hW0]; exact H.out.1.below ((Below.refl _ wo).alloc (Nat.le_refl _) _) (Nat.le_refl _)
      have hs0 : W0.heap.size = wo.heap.size + 1 := by rw [← hW0]; simp
      have hl0 : ∀ i', i' < i → bs i' ≠ wo.heap.size := fun i' h e => by have := H.out.1.lt i' h; omega
      have ho0 : u6.ownBlock ≠ some wo.heap.size := fun e => by have := (H.out.1.own.lt _ e).2; omega
      rw [hW0] at hrow ⊢
      obtain ⟨g, hg⟩ : ∃ g, wo.heap.size = g := ⟨_, rfl⟩
      rw [hg] at hrow hs0 hl0 ho0 hsz ⊢
      have Hx := Lib.hid (And.intro hrow (And.intro hb0 (And.intro hm0 (And.intro hs0 (And.intro hl0 ho0)))))
      clear hrow hb0 hm0 hs0 hl0 ho0 hW0 hg hmk
      go_loopw [9] (fun vt wr => ∃ j : Nat, j ≤ k ∧ vt = .int .i64 j ∧ Hid (OnlyB g W0 wr ∧ RowV wr g k (firstK j (Mx.spr k i) (fun _ => 0)))) (fun t _ => k - (intOf t).toNat)
      case atStart => exact ⟨0, by omega, rfl, Lib.hid ⟨OnlyB.refl _ _, Hx.out.1.congr fun j _ => by unfold firstK; rw [if_neg (by omega)]⟩⟩
      case round =>
        obtain ⟨j, hj, rfl, H2⟩ := hrel
        have hj2 : j < k ∨ j = k := by omega
        rcases hj2 with hjl | rfl
        · have hjl2 : (j : Int) < k := by omega
          have hmod : (i : Int) % 256 = i := by omega
          have hlr : (List.range k).length = k := List.length_range
          have hI2 : RowAt w1.heap.size wr ax (List.range k) := HX.out.below (Hx.out.2.1.trans (H2.out.1.below hsz))
          have hbs := basis_walk w1.heap.size ax cx (List.range k) j i wr (Mx.range_bytes (by omega)) (Mx.range_unlike k) (by omega) (by rw [hlr]; unfold maxLen; omega) (by rw [hlr]; exact hjl) hI2
          rw [hlr] at hbs
          have hnew : bas (List.range k) j i = Mx.spr k i j := rfl
          rw [hnew] at hbs
          have hxl := Mx.by_spr k i j
          obtain ⟨x, hxe⟩ : ∃ x, Mx.spr k i j = x := ⟨_, rfl⟩
          rw [hxe] at hbs hxl
          have hcD := H2.out.2.cell j hjl
          have hfr := H2.out.2.free j hjl
          have Hbs := Lib.hid hbs
          have Hxe := Lib.hid hxe
          clear hbs hxe hI2 hnew hlr
          go_wp2_with fail
          refine Hbs.out.mono ?_
          rintro e w' ⟨rfl, q, rfl⟩
          have hcD2 : (wr.drewN q).cell? ⟨g, j, none⟩ = some (.int .u8 (firstK j (Mx.spr k i) (fun _ => 0) j : Nat)) := hcD
          go_wp2
          go_roundw
          case rel =>
            refine ⟨j + 1, by omega, by go_num, Lib.hid ⟨?_, ?_⟩⟩
            · exact (H2.out.1.trans (OnlyB.drewN g wr q)).trans (OnlyB.setCell _ _ _ _)
            · refine (RowV.set (x := x) hjl (RowV.drewN q H2.out.2)).congr fun j' hj' => ?_
              unfold Mx.upd firstK
              by_cases e : j' = j
              · rw [if_pos e, if_pos (by omega), e]; exact Hxe.out.symm
              · rw [if_neg e]
                by_cases e2 : j' < j
                · rw [if_pos e2, if_pos (by omega)]
                · rw [if_neg e2, if_neg (by omega)]
          case measure => simp [intOf]; omega
        · obtain ⟨_, hb0, hm0, hs0, hl0, ho0⟩ := Hx.out
          have hm1 := hm0.only H2.out.1 hl0 ho0
          have hb1 := hb0.trans (H2.out.1.below hsz)
          have hgl : g < wr.heap.size := by have := H2.out.1.size; omega
          have hown := Lib.hid hm1.own
          have hul : ((List.range i).map fun i => Value.slice (some ⟨bs i, 0, none⟩) j (caps i)).length ≤ 1000000 := by simp; omega
          have hsz1 := hb1.size
          have hrowf := H2.out.2.congr (g := Mx.spr j i) (fun j' hj' => by unfold firstK; rw [if_pos hj'])
          have Hy := Lib.hid (And.intro hm1 (And.intro hb1 (And.intro hl0 (And.intro ho0 hrowf))))
          clear hb0 hm0 hs0 hl0 ho0 hm1 hb1 hrowf
          go_wp2_with (at_builtin; refine append_rowv 32 34 rfl rfl w1.heap.size _ _ (some ⟨g, 0, none⟩) j j rfl rfl hown.out hul hsz1 ?_)
          intro v' w' k1 k2 k3
          obtain ⟨hm1, hb1, hl0, ho0, hrowf⟩ := Hy.out
          have hm2 := hm1.snoc hrowf hsz hgl hl0 ho0 ⟨Nat.le_refl _, by unfold maxLen; omega⟩ k1 k2 k3
          have hb2 : Below w1.heap.size w1 w' := (hb1.alloc hsz1 _).grown k2 (by simp; omega) (fun j e => (hm1.own.lt j e).1)
          have hm3 := hm2.congr (M' := Mx.spr j) (fun i' hi' j hj => by
            unfold Mx.putR
            by_cases e : i' = i
            · rw [if_pos e, e]
            · rw [if_neg e])
          have HR := Lib.hid (And.intro hm3 hb2)
          clear hm1 hb1 hl0 ho0 hrowf hm2 hb2 hm3 k1 k2 k3 Hy hown
          go_wp2
          go_roundw
          case rel => exact ⟨i + 1, _, _, by omega, by go_num, HR⟩
          case measure => simp [intOf]; omega
    · go_wp2
      go_ret
      exact ⟨⟨_, bs, caps, rfl, H.out.1.lower hsw⟩, HB1.out.trans (H.out.2.mono hsw)⟩

/-- do two go together? -/
def Together (LA LB : List (List Nat)) : Prop := IsMat LA ∧ IsMat LB ∧ (LA[0]?.getD []).length = LB.length
set_option maxHeartbeats 1000000 in
theorem times_bad (n₀ : Nat) (aa ab : Option Addr) (ca cb : Nat) (LA LB : List (List Nat)) (w : World) (a2 : Addr) (hz : w.cell? ⟨2, 0, none⟩ = some (errV a2)) (hn : n₀ ≤ w.heap.size) (hA : RowsAt n₀ w aa LA) (hB : RowsAt n₀ w ab LB) (h : ¬ Together LA LB) :
    Calls Tryz.prog 119 #[.slice aa LA.length ca, .slice ab LB.length cb] w fun e w' => e = .returned (.tuple #[.slice none 0 0, errV a2]) ∧ Below w.heap.size w w' := by
  have HA := Lib.hid hA
  have HB := Lib.hid hB
  have Hz := Lib.hid hz
  obtain ⟨nA, hnA⟩ : ∃ n, LA.length = n := ⟨_, rfl⟩
  obtain ⟨nB, hnB⟩ : ∃ n, LB.length = n := ⟨_, rfl⟩
  have H := Lib.hid h
  by_cases h1 : IsMat LA
  · have hc1 := check_yes n₀ aa ca LA w _ hz hA h1
    by_cases h2 : IsMat LB
    · obtain ⟨b, off, p, o, caps, hae, hR⟩ := hA.mat h1
      have h3 : (LA[0]?.getD []).length ≠ LB.length := fun e => h ⟨h1, h2, e⟩
      have h4 := h1.n1
      have hc0 := hR.head 0 h4
      rw [Nat.add_zero] at hc0
      have hlo := hR.lo
      obtain ⟨c, hc⟩ : ∃ c, (LA[0]?.getD []).length = c := ⟨_, rfl⟩
      rw [hc] at hc0 h3
      have hne1 : ((c : Int) != (nB : Int)) = true := by simp; omega
      have hne2 : (c != nB) = true := by simp; omega
      have hn3 : (0 : Int) < nA := by omega
      rw [hnA] at hc1
      rw [hnA, hnB]
      rw [hae] at hc1 ⊢
      have Hc1 := Lib.hid hc1
      have Hx := Lib.hid (And.intro hnB h2)
      have Hc0 := Lib.hid hc0
      clear hA hB hz h h1 h2 hc1 hnA hnB hae hR hc hc0 h3
      go_enter Tryz.func119, Tryz.ntmps119
      go_wp2_with fail
      refine Hc1.out.mono ?_
      rintro e w1 ⟨rfl, hb1⟩
      have hz1 : w1.cell? ⟨2, 0, none⟩ = some (errV a2) := (hb1.cell (lt_of_cell Hz.out)).trans Hz.out
      have hc2 := check_yes n₀ ab cb LB w1 _ hz1 (HB.out.below (hb1.mono hn)) Hx.out.2
      rw [Hx.out.1] at hc2
      have Hc2 := Lib.hid hc2
      have HB1 := Lib.hid (And.intro hb1 hz1)
      clear hc2 hb1 hz1
      go_wp2_with fail
      refine Hc2.out.mono ?_
      rintro e w2 ⟨rfl, hb2⟩
      have hb3 := HB1.out.1.trans (hb2.mono HB1.out.1.size)
      have hz2 : w2.cell? ⟨2, 0, none⟩ = some (errV a2) := (hb3.cell (lt_of_cell Hz.out)).trans Hz.out
      have hc0 : w2.cell? ⟨b, off, none⟩ = some (.slice (some ⟨p 0, o 0, none⟩) c (caps 0)) := (hb3.cell (p := ⟨b, off, none⟩) (by show b < w.heap.size; omega)).trans Hc0.out
      have HB3 := Lib.hid hb3
      clear hb2 hb3 HB1
      go_wp2
      go_quiet (fail)
      go_wp2
      go_ret2
      exact ⟨rfl, HB3.out.trans (same_below' _ nq)⟩
    · rw [hnA] at hc1
      rw [hnA, hnB]
      have Hc1 := Lib.hid hc1
      have Hx := Lib.hid (And.intro hnB h2)
      clear hA hB hz h h1 h2 hc1 hnA hnB
      go_enter Tryz.func119, Tryz.ntmps119
      go_wp2_with fail
      refine Hc1.out.mono ?_
      rintro e w1 ⟨rfl, hb1⟩
      have hz1 : w1.cell? ⟨2, 0, none⟩ = some (errV a2) := (hb1.cell (lt_of_cell Hz.out)).trans Hz.out
      have hc2 := check_no n₀ ab cb LB w1 _ hz1 (HB.out.below (hb1.mono hn)) Hx.out.2
      rw [Hx.out.1] at hc2
      have Hc2 := Lib.hid hc2
      have HB1 := Lib.hid (And.intro hb1 hz1)
      clear hc2 hb1 hz1
      go_wp2_with fail
      refine Hc2.out.mono ?_
      rintro e w2 ⟨rfl, hb2⟩
      have hb3 := HB1.out.1.trans (hb2.mono HB1.out.1.size)
      have hz2 : w2.cell? ⟨2, 0, none⟩ = some (errV a2) := (hb3.cell (lt_of_cell Hz.out)).trans Hz.out
      have HB3 := Lib.hid hb3
      clear hb2 hb3 HB1
      go_wp2
      go_quiet (fail)
      go_wp2
      go_ret2
      exact ⟨rfl, HB3.out.trans (same_below' _ nq)⟩
  · have hc1 := check_no n₀ aa ca LA w _ hz hA h1
    rw [hnA] at hc1
    rw [hnA, hnB]
    have Hc1 := Lib.hid hc1
    clear hA hB hz h h1 hc1 hnA hnB
    go_enter Tryz.func119, Tryz.ntmps119
    go_wp2_with fail
    refine Hc1.out.mono ?_
    rintro e w1 ⟨rfl, hb1⟩
    have hz1 : w1.cell? ⟨2, 0, none⟩ = some (errV a2) := (hb1.cell (lt_of_cell Hz.out)).trans Hz.out
    have HB1 := Lib.hid hb1
    clear hb1
    go_wp2
    go_quiet (fail)
    go_wp2
    go_ret2
    exact ⟨rfl, HB1.out.trans (same_below' _ nq)⟩
end Go.Proofs.YtabboioamdphmaaGreatDoor
