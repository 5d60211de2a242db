/- The walk of carry.New. -/
import Derived.Test.YtabboioamdphmaaGreatDoorSCarryHears33
import Derived.Deep.RegionWith
namespace Go.Proofs.YtabboioamdphmaaGreatDoor
section
open Go.RowKit Go.Maps Go.BigFrame

def kMover : ByteArray := ⟨#[109, 111, 118, 101, 114]⟩
def carF (op n k : Int) (L : List ByteArray) (n2 k2 : Int) (L2 : List ByteArray) (cf : Int) (key : ByteArray) : Nat × Int :=
  if (configF n k L).1 ≠ 0 then configF n k L else if (configF n2 k2 L2).1 ≠ 0 then configF n2 k2 L2 else if nameB key = false then (4, -1) else if op < 0 ∨ cf < 0 ∨ cf = 9223372036854775807 then (2, -1) else (0, -1)
theorem carF_1 {op n k n2 k2 cf : Int} {L L2 : List ByteArray} {key : ByteArray} (h : (configF n k L).1 ≠ 0) : carF op n k L n2 k2 L2 cf key = configF n k L := by unfold carF; rw [if_pos h]
theorem carF_2 {op n k n2 k2 cf : Int} {L L2 : List ByteArray} {key : ByteArray} (h : (configF n k L).1 = 0) (h2 : (configF n2 k2 L2).1 ≠ 0) : carF op n k L n2 k2 L2 cf key = configF n2 k2 L2 := by unfold carF; rw [if_neg (by omega), if_pos h2]
theorem carF_name {op n k n2 k2 cf : Int} {L L2 : List ByteArray} {key : ByteArray} (h : (configF n k L).1 = 0) (h2 : (configF n2 k2 L2).1 = 0) (h3 : nameB key = false) : carF op n k L n2 k2 L2 cf key = (4, -1) := by unfold carF; rw [if_neg (by omega), if_neg (by omega), if_pos h3]
theorem carF_bound {op n k n2 k2 cf : Int} {L L2 : List ByteArray} {key : ByteArray} (h : (configF n k L).1 = 0) (h2 : (configF n2 k2 L2).1 = 0) (h3 : nameB key = true) (h4 : op < 0 ∨ cf < 0 ∨ cf = 9223372036854775807) : carF op n k L n2 k2 L2 cf key = (2, -1) := by unfold carF; rw [if_neg (by omega), if_neg (by omega), if_neg (by rw [h3]; decide), if_pos h4]
theorem carF_ok {op n k n2 k2 cf : Int} {L L2 : List ByteArray} {key : ByteArray} (h : (configF n k L).1 = 0) (h2 : (configF n2 k2 L2).1 = 0) (h3 : nameB key = true) (h4 : ¬ (op < 0 ∨ cf < 0 ∨ cf = 9223372036854775807)) : carF op n k L n2 k2 L2 cf key = (0, -1) := by unfold carF; rw [if_neg (by omega), if_neg (by omega), if_neg (by rw [h3]; decide), if_neg h4]
theorem carF_zero {op n k n2 k2 cf : Int} {L L2 : List ByteArray} {key : ByteArray} (h : (carF op n k L n2 k2 L2 cf key).1 = 0) : (configF n k L).1 = 0 ∧ (configF n2 k2 L2).1 = 0 ∧ nameB key = true ∧ ¬ (op < 0 ∨ cf < 0 ∨ cf = 9223372036854775807) := by
  by_cases h1 : (configF n k L).1 = 0
  · by_cases h2 : (configF n2 k2 L2).1 = 0
    · cases h3 : nameB key with
      | false => rw [carF_name h1 h2 h3] at h; cases h
      | true =>
        by_cases h4 : op < 0 ∨ cf < 0 ∨ cf = 9223372036854775807
        · rw [carF_bound h1 h2 h3 h4] at h; cases h
        · exact ⟨h1, h2, rfl, h4⟩
    · rw [carF_2 h1 h2] at h; exact absurd h h2
  · rw [carF_1 h1] at h; exact absurd h h1
def newC (op n k : Int) (L : List ByteArray) (n2 k2 : Int) (L2 : List ByteArray) (cf : Int) (key : ByteArray) : AskS :=
  ⟨⟨kMover, key, op, cf, n.toNat, k.toNat, L, kSealed, []⟩, 0, false, true, n2.toNat, k2.toNat, L2, 0, (0, 0), ⟨#[]⟩, false⟩
theorem newC_ok {op n k n2 k2 cf : Int} {L L2 : List ByteArray} {key : ByteArray} (h : (carF op n k L n2 k2 L2 cf key).1 = 0) (hcf : cf ≤ 9223372036854775807) : CarOk (newC op n k L n2 k2 L2 cf key) := by
  obtain ⟨h1, h2, h3, h4⟩ := carF_zero h
  obtain ⟨p1, p2, _, _, p5⟩ := configF_zero h1
  obtain ⟨q1, q2, _, _, q5⟩ := configF_zero h2
  refine ⟨⟨?_, List.nodup_nil, fun p hp => by cases hp⟩, rfl, rfl, Nat.zero_le _, fun _ => rfl, Nat.zero_le _, fun h9 => (by cases h9), fun h9 => (by cases h9), fun _ => ⟨⟨?_, ?_⟩, ?_⟩⟩
  · show configF ((n.toNat : Nat) : Int) ((k.toNat : Nat) : Int) L = (0, -1)
    rw [Int.toNat_of_nonneg (by omega), Int.toNat_of_nonneg (by omega)]
    exact p5
  · show 0 ≤ cf
    omega
  · show cf < 9223372036854775807
    omega
  · show configF ((n2.toNat : Nat) : Int) ((k2.toNat : Nat) : Int) L2 = (0, -1)
    rw [Int.toNat_of_nonneg (by omega), Int.toNat_of_nonneg (by omega)]
    exact q5
def CNewOut (w w' : World) (E : Nat → Addr) (F : Nat × Int) (a0 : AskS) (e : Ending) : Prop :=
  ∃ pv ev, e = .returned (.tuple #[pv, ev]) ∧ Below w.heap.size w w' ∧ ((F.1 ≠ 0 ∧ pv = .pointer none ∧ FltV w' E F ev) ∨
    (F.1 = 0 ∧ ev = .nilIface ∧ ∃ ab bm ma mc na nc, CarX (fun b => w.heap.size ≤ b ∧ b < w'.heap.size) w' ab bm ma mc na nc a0 ∧ pv = .pointer (some ⟨ab, 0, none⟩)))
set_option maxRecDepth 100000 in
set_option maxHeartbeats 8000000 in
theorem cnew_walk (op cf n k n2 k2 : Int) (n₀ : Nat) (a : Option Addr) (len cap : Nat) (L : List ByteArray) (a2 : Option Addr) (len2 cap2 : Nat) (L2 : List ByteArray) (key : ByteArray) (w : World) (E : Nat → Addr) (hE : ErrQx w E) (hlen : L.length = len) (hcap : len ≤ cap) (hl6 : len ≤ 1000000) (ha : a = none → cap = 0) (hsz : ∀ j : Nat, (L[j]?.getD (⟨#[]⟩ : ByteArray)).size ≤ maxLen) (hI : TxsAt n₀ w a L)
    (hlen2 : L2.length = len2) (hcap2 : len2 ≤ cap2) (hl62 : len2 ≤ 1000000) (ha2 : a2 = none → cap2 = 0) (hsz2 : ∀ j : Nat, (L2[j]?.getD (⟨#[]⟩ : ByteArray)).size ≤ maxLen) (hI2 : TxsAt n₀ w a2 L2) (hn : n₀ ≤ w.heap.size) (hkey : key.size ≤ maxLen) :
    Calls Tryz.prog 8 #[.int .i64 op, cfgV n k (.slice a len cap), cfgV n2 k2 (.slice a2 len2 cap2), .int .i64 cf, .string key] w fun e w' => CNewOut w w' E (carF op n k L n2 k2 L2 cf key) (newC op n k L n2 k2 L2 cf key) e := by
  obtain ⟨fb, hfb⟩ : ∃ fb, w.heap.size = fb := ⟨_, rfl⟩
  obtain ⟨W1, hW1⟩ : ∃ W1, w.alloc (.cells #[.int .i64 n, .int .i64 k, .slice a len cap] 24) = W1 := ⟨_, rfl⟩
  obtain ⟨tb, htb⟩ : ∃ tb, W1.heap.size = tb := ⟨_, rfl⟩
  obtain ⟨W2, hW2⟩ : ∃ W2, W1.alloc (.cells #[.int .i64 n2, .int .i64 k2, .slice a2 len2 cap2] 24) = W2 := ⟨_, rfl⟩
  obtain ⟨sb, hsb⟩ : ∃ sb, W2.heap.size = sb := ⟨_, rfl⟩
  obtain ⟨W3, hW3⟩ : ∃ W3, W2.alloc (.cells #[.int .i64 n, .int .i64 k, .slice a len cap, .int .i64 n2, .int .i64 k2, .slice a2 len2 cap2] 24) = W3 := ⟨_, rfl⟩
  have hb1 : Below w.heap.size w W1 := by rw [← hW1]; exact (Below.refl _ _).alloc (Nat.le_refl _) _
  have hb2 : Below W1.heap.size W1 W2 := by rw [← hW2]; exact (Below.refl _ _).alloc (Nat.le_refl _) _
  have hb3 : Below W2.heap.size W2 W3 := by rw [← hW3]; exact (Below.refl _ _).alloc (Nat.le_refl _) _
  have hs1 : W1.heap.size = fb + 1 := by rw [← hW1, ← hfb]; simp
  have hs2 : W2.heap.size = tb + 1 := by rw [← hW2, ← htb]; simp
  have hs3 : W3.heap.size = sb + 1 := by rw [← hW3, ← hsb]; simp
  have hC1 : CfgAt W1 fb n k (.slice a len cap) := by rw [← hW1, ← hfb]; exact CfgAt.new w n k _
  have hC2 : CfgAt W2 tb n2 k2 (.slice a2 len2 cap2) := by rw [← hW2, ← htb]; exact CfgAt.new W1 n2 k2 _
  have hS : CellsAt W3 sb [.int .i64 n, .int .i64 k, .slice a len cap, .int .i64 n2, .int .i64 k2, .slice a2 len2 cap2] := by rw [← hW3, ← hsb]; exact CellsAt.new W2 [.int .i64 n, .int .i64 k, .slice a len cap, .int .i64 n2, .int .i64 k2, .slice a2 len2 cap2] _
  have hz1 : W1.frozen? ⟨fb, 2, none⟩ = false := by rw [← hW1, ← hfb]; simp
  have hz2 : W2.frozen? ⟨tb, 2, none⟩ = false := by rw [← hW2, ← htb]; simp
  have hB2 : Below w.heap.size w W2 := hb1.trans (hb2.mono hb1.size)
  have hB3 : Below w.heap.size w W3 := hB2.trans (hb3.mono hB2.size)
  have hb23 : Below W1.heap.size W1 W3 := hb2.trans (hb3.mono hb2.size)
  have hC1' := hC1.below hb23 (by omega)
  have hC2' := hC2.below hb3 (by omega)
  have hz1' : W3.frozen? ⟨fb, 2, none⟩ = false := (hb23.frozen (p := ⟨fb, 2, none⟩) (by show fb < W1.heap.size; omega)).trans hz1
  have hz2' : W3.frozen? ⟨tb, 2, none⟩ = false := (hb3.frozen (p := ⟨tb, 2, none⟩) (by show tb < W2.heap.size; omega)).trans hz2
  have KS : Hid (∀ W, Below W3.heap.size W3 W → (W.cell? ⟨sb, 0, none⟩ = some (.int .i64 n) ∧ W.cell? ⟨sb, 1, none⟩ = some (.int .i64 k) ∧ W.cell? ⟨sb, 2, none⟩ = some (.slice a len cap)) ∧ (W.cell? ⟨sb, 3, none⟩ = some (.int .i64 n2) ∧ W.cell? ⟨sb, 4, none⟩ = some (.int .i64 k2) ∧ W.cell? ⟨sb, 5, none⟩ = some (.slice a2 len2 cap2)) ∧ CfgAt W fb n k (.slice a len cap) ∧ CfgAt W tb n2 k2 (.slice a2 len2 cap2) ∧ W.frozen? ⟨fb, 2, none⟩ = false ∧ W.frozen? ⟨tb, 2, none⟩ = false ∧ Below w.heap.size w W) := Lib.hid fun W hb => by
    have hS' := hS.below hb (by omega)
    exact ⟨⟨hS'.cell 0 (by show 0 < 6; decide), hS'.cell 1 (by show 1 < 6; decide), hS'.cell 2 (by show 2 < 6; decide)⟩, ⟨hS'.cell 3 (by show 3 < 6; decide), hS'.cell 4 (by show 4 < 6; decide), hS'.cell 5 (by show 5 < 6; decide)⟩, hC1'.below hb (by omega), hC2'.below hb (by omega), (hb.frozen (p := ⟨fb, 2, none⟩) (by show fb < W3.heap.size; omega)).trans hz1', (hb.frozen (p := ⟨tb, 2, none⟩) (by show tb < W3.heap.size; omega)).trans hz2', hB3.trans (hb.mono hB3.size)⟩
  obtain ⟨F1, hF1⟩ : ∃ F1, configF n k L = F1 := ⟨_, rfl⟩
  obtain ⟨F2, hF2⟩ : ∃ F2, configF n2 k2 L2 = F2 := ⟨_, rfl⟩
  have HF := Lib.hid (And.intro hF1 hF2)
  have Hq1 : Hid (∀ W, Below W3.heap.size W3 W → Calls Tryz.prog 33 #[cfgV n k (.slice a len cap)] W fun e w' => (∃ v, e = .returned v ∧ FltV w' E F1 v) ∧ Below W.heap.size W w') := Lib.hid fun W hb => by
    have hBW := (KS.out W hb).2.2.2.2.2.2
    rw [← hF1]
    exact qcheck_walk n k w.heap.size a len cap L W E (hE.below hBW (Nat.le_refl _)) hlen hcap hsz ((hI.mono hn).below hBW) hBW.size
  have Hq2 : Hid (∀ W, Below W3.heap.size W3 W → Calls Tryz.prog 33 #[cfgV n2 k2 (.slice a2 len2 cap2)] W fun e w' => (∃ v, e = .returned v ∧ FltV w' E F2 v) ∧ Below W.heap.size W w') := Lib.hid fun W hb => by
    have hBW := (KS.out W hb).2.2.2.2.2.2
    rw [← hF2]
    exact qcheck_walk n2 k2 w.heap.size a2 len2 cap2 L2 W E (hE.below hBW (Nat.le_refl _)) hlen2 hcap2 hsz2 ((hI2.mono hn).below hBW) hBW.size
  have H := Lib.hid (And.intro hE (And.intro hkey (And.intro (hI.mono hn) (And.intro (hI2.mono hn) (And.intro (And.intro hlen (And.intro hcap (And.intro hl6 ha))) (And.intro (And.intro hlen2 (And.intro hcap2 (And.intro hl62 ha2))) (And.intro hfb (And.intro htb (And.intro hsb (And.intro hs1 (And.intro hs2 hs3)))))))))))
  obtain ⟨c0, c1, c2⟩ := hC1'
  obtain ⟨x0, x1, x2⟩ := hC2'
  have o0 := hC1.below hb2 (by omega)
  obtain ⟨o0, o1, o2⟩ := o0
  obtain ⟨p0, p1, p2⟩ := hC2
  clear hb1 hb2 hb3 hC1 hS hz1 hz2 hB2 hB3 hb23 hz1' hz2' hF1 hF2 hE hkey hI hI2 hlen hcap hl6 ha hlen2 hcap2 hl62 ha2 hsz hsz2 hn
  go_enter Tryz.func8, Tryz.ntmps8
  go_wp2_with fail
  clear c0 c1 c2 x0 x1 x2 o0 o1 o2 p0 p1 p2
  go_loopw [20] (fun vi wr => (vi = .int .i64 0 ∧ Hid (Below W3.heap.size W3 wr)) ∨ (vi = .int .i64 1 ∧ Hid (Below W3.heap.size W3 wr ∧ F1.1 = 0)) ∨ (vi = .int .i64 2 ∧ Hid (Below W3.heap.size W3 wr ∧ F1.1 = 0 ∧ F2.1 = 0))) (fun vi _ => 2 - (intOf vi).toNat)
  case atStart => exact .inl ⟨rfl, Lib.hid (Below.refl _ _)⟩
  case round =>
    rcases hrel with ⟨rfl, Hr⟩ | ⟨rfl, Hr⟩ | ⟨rfl, Hr⟩
    · obtain ⟨⟨s0, s1, s2⟩, _⟩ := KS.out wr Hr.out
      have Hq := Lib.hid (fun W hb => Hq1.out W hb)
      go_wp2_with fail
      refine (Hq.out _ (Hr.out.alloc Hr.out.size _)).mono ?_
      rintro e w5 ⟨⟨v, rfl, hv⟩, hb5⟩
      have H5 := Lib.hid ((Hr.out.alloc Hr.out.size (.cells #[.int .i64 n, .int .i64 k, .slice a len cap] 24)).trans (hb5.mono (Hr.out.alloc Hr.out.size (.cells #[.int .i64 n, .int .i64 k, .slice a len cap] 24)).size))
      clear hb5 s0 s1 s2
      by_cases h0 : F1.1 = 0
      · obtain ⟨_, rfl⟩ := hv.nil h0
        have H0 := Lib.hid h0
        clear hv h0
        go_wp2
        go_roundw
        case rel => exact .inr (.inl ⟨by go_num, Lib.hid ⟨H5.out, H0.out⟩⟩)
        case measure => simp [intOf]
      · have HV := Lib.hid (And.intro h0 hv)
        have hvs := hv.some_ h0
        clear hv h0
        rcases hvs with ⟨x, rfl⟩ | ⟨m, rfl⟩
        · go_wp2
          go_ret2
          exact ⟨_, _, rfl, (KS.out w5 H5.out).2.2.2.2.2.2, .inl ⟨by rw [carF_1 (by rw [HF.out.1]; exact HV.out.1), HF.out.1]; exact HV.out.1, rfl, by rw [carF_1 (by rw [HF.out.1]; exact HV.out.1), HF.out.1]; exact HV.out.2⟩⟩
        · unfold faultV at HV ⊢
          go_wp2
          go_ret2
          exact ⟨_, _, rfl, (KS.out w5 H5.out).2.2.2.2.2.2, .inl ⟨by rw [carF_1 (by rw [HF.out.1]; exact HV.out.1), HF.out.1]; exact HV.out.1, rfl, by rw [carF_1 (by rw [HF.out.1]; exact HV.out.1), HF.out.1]; exact HV.out.2⟩⟩
    · obtain ⟨_, ⟨s0, s1, s2⟩, _⟩ := KS.out wr Hr.out.1
      have Hq := Lib.hid (fun W hb => Hq2.out W hb)
      go_wp2_with fail
      refine (Hq.out _ (Hr.out.1.alloc Hr.out.1.size _)).mono ?_
      rintro e w5 ⟨⟨v, rfl, hv⟩, hb5⟩
      have H5 := Lib.hid ((Hr.out.1.alloc Hr.out.1.size (.cells #[.int .i64 n2, .int .i64 k2, .slice a2 len2 cap2] 24)).trans (hb5.mono (Hr.out.1.alloc Hr.out.1.size (.cells #[.int .i64 n2, .int .i64 k2, .slice a2 len2 cap2] 24)).size))
      clear hb5 s0 s1 s2
      by_cases h0 : F2.1 = 0
      · obtain ⟨_, rfl⟩ := hv.nil h0
        have H0 := Lib.hid h0
        clear hv h0
        go_wp2
        go_roundw
        case rel => exact .inr (.inr ⟨by go_num, Lib.hid ⟨H5.out, Hr.out.2, H0.out⟩⟩)
        case measure => simp [intOf]
      · have HV := Lib.hid (And.intro h0 hv)
        have hvs := hv.some_ h0
        clear hv h0
        rcases hvs with ⟨x, rfl⟩ | ⟨m, rfl⟩
        · go_wp2
          go_ret2
          exact ⟨_, _, rfl, (KS.out w5 H5.out).2.2.2.2.2.2, .inl ⟨by rw [carF_2 (by rw [HF.out.1]; exact Hr.out.2) (by rw [HF.out.2]; exact HV.out.1), HF.out.2]; exact HV.out.1, rfl, by rw [carF_2 (by rw [HF.out.1]; exact Hr.out.2) (by rw [HF.out.2]; exact HV.out.1), HF.out.2]; exact HV.out.2⟩⟩
        · unfold faultV at HV ⊢
          go_wp2
          go_ret2
          exact ⟨_, _, rfl, (KS.out w5 H5.out).2.2.2.2.2.2, .inl ⟨by rw [carF_2 (by rw [HF.out.1]; exact Hr.out.2) (by rw [HF.out.2]; exact HV.out.1), HF.out.2]; exact HV.out.1, rfl, by rw [carF_2 (by rw [HF.out.1]; exact Hr.out.2) (by rw [HF.out.2]; exact HV.out.1), HF.out.2]; exact HV.out.2⟩⟩
    · have hz1 : (configF n k L).1 = 0 := by rw [HF.out.1]; exact Hr.out.2.1
      have hz2 : (configF n2 k2 L2).1 = 0 := by rw [HF.out.2]; exact Hr.out.2.2
      have HZ := Lib.hid (And.intro hz1 hz2)
      obtain ⟨nb, hnb⟩ : ∃ nb, nameB key = nb := ⟨_, rfl⟩
      have Hnb := Lib.hid hnb
      have Hna := Lib.hid (name_walk key wr H.out.2.1)
      rw [hnb] at Hna
      clear hnb hz1 hz2
      go_wp2_with fail
      refine Hna.out.mono ?_
      rintro e w4 ⟨rfl, hb4⟩
      have H4 := Lib.hid (Hr.out.1.trans (hb4.mono Hr.out.1.size))
      clear hb4
      have hW4 := (KS.out w4 H4.out).2.2.2.2.2.2
      have HW4 := Lib.hid hW4
      clear hW4
      cases nb with
      | false =>
        have hg3 := (H.out.1.below HW4.out (Nat.le_refl _)).nx.c3
        go_wp2
        go_quiet (fail)
        go_wp2
        go_ret2
        exact ⟨_, _, rfl, HW4.out.trans ⟨rfl, rfl, rfl, Nat.le_refl _, fun _ _ => rfl⟩, .inl ⟨by rw [carF_name HZ.out.1 HZ.out.2 Hnb.out]; decide, rfl, by rw [carF_name HZ.out.1 HZ.out.2 Hnb.out]; exact .inr (.inl ⟨3, by decide, rfl, rfl⟩)⟩⟩
      | true =>
        have hcs : (op < 0 ∨ cf < 0 ∨ cf = 9223372036854775807) ∨ ¬ (op < 0 ∨ cf < 0 ∨ cf = 9223372036854775807) := Classical.em _
        rcases hcs with hbd | hbd
        · have hbF := carF_bound HZ.out.1 HZ.out.2 Hnb.out hbd
          have HbF := Lib.hid hbF
          have hg1 := (H.out.1.below HW4.out (Nat.le_refl _)).nx.c1
          have hcs : op < 0 ∨ (¬ op < 0 ∧ cf < 0) ∨ (¬ op < 0 ∧ ¬ cf < 0 ∧ cf = 9223372036854775807) := by omega
          clear hbd hbF
          rcases hcs with h1 | ⟨h1, h2⟩ | ⟨h1, h2, rfl⟩
          all_goals
            go_wp2
            go_quiet (fail)
            go_wp2
            go_ret2
            exact ⟨_, _, rfl, HW4.out.trans ⟨rfl, rfl, rfl, Nat.le_refl _, fun _ _ => rfl⟩, .inl ⟨by rw [HbF.out]; decide, rfl, by rw [HbF.out]; exact .inr (.inl ⟨1, by decide, rfl, rfl⟩)⟩⟩
        · have hbF := carF_ok HZ.out.1 HZ.out.2 Hnb.out hbd
          have HbF := Lib.hid hbF
          obtain ⟨h1, h2, h3⟩ : ¬ op < 0 ∧ ¬ cf < 0 ∧ ¬ cf = 9223372036854775807 := by omega
          have h4 : (cf == 9223372036854775807) = false := beq_eq_false_iff_ne.2 h3
          clear hbd hbF
          obtain ⟨n, rfl⟩ : ∃ m : Nat, n = (m : Int) := ⟨n.toNat, by have h9 := (configF_zero HZ.out.1).1; omega⟩
          obtain ⟨k, rfl⟩ : ∃ m : Nat, k = (m : Int) := ⟨k.toNat, by have h9 := (configF_zero HZ.out.1).1; omega⟩
          obtain ⟨n2, rfl⟩ : ∃ m : Nat, n2 = (m : Int) := ⟨n2.toNat, by have h9 := (configF_zero HZ.out.2).1; omega⟩
          obtain ⟨k2, rfl⟩ : ∃ m : Nat, k2 = (m : Int) := ⟨k2.toNat, by have h9 := (configF_zero HZ.out.2).1; omega⟩
          obtain ⟨_, _, ⟨c0, c1, c2⟩, ⟨x0, x1, x2⟩, zf, zt, _⟩ := KS.out w4 H4.out
          have hlt4 : tb < w4.heap.size := lt_of_cell x0
          go_wp2_with fail
          go_region_with (first
            | (go_at_call_of 35 (Value.slice a len cap); refine (tclone_walk w.heap.size a len cap L _ H.out.2.2.2.2.1.1 H.out.2.2.2.2.1.2.1 H.out.2.2.2.2.1.2.2.1 H.out.2.2.2.2.1.2.2.2 (H.out.2.2.1.below HW4.out.drew) HW4.out.drew.size).mono ?_; rintro e w5 ⟨hb5, v5, rfl, ho5⟩; obtain ⟨a5, cp5, rfl, g1, g2, g3, g4⟩ := ho5.readS; obtain ⟨_, _, ⟨y0, y1, y2⟩, ⟨u0, u1, u2⟩, zf5, zt5, hB5⟩ := KS.out w5 (H4.out.drew.trans (hb5.mono H4.out.drew.size)); have Q5 := Lib.hid (And.intro hb5 (And.intro hB5 (And.intro g1 (And.intro g2 (And.intro g3 g4))))); clear hb5 ho5 g1 g2 g3 g4 hB5)
            | (go_at_call_of 35 (Value.slice a2 len2 cap2); refine (tclone_walk w.heap.size a2 len2 cap2 L2 w5 H.out.2.2.2.2.2.1.1 H.out.2.2.2.2.2.1.2.1 H.out.2.2.2.2.2.1.2.2.1 H.out.2.2.2.2.2.1.2.2.2 (H.out.2.2.2.1.below Q5.out.2.1) Q5.out.2.1.size).mono ?_; rintro e w6 ⟨hb6, v6, rfl, ho6⟩; obtain ⟨a6, cp6, rfl, g1, g2, g3, g4⟩ := ho6.readS; obtain ⟨_, _, ⟨r0, r1, r2⟩, ⟨t0, t1, t2⟩, zf6, zt6, hB6⟩ := KS.out w6 ((H4.out.drew.trans (Q5.out.1.mono H4.out.drew.size)).trans (hb6.mono (H4.out.drew.trans (Q5.out.1.mono H4.out.drew.size)).size)); have Q6 := Lib.hid (And.intro hb6 (And.intro hB6 (And.intro g1 (And.intro g2 (And.intro g3 g4))))); clear hb6 ho6 g1 g2 g3 g4 hB6))
          all_goals
            obtain ⟨W7, hW7⟩ : ∃ W7, (w6.setCell ⟨fb, 2, none⟩ (.slice a5 L.length cp5)).setCell ⟨tb, 2, none⟩ (.slice a6 L2.length cp6) = W7 := ⟨_, rfl⟩
            rw [hW7]
            have hft : fb ≠ tb := by omega
            have hd4 : w4.drew.heap.size = w4.heap.size := rfl
            have hs56 := Q6.out.1.size
            have hs45 := Q5.out.1.size
            have e0 : W7.cell? ⟨fb, 0, none⟩ = some (.int .i64 (n : Nat)) := by rw [← hW7, World.cell?_setCell_far _ _ _ _ (show tb ≠ fb from Ne.symm hft), World.cell?_setCell_other _ _ _ _ (by simp)]; exact r0
            have e1 : W7.cell? ⟨fb, 1, none⟩ = some (.int .i64 (k : Nat)) := by rw [← hW7, World.cell?_setCell_far _ _ _ _ (show tb ≠ fb from Ne.symm hft), World.cell?_setCell_other _ _ _ _ (by simp)]; exact r1
            have e2 : W7.cell? ⟨fb, 2, none⟩ = some (.slice a5 L.length cp5) := by rw [← hW7, World.cell?_setCell_far _ _ _ _ (show tb ≠ fb from Ne.symm hft)]; exact World.cell?_setCell_same _ _ _ r2
            have e3 : W7.cell? ⟨tb, 0, none⟩ = some (.int .i64 (n2 : Nat)) := by rw [← hW7, World.cell?_setCell_other _ _ _ _ (by simp), World.cell?_setCell_far _ _ _ _ (show fb ≠ tb from hft)]; exact t0
            have e4 : W7.cell? ⟨tb, 1, none⟩ = some (.int .i64 (k2 : Nat)) := by rw [← hW7, World.cell?_setCell_other _ _ _ _ (by simp), World.cell?_setCell_far _ _ _ _ (show fb ≠ tb from hft)]; exact t1
            have e5 : W7.cell? ⟨tb, 2, none⟩ = some (.slice a6 L2.length cp6) := by rw [← hW7]; exact World.cell?_setCell_same _ _ _ ((World.cell?_setCell_far _ _ _ _ (show fb ≠ tb from hft)).trans t2)
            have hwf : w.heap.size ≤ fb := by rw [hfb]; exact Nat.le_refl _
            have hwt : w.heap.size ≤ tb := by omega
            have hb7 : Below w.heap.size w W7 := by rw [← hW7]; exact (Q6.out.2.1.setCell (p := ⟨fb, 2, none⟩) hwf _).setCell (p := ⟨tb, 2, none⟩) hwt _
            have hs7 : W7.heap.size = w6.heap.size := by rw [← hW7, setCell_size, setCell_size]
            have hk67 : KeptBut (fun b => b = fb ∨ b = tb) w6 W7 := by rw [← hW7]; exact ((KeptBut.refl (fun b => b = fb ∨ b = tb) w6).set1 (p := ⟨fb, 2, none⟩) (.inl rfl) _).set1 (p := ⟨tb, 2, none⟩) (.inr rfl) _
            have hk57 : KeptBut (fun b => b = fb ∨ b = tb) w5 W7 := (KeptBut.of_below (F := fun b => b = fb ∨ b = tb) Q6.out.1 (fun k h1 h2 => by omega)).trans hk67
            obtain ⟨ab, hab⟩ : ∃ ab, W7.heap.size = ab := ⟨_, rfl⟩
            have T5 : TxsS (fun b => w.heap.size ≤ b ∧ b < ab) W7 a5 L := by
              rcases Q5.out.2.2.2.2.2 with e | ⟨b9, off, e, hb9, hl9, hc9⟩
              · exact .inl e
              · exact .inr ⟨b9, off, e, ⟨by omega, by omega⟩, by omega, fun j hj => hk57.cell (hc9 j hj) (fun h => by have h8 : b9 = fb ∨ b9 = tb := h; omega)⟩
            have T6 : TxsS (fun b => w.heap.size ≤ b ∧ b < ab) W7 a6 L2 := by
              rcases Q6.out.2.2.2.2.2 with e | ⟨b9, off, e, hb9, hl9, hc9⟩
              · exact .inl e
              · exact .inr ⟨b9, off, e, ⟨by omega, by omega⟩, by omega, fun j hj => hk67.cell (hc9 j hj) (fun h => by have h8 : b9 = fb ∨ b9 = tb := h; omega)⟩
            obtain ⟨A, hA⟩ : ∃ A, newC op (n : Nat) (k : Nat) L (n2 : Nat) (k2 : Nat) L2 cf key = A := ⟨_, rfl⟩
            obtain ⟨W8, hW8⟩ : ∃ W8, W7.alloc (.cells #[.string ⟨#[109, 111, 118, 101, 114]⟩, .string key, .int .i64 op, .int .i64 cf, .int .i64 (n : Nat), .int .i64 (k : Nat), .slice a5 L.length cp5, .string ⟨#[]⟩, .map none, .int .i64 (n2 : Nat), .int .i64 (k2 : Nat), .slice a6 L2.length cp6, .int .i64 0, .int .i64 0, .string ⟨#[]⟩, .bool false, .string ⟨#[115, 101, 97, 108, 105, 110, 103]⟩] 84) = W8 := ⟨_, rfl⟩
            have hc8 : CellsAt W8 ab (talkV A.t a5 cp5 (.string ⟨#[]⟩) (.map none) ++ carV a6 cp6 A) := by
              rw [← hW8, ← hab, ← hA]
              exact CellsAt.new W7 (talkV (newC op (n : Nat) (k : Nat) L (n2 : Nat) (k2 : Nat) L2 cf key).t a5 cp5 (.string ⟨#[]⟩) (.map none) ++ carV a6 cp6 (newC op (n : Nat) (k : Nat) L (n2 : Nat) (k2 : Nat) L2 cf key)) 84
            have hb78 : Below W7.heap.size W7 W8 := by rw [← hW8]; exact (Below.refl _ _).alloc (Nat.le_refl _) _
            have hs8 : W8.heap.size = ab + 1 := by rw [← hW8, ← hab]; simp
            have hwa : w.heap.size ≤ ab := by rw [← hab]; exact hb7.size
            have hAm : A.t.mem = L ∧ A.mem2 = L2 ∧ A.t.wait = kSealed ∧ A.t.got = [] := by rw [← hA]; exact ⟨rfl, rfl, rfl, rfl⟩
            have T5' : TxsS (fun b => w.heap.size ≤ b ∧ b ≠ ab) W8 a5 A.t.mem := by
              rw [hAm.1]
              rcases T5 with e | ⟨b9, off, e, hb9, hl9, hc9⟩
              · exact .inl e
              · exact .inr ⟨b9, off, e, ⟨hb9.1, by omega⟩, by omega, fun j hj => (hb78.cell (p := ⟨b9, off + j, none⟩) hl9).trans (hc9 j hj)⟩
            have hX := TalkX.born hc8 hwa (by rw [hAm.1]; exact ⟨Q5.out.2.2.1, Q5.out.2.2.2.1, Q5.out.2.2.2.2.1⟩) T5' hAm.2.2.2
            rw [hAm.2.2.1] at hX
            have hkS := startW_kept W8 ab kSealed
            have hM : M2 (fun b => w.heap.size ≤ b ∧ b < (startW W8 ab kSealed).heap.size) (startW W8 ab kSealed) ab W8.heap.size a6 cp6 A.mem2 := by
              rw [hAm.2.1]
              refine ⟨?_, Q6.out.2.2.1, Q6.out.2.2.2.1, Q6.out.2.2.2.2.1⟩
              have hsz := startW_size W8 ab kSealed
              rcases T6 with e | ⟨b9, off, e, hb9, hl9, hc9⟩
              · exact .inl e
              · exact .inr ⟨b9, off, e, ⟨⟨hb9.1, by omega⟩, by omega, by omega⟩, by omega, fun j hj => hkS.cell ((hb78.cell (p := ⟨b9, off + j, none⟩) hl9).trans (hc9 j hj)) (fun h => by have h8 : b9 = ab := h; omega)⟩
            have hb8 : Below w.heap.size w W8 := hb7.trans (hb78.mono hb7.size)
            have hbS := hkS.below hb8.size (fun b e => by rw [e]; exact hwa)
            have Hst := Lib.hid (start_walk W8 ab kSealed _ _ (hc8.cell 7 (by show 7 < 17; decide)) (hc8.cell 8 (by show 8 < 17; decide)) hc8.z)
            have H8 := Lib.hid (And.intro (show CarX _ _ ab W8.heap.size a5 cp5 a6 cp6 A from ⟨hX, hM⟩) (And.intro (hb8.trans hbS) hA))
            unfold kSealed at Hst
            clear hc8 hb78 hs8 hwa hAm T5' hX hkS hM hb8 hbS T5 T6 hk67 hk57 hs7 hb7 hwf hwt hft hd4 hs56 hs45 hA c0 c1 c2 x0 x1 x2 zf zt y0 y1 y2 u0 u1 u2 zf5 zt5 r0 r1 r2 t0 t1 t2 zf6 zt6 hlt4 hW7
            go_wp2_with fail
            clear hW8 e0 e1 e2 e3 e4 e5
            refine Hst.out.mono ?_
            rintro e w9 ⟨rfl, rfl⟩
            go_wp2
            go_ret2
            exact ⟨_, _, rfl, H8.out.2.1, .inr ⟨by rw [HbF.out], rfl, ab, _, a5, cp5, a6, cp6, by rw [H8.out.2.2]; exact H8.out.1, rfl⟩⟩
end
end Go.Proofs.YtabboioamdphmaaGreatDoor

