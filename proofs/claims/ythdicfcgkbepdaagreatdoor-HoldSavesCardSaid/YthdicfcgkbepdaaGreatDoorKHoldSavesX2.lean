/- How long a saved hold may be; two holds in one memory anew. -/
import Derived.Test.YthdicfcgkbepdaaGreatDoorKHoldSavesX1
import Derived.Laws.IdiomStrings
import Derived.Test.YthdicfcgkbepdaaGreatDoorClosed
import Derived.Test.YthdicfcgkbepdaaGreatDoorErr
import Derived.Test.YthdicfcgkbepdaaGreatDoorCards
import Derived.Test.YthdicfcgkbepdaaGreatDoorTie
import Derived.SevenTiedAt
namespace Go.Proofs.YthdicfcgkbepdaaGreatDoor
section
open Go.RowKit Go.BigFrame

theorem item_short {s : List UInt8} (h : s.length < 1000000) : (itemB s).length ≤ s.length + 7 := by
  unfold itemB
  have h1 : (Lib.itoa (s.length : Int)).length ≤ 6 := by
    rw [Lib.itoa_nonneg, Lib.decDigits_length]
    exact nd_le 5 _ (by simpa using h)
  simp only [List.length_append, List.length_cons]
  omega
theorem num_short {n : Int} (h0 : 0 ≤ n) (h1 : n ≤ 1099511627776) : (numB n).length ≤ 20 := by
  obtain ⟨m, rfl⟩ := Int.eq_ofNat_of_zero_le h0
  have h2 : (Lib.itoa (m : Int)).length ≤ 13 := by
    rw [Lib.itoa_nonneg, Lib.decDigits_length]
    exact nd_le 12 _ (by omega)
  have := item_short (s := Lib.itoa (m : Int)) (by omega)
  unfold numB
  omega
theorem row_short {p : Kp} (h : RowOkP p) : (rowB p).length ≤ 10000 := by
  obtain ⟨hn, hr, hk⟩ := h
  obtain ⟨⟨a1, a2⟩, ⟨b1, b2⟩, ⟨c1, c2⟩, ⟨d1, d2⟩, e1⟩ := right_num hr
  have hk2 : p.1.size ≤ 2000 := by
    unfold nameB at hn
    rw [Bool.and_eq_true, decide_eq_true_eq] at hn
    omega
  have h8 : p.2.2.2.2.2.data.toList.length = p.2.2.2.2.2.size := by simp
  have h9 : p.1.data.toList.length = p.1.size := by simp
  have i1 := item_short (s := p.1.data.toList) (by omega)
  have i2 := num_short a1 (by omega)
  have i3 := num_short b1 (by omega)
  have i4 := num_short c1 (by omega)
  have i5 := num_short d1 (by omega)
  have i6 := item_short (s := p.2.2.2.2.2.data.toList) (by omega)
  unfold rowB
  simp only [List.length_append]
  omega
theorem rows_short : ∀ (l : List Kp), (∀ p ∈ l, RowOkP p) → (l.flatMap rowB).length ≤ l.length * 10000
  | [], _ => by simp
  | p :: r, h => by
    have h1 := row_short (h p (List.mem_cons_self ..))
    have h2 := rows_short r (fun q hq => h q (List.mem_cons_of_mem _ hq))
    rw [List.flatMap_cons, List.length_append, List.length_cons, Nat.add_mul]
    omega
theorem save_short {sd : Bool} {l : List Kp} (h : FineR l) : (saveB sd l).length ≤ 900000 := by
  have h1 := rows_short l h.2
  have h2 := h.1.2
  have h3 : l.length * 10000 ≤ 60 * 10000 := Nat.mul_le_mul_right _ h2
  have h4 : (markB sd).length ≤ 1 := by cases sd <;> decide
  unfold saveB
  simp only [List.length_append]
  have h5 : holdW.length = 4 := rfl
  omega
/-- a hold beside a model of another pair. -/
theorem two_of_one {P Q : Nat → Prop} {w : World} {hb hb2 mb : Nat} {s1 s2 sd : Bool} {l1 l2 l : List Kp} (h : Two P w hb mb s1 l1 s2 l2) (h2 : OneH Q w hb2 sd l) (hPQ : ∀ b, P b → b < w.heap.size → ¬ Q b) (R : Nat → Prop) (hP : ∀ b, P b → R b) (hQ : ∀ b, Q b → R b) (hR : ∀ b, w.heap.size ≤ b → R b) : Two R w hb2 mb sd l s2 l2 := by
  obtain ⟨F, G, ks, S, h1, h2', h3, h4, h5, hB⟩ := h
  obtain ⟨F', ks', S', g1, g4, gB⟩ := h2
  exact ⟨F', G, ks', S', g1, h2', fun b hf hg => hPQ b (h5 b hg).1 (h5 b hg).2 (g4 b hf).1, fun b hf => ⟨hQ b (g4 b hf).1, (g4 b hf).2⟩, fun b hg => ⟨hP b (h5 b hg).1, (h5 b hg).2⟩, hR⟩
theorem two_save {P : Nat → Prop} {w : World} {hb mb : Nat} {sd s2 : Bool} {l l2 : List Kp} (h : Two P w hb mb sd l s2 l2) (hf : FineR l) (ht : TabAt w) :
    Calls Tryz.prog 9 #[.pointer (some ⟨hb, 0, none⟩)] w fun e w' => e = .returned (.tuple #[.string ((⟨(saveB sd l).toArray⟩ : ByteArray) ++ fourS (Sm.crc (Sm.nats ⟨(saveB sd l).toArray⟩))), .nilIface]) ∧ Below w.heap.size w w' := by
  obtain ⟨F, G, ks, S, h1, _⟩ := h
  exact save_walk h1 hf ht
end
end Go.Proofs.YthdicfcgkbepdaaGreatDoor
/- Plain: a sealed text of which one bit is turned is sealed no more. -/
namespace Go.Proofs.YthdicfcgkbepdaaGreatDoor
section
open Go.RowKit

theorem turned_one {m n : Nat} (hm : m < n) : ∀ i, Sm.turned 1 m n (i + 1) = 1
  | 0 => by
    rw [Sm.turned, if_pos ⟨by simp, by omega⟩]
    simp [Sm.turned]
  | i + 1 => by
    have h := turned_one hm i
    rw [Sm.turned, if_neg (fun h => ?_), h]
    have h1 : 1 / 2 ^ (i + 1) = 0 := Nat.div_eq_of_lt (Nat.one_lt_two_pow (by omega))
    have h2 := h.1
    rw [h1] at h2
    omega
theorem byteAt_pow (m j : Nat) : Sm.byteAt (2 ^ m) j = if j = m / 8 then 2 ^ (m % 8) else 0 := by
  have h := Sm.byteAt_xor 0 m j
  rw [Nat.zero_xor] at h
  rw [h]
  have h0 : Sm.byteAt 0 j = 0 := by simp [Sm.byteAt]
  rw [h0, Nat.zero_xor]
theorem nats_body {Y : ByteArray} (j : Nat) (hj : j < Y.size - 4) : (Sm.nats (bodyOf Y))[j]?.getD 0 = (Sm.nats Y)[j]?.getD 0 := by
  unfold Sm.nats bodyOf
  rw [ext_list, List.drop_zero, List.getElem?_map, List.getElem?_map, List.getElem?_take, if_pos hj]
theorem body_size {Y : ByteArray} : (bodyOf Y).size = Y.size - 4 := by unfold bodyOf; simp
theorem flip_bad {B : ByteArray} {m : Nat} (hm : m < 8 * (B.size + 4)) : fourS (Sm.crc (Sm.nats (bodyOf (Sm.flipB (B ++ fourS (Sm.crc (Sm.nats B))) (2 ^ m))))) ≠ tailOf (Sm.flipB (B ++ fourS (Sm.crc (Sm.nats B))) (2 ^ m)) := by
  have h4 := fourS_size (Sm.crc (Sm.nats B))
  by_cases hb : m < 8 * B.size
  · rw [Sm.flip_append (Nat.pow_lt_pow_right (by decide) hb), bodyOf_append h4, tailOf_append h4]
    intro h
    have h1 := Sm.fourS_inj (crc_lt _) (crc_lt _) h
    have ht := turned_one hb 31
    have h2 := Sm.burst_crc (s := B) (b := 1) (a := m) (by omega) (by rw [ht]; decide)
    rw [ht, Nat.one_mul] at h2
    exact h2 h1
  · intro h
    obtain ⟨X, hX⟩ : ∃ X, B ++ fourS (Sm.crc (Sm.nats B)) = X := ⟨_, rfl⟩
    rw [hX] at h
    have hXz : X.size = B.size + 4 := by rw [← hX, ByteArray.size_append, h4]
    obtain ⟨Y, hY⟩ : ∃ Y, Sm.flipB X (2 ^ m) = Y := ⟨_, rfl⟩
    have hYz : Y.size = B.size + 4 := by rw [← hY, Sm.flip_size, hXz]
    have hYn : ∀ j, j < B.size + 4 → (Sm.nats Y)[j]?.getD 0 = (Sm.nats X)[j]?.getD 0 ^^^ Sm.byteAt (2 ^ m) j := fun j hj => by rw [← hY]; exact Sm.flip_nats X _ j (by omega)
    rw [hY] at h
    have hbody : bodyOf Y = B := by
      refine Sm.nats_inj (by rw [body_size, hYz]; omega) (fun j hj => ?_)
      rw [body_size, hYz] at hj
      rw [nats_body j (by omega), hYn j (by omega), byteAt_pow, if_neg (by omega), Nat.xor_zero, ← hX, Sm.nats_append, List.getElem?_append_left (by rw [Sm.nats_length]; omega)]
    rw [hbody] at h
    have hYX : Y = X := by rw [split_s (s := Y), hbody, ← h, hX]
    have h9 := hYn (m / 8) (by omega)
    rw [hYX, byteAt_pow, if_pos rfl] at h9
    have h8 : (Sm.nats X)[m / 8]?.getD 0 ^^^ ((Sm.nats X)[m / 8]?.getD 0 ^^^ 2 ^ (m % 8)) = 0 := by rw [← h9, Nat.xor_self]
    rw [← Nat.xor_assoc, Nat.xor_self, Nat.zero_xor] at h8
    have := Nat.two_pow_pos (m % 8)
    omega
end
end Go.Proofs.YthdicfcgkbepdaaGreatDoor
/- The walk of the law HoldSaves. -/
namespace Go.Proofs.YthdicfcgkbepdaaGreatDoor.holdSaves
open Go.RowKit Go.BigFrame

theorem tail_laid : ((Rows.holdSavesRow.laid).drop 3).take 13 = fullLaid := rfl
theorem in_tab : ("internal/strconv.uint64pow10", p10T) ∈ Rows.holdSavesRow.laid := List.mem_of_getElem? (i := 2) rfl
theorem in_ran : ("strconv.ErrRange", sent ranT) ∈ Rows.holdSavesRow.laid := List.mem_of_getElem? (i := 16) rfl
theorem in_syn : ("strconv.ErrSyntax", sent synT) ∈ Rows.holdSavesRow.laid := List.mem_of_getElem? (i := 17) rfl
theorem acts_to {w w' : World} {a : Option Addr} {len cap : Nat} {l : List HAct} (h : ActsIn w a len cap l) {n : Nat} (hb : Below n w w') (hn : w.heap.size ≤ n) : ActsIn w' a len cap l := by
  obtain ⟨h1, h2, h3, h4, h5, h6⟩ := h
  refine ⟨h1, h2, h3, h4, ?_, h6⟩
  rcases h5.below (hb.mono hn) with e | ⟨b, off, e, hb', hc⟩
  · exact .inl e
  · exact .inr ⟨b, off, e, Nat.lt_of_lt_of_le hb' hb.size, hc⟩
set_option maxRecDepth 100000 in
set_option maxHeartbeats 16000000 in
theorem walk (a0 : Option Addr) (len0 cap0 : Nat) (acts : List HAct) (a1 : Option Addr) (len1 cap1 : Nat) (more : List HAct) (pos bit : Int) (w : World) (hA : ActsIn w a0 len0 cap0 acts) (hM : ActsIn w a1 len1 cap1 more) (hpos : (Lit.int .i64 pos).wf = true) (hbit : (Lit.int .i64 bit).wf = true) (hL : laidMetH Tryz.prog Rows.holdSavesRow.laid w) :
    Calls Tryz.prog 4 #[.slice a0 len0 cap0, .slice a1 len1 cap1, .int .i64 pos, .int .i64 bit] w fun e w' => e = .returned (.bool true) ∧ Below w.heap.size w w' := by
  obtain ⟨E, hE, hN, hT⟩ := loads_env 3 tail_laid in_tab in_syn in_ran hL
  have Hh := Lib.hid (holds_walk w E hE.hx)
  have HH := Lib.hid (And.intro hE (And.intro hN hT))
  have HA := Lib.hid (And.intro hA hM)
  have hp : -9223372036854775808 ≤ pos ∧ pos ≤ 9223372036854775807 := by simp [Lit.wf, IntKind.min, IntKind.max, IntKind.signed, IntKind.bits] at hpos; omega
  have hq : -9223372036854775808 ≤ bit ∧ bit ≤ 9223372036854775807 := by simp [Lit.wf, IntKind.min, IntKind.max, IntKind.signed, IntKind.bits] at hbit; omega
  clear hE hN hT hL hA hM hpos hbit
  go_enter Tryz.func4, Tryz.ntmps4
  go_wp2_with fail
  refine Hh.out.mono ?_
  rintro e w1 ⟨rfl, hb1⟩
  have HB1 := Lib.hid hb1
  clear hb1
  go_wp2_with fail
  refine (heavy_walk w1 a0 len0 cap0 acts (acts_to HA.out.1 HB1.out (Nat.le_refl _))).mono ?_
  rintro e w2 ⟨⟨r, rfl⟩, hb2⟩
  have HB2 := Lib.hid (HB1.out.trans (hb2.mono HB1.out.size))
  clear hb2
  cases r with
  | true =>
    go_wp2
    go_ret
    exact ⟨rfl, HB2.out⟩
  | false =>
    go_wp2_with fail
    refine (heavy_walk w2 a1 len1 cap1 more (acts_to HA.out.2 HB2.out (Nat.le_refl _))).mono ?_
    rintro e w3 ⟨⟨r, rfl⟩, hb3⟩
    have HB3 := Lib.hid (HB2.out.trans (hb3.mono HB2.out.size))
    clear hb3
    cases r with
    | true =>
      go_wp2
      go_ret
      exact ⟨rfl, HB3.out⟩
    | false =>
      by_cases hbad : pos < 0 ∨ bit < 0 ∨ 7 < bit
      · have hcs : pos < 0 ∨ (0 ≤ pos ∧ bit < 0) ∨ (0 ≤ pos ∧ 0 ≤ bit ∧ 7 < bit) := by omega
        clear hbad
        rcases hcs with h | ⟨h, h'⟩ | ⟨h, h', h''⟩
        all_goals
          go_wp2
          go_ret
          exact ⟨rfl, HB3.out⟩
      · have g1 : 0 ≤ pos := by omega
        have g2 : 0 ≤ bit := by omega
        have g3 : bit ≤ 7 := by omega
        clear hbad
        have hb4 : Below w.heap.size w ((w3.alloc (.cells #[.map none, .bool false] 38)).alloc (.cells #[.slice none 0 0, .bool false] 42)) := (HB3.out.alloc HB3.out.size _).alloc (by have := HB3.out.size; simp; omega) _
        have hT : Two (fun b => w.heap.size ≤ b) ((w3.alloc (.cells #[.map none, .bool false] 38)).alloc (.cells #[.slice none 0 0, .bool false] 42)) w3.heap.size (w3.heap.size + 1) false [] false [] := by
          have hs := HB3.out.size
          refine ⟨fun b => b = w3.heap.size, fun b => b = w3.heap.size + 1, [], fun _ => .slice none 0 0, HoldAt.empty rfl (by simp) (by simp) (by simp) (by simp), ⟨rfl, by simp, by simp, by simp, by simp, none, 0, by simp, Nat.le_refl _, by simp [maxLen], fun _ => rfl, fun x e => (by cases e), .inl rfl⟩, fun b h1 h2 => by omega, fun b h => ⟨by omega, by simp; omega⟩, fun b h => ⟨by omega, by simp; omega⟩, fun b h => by simp at h; omega⟩
        have Hp := Lib.hid (play_walk2 w _ _ _ false [] E a0 len0 cap0 acts hb4 hT FineR.nil HH.out.1 HA.out.1)
        have H4 := Lib.hid hb4
        clear hb4 hT
        go_wp2_with fail
        refine Hp.out.mono ?_
        rintro e w5 ⟨rfl, hb5, sd, l, h5, hf5⟩
        have H5 := Lib.hid (And.intro (H4.out.trans hb5) (And.intro h5 hf5))
        obtain ⟨c1, ⟨ma, mc, c0⟩, _, _⟩ := h5.mcells
        clear hb5 h5 hf5 Hp H4
        obtain ⟨KA, hKA⟩ : ∃ KA, KpR w5.heap.size w5 ma l = KA := ⟨_, rfl⟩
        have hkp : KpR w5.heap.size w5 ma l := by
          obtain ⟨F, G, ks, S, h1, h2, _⟩ := H5.out.2.1
          obtain ⟨a9, cap9, e9, _, _, _, _, h9⟩ := h2.c0
          rw [c0] at e9
          simp only [Option.some.injEq, Value.slice.injEq] at e9
          rw [e9.1]
          exact h9
        clear hKA
        obtain ⟨hb, hhb⟩ : ∃ hb, w3.heap.size = hb := ⟨_, rfl⟩
        rw [hhb] at H5 c0 c1
        obtain ⟨mb, hmb⟩ : ∃ mb, hb + 1 = mb := ⟨_, rfl⟩
        rw [hmb] at H5 c0 c1
        obtain ⟨n, hn⟩ : ∃ n, l.length = n := ⟨_, rfl⟩
        have hn60 : n ≤ 60 := by have := H5.out.2.2.1.2; omega
        rw [hn] at c0
        have HK := Lib.hid (And.intro hkp hn)
        clear hkp hn
        have hc5 : ∀ W, Below w5.heap.size w5 W → W.cell? ⟨mb, 0, none⟩ = some (.slice ma n mc) := fun W h => (h.cell (lt_of_cell c0)).trans c0
        have HC5 := Lib.hid hc5
        clear hc5 c1 c0
        go_wp2_with fail
        go_loopw [12, 13] (fun vz vi wr => ∃ (i : Nat) (z : Int), i ≤ n ∧ vi = .int .i64 i ∧ vz = .int .i64 z ∧ 0 ≤ z ∧ z ≤ (i : Int) * 2000 ∧ Hid (Below w5.heap.size w5 wr)) (fun _ vi _ => n - (intOf vi).toNat)
        case atStart => exact ⟨0, 0, by omega, rfl, rfl, by omega, by omega, Lib.hid (Below.refl _ _)⟩
        case round =>
          obtain ⟨i, z, hi, rfl, rfl, hz0, hz1, Hr⟩ := hrel
          have c0 := HC5.out wr Hr.out
          have hi2 : i < n ∨ i = n := by omega
          rcases hi2 with hilt | rfl
          · have hilt2 : (i : Int) < n := by omega
            obtain ⟨b, off, rfl, hbl, hcx⟩ : ∃ b off, ma = some ⟨b, off, none⟩ ∧ b < w5.heap.size ∧ w5.cell? ⟨b, off + i * 6, none⟩ = some (.string (l[i]?.getD kp0).1) ∧ w5.cell? ⟨b, off + i * 6 + 1 + 4, none⟩ = some (.string (l[i]?.getD kp0).2.2.2.2.2) := by
              rcases HK.out.1 with he | ⟨b, off, e, hbl, hc⟩
              · exfalso
                have := HK.out.2
                rw [he] at this; simp at this; omega
              · obtain ⟨k0, _, _, _, _, k5⟩ := hc i (by rw [HK.out.2]; exact hilt)
                exact ⟨b, off, e, hbl, k0, k5⟩
            have k0 := (Hr.out.cell (p := ⟨b, off + i * 6, none⟩) hbl).trans hcx.1
            have k5 := (Hr.out.cell (p := ⟨b, off + i * 6 + 1 + 4, none⟩) hbl).trans hcx.2
            have hrow : RowOkP (l[i]?.getD kp0) := H5.out.2.2.2 _ (by rw [List.getElem?_eq_getElem (by rw [HK.out.2]; exact hilt)]; exact List.getElem_mem _)
            have hx1 : (l[i]?.getD kp0).1.size ≤ 16 := by
              have := hrow.1
              unfold nameB at this
              rw [Bool.and_eq_true, decide_eq_true_eq] at this
              omega
            have hx2 : (l[i]?.getD kp0).2.2.2.2.2.size ≤ 1000 := (right_num hrow.2.1).2.2.2.2
            generalize (l[i]?.getD kp0).1 = key at k0 hx1
            generalize (l[i]?.getD kp0).2.2.2.2.2 = wtr at k5 hx2
            have hz2 : z ≤ 120000 := by omega
            have hw1 : IntKind.i64.wrap (z + (key.size : Int)) = z + (key.size : Int) := IntWalk.i64_in _ (by omega)
            have hw2 : IntKind.i64.wrap (z + (key.size : Int) + (wtr.size : Int)) = z + (key.size : Int) + (wtr.size : Int) := IntWalk.i64_in _ (by omega)
            have hnew : 0 ≤ z + (key.size : Int) + (wtr.size : Int) ∧ z + (key.size : Int) + (wtr.size : Int) ≤ ((i + 1 : Nat) : Int) * 2000 := by constructor <;> omega
            have HN := Lib.hid hnew
            clear hcx hrow hnew
            go_wp2_with fail
            go_quiet (fail)
            go_wp2_with fail
            go_roundw
            case rel => exact ⟨i + 1, z + (key.size : Int) + (wtr.size : Int), by omega, by go_num, by go_num, HN.out.1, HN.out.2, Lib.hid (Hr.out.trans ((below_drewN' _ _).mono Hr.out.size))⟩
            case measure => simp [intOf]; omega
          · have h6 := H5.out.2.1.below Hr.out (Nat.le_refl _)
            have hbw : Below w.heap.size w wr := H5.out.1.trans (Hr.out.mono H5.out.1.size)
            have hSW := two_save h6 H5.out.2.2 (HH.out.2.2.below hbw (Nat.le_refl _))
            have hls := load_save (sd := sd) H5.out.2.2.2 H5.out.2.2.1
            have hsz := save_short (sd := sd) H5.out.2.2
            obtain ⟨B, hB⟩ : ∃ B, (⟨(saveB sd l).toArray⟩ : ByteArray) = B := ⟨_, rfl⟩
            have hBl : B.data.toList = saveB sd l := by rw [← hB]
            have hBz : B.size ≤ 900000 := by rw [← hB, ba_size]; exact hsz
            have hld := fun W (hb : Below w.heap.size w W) => load_sealed E B W (HH.out.1.below hb (Nat.le_refl _)) (HH.out.2.1.below hb (Nat.le_refl _)) (HH.out.2.2.below hb (Nat.le_refl _)) hBz
            rw [hBl, hls] at hld
            rw [hB] at hSW
            have hXz : (B ++ fourS (Sm.crc (Sm.nats B))).size = B.size + 4 := by rw [ByteArray.size_append, fourS_size]
            obtain ⟨X, hX⟩ : ∃ X, B ++ fourS (Sm.crc (Sm.nats B)) = X := ⟨_, rfl⟩
            rw [hX] at hSW hld hXz
            have HSW := Lib.hid hSW
            have HLd := Lib.hid hld
            have HX := Lib.hid (And.intro hX (And.intro hXz (And.intro hbw h6)))
            have hX9 : X.size ≤ 900004 := by omega
            clear hSW hld hls hsz hB hBl hX hXz hbw h6
            go_wp2_with fail
            refine HSW.out.mono ?_
            rintro e w6 ⟨rfl, hb6⟩
            have HB6 := Lib.hid (And.intro (HX.out.2.2.1.trans (hb6.mono HX.out.2.2.1.size)) (HX.out.2.2.2.below hb6 (Nat.le_refl _)))
            clear hb6
            go_wp2_with fail
            refine (HLd.out w6 HB6.out.1).mono ?_
            rintro e w7 ⟨hb7, ⟨hno, rfl⟩ | ⟨l2, sd2, hb2, hyes, hf2, hone, rfl⟩⟩
            · cases hno
            · simp only [Option.some.injEq, Prod.mk.injEq] at hyes
              obtain ⟨rfl, rfl⟩ := hyes
              have hT7 := two_of_one (HB6.out.2.past hb7) hone (fun b h1 h2 h3 => by rcases h1.2 with h | h <;> omega) (fun b => w.heap.size ≤ b) (fun b h => h.1) (fun b h => Nat.le_trans HB6.out.1.size h) (fun b h => Nat.le_trans HB6.out.1.size (Nat.le_trans hb7.size h))
              have HB7 := Lib.hid (And.intro (HB6.out.1.trans (hb7.mono HB6.out.1.size)) hT7)
              clear hb7 hone hf2 hT7
              unfold rLoad
              go_wp2_with fail
              refine (ashold_walk HB7.out.2 H5.out.2.2.1).mono ?_
              rintro e w8 ⟨rfl, hb8⟩
              have HB8 := Lib.hid (And.intro (HB7.out.1.trans (hb8.mono HB7.out.1.size)) (HB7.out.2.below hb8 (Nat.le_refl _)))
              clear hb8
              by_cases hlt : pos < (X.size : Int)
              · obtain ⟨p, rfl⟩ : ∃ p : Nat, pos = (p : Int) := ⟨pos.toNat, by omega⟩
                obtain ⟨k, rfl⟩ : ∃ k : Nat, bit = (k : Int) := ⟨bit.toNat, by omega⟩
                have hpX : p < X.size := by omega
                have hcv := run_bytes_of_string (P := Tryz.prog) w8 9 53 5 X Tryz.underlying9 Tryz.underlying53 Tryz.underlying5
                obtain ⟨W9, hW9⟩ : ∃ W9, W9 = (w8.drew.alloc (.cells (bytesRow X (grownCap w8 X.size 0 5)) 5 ((bytesRow X (grownCap w8 X.size 0 5)).size, (bytesRow X (grownCap w8 X.size 0 5)).size + 1))) := ⟨_, rfl⟩
                rw [← hW9] at hcv
                have hc9 : ∀ j, j < X.size → W9.cell? ⟨w8.heap.size, j, none⟩ = some (.int .u8 (((Sm.nats X)[j]?.getD 0 : Nat) : Int)) := by
                  intro j hj
                  have hj' : j < X.data.size := hj
                  rw [hW9]
                  have := World.cell?_alloc_mark w8.drew (bytesRow X (grownCap w8 X.size 0 5)) 5 ((bytesRow X (grownCap w8 X.size 0 5)).size, (bytesRow X (grownCap w8 X.size 0 5)).size + 1) j
                  rw [show w8.drew.heap.size = w8.heap.size from rfl] at this
                  rw [this, bytesRow_at _ _ _ hj', Sm.nats_at hj']
                  rfl
                have hf9 : ∀ j, j < X.size → W9.frozen? ⟨w8.heap.size, j, none⟩ = false := by
                  intro j hj
                  rw [hW9]
                  have := World.frozen?_alloc_mark w8.drew (bytesRow X (grownCap w8 X.size 0 5)) 5 (bytesRow X (grownCap w8 X.size 0 5)).size ((bytesRow X (grownCap w8 X.size 0 5)).size + 1) j
                  rw [show w8.drew.heap.size = w8.heap.size from rfl] at this
                  rw [this]
                  have hj' : j < X.data.size := hj
                  have : X.data.size ≤ (bytesRow X (grownCap w8 X.size 0 5)).size := by unfold bytesRow; simp
                  simp
                  omega
                have hb9 : Below w8.heap.size w8 W9 := hW9 ▸ ((Below.refl _ _).drew).alloc (Nat.le_refl _) _
                obtain ⟨g, hg⟩ : ∃ g, w8.heap.size = g := ⟨_, rfl⟩
                generalize grownCap w8 X.size 0 5 = cap at hcv
                rw [hg] at hcv hc9 hf9
                obtain ⟨c, hc⟩ : ∃ c, (Sm.nats X)[p]?.getD 0 = c := ⟨_, rfl⟩
                have hclt : c < 256 := by rw [← hc]; exact Sm.nats_lt X p
                have cp := hc9 p hpX
                have fp := hf9 p hpX
                rw [hc] at cp
                have Hc9 := Lib.hid (And.intro hc9 (And.intro hb9 (And.intro hg hc)))
                clear hc9 hf9 hW9 hb9 hg hc
                go_wp2_with fail
                have hk8 : k < 8 := by omega
                have hm8 : 2 ^ k < 256 := Nat.lt_of_lt_of_le (Nat.pow_lt_pow_right (by decide) hk8) (Nat.le_refl (2 ^ 8))
                have hx : bits .xor .u8 (c : Int) (2 ^ k % 256) = ((c ^^^ 2 ^ k : Nat) : Int) := by
                  have e1 : ((2 : Int) ^ k) = ((2 ^ k : Nat) : Int) := by simp
                  rw [e1, Int.emod_eq_of_lt (Int.natCast_nonneg _) (by omega), u8_xor_nat _ _ hclt hm8]
                rw [hx]
                obtain ⟨W10, hW10⟩ : ∃ W10, W9.setCell ⟨g, p, none⟩ (.int .u8 ((c ^^^ 2 ^ k : Nat) : Int)) = W10 := ⟨_, rfl⟩
                obtain ⟨Y, hY⟩ : ∃ Y, Sm.flipB X (2 ^ (8 * p + k)) = Y := ⟨_, rfl⟩
                have hYz : Y.size = X.size := by rw [← hY]; exact Sm.flip_size _ _
                have hYl : Y.data.toList.length = X.size := by rw [← hYz]; simp
                have hcb := run_convert_bytes_back (P := Tryz.prog) W10 53 9 5 ⟨g, 0, none⟩ cap Y.data.toList Tryz.underlying53 Tryz.underlying5 Tryz.underlying9 (fun j hj => by
                  have hj' : j < Y.size := by simpa using hj
                  have hj4 : j < X.size := by omega
                  rw [Go.WideShapes.add_plain, Nat.zero_add, ← hW10]
                  have e1 := Sm.flip_nats X (2 ^ (8 * p + k)) j hj4
                  rw [hY, Sm.nats_at hj', byteAt_pow, show (8 * p + k) / 8 = p by omega, show (8 * p + k) % 8 = k by omega] at e1
                  by_cases hjp : j = p
                  · subst hjp
                    rw [if_pos rfl, Hc9.out.2.2.2] at e1
                    rw [World.cell?_setCell_same _ _ _ cp, ← e1]
                    rfl
                  · rw [if_neg hjp, Nat.xor_zero] at e1
                    rw [World.cell?_setCell_other _ _ _ _ (fun he => hjp (Addr.mk.inj he).2.1.symm), Hc9.out.1 j hj4, ← e1]
                    rfl)
                rw [hYl] at hcb
                have et : (⟨Y.data.toList.toArray⟩ : ByteArray) = Y := rfl
                rw [et] at hcb
                have hb10 : Below w8.heap.size w8 W10 := by rw [← hW10]; exact Hc9.out.2.1.trans (below_set (by rw [Hc9.out.2.2.1]; exact Nat.le_refl _))
                have HB10 := Lib.hid (And.intro (HB8.out.1.trans (hb10.mono HB8.out.1.size)) (HB8.out.2.below hb10 (Nat.le_refl _)))
                have hnot : fourS (Sm.crc (Sm.nats (bodyOf Y))) ≠ tailOf Y := by
                  rw [← hY, ← HX.out.1]
                  have hXs := HX.out.2.1
                  exact flip_bad (by omega)
                have hXs := HX.out.2.1
                have hlf := load_fail E 8 Y W10 (open_sum Y W10 (errV (E 8)) (by omega) (by omega) ((HH.out.1.below HB10.out.1 (Nat.le_refl _)).c8) hnot)
                have HLF := Lib.hid hlf
                rw [hW10, hcb]
                clear hlf hnot hb10 et hYl hY hW10 hx hm8 hXs hYz Hc9 cp fp hcv
                simp only [Result.andThen]
                rw [Oper.upon_value]
                clear hcb
                go_wp2_with fail
                refine HLF.out.mono ?_
                rintro e w11 ⟨rfl, hb11⟩
                have HB11 := Lib.hid (And.intro (HB10.out.1.trans (hb11.mono HB10.out.1.size)) (HB10.out.2.below hb11 (Nat.le_refl _)))
                clear hb11
                unfold rLoad
                go_wp2_with fail
                refine (coded2_of E 9 (errV (E 8)) w11 (HH.out.1.below HB11.out.1 (Nat.le_refl _)) (.inr ⟨8, by omega, by omega, rfl⟩)).mono ?_
                rintro e w12 ⟨rfl, hb12⟩
                have HB12 := Lib.hid (And.intro (HB11.out.1.trans (hb12.mono HB11.out.1.size)) (HB11.out.2.below hb12 (Nat.le_refl _)))
                clear hb12
                go_wp2_with fail
                refine (play_walk2 w w12 _ _ _ _ E a1 len1 cap1 more HB12.out.1 HB12.out.2 H5.out.2.2 HH.out.1 HA.out.2).mono ?_
                rintro e w13 ⟨rfl, hb13, _⟩
                have HB13 := Lib.hid (HB12.out.1.trans hb13)
                clear hb13
                go_wp2
                go_ret
                exact ⟨rfl, HB13.out⟩
              · go_wp2_with fail
                refine (play_walk2 w w8 _ _ _ _ E a1 len1 cap1 more HB8.out.1 HB8.out.2 H5.out.2.2 HH.out.1 HA.out.2).mono ?_
                rintro e w9 ⟨rfl, hb9, _⟩
                have HB9 := Lib.hid (HB8.out.1.trans hb9)
                clear hb9
                go_wp2
                go_ret
                exact ⟨rfl, HB9.out⟩
end Go.Proofs.YthdicfcgkbepdaaGreatDoor.holdSaves
/- shardkeeplaw's HoldSaves: the row's step and the tied card: for every input the law returns true and its arguments read as before. Conditions: the listed variables read as the program's text lays them, which the card ties. -/
namespace Go.Proofs.YthdicfcgkbepdaaGreatDoor.holdSaves
open Go.ChangeShapes Go.WideShapes Go.ChangeAt Go.RowKit
open Go.ChangeMaps (open_string shut_string)

theorem laid_met (os : Os) (args : Array Value) : laidMetH Tryz.prog Rows.holdSavesRow.laid ((World.doorLaid Tryz.prog 400 os).forCall (fun _ _ => 0) ⟨#[], args, []⟩).memory :=
  laidMetH_of_parts3 (fuel := 8) (laidMet_of_run' 8 (by kernel_rfl) (by kernel_rfl)) (by kernel_rfl) (by kernel_rfl)
theorem reads (os : Os) {H : Type} (enc : TypeId × Value → H) : ∃ places, DataW.whole enc Tryz.prog ((World.doorLaid Tryz.prog 400 os).forCall (fun _ _ => 0) ⟨#[], #[.slice none 0 0, .slice none 0 0, .int .i64 0, .int .i64 0], []⟩).memory Tryz.f4.params.toList Rows.holdSavesSpec.vars false (#[.slice none 0 0, .slice none 0 0, .int .i64 0, .int .i64 0] : Array Value).toList 8 = some ([.nil, .nil, .lit (.int .i64 0), .lit (.int .i64 0)], [], places) :=
  ⟨[], by kernel_rfl⟩

set_option maxRecDepth 100000 in
set_option maxHeartbeats 2000000 in
theorem contract (H : Type) (enc : TypeId × Value → H) (W : World) (base : Nat) (args : Array Value) (ds gs : List (DataW H)) (before : List MemPlace)
    (hval0 : ∀ (j : Nat) t v, Tryz.f4.params[j]? = some t → args[j]? = some v → Value.okWide Tryz.prog W .any base t v)
    (hW : DataW.Whole enc Tryz.prog Tryz.f4.params.toList Rows.holdSavesSpec.vars false W args.toList ds gs before)
    (hsz : (DataW.weightsEach Tryz.prog (Tryz.f4.params.toList ++ Rows.holdSavesSpec.plain.varTypes Tryz.prog) (ds ++ gs)).all (· ≤ reachBytes) = true)
    (hL : laidMetH Tryz.prog Rows.holdSavesRow.laid W) :
    Calls Tryz.prog 4 args W fun e W' => ∃ v, e = .returned v ∧ Rows.holdSavesSpec.post enc Tryz.prog Tryz.f4 false true false false W args v W' := by
  have hval : ∀ (j : Nat) t v, Tryz.f4.params[j]? = some t → args[j]? = some v → Value.okWide Tryz.prog W .any base t v := hval0
  have hW' := hW
  obtain ⟨p, q, hA0, hV, rfl, hfz, hnd⟩ := hW
  have hA : DataW.TrodAll enc Tryz.prog W 0 (fun _ => true) true Tryz.f4.params.toList args.toList ds p := hA0
  rw [Tryz.params4] at hA hval
  obtain ⟨v0, vs0, d0, ds0, p0, q0, hargs, rfl, rfl, h0, r0⟩ := trodAll_cons hA
  obtain ⟨v1, vs1, d1, ds1, p1, q1, rfl, rfl, rfl, h1, r1⟩ := trodAll_cons r0
  obtain ⟨v2, vs2, d2, ds2, p2, q2, rfl, rfl, rfl, h2, r2⟩ := trodAll_cons r1
  obtain ⟨v3, vs3, d3, ds3, p3, q3, rfl, rfl, rfl, h3, r3⟩ := trodAll_cons r2
  obtain ⟨rfl, rfl, rfl⟩ := trodAll_nil r3
  obtain rfl : args = #[v0, v1, v2, v3] := by cases args; simp_all
  obtain ⟨rfl, rfl⟩ := trodVars_none hV
  obtain ⟨a0, len0, cap0, rfl⟩ := okWide_slice Tryz.underlying34 (hval 0 34 v0 rfl rfl)
  have k0 := h0
  have lt0 : ∀ x ∈ p0, x.block < W.heap.size := by obtain ⟨m, hm⟩ := k0; exact DataW.trod_lt m _ _ _ hm
  obtain ⟨z0, w0⟩ := open_acts h0
  obtain ⟨a1, len1, cap1, rfl⟩ := okWide_slice Tryz.underlying34 (hval 1 34 v1 rfl rfl)
  have k1 := h1
  have lt1 : ∀ x ∈ p1, x.block < W.heap.size := by obtain ⟨m, hm⟩ := k1; exact DataW.trod_lt m _ _ _ hm
  obtain ⟨z1, w1⟩ := open_acts h1
  obtain ⟨a2, rfl, rfl, rfl, w2⟩ := open_int Tryz.underlying3 (hval 2 3 v2 rfl rfl) h2
  obtain ⟨a3, rfl, rfl, rfl, w3⟩ := open_int Tryz.underlying3 (hval 3 3 v3 rfl rfl) h3
  clear hA0 hval0
  refine (walk a0 len0 cap0 z0 a1 len1 cap1 z1 a2 a3 W w0 w1 w2 w3 hL).mono fun e W' ⟨he, bel⟩ => ?_
  subst he
  exact ⟨_, rfl, _, _, _, [], _, [], hW', trodAll_mk1 (shut_bool Tryz.underlying4 _), (trodAll_cons_mk (Below.trod laidOut (by kernel_rfl) (of_decide_eq_true (by kernel_rfl)) k0 bel lt0) (trodAll_cons_mk (Below.trod laidOut (by kernel_rfl) (of_decide_eq_true (by kernel_rfl)) k1 bel lt1) (trodAll_cons_mk (shut_int Tryz.underlying3 w2) (trodAll_cons_mk (shut_int Tryz.underlying3 w3) trodAll_mk0)))), rfl, bel.frame _, fun h => by cases h⟩

set_option maxHeartbeats 4000000 in
theorem closed : joinedFacts Tryz.prog 4 Tryz.f4 (OpenSpec.ofChange Rows.holdSavesSpec).bare Rows.holdSavesRow = true := by
  unfold joinedFacts
  exact (Closed.and_mk (Closed.and_mk (Closed.and_mk (Closed.and_mk (Closed.and_mk (Closed.and_mk (Closed.and_mk (Closed.and_mk (Closed.and_mk (Closed.and_mk (Closed.and_mk (Closed.and_mk (Closed.and_mk (Closed.and_mk (Closed.and_mk (Closed.and_mk (Closed.and_mk (Closed.and_mk (Closed.and_mk (Closed.and_mk (Closed.and_mk (Closed.and_mk (Closed.and_mk (Closed.and_mk (Closed.and_mk (Closed.and_mk (Closed.and_mk (Closed.and_mk (Closed.and_mk (Closed.and_mk (Closed.and_mk (by as_aux_lemma => kernel_rfl) Closed.laidOut) Closed.mapsRowed) (by as_aux_lemma => kernel_rfl)) (by as_aux_lemma => kernel_rfl)) (by as_aux_lemma => kernel_rfl)) Closed.stops) (by as_aux_lemma => kernel_rfl)) Closed.stopKnobs) (by as_aux_lemma => kernel_rfl)) (by as_aux_lemma => kernel_rfl)) (by as_aux_lemma => kernel_rfl)) (by as_aux_lemma => kernel_rfl)) (by as_aux_lemma => kernel_rfl)) (by as_aux_lemma => kernel_rfl)) (by as_aux_lemma => kernel_rfl)) (by as_aux_lemma => kernel_rfl)) (by as_aux_lemma => kernel_rfl)) (by as_aux_lemma => kernel_rfl)) (by as_aux_lemma => kernel_rfl)) (by as_aux_lemma => kernel_rfl)) (by as_aux_lemma => kernel_rfl)) Closed.plainKeys) (by as_aux_lemma => kernel_rfl)) Closed.stopsHeard) Closed.mayEnter) Closed.lifted) Closed.make) (by as_aux_lemma => kernel_rfl)) Closed.pinned) (by as_aux_lemma => kernel_rfl)) (by as_aux_lemma => kernel_rfl))

set_option maxRecDepth 100000 in
theorem lifted (os : Os) (started : os.Started) (H : Type) (enc : TypeId × Value → H) (F : Stop.Interp) :
    ReturnsInHanded {} Tryz.checked os 4 .any ((OpenSpec.ofChange Rows.holdSavesSpec).preRow enc Tryz.prog Tryz.f4 Rows.holdSavesRow.domain false Rows.holdSavesRow.laid) (((OpenSpec.ofChange Rows.holdSavesSpec).at F).post enc Tryz.prog Tryz.f4 false true false false) := by
  obtain ⟨places, hx⟩ := reads os enc
  refine returnsInHanded_of_row (C := Tryz.checked) (s := OpenSpec.ofChange Rows.holdSavesSpec) own started (by kernel_rfl) Tryz.func4
    (witness_row_atRef (enc := enc) (C := Tryz.checked) false (World.doorLaid Tryz.prog 400 os) #[.slice none 0 0, .slice none 0 0, .int .i64 0, .int .i64 0] rfl (by kernel_rfl) (by kernel_rfl) (by kernel_rfl)
      (OpenSpec.preRow_of_cond 8 hx (by kernel_rfl) (fun k hk => by cases hk) (by kernel_rfl) (laid_met os _))) ?_
  intro W base args ds gs before hval hW _ _ hsz hL _ _
  exact contract H enc W base args ds gs before hval hW hsz hL

theorem said : Rows.HoldSavesSaid :=
  OpenClaim.holds_of_cond 4 Tryz.f4 rfl rfl rfl rfl rfl rfl rfl ⟨rfl, rfl, rfl, rfl, rfl⟩ rfl rfl rfl rfl rfl (by kernel_rfl) Tryz.func4 closed
    (of_decide_eq_true (by kernel_rfl)) (by unfold Func.isWrapper; first | (rw [if_pos (by decide +kernel)]; kernel_rfl) | (rw [if_neg (by decide +kernel)]; exact ⟨rfl, rfl⟩))
    (fun os started H enc _ F => by rw [OpenClaim.pre_eq_preRow]; exact lifted os started H enc F)

theorem plain (f : FuncId) (fn : Func) (hf : Tryz.pinned.checked.prog.funcNamed "shardkeep/shardkeeplaw2.HoldSaves" = some f) (hfn : Tryz.pinned.checked.prog.funcs[f]? = some fn) :
    true = Tryz.pinned.checked.prog.looks [] ∧ ∀ (j : Nat) t, fn.params[j]? = some t → Tryz.pinned.checked.prog.wantsStandIn t = false := by
  obtain rfl : f = 4 := Option.some.inj ((show Tryz.prog.funcNamed "shardkeep/shardkeeplaw2.HoldSaves" = some 4 by kernel_rfl).symm.trans hf) |>.symm
  obtain rfl : fn = Tryz.f4 := (Option.some.inj (Tryz.func4.symm.trans hfn)).symm
  refine ⟨by kernel_rfl, fun j t ht => ?_⟩
  rw [Tryz.params4] at ht
  have hm : t ∈ ([34, 34, 3, 3] : List TypeId) := by simpa using Array.mem_of_getElem? ht
  have hall : (([34, 34, 3, 3] : List TypeId).all fun u => !Tryz.prog.wantsStandIn u) = true := by kernel_rfl
  exact (show Tryz.prog.wantsStandIn t = false by simpa using List.all_eq_true.1 hall t hm)

/-- the statement. -/
theorem card : Rows.HoldSavesCardSaid :=
  Claim7.holds_tied_plain_at .later [] _ _ _ _ said (fun _ h => by cases h) (by kernel_rfl) (fun _ h => by cases h) holdSaves_row_tie rfl ⟨rfl, rfl⟩ (by kernel_rfl) rfl plain (by kernel_rfl)
#print axioms card
end Go.Proofs.YthdicfcgkbepdaaGreatDoor.holdSaves
