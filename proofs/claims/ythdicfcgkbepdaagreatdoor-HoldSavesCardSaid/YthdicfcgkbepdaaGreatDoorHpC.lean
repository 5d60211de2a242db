/- Plain: both sides' keys. -/
import Derived.Test.YthdicfcgkbepdaaGreatDoorHpA
import Derived.Test.YthdicfcgkbepdaaGreatDoorKeys
import Derived.Test.YthdicfcgkbepdaaGreatDoorMhC
import Derived.Test.YthdicfcgkbepdaaGreatDoorKyP
import Derived.Test.YthdicfcgkbepdaaGreatDoorHpB
import Derived.Test.YthdicfcgkbepdaaGreatDoorSamT
namespace Go.Proofs.YthdicfcgkbepdaaGreatDoor
section
open Go.RowKit

theorem sortK_rise {ks : List ByteArray} (hn : ks.Nodup) : (sortK ks).Pairwise (fun x y => Rg.tlt x y = true) ∧ ∀ k, k ∈ sortK ks ↔ k ∈ ks := by
  unfold sortK
  have hp := List.mergeSort_perm (ks.map fun k => k.data.toList) (fun x y => decide (x ≤ y))
  have hnd : (ks.map fun k => k.data.toList).Nodup := List.pairwise_map.2 (hn.imp (fun {a b} hne e => hne (ba_inj e)))
  have hnd2 := hp.nodup_iff.2 hnd
  have hsd := List.pairwise_mergeSort (le := fun (x y : List UInt8) => decide (x ≤ y)) (fun a b c h1 h2 => by
    simp only [decide_eq_true_eq] at *
    exact List.le_trans h1 h2) (fun a b => by
    simp only [Bool.or_eq_true, decide_eq_true_eq]
    exact List.le_total a b) (ks.map fun k => k.data.toList)
  refine ⟨?_, fun k => ?_⟩
  · rw [List.pairwise_map]
    refine (hsd.and hnd2).imp (fun {x y} h => ?_)
    rw [Rg.tlt_iff, ByteArray.toList_eq, ByteArray.toList_eq]
    have h1 : x ≤ y := by simpa using h.1
    show x < y
    exact Classical.byContradiction fun h9 => h.2 (List.le_antisymm h1 (List.not_lt.1 h9))
  · rw [List.mem_map]
    constructor
    · rintro ⟨x, hx, rfl⟩
      obtain ⟨k, hk, rfl⟩ := List.mem_map.1 (hp.mem_iff.1 hx)
      have e : (⟨k.data.toList.toArray⟩ : ByteArray) = k := ba_inj rfl
      rw [e]; exact hk
    · intro hk
      exact ⟨k.data.toList, hp.mem_iff.2 (List.mem_map.2 ⟨k, hk, rfl⟩), ba_inj rfl⟩
/-- both sides' keys. -/
theorem keys_same {l : List Kp} {ks : List ByteArray} (hs : Srt l) (hn : ks.Nodup) (hm : ∀ k, k ∈ ks ↔ getL l k ≠ []) : sortK ks = keysL l := by
  obtain ⟨a1, a2⟩ := sortK_rise hn
  obtain ⟨b1, b2⟩ := keys_fold l [] List.Pairwise.nil (fun o h => by cases h) hs
  refine rise_one a1 b1 (fun k => ?_)
  rw [a2, hm, getL_ne]
  show _ ↔ k ∈ l.foldl keyStep []
  rw [b2]
  simp
end
end Go.Proofs.YthdicfcgkbepdaaGreatDoor
/- Walks of the document's Keys and Put of a hold. -/
namespace Go.Proofs.YthdicfcgkbepdaaGreatDoor
section
open Go.RowKit

set_option maxRecDepth 100000 in
set_option maxHeartbeats 8000000 in
theorem mkeys_walk (G : Nat → Prop) (w : World) (mb : Nat) (sd : Bool) (l : List Kp) (h : MHAt G w mb sd l) (hl : l.length ≤ 1000) :
    Calls Tryz.prog 39 #[.pointer (some ⟨mb, 0, none⟩)] w fun e w' => (∃ v, e = .returned v ∧ OwnT w.heap.size w' v (keysL l)) ∧ (keysL l).length ≤ 1000 ∧ Below w.heap.size w w' := by
  have HM := Lib.hid h
  obtain ⟨n, hn⟩ : ∃ n, l.length = n := ⟨_, rfl⟩
  have Hn := Lib.hid hn
  rw [hn] at hl
  clear h hn
  go_enter Tryz.func39, Tryz.ntmps39
  go_wp2
  go_loopw [3, 4] (fun vo vi wr => ∃ i : Nat, i ≤ n ∧ vi = .int .i64 i ∧ Hid (OwnT w.heap.size wr vo (keysL (l.take i)) ∧ (keysL (l.take i)).length ≤ i ∧ Below w.heap.size w wr)) (fun _ vi _ => n - (intOf vi).toNat)
  case atStart => exact ⟨0, by omega, rfl, Lib.hid ⟨by simpa [keysL] using OwnT.nil _ _, by simp [keysL], Below.refl _ _⟩⟩
  case round =>
    obtain ⟨i, hi, rfl, Hr⟩ := hrel
    have hM := HM.out.below Hr.out.2.2 (Nat.le_refl _)
    obtain ⟨a, cap, c0, hc, hcm, ha, _, hRd⟩ := hM.c0
    rw [Hn.out] at c0 hc
    obtain ⟨ao, co, hve, hco, hcom, _, hto⟩ := Hr.out.1.read
    obtain ⟨O, hO⟩ : ∃ O, keysL (l.take i) = O := ⟨_, rfl⟩
    have Hr2 := Lib.hid (by have h9 := Hr.out; rw [hO] at h9; exact h9)
    rw [hO] at hve hco hto
    have hlO := Hr2.out.2.1
    have hi2 : i < n ∨ i = n := by omega
    rcases hi2 with hilt | rfl
    · have hilt2 : (i : Int) < n := by omega
      have hil : i < l.length := by have := Hn.out; omega
      rcases hRd with he | ⟨b, off, rfl, hbl, hcx⟩
      · exfalso
        rw [he] at hil; simp at hil
      obtain ⟨k0, _⟩ := hcx i hil
      have hst := keysL_take hil
      rw [hO] at hst
      obtain ⟨p, hp⟩ : ∃ p, l[i]?.getD kp0 = p := ⟨_, rfl⟩
      rw [hp] at k0 hst
      obtain ⟨x, y⟩ := p
      dsimp only at k0
      have Hst := Lib.hid hst
      obtain ⟨Wr, hWr⟩ : ∃ Wr : World, Wr = wr := ⟨_, rfl⟩
      have HO := Lib.hid (show OwnT w.heap.size Wr u3 O ∧ Below w.heap.size w Wr by rw [hWr]; exact ⟨Hr2.out.1, Hr2.out.2.2⟩)
      rw [← hWr] at k0 c0 hto ⊢
      clear hWr hcx hp hst hM ha hc hcm hbl hil Hr Hr2 hO
      obtain ⟨m, hm⟩ : ∃ m, O.length = m := ⟨_, rfl⟩
      rw [hm] at hve hlO hco
      have Hm := Lib.hid hm
      clear hm
      -- the tail that appends
      have HAp : Hid (∀ (nq : Nat), OwnT w.heap.size (Wr.drewN nq) u3 O ∧ O.length ≤ 1000000 ∧ w.heap.size ≤ (Wr.drewN nq).heap.size ∧ Below w.heap.size w (Wr.drewN nq)) := Lib.hid (fun nq => ⟨HO.out.1.below (show Below Wr.heap.size Wr (Wr.drewN nq) from ⟨rfl, rfl, rfl, Nat.le_refl _, fun _ _ => rfl⟩) (Nat.le_refl _), by rw [Hm.out]; omega, HO.out.2.size, HO.out.2.trans ⟨rfl, rfl, rfl, Nat.le_refl _, fun _ _ => rfl⟩⟩)
      rcases Nat.eq_zero_or_pos m with h0 | hpos
      · subst h0
        have hOe : O = [] := List.length_eq_zero_iff.1 Hm.out
        have HS : Hid (keysL (l.take (i + 1)) = O ++ [x] ∧ (O ++ [x]).length ≤ i + 1) := Lib.hid ⟨by rw [Hst.out, hOe]; rfl, by rw [hOe]; simp⟩
        clear hOe
        subst hve
        go_wp2
        go_quiet (fail)
        have hA := HAp.out nq
        go_wp2_with (at_builtin; refine append_txt 34 43 rfl rfl w.heap.size _ O x rfl rfl hA.1 hA.2.1 hA.2.2.1 ?_)
        intro v' w' q1 q2 _
        have HN : Hid (OwnT w.heap.size w' v' (keysL (l.take (i + 1))) ∧ (keysL (l.take (i + 1))).length ≤ i + 1 ∧ Below w.heap.size w w') := Lib.hid ⟨by rw [HS.out.1]; exact q1, by rw [HS.out.1]; exact HS.out.2, (hA.2.2.2.alloc hA.2.2.1 _).grown q2 (by have := hA.2.2.1; simp at *; omega) (fun j e => (Own1.lt hA.1 j e).1)⟩
        clear q1 q2 hA
        go_wp2
        go_roundw
        case rel => exact ⟨i + 1, by omega, by go_num, HN⟩
        case measure => simp [intOf]; omega
      · obtain ⟨q, rfl⟩ : ∃ q, m = q + 1 := ⟨m - 1, by omega⟩
        rcases hto with he | ⟨bo, oo, rfl, _, hcx⟩
        · exfalso
          have := Hm.out
          rw [he] at this; simp at this
        have t0 := hcx q (by rw [Hm.out]; omega)
        obtain ⟨z, hz⟩ : ∃ z, O[q]?.getD ⟨#[]⟩ = z := ⟨_, rfl⟩
        rw [hz] at t0
        have hlast : O.getLast? = some z := by
          have hlt : q < O.length := by rw [Hm.out]; omega
          rw [List.getLast?_eq_getElem?, Hm.out, show q + 1 - 1 = q from rfl, List.getElem?_eq_getElem hlt]
          rw [List.getElem?_eq_getElem hlt] at hz
          exact congrArg some hz
        have HL := Lib.hid hlast
        have hwq : IntKind.i64.wrap ((q : Int) + 1 - 1) = q := by rw [show (q : Int) + 1 - 1 = q by omega]; exact IntWalk.i64_in _ (by omega)
        have hwq2 : (q : Int) < q + 1 := by omega
        have e0 : ((q : Int) + 1 == 0) = false := beq_eq_false_iff_ne.2 (by omega)
        have e0b : (q + 1 == 0) = false := rfl
        clear hcx hz hlast
        subst hve
        by_cases hzx : z = x
        · subst hzx
          have HS : Hid (keysL (l.take (i + 1)) = O) := Lib.hid (by rw [Hst.out]; unfold keyStep; rw [if_pos HL.out])
          go_wp2
          go_quiet (fail)
          have HN : Hid (OwnT w.heap.size (Wr.drewN nq) (.slice (some ⟨bo, oo, none⟩) (q + 1) co) (keysL (l.take (i + 1))) ∧ (keysL (l.take (i + 1))).length ≤ i + 1 ∧ Below w.heap.size w (Wr.drewN nq)) := Lib.hid ⟨by rw [HS.out]; exact (HAp.out nq).1, by rw [HS.out, Hm.out]; omega, (HAp.out nq).2.2.2⟩
          go_wp2
          go_roundw
          case rel => exact ⟨i + 1, by omega, by go_num, HN⟩
          case measure => simp [intOf]; omega
        · have HS : Hid (keysL (l.take (i + 1)) = O ++ [x] ∧ (O ++ [x]).length ≤ i + 1) := Lib.hid ⟨by rw [Hst.out]; unfold keyStep; rw [if_neg (by rw [HL.out]; intro e; exact hzx (Option.some.inj e))], by have := Hm.out; simp; omega⟩
          have e1 := txt_neW hzx
          clear hzx
          go_wp2
          go_quiet (fail)
          have hA := HAp.out nq
          go_wp2_with (at_builtin; refine append_txt 34 43 rfl rfl w.heap.size _ O x rfl rfl hA.1 hA.2.1 hA.2.2.1 ?_)
          intro v' w' q1 q2 _
          have HN : Hid (OwnT w.heap.size w' v' (keysL (l.take (i + 1))) ∧ (keysL (l.take (i + 1))).length ≤ i + 1 ∧ Below w.heap.size w w') := Lib.hid ⟨by rw [HS.out.1]; exact q1, by rw [HS.out.1]; exact HS.out.2, (hA.2.2.2.alloc hA.2.2.1 _).grown q2 (by have := hA.2.2.1; simp at *; omega) (fun j e => (Own1.lt hA.1 j e).1)⟩
          clear q1 q2 hA
          go_wp2
          go_roundw
          case rel => exact ⟨i + 1, by omega, by go_num, HN⟩
          case measure => simp [intOf]; omega
    · have hall : l.take i = l := List.take_of_length_le (by have := Hn.out; omega)
      rw [hall] at hO
      have HR : Hid (OwnT w.heap.size wr u3 (keysL l) ∧ (keysL l).length ≤ i ∧ Below w.heap.size w wr) := Lib.hid (by rw [hO]; exact Hr2.out)
      clear hall hM hRd ha hc hcm hO Hr Hr2 hve hto hco
      go_wp2
      go_ret
      exact ⟨⟨_, rfl, HR.out.1⟩, by have := HR.out.2.1; omega, HR.out.2.2⟩
end
end Go.Proofs.YthdicfcgkbepdaaGreatDoor
/- Walk of the law's asHold. -/
namespace Go.Proofs.YthdicfcgkbepdaaGreatDoor
section
open Go.RowKit Go.BigFrame

set_option maxRecDepth 100000 in
set_option maxHeartbeats 8000000 in
theorem ashold_walk {P : Nat → Prop} {w : World} {hb mb : Nat} {sd : Bool} {l : List Kp} (h : Two P w hb mb sd l sd l) (hf : Fine l) :
    Calls Tryz.prog 14 #[.pointer (some ⟨hb, 0, none⟩), .pointer (some ⟨mb, 0, none⟩)] w fun e w' => e = .returned (.bool true) ∧ Below w.heap.size w w' := by
  obtain ⟨F, G, ks, S, h1, h2, h3, h4, h5, _⟩ := h
  have ht := h1.tot
  have hl60 := hf.2
  have hks := keys_same hf.1 h1.nodup h1.mem
  have hksl : ks.length ≤ 60 := by have := ks_le_tot (C := getL l) (ks := ks) (fun k hk => (h1.mem k).1 hk); omega
  have Hcount := Lib.hid (fun W (hb : Below w.heap.size w W) => by have h9 := hcount_walk F W _ sd (getL l) ks S (h1.below hb (Nat.le_refl _)) (by omega); rw [ht] at h9; exact h9)
  have Hsealed := Lib.hid (fun W (hb : Below w.heap.size w W) => hsealed_walk F W _ sd (getL l) ks S (h1.below hb (Nat.le_refl _)))
  have Hkeys := Lib.hid (fun W (hb : Below w.heap.size w W) => by have h9 := hkeys_walk F W _ sd (getL l) ks S (h1.below hb (Nat.le_refl _)) (by omega); rw [hks] at h9; exact h9)
  have Hmkeys := Lib.hid (fun W (hb : Below w.heap.size w W) => mkeys_walk G W _ sd l (h2.below hb (Nat.le_refl _)) (by omega))
  have Hget := Lib.hid (fun W (hb : Below w.heap.size w W) (k : ByteArray) (hk : k.size ≤ maxLen) => hget_walk F W _ sd (getL l) ks S k (h1.below hb (Nat.le_refl _)) hk (by have := getL_le l k; omega))
  have Hlast := Lib.hid (fun W (hb : Below w.heap.size w W) (k : ByteArray) (hk : k.size ≤ maxLen) => hlast_walk F W _ sd (getL l) ks S k (h1.below hb (Nat.le_refl _)) hk (by have := getL_le l k; omega))
  have Hmget := Lib.hid (fun W (hb : Below w.heap.size w W) (k : ByteArray) => mget_walk G W _ sd l k (h2.below hb (Nat.le_refl _)) (by omega))
  have Hkz := Lib.hid (fun (k : ByteArray) (hk : k ∈ keysL l) => And.intro ((keysL_mem hf.1 k).1 hk) (h1.kz k ((h1.mem k).2 ((keysL_mem hf.1 k).1 hk))))
  obtain ⟨n, hn⟩ : ∃ n, l.length = n := ⟨_, rfl⟩
  obtain ⟨a, cap, c0, hc, hcm, ha, _, hRd⟩ := h2.c0
  have c1 := h2.c1
  have cells : ∀ W, Below w.heap.size w W → W.cell? ⟨mb, 0, none⟩ = some (.slice a l.length cap) ∧ W.cell? ⟨mb, 1, none⟩ = some (.bool sd) := fun W hb => ⟨(hb.cell (p := ⟨mb, 0, none⟩) h2.hlt).trans c0, (hb.cell (p := ⟨mb, 1, none⟩) h2.hlt).trans c1⟩
  rw [hn] at Hcount cells
  have Cells := Lib.hid cells
  have k0 := cells _ (Below.refl _ _).drew
  clear h1 h2 h3 h4 h5 c0 c1 ht hks cells hRd ha hc hcm hn hf
  have kd := k0
  go_enter Tryz.func14, Tryz.ntmps14
  go_wp2
  go_region_held3 (fun W => W.cell? ⟨mb, 0, none⟩ = some (.slice a n cap) ∧ W.cell? ⟨mb, 1, none⟩ = some (.bool sd))
    (first | exact k0 | exact q1 | exact q2 | exact q3 | exact q4)
    (first
      | (go_at_call 10; refine (Hcount.out _ (Below.refl _ _).drew).mono ?_; rintro e w1 ⟨rfl, hb1⟩; have HB1 := Lib.hid ((Below.refl w.heap.size w).drew.trans hb1); have q1 := Cells.out _ HB1.out; clear hb1)
      | (go_at_call 11; refine (Hsealed.out _ HB1.out).mono ?_; rintro e w2 ⟨rfl, rfl⟩)
      | (go_at_call 27; refine (Hkeys.out _ HB1.out).mono ?_; rintro e w2 ⟨⟨v2, rfl, o2⟩, hb2⟩; obtain ⟨a2, cap2, rfl, _, _, _, t2⟩ := o2.read; have HB2 := Lib.hid (And.intro (HB1.out.trans (hb2.mono HB1.out.size)) t2); have q2 := Cells.out _ HB2.out.1; clear hb2 o2 t2)
      | (go_at_call 39; refine (Hmkeys.out _ HB2.out.1).mono ?_; rintro e w3 ⟨⟨v3, rfl, o3⟩, hl3, hb3⟩; obtain ⟨a3, cap3, rfl, _, _, _, t3⟩ := o3.read; have HB3 := Lib.hid (And.intro (HB2.out.1.trans (hb3.mono HB2.out.1.size)) (And.intro ((TxsAt.below hb3 HB2.out.2).mono hb3.size) (And.intro t3 hl3))); have q3 := Cells.out _ HB3.out.1; clear hb3 o3 t3 hl3)
      | (go_at_call 38; refine (samet_walk _ _ _ _ (keysL l) _ _ _ (keysL l) true _ rfl rfl (by have := HB3.out.2.2.2; unfold maxLen; omega) HB3.out.2.1 HB3.out.2.2.1 (decide_eq_true rfl)).mono ?_; rintro e w4 ⟨rfl, hb4⟩; have HB4 := Lib.hid (HB3.out.1.trans (hb4.mono HB3.out.1.size)); have q4 := Cells.out _ HB4.out; clear hb4))
  clear q1 q2 q3 q4 k0 kd HB1 HB2 HB3
  go_wp2_with fail
  refine (Hmkeys.out _ HB4.out).mono ?_
  rintro e w5 ⟨⟨v5, rfl, o5⟩, hl5, hb5⟩
  obtain ⟨a5, cap5, rfl, _, _, _, t5⟩ := o5.read
  obtain ⟨K, hK⟩ : ∃ K, keysL l = K := ⟨_, rfl⟩
  obtain ⟨m, hm⟩ : ∃ m, K.length = m := ⟨_, rfl⟩
  rw [hK] at t5 Hkz hl5 ⊢
  rw [hm] at hl5 ⊢
  have HB5 := Lib.hid (And.intro (HB4.out.trans (hb5.mono HB4.out.size)) (And.intro t5 hm))
  clear hb5 o5 t5 hm HB4 Hcount Hsealed Hkeys Hmkeys Cells hK
  go_wp2
  go_loopw [6] (fun vi wr => ∃ i : Nat, i ≤ m ∧ vi = .int .i64 i ∧ Hid (Below w5.heap.size w5 wr)) (fun vi _ => m - (intOf vi).toNat)
  case atStart => exact ⟨0, by omega, rfl, Lib.hid (Below.refl _ _)⟩
  case round =>
    obtain ⟨i, hi, rfl, Hr⟩ := hrel
    have hi2 : i < m ∨ i = m := by omega
    rcases hi2 with hilt | rfl
    · have hilt2 : (i : Int) < m := by omega
      rcases HB5.out.2.1.below Hr.out with he | ⟨b, off, rfl, hbl, hcx⟩
      · exfalso
        have := HB5.out.2.2
        rw [he] at this; simp at this; omega
      have hil : i < K.length := by rw [HB5.out.2.2]; exact hilt
      have kk := hcx i hil
      have hmem : (K[i]?.getD ⟨#[]⟩) ∈ K := by rw [List.getElem?_eq_getElem hil]; exact List.getElem_mem hil
      obtain ⟨key, hkey⟩ : ∃ key, K[i]?.getD (⟨#[]⟩ : ByteArray) = key := ⟨_, rfl⟩
      rw [hkey] at kk hmem
      obtain ⟨hne, hks⟩ := Hkz.out key hmem
      obtain ⟨L, hL⟩ : ∃ L, getL l key = L := ⟨_, rfl⟩
      rw [hL] at hne
      obtain ⟨q, hq⟩ : ∃ q, L.length = q + 1 := ⟨L.length - 1, by have := List.length_pos_iff.2 hne; omega⟩
      have hq60 : q < 1000 := by have := getL_le l key; rw [hL] at this; omega
      have Hg1 := Lib.hid (fun W hb => by have h9 := Hmget.out W hb key; rw [hL] at h9; exact h9)
      have Hg2 := Lib.hid (fun W hb => by have h9 := Hlast.out W hb key hks; rw [hL] at h9; exact h9)
      have Hg3 := Lib.hid (fun W hb => by have h9 := Hget.out W hb key hks; rw [hL] at h9; exact h9)
      have HBr := Lib.hid (HB5.out.1.trans (Hr.out.mono HB5.out.1.size))
      have HK := Lib.hid (And.intro hbl (And.intro kk (And.intro hq (Hr.out))))
      clear hcx hkey hmem hne hks hL hq
      go_wp2_with fail
      refine (Hg1.out _ HBr.out).mono ?_
      rintro e w6 ⟨hb6, v6, rfl, o6⟩
      obtain ⟨a6, cap6, rfl, hc6, _, _, t6⟩ := o6.read
      have k6 := (hb6.cell (p := ⟨b, off + i, none⟩) (lt_of_cell kk)).trans kk
      rw [HK.out.2.2.1] at hc6 ⊢
      rcases t6 with he | ⟨b6, off6, rfl, hbl6, hc6x⟩
      · exfalso
        have := HK.out.2.2.1
        rw [he] at this; simp at this
      have HB6 := Lib.hid (And.intro (HBr.out.trans (hb6.mono HBr.out.size)) (And.intro hbl6 hc6x))
      have HB56 := Lib.hid (And.intro (Hr.out.trans (hb6.mono Hr.out.size)) hb6.size)
      clear hb6 o6 hbl6 hc6x hc6 kk Hg1
      have hLq : q < L.length := by rw [HK.out.2.2.1]; omega
      obtain ⟨y, hy⟩ : ∃ y, L[q]?.getD ver0 = y := ⟨_, rfl⟩
      obtain ⟨y1, y2, y3, y4, y5⟩ := y
      have hle : lastE L = .returned (.tuple #[.agg #[.int .i64 y1, .int .i64 y2], .bool true]) := by
        unfold lastE
        rw [HK.out.2.2.1, show q + 1 - 1 = q from rfl, hy, decide_eq_true (show 0 < q + 1 by omega)]
      have p0 := HB6.out.2.2 q 0 hLq (by omega)
      have p1 := HB6.out.2.2 q 1 hLq (by omega)
      rw [hy] at p0 p1
      have p0' : w6.cell? ⟨b6, off6 + q * 5, none⟩ = some (.int .i64 y1) := p0
      have p1' : w6.cell? ⟨b6, off6 + q * 5 + 1, none⟩ = some (.int .i64 y2) := p1
      rw [hle] at Hg2
      have cells : ∀ W, Below w6.heap.size w6 W → W.cell? ⟨b, off + i, none⟩ = some (.string key) ∧ W.cell? ⟨b6, off6 + q * 5, none⟩ = some (.int .i64 y1) ∧ W.cell? ⟨b6, off6 + q * 5 + 1, none⟩ = some (.int .i64 y2) := fun W hb => ⟨(hb.cell (p := ⟨b, _, none⟩) (lt_of_cell k6)).trans k6, (hb.cell (p := ⟨b6, _, none⟩) (lt_of_cell p0')).trans p0', (hb.cell (p := ⟨b6, _, none⟩) (lt_of_cell p1')).trans p1'⟩
      have Cells := Lib.hid cells
      clear cells p0 p1 p0' p1' hle hy hLq
      go_wp2_with fail
      refine (Hg2.out _ HB6.out.1).mono ?_
      rintro e w7 ⟨rfl, hb7⟩
      obtain ⟨W7, hW7⟩ : ∃ W7, w7.alloc (.cells #[.int .i64 y1, .int .i64 y2] 45) = W7 := ⟨_, rfl⟩
      obtain ⟨tb, htb⟩ : ∃ tb, w7.heap.size = tb := ⟨_, rfl⟩
      have r0 : W7.cell? ⟨tb, 0, none⟩ = some (.int .i64 y1) := by rw [← hW7, ← htb]; simp
      have r1 : W7.cell? ⟨tb, 1, none⟩ = some (.int .i64 y2) := by rw [← hW7, ← htb]; simp
      have hb67 : Below w6.heap.size w6 W7 := by rw [← hW7]; exact hb7.alloc hb7.size _
      have cells : ∀ W, Below W7.heap.size W7 W → W.cell? ⟨b, off + i, none⟩ = some (.string key) ∧ W.cell? ⟨b6, off6 + q * 5, none⟩ = some (.int .i64 y1) ∧ W.cell? ⟨b6, off6 + q * 5 + 1, none⟩ = some (.int .i64 y2) ∧ W.cell? ⟨tb, 0, none⟩ = some (.int .i64 y1) ∧ W.cell? ⟨tb, 1, none⟩ = some (.int .i64 y2) := fun W hb => by
        obtain ⟨c0, c1, c2⟩ := Cells.out W (hb67.trans (hb.mono hb67.size))
        exact ⟨c0, c1, c2, (hb.cell (p := ⟨tb, 0, none⟩) (lt_of_cell r0)).trans r0, (hb.cell (p := ⟨tb, 1, none⟩) (lt_of_cell r1)).trans r1⟩
      have k7 := cells _ (Below.refl _ W7).drew
      have Cells2 := Lib.hid cells
      have HB67 := Lib.hid (And.intro hb67 (HB6.out.1.trans (hb67.mono HB6.out.1.size)))
      have HW7 := Lib.hid hW7
      have Htb := Lib.hid htb
      clear hb7 k6 cells r0 r1 hb67 Cells hW7 htb
      have hwq : IntKind.i64.wrap ((q : Int) + 1 - 1) = q := by rw [show (q : Int) + 1 - 1 = q by omega]; exact IntWalk.i64_in _ (by omega)
      have hwq2 : (q : Int) < q + 1 := by omega
      have hwq3 : IntKind.i64.wrap (q : Int) = q := IntWalk.i64_in _ (by omega)
      have hwq4 : (0 : Int) ≤ (q : Int) := by omega
      have hwq5 : IntKind.i64.wrap (((q + 1 : Nat) : Int) - 1) = q := by rw [show (((q + 1 : Nat) : Int) - 1) = q by omega]; exact hwq3
      have hwq6 : (q : Int) < ((q + 1 : Nat) : Int) := by omega
      have hwq7 : ¬ (q : Int) < 0 := by omega
      go_wp2
      rw [HW7.out, Htb.out]
      go_region_held3 (fun W => W.cell? ⟨b, off + i, none⟩ = some (.string key) ∧ W.cell? ⟨b6, off6 + q * 5, none⟩ = some (.int .i64 y1) ∧ W.cell? ⟨b6, off6 + q * 5 + 1, none⟩ = some (.int .i64 y2) ∧ W.cell? ⟨tb, 0, none⟩ = some (.int .i64 y1) ∧ W.cell? ⟨tb, 1, none⟩ = some (.int .i64 y2))
        (first | exact k7 | exact q8 | exact q9)
        (first
          | (go_at_call 16; refine (Hg3.out _ HB67.out.2.drew).mono ?_; rintro e w8 ⟨hb8, v8, rfl, o8⟩; obtain ⟨a8, cap8, rfl, _, _, _, t8⟩ := o8.read; have HB8 := Lib.hid (And.intro ((Below.refl W7.heap.size W7).drew.trans hb8) t8); have q8 := Cells2.out _ HB8.out.1; clear hb8 o8 t8)
          | (go_at_call 37; have HB68 := Lib.hid (HB67.out.1.trans (HB8.out.1.mono HB67.out.1.size)); refine (samev_walk _ _ _ _ L _ _ _ L true _ rfl HK.out.2.2.1 (by rw [HK.out.2.2.1]; unfold maxLen; omega) HB8.out.2 (.inr ⟨b6, off6, rfl, Nat.lt_of_lt_of_le HB6.out.2.1 HB68.out.size, fun j k hj hk => (HB68.out.cell (p := ⟨b6, _, none⟩) HB6.out.2.1).trans (HB6.out.2.2 j k hj hk)⟩) (decide_eq_true rfl)).mono ?_; rintro e w9 ⟨rfl, hb9⟩; have HB9 := Lib.hid (And.intro (HB8.out.1.trans (hb9.mono HB8.out.1.size)) (HB68.out.trans (hb9.mono HB68.out.size))); have q9 := Cells2.out _ HB9.out.1; clear hb9))
      clear q8 q9 k7
      have HN : Hid (Below w5.heap.size w5 w9) := Lib.hid (HB56.out.1.trans (HB9.out.2.mono HB56.out.1.size))
      go_wp2
      go_roundw
      case rel => exact ⟨i + 1, by omega, by go_num, HN⟩
      case measure => simp [intOf]; omega
    · go_wp2
      go_ret
      exact ⟨rfl, HB5.out.1.trans (Hr.out.mono HB5.out.1.size)⟩
end
end Go.Proofs.YthdicfcgkbepdaaGreatDoor
