/- Walks of the document's IsTag, PutError. -/
import Derived.Test.YthdicfcgkbepdaaGreatDoorTgs
import Derived.Test.YthdicfcgkbepdaaGreatDoorMhA
import Derived.Test.YthdicfcgkbepdaaGreatDoorSmV
import Derived.Test.YthdicfcgkbepdaaGreatDoorHlF
import Derived.Deep.CutRange
import Derived.Deep.QuietTactic
import Derived.BigQuiet
namespace Go.Proofs.YthdicfcgkbepdaaGreatDoor
section
open Go.RowKit

/-- has p the key and the tag? -/
def sameTag (key : ByteArray) (x : Ver) (p : Kp) : Bool := decide (p.1 = key ∧ p.2.1 = x.1 ∧ p.2.2.1 = x.2.1)
/-- what the document's PutError answers. -/
def errM (sd : Bool) (l : List Kp) (key : ByteArray) (x : Ver) : Int :=
  if sd = true then 10 else if nameB key = false then 4 else if rightB x = false then 2 else
    match l.find? (sameTag key x) with
    | some p => if p.2 = x then -1 else 6
    | none => if 60 ≤ l.length then 7 else 0
theorem errM_sd (l : List Kp) (key : ByteArray) (x : Ver) : errM true l key x = 10 := by unfold errM; rw [if_pos rfl]
theorem errM_name {l : List Kp} {key : ByteArray} {x : Ver} (h : nameB key = false) : errM false l key x = 4 := by unfold errM; rw [if_neg (by decide), if_pos h]
theorem errM_right {l : List Kp} {key : ByteArray} {x : Ver} (h : nameB key = true) (h2 : rightB x = false) : errM false l key x = 2 := by unfold errM; rw [if_neg (by decide), if_neg (by rw [h]; decide), if_pos h2]
theorem errM_find {l : List Kp} {key : ByteArray} {x : Ver} (h : nameB key = true) (h2 : rightB x = true) {i : Nat} (hi : i < l.length) (hj : ∀ j, j < i → sameTag key x (l[j]?.getD kp0) = false) (hs : sameTag key x (l[i]?.getD kp0) = true) :
    errM false l key x = if (l[i]?.getD kp0).2 = x then -1 else 6 := by
  unfold errM
  rw [if_neg (by decide), if_neg (by rw [h]; decide), if_neg (by rw [h2]; decide)]
  have hf : l.find? (sameTag key x) = some (l[i]?.getD kp0) := by
    rw [List.find?_eq_some_iff_getElem]
    refine ⟨hs, i, hi, by rw [List.getElem?_eq_getElem hi]; rfl, fun j hj2 => ?_⟩
    have h9 := hj j hj2
    rw [List.getElem?_eq_getElem (by omega)] at h9
    simpa using h9
  rw [hf]
theorem errM_none {l : List Kp} {key : ByteArray} {x : Ver} (h : nameB key = true) (h2 : rightB x = true) (hj : ∀ j, j < l.length → sameTag key x (l[j]?.getD kp0) = false) : errM false l key x = if 60 ≤ l.length then 7 else 0 := by
  unfold errM
  rw [if_neg (by decide), if_neg (by rw [h]; decide), if_neg (by rw [h2]; decide)]
  have hf : l.find? (sameTag key x) = none := by
    rw [List.find?_eq_none]
    intro p hp
    obtain ⟨j, hj2, rfl⟩ := List.getElem_of_mem hp
    have h9 := hj j hj2
    rw [List.getElem?_eq_getElem hj2] at h9
    simpa using h9
  rw [hf]
theorem rightB_cases (x1 x2 x3 x4 : Int) (x5 : ByteArray) :
    (tagB x1 x2 = false ∧ rightB (x1, x2, x3, x4, x5) = false) ∨ (tagB x1 x2 = true ∧ ¬ 0 ≤ x3 ∧ rightB (x1, x2, x3, x4, x5) = false) ∨
    (tagB x1 x2 = true ∧ 0 ≤ x3 ∧ ¬ x3 ≤ 1000 ∧ rightB (x1, x2, x3, x4, x5) = false) ∨ (tagB x1 x2 = true ∧ 0 ≤ x3 ∧ x3 ≤ 1000 ∧ ¬ 0 ≤ x4 ∧ rightB (x1, x2, x3, x4, x5) = false) ∨
    (tagB x1 x2 = true ∧ 0 ≤ x3 ∧ x3 ≤ 1000 ∧ 0 ≤ x4 ∧ ¬ x4 < 12 ∧ rightB (x1, x2, x3, x4, x5) = false) ∨ (tagB x1 x2 = true ∧ 0 ≤ x3 ∧ x3 ≤ 1000 ∧ 0 ≤ x4 ∧ x4 < 12 ∧ ¬ x5.size ≤ 1000 ∧ rightB (x1, x2, x3, x4, x5) = false) ∨
    (tagB x1 x2 = true ∧ 0 ≤ x3 ∧ x3 ≤ 1000 ∧ 0 ≤ x4 ∧ x4 < 12 ∧ x5.size ≤ 1000 ∧ rightB (x1, x2, x3, x4, x5) = true) := by
  unfold rightB
  dsimp only
  cases tagB x1 x2
  · exact .inl ⟨rfl, rfl⟩
  · right
    simp only [Bool.true_and, decide_eq_false_iff_not, decide_eq_true_eq, true_and]
    omega
set_option maxRecDepth 100000 in
set_option maxHeartbeats 8000000 in
theorem puterr_walk (G : Nat → Prop) (w : World) (mb : Nat) (sd : Bool) (l : List Kp) (key : ByteArray) (x1 x2 x3 x4 : Int) (x5 : ByteArray) (h : MHAt G w mb sd l) (hl : l.length ≤ 1000) (hk : key.size ≤ maxLen) (hx5 : x5.size ≤ maxLen) :
    Calls Tryz.prog 57 #[.pointer (some ⟨mb, 0, none⟩), .string key, verV (x1, x2, x3, x4, x5)] w fun e w' => e = .returned (.int .i64 (errM sd l key (x1, x2, x3, x4, x5))) ∧ Below w.heap.size w w' := by
  unfold verV
  dsimp only
  have hB0 : Below w.heap.size w (w.alloc (.cells #[.int .i64 x1, .int .i64 x2, .int .i64 x3, .int .i64 x4, .string x5] 49)) := (Below.refl _ w).alloc (Nat.le_refl _) _
  have hbox : BoxV (w.alloc (.cells #[.int .i64 x1, .int .i64 x2, .int .i64 x3, .int .i64 x4, .string x5] 49)) w.heap.size (x1, x2, x3, x4, x5) := BoxV.new w (x1, x2, x3, x4, x5)
  have hltx : w.heap.size < (w.alloc (.cells #[.int .i64 x1, .int .i64 x2, .int .i64 x3, .int .i64 x4, .string x5] 49)).heap.size := by simp
  obtain ⟨W, hW⟩ : ∃ W, w.alloc (.cells #[.int .i64 x1, .int .i64 x2, .int .i64 x3, .int .i64 x4, .string x5] 49) = W := ⟨_, rfl⟩
  rw [hW] at hB0 hbox hltx
  have hMW := h.below hB0 (Nat.le_refl _)
  have HM := Lib.hid hMW
  have Hbox := Lib.hid hbox
  have HB0 := Lib.hid hB0
  have HW := Lib.hid hW
  obtain ⟨bx, hbx⟩ : ∃ bx, w.heap.size = bx := ⟨_, rfl⟩
  have Hbx := Lib.hid hbx
  rw [hbx] at Hbox
  obtain ⟨n, hn⟩ : ∃ n, l.length = n := ⟨_, rfl⟩
  have Hn := Lib.hid hn
  rw [hn] at hl
  have hsd := hMW.c1
  have Hnm := Lib.hid (rname_walk key W hk)
  have hx59 : x5.size ≤ 9223372036854775807 := hx5
  obtain ⟨R, hR⟩ : ∃ R, errM sd l key (x1, x2, x3, x4, x5) = R := ⟨_, rfl⟩
  have HR := Lib.hid hR
  rw [hR]
  clear h hB0 hbox hltx hMW hW hbx hn hk hR hx5
  cases sd with
  | true =>
    have hR2 : R = 10 := by rw [← HR.out]; exact errM_sd _ _ _
    subst hR2
    clear HR
    go_enter Tryz.func57, Tryz.ntmps57
    go_upto_region 1 with fail
    rw [HW.out]
    obtain ⟨a, cap, c0, _⟩ := HM.out.c0
    go_wp2
    go_ret
    exact ⟨rfl, HB0.out⟩
  | false =>
    obtain ⟨nb, hnb⟩ : ∃ nb, nameB key = nb := ⟨_, rfl⟩
    rw [hnb] at Hnm
    have Hnb := Lib.hid hnb
    clear hnb
    cases nb with
    | false =>
      have hR2 : R = 4 := by rw [← HR.out]; exact errM_name Hnb.out
      subst hR2
      clear HR
      go_enter Tryz.func57, Tryz.ntmps57
      go_upto_region 1 with fail
      rw [HW.out]
      obtain ⟨a, cap, c0, _⟩ := HM.out.c0
      go_wp2_with fail
      refine Hnm.out.mono ?_
      rintro e w' ⟨rfl, rfl⟩
      go_wp2
      go_ret
      exact ⟨rfl, HB0.out⟩
    | true =>
      have Hcs := Lib.hid (rightB_cases x1 x2 x3 x4 x5)
      have Ht := Lib.hid (rtag_walk x1 x2 W)
      obtain ⟨b0, b1, b2, b3, b4⟩ := Hbox.out
      dsimp only at b0 b1 b2 b3 b4
      go_enter Tryz.func57, Tryz.ntmps57
      go_upto_region 1 with fail
      rw [HW.out, Hbx.out]
      obtain ⟨a, cap, c0, _⟩ := HM.out.c0
      go_wp2_with fail
      refine Hnm.out.mono ?_
      rintro e w' ⟨rfl, rfl⟩
      obtain ⟨tb, htb⟩ : ∃ tb, tagB x1 x2 = tb := ⟨_, rfl⟩
      rw [htb] at Ht Hcs
      clear htb
      go_wp2_with fail
      refine Ht.out.mono ?_
      rintro e w2 ⟨rfl, hb2⟩
      have H2 := Lib.hid (HB0.out.trans (hb2.mono HB0.out.size))
      have hM2 := HM.out.below hb2 (Nat.le_refl _)
      have hbox2 := Hbox.out.below hb2 (Nat.le_refl _)
      have HM2 := Lib.hid (And.intro hM2 hbox2)
      clear hb2 hM2 hbox2 b0 b1 b2 b3 b4 c0 hsd
      obtain ⟨b0, b1, b2, b3, b4⟩ := HM2.out.2
      dsimp only at b0 b1 b2 b3 b4
      rcases Hcs.out with ⟨rfl, hr⟩ | ⟨rfl, h1, hr⟩ | ⟨rfl, h1, h2, hr⟩ | ⟨rfl, h1, h2, h3, hr⟩ | ⟨rfl, h1, h2, h3, h4, hr⟩ | ⟨rfl, h1, h2, h3, h4, h5, hr⟩ | ⟨rfl, h1, h2, h3, h4, h5, hr⟩
      case' inr.inr.inr.inr.inr.inl =>
        have h5a : ¬ (x5.size : Int) ≤ 1000 := by omega
        have h5d : decide (1000 < x5.size) = true := decide_eq_true (by omega)
        clear h5
      case' inr.inr.inr.inr.inr.inr =>
        have h5a : (x5.size : Int) ≤ 1000 := by omega
        have h5d : decide (1000 < x5.size) = false := decide_eq_false (by omega)
        clear h5
        have Hrt := Lib.hid hr
        have h9 : True := trivial
      · clear hr Hcs Ht Hnm
        go_wp2
        go_loopw [9] (fun vi wr => ∃ i : Nat, i ≤ n ∧ vi = .int .i64 i ∧ Hid ((∀ j, j < i → sameTag key (x1, x2, x3, x4, x5) (l[j]?.getD kp0) = false) ∧ Below w2.heap.size w2 wr)) (fun vi _ => n - (intOf vi).toNat)
        case atStart => exact ⟨0, by omega, rfl, Lib.hid ⟨fun j hj => by omega, Below.refl _ _⟩⟩
        case round =>
          obtain ⟨i, hi, rfl, Hr⟩ := hrel
          clear b0 b1 b2 b3 b4
          obtain ⟨b0, b1, b2, b3, b4⟩ := HM2.out.2.below Hr.out.2 (Nat.le_refl _)
          dsimp only at b0 b1 b2 b3 b4
          have hM := HM2.out.1.below Hr.out.2 (Nat.le_refl _)
          obtain ⟨a, cap, c0, hc, hcm, ha, _, hRd⟩ := hM.c0
          have HB := Lib.hid (H2.out.trans (Hr.out.2.mono H2.out.size))
          rw [Hn.out] at c0 hc
          have hi2 : i < n ∨ i = n := by omega
          rcases hi2 with hilt | rfl
          · have hilt2 : (i : Int) < n := by omega
            have hil : i < l.length := by have := Hn.out; omega
            rcases hRd with he | ⟨b, off, rfl, hbl, hcx⟩
            · exfalso
              rw [he] at hil; simp at hil
            obtain ⟨k0, k1, k2, k3, k4, k5⟩ := hcx i hil
            have hfd := errM_find Hnb.out Hrt.out hil Hr.out.1
            have hns : sameTag key (x1, x2, x3, x4, x5) (l[i]?.getD kp0) = false → ∀ j, j < i + 1 → sameTag key (x1, x2, x3, x4, x5) (l[j]?.getD kp0) = false := fun h9 j hj => by
              by_cases e : j = i
              · rw [e]; exact h9
              · exact Hr.out.1 j (by omega)
            obtain ⟨⟨x, y1, y2, y3, y4, y5⟩, hx⟩ : ∃ x, l[i]?.getD kp0 = x := ⟨_, rfl⟩
            rw [hx] at k0 k1 k2 k3 k4 k5 hfd hns
            dsimp only at k0 k1 k2 k3 k4 k5
            have hst : sameTag key (x1, x2, x3, x4, x5) (x, y1, y2, y3, y4, y5) = decide (x = key ∧ y1 = x1 ∧ y2 = x2) := rfl
            rw [hst, HR.out] at hfd
            rw [hst] at hns
            have Hfd := Lib.hid (And.intro hfd hns)
            clear hcx hx hM ha hc hcm hbl hil hfd hns hst
            have hcs : (x = key ∧ y1 = x1 ∧ y2 = x2) ∨ (x ≠ key) ∨ (x = key ∧ y1 ≠ x1) ∨ (x = key ∧ y1 = x1 ∧ y2 ≠ x2) := by
              by_cases e1 : x = key
              · by_cases e2 : y1 = x1
                · by_cases e3 : y2 = x2
                  · exact .inl ⟨e1, e2, e3⟩
                  · exact .inr (.inr (.inr ⟨e1, e2, e3⟩))
                · exact .inr (.inr (.inl ⟨e1, e2⟩))
              · exact .inr (.inl e1)
            rcases hcs with ⟨rfl, rfl, rfl⟩ | hne | ⟨rfl, hne⟩ | ⟨rfl, rfl, hne⟩
            · have hR := Hfd.out.1 (decide_eq_true ⟨rfl, rfl, rfl⟩)
              have hv : (y3 = x3 ∧ y4 = x4 ∧ y5 = x5 ∧ R = -1) ∨ (y3 ≠ x3 ∧ R = 6) ∨ (y3 = x3 ∧ y4 ≠ x4 ∧ R = 6) ∨ (y3 = x3 ∧ y4 = x4 ∧ y5 ≠ x5 ∧ R = 6) := by
                by_cases e3 : y3 = x3
                · by_cases e4 : y4 = x4
                  · by_cases e5 : y5 = x5
                    · rw [if_pos (by rw [e3, e4, e5])] at hR
                      exact .inl ⟨e3, e4, e5, hR⟩
                    · rw [if_neg (by intro e; simp only [Prod.mk.injEq] at e; exact e5 e.2.2.2.2)] at hR
                      exact .inr (.inr (.inr ⟨e3, e4, e5, hR⟩))
                  · rw [if_neg (by intro e; simp only [Prod.mk.injEq] at e; exact e4 e.2.2.2.1)] at hR
                    exact .inr (.inr (.inl ⟨e3, e4, hR⟩))
                · rw [if_neg (by intro e; simp only [Prod.mk.injEq] at e; exact e3 e.2.2.1)] at hR
                  exact .inr (.inl ⟨e3, hR⟩)
              clear hR Hfd HR
              rcases hv with ⟨rfl, rfl, rfl, rfl⟩ | ⟨h9, rfl⟩ | ⟨rfl, h9, rfl⟩ | ⟨rfl, rfl, h9, rfl⟩
              · go_wp2
                go_quiet (fail)
                go_wp2
                go_quiet (fail)
                go_wp2
                go_ret
                exact ⟨rfl, HB.out.trans ⟨rfl, rfl, rfl, Nat.le_refl _, fun _ _ => rfl⟩⟩
              · have e1 : (y3 == x3) = false := beq_eq_false_iff_ne.2 h9
                clear h9
                go_wp2
                go_quiet (fail)
                go_wp2
                go_quiet (fail)
                go_wp2
                go_ret
                exact ⟨rfl, HB.out.trans ⟨rfl, rfl, rfl, Nat.le_refl _, fun _ _ => rfl⟩⟩
              · have e1 : (y4 == x4) = false := beq_eq_false_iff_ne.2 h9
                clear h9
                go_wp2
                go_quiet (fail)
                go_wp2
                go_quiet (fail)
                go_wp2
                go_ret
                exact ⟨rfl, HB.out.trans ⟨rfl, rfl, rfl, Nat.le_refl _, fun _ _ => rfl⟩⟩
              · have e1 := txt_neW h9
                clear h9
                go_wp2
                go_quiet (fail)
                go_wp2
                go_quiet (fail)
                go_wp2
                go_ret
                exact ⟨rfl, HB.out.trans ⟨rfl, rfl, rfl, Nat.le_refl _, fun _ _ => rfl⟩⟩
            · have hns := Hfd.out.2 (decide_eq_false (fun h9 => hne h9.1))
              have e1 := txt_neW hne
              clear hne
              have HN := Lib.hid hns
              clear hns
              go_wp2
              go_quiet (fail)
              have HB3 := Lib.hid (Hr.out.2.trans (show Below w2.heap.size wr (wr.drewN nq) from ⟨rfl, rfl, rfl, Nat.le_refl _, fun _ _ => rfl⟩))
              go_wp2
              go_roundw
              case rel => exact ⟨i + 1, by omega, by go_num, Lib.hid ⟨HN.out, HB3.out⟩⟩
              case measure => simp [intOf]; omega
            · have hns := Hfd.out.2 (decide_eq_false (fun h9 => hne h9.2.1))
              have e1 : (y1 == x1) = false := beq_eq_false_iff_ne.2 hne
              clear hne
              have HN := Lib.hid hns
              clear hns
              go_wp2
              go_quiet (fail)
              have HB3 := Lib.hid (Hr.out.2.trans (show Below w2.heap.size wr (wr.drewN nq) from ⟨rfl, rfl, rfl, Nat.le_refl _, fun _ _ => rfl⟩))
              go_wp2
              go_roundw
              case rel => exact ⟨i + 1, by omega, by go_num, Lib.hid ⟨HN.out, HB3.out⟩⟩
              case measure => simp [intOf]; omega
            · have hns := Hfd.out.2 (decide_eq_false (fun h9 => hne h9.2.2))
              have e1 : (y2 == x2) = false := beq_eq_false_iff_ne.2 hne
              clear hne
              have HN := Lib.hid hns
              clear hns
              go_wp2
              go_quiet (fail)
              have HB3 := Lib.hid (Hr.out.2.trans (show Below w2.heap.size wr (wr.drewN nq) from ⟨rfl, rfl, rfl, Nat.le_refl _, fun _ _ => rfl⟩))
              go_wp2
              go_roundw
              case rel => exact ⟨i + 1, by omega, by go_num, Lib.hid ⟨HN.out, HB3.out⟩⟩
              case measure => simp [intOf]; omega
          · have hR2 : R = if 60 ≤ i then 7 else 0 := by rw [← HR.out, errM_none Hnb.out Hrt.out (fun j hj => Hr.out.1 j (by have := Hn.out; omega)), Hn.out]
            clear HR hM hRd ha hc hcm
            by_cases h60 : 60 ≤ i
            · rw [if_pos h60] at hR2
              subst hR2
              have g1 : (60 : Int) ≤ i := by omega
              have g2 : decide (60 ≤ i) = true := decide_eq_true h60
              clear h60
              go_wp2
              go_ret
              exact ⟨rfl, HB.out⟩
            · rw [if_neg h60] at hR2
              subst hR2
              have g1 : ¬ (60 : Int) ≤ i := by omega
              have g2 : decide (60 ≤ i) = false := decide_eq_false h60
              clear h60
              go_wp2
              go_ret
              exact ⟨rfl, HB.out⟩
      all_goals
        have hR2 : R = 2 := by rw [← HR.out]; exact errM_right Hnb.out hr
        subst hR2
        clear hr HR Hcs Ht Hnm
        go_wp2
        go_ret
        exact ⟨rfl, H2.out⟩
end
end Go.Proofs.YthdicfcgkbepdaaGreatDoor
