/- The walk of SameVersions. -/
import Derived.Test.YthdicfcgkbepdaaGreatDoorVerB
import Derived.Test.YthdicfcgkbepdaaGreatDoorTxs
import Derived.Deep.QuietTactic
import Derived.BigQuiet
namespace Go.Proofs.YthdicfcgkbepdaaGreatDoor
section
open Go.RowKit

theorem txt_neW {a b : ByteArray} (h : a ≠ b) : (a.toList == b.toList) = false := by
  rw [beq_eq_false_iff_ne]
  intro e
  apply h
  rw [ByteArray.toList_eq, ByteArray.toList_eq] at e
  cases a; cases b
  exact congrArg ByteArray.mk (Array.toList_inj.1 e)
theorem vers_ext {A B : List Ver} (hl : A.length = B.length) (h : ∀ j, j < A.length → (A[j]?.getD ver0) = (B[j]?.getD ver0)) : A = B := by
  apply List.ext_getElem hl
  intro i h1 h2
  have := h i h1
  rw [List.getElem?_eq_getElem h1, List.getElem?_eq_getElem h2] at this
  exact this
set_option maxRecDepth 100000 in
set_option maxHeartbeats 4000000 in
theorem samev_walk (n₀ : Nat) (a : Option Addr) (la ca : Nat) (A : List Ver) (b : Option Addr) (lb cb : Nat) (B : List Ver) (r : Bool) (w : World) (hla : A.length = la) (hlb : B.length = lb) (hm : la ≤ maxLen) (hA : VrR n₀ w a A) (hB : VrR n₀ w b B) (hr : decide (A = B) = r) :
    Calls Tryz.prog 37 #[.slice a la ca, .slice b lb cb] w fun e w' => e = .returned (.bool r) ∧ Below w.heap.size w w' := by
  have hm9 : la ≤ 9223372036854775807 := hm
  have HA := Lib.hid hA
  have HB := Lib.hid hB
  have Hl := Lib.hid (And.intro hla hlb)
  have Hr := Lib.hid hr
  by_cases hlen : la = lb
  · subst hlen
    clear hA hB hla hlb hr hm
    go_enter Tryz.func37, Tryz.ntmps37
    go_wp2
    go_loopw [5] (fun vi wr => ∃ k : Nat, k ≤ la ∧ vi = .int .i64 k ∧ Hid ((∀ j, j < k → (A[j]?.getD ver0) = (B[j]?.getD ver0)) ∧ ∃ q, wr = w.drewN q)) (fun i _ => la - (intOf i).toNat)
    case atStart => exact ⟨0, by omega, rfl, Lib.hid ⟨fun j hj => by omega, 0, rfl⟩⟩
    case round =>
      obtain ⟨k, hk, rfl, H⟩ := hrel
      have hbw : Below w.heap.size w wr := by
        obtain ⟨_, q, rfl⟩ := H.out
        exact ⟨rfl, rfl, rfl, Nat.le_refl _, fun _ _ => rfl⟩
      have Hbw := Lib.hid hbw
      have hk2 : k < la ∨ k = la := by omega
      rcases hk2 with hlt | rfl
      · have hlt2 : (k : Int) < la := by omega
        have hcA : ∀ n, VrR n w a A → VrR n wr a A := fun n h => by
          obtain ⟨_, q, rfl⟩ := H.out
          exact h
        have hcB : ∀ n, VrR n w b B → VrR n wr b B := fun n h => by
          obtain ⟨_, q, rfl⟩ := H.out
          exact h
        rcases hcA _ HA.out with he | ⟨ba, oa, rfl, _, h1⟩
        · exfalso
          have := Hl.out.1
          rw [he] at this; simp at this; omega
        rcases hcB _ HB.out with he | ⟨bb, ob, rfl, _, h2⟩
        · exfalso
          have := Hl.out.2
          rw [he] at this; simp at this; omega
        obtain ⟨p0, p1, p2, p3, p4⟩ := VrR.at5 h1 (i := k) (by have := Hl.out.1; omega)
        obtain ⟨q0, q1, q2, q3, q4⟩ := VrR.at5 h2 (i := k) (by have := Hl.out.2; omega)
        obtain ⟨⟨x1, x2, x3, x4, x5⟩, hx⟩ : ∃ x, A[k]?.getD ver0 = x := ⟨_, rfl⟩
        obtain ⟨⟨y1, y2, y3, y4, y5⟩, hy⟩ : ∃ y, B[k]?.getD ver0 = y := ⟨_, rfl⟩
        rw [hx] at p0 p1 p2 p3 p4
        rw [hy] at q0 q1 q2 q3 q4
        dsimp only at p0 p1 p2 p3 p4 q0 q1 q2 q3 q4
        have Hxy := Lib.hid (And.intro hx hy)
        clear hx hy hcA hcB hbw h1 h2
        have hcs : (x1 = y1 ∧ x2 = y2 ∧ x3 = y3 ∧ x4 = y4 ∧ x5 = y5) ∨ x1 ≠ y1 ∨ (x1 = y1 ∧ x2 ≠ y2) ∨ (x1 = y1 ∧ x2 = y2 ∧ x3 ≠ y3) ∨ (x1 = y1 ∧ x2 = y2 ∧ x3 = y3 ∧ x4 ≠ y4) ∨ (x1 = y1 ∧ x2 = y2 ∧ x3 = y3 ∧ x4 = y4 ∧ x5 ≠ y5) := by
          by_cases e1 : x1 = y1
          · by_cases e2 : x2 = y2
            · by_cases e3 : x3 = y3
              · by_cases e4 : x4 = y4
                · by_cases e5 : x5 = y5
                  · exact .inl ⟨e1, e2, e3, e4, e5⟩
                  · exact .inr (.inr (.inr (.inr (.inr ⟨e1, e2, e3, e4, e5⟩))))
                · exact .inr (.inr (.inr (.inr (.inl ⟨e1, e2, e3, e4⟩))))
              · exact .inr (.inr (.inr (.inl ⟨e1, e2, e3⟩)))
            · exact .inr (.inr (.inl ⟨e1, e2⟩))
          · exact .inr (.inl e1)
        rcases hcs with ⟨rfl, rfl, rfl, rfl, rfl⟩ | hne
        · go_wp2
          go_quiet (fail)
          go_wp2
          go_roundw
          case rel => exact ⟨k + 1, by omega, by go_num, Lib.hid ⟨fun j hj => by
            by_cases e : j = k
            · rw [e, Hxy.out.1, Hxy.out.2]
            · exact H.out.1 j (by omega), by
              obtain ⟨_, q, hq⟩ := H.out
              exact ⟨q + nq, by rw [hq, World.drewN_drewN]⟩⟩⟩
          case measure => simp [intOf]; omega
        · have hrf : r = false := by
            rw [← Hr.out]
            apply decide_eq_false
            intro hAB
            have h9 : ((x1, x2, x3, x4, x5) : Ver) = (y1, y2, y3, y4, y5) := by rw [← Hxy.out.1, ← Hxy.out.2, hAB]
            simp only [Prod.mk.injEq] at h9
            obtain ⟨rfl, rfl, rfl, rfl, rfl⟩ := h9
            simp at hne
          subst hrf
          clear Hxy
          rcases hne with h9 | ⟨rfl, h9⟩ | ⟨rfl, rfl, h9⟩ | ⟨rfl, rfl, rfl, h9⟩ | ⟨rfl, rfl, rfl, rfl, h9⟩
          · have e1 : (x1 == y1) = false := beq_eq_false_iff_ne.2 h9
            clear h9
            go_wp2
            go_quiet (fail)
            go_wp2
            go_ret
            exact ⟨rfl, Hbw.out.trans ⟨rfl, rfl, rfl, Nat.le_refl _, fun _ _ => rfl⟩⟩
          · have e1 : (x2 == y2) = false := beq_eq_false_iff_ne.2 h9
            clear h9
            go_wp2
            go_quiet (fail)
            go_wp2
            go_ret
            exact ⟨rfl, Hbw.out.trans ⟨rfl, rfl, rfl, Nat.le_refl _, fun _ _ => rfl⟩⟩
          · have e1 : (x3 == y3) = false := beq_eq_false_iff_ne.2 h9
            clear h9
            go_wp2
            go_quiet (fail)
            go_wp2
            go_ret
            exact ⟨rfl, Hbw.out.trans ⟨rfl, rfl, rfl, Nat.le_refl _, fun _ _ => rfl⟩⟩
          · have e1 : (x4 == y4) = false := beq_eq_false_iff_ne.2 h9
            clear h9
            go_wp2
            go_quiet (fail)
            go_wp2
            go_ret
            exact ⟨rfl, Hbw.out.trans ⟨rfl, rfl, rfl, Nat.le_refl _, fun _ _ => rfl⟩⟩
          · have e1 := txt_neW h9
            clear h9
            go_wp2
            go_quiet (fail)
            go_wp2
            go_ret
            exact ⟨rfl, Hbw.out.trans ⟨rfl, rfl, rfl, Nat.le_refl _, fun _ _ => rfl⟩⟩
      · have hrt : r = true := by
          rw [← Hr.out]
          exact decide_eq_true (vers_ext (by have := Hl.out; omega) (fun j hj => H.out.1 j (by have := Hl.out.1; omega)))
        subst hrt
        clear hbw
        go_wp2
        go_ret
        exact ⟨rfl, Hbw.out⟩
  · have hrf : r = false := by
      rw [← hr]
      exact decide_eq_false (fun e => hlen (by rw [← hla, ← hlb, e]))
    subst hrf
    have e1 : ((la : Int) == (lb : Int)) = false := beq_eq_false_iff_ne.2 (by omega)
    have e2 : ((la : Int) != (lb : Int)) = true := bne_iff_ne.2 (by omega)
    have e3 : (la == lb) = false := beq_eq_false_iff_ne.2 hlen
    clear hA hB hla hlb hr hm hlen
    go_enter Tryz.func37, Tryz.ntmps37
    go_wp2
    go_ret
    exact ⟨rfl, Below.refl _ _⟩
end
end Go.Proofs.YthdicfcgkbepdaaGreatDoor
