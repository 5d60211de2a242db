/- The walk of the document's SameTexts. -/
import Derived.Test.YthdicfcgkbepdaaGreatDoorNds
import Derived.Deep.QuietTactic
import Derived.BigQuiet
namespace Go.Proofs.YthdicfcgkbepdaaGreatDoor
open Go.RowKit

theorem texts_ext {A B : List ByteArray} (hl : A.length = B.length) (h : ∀ j, j < A.length → (A[j]?.getD (⟨#[]⟩ : ByteArray)) = (B[j]?.getD (⟨#[]⟩ : ByteArray))) : A = B := by
  apply List.ext_getElem hl
  intro i h1 h2
  have := h i h1
  rw [List.getElem?_eq_getElem h1, List.getElem?_eq_getElem h2] at this
  exact this
set_option maxRecDepth 100000 in
set_option maxHeartbeats 2000000 in
theorem samet_walk (n₀ : Nat) (a : Option Addr) (la ca : Nat) (A : List ByteArray) (b : Option Addr) (lb cb : Nat) (B : List ByteArray) (r : Bool) (w : World) (hla : A.length = la) (hlb : B.length = lb) (hm : la ≤ maxLen) (hA : TxsAt n₀ w a A) (hB : TxsAt n₀ w b B) (hr : decide (A = B) = r) :
    Calls Tryz.prog 38 #[.slice a la ca, .slice b lb cb] w fun e w' => e = .returned (.bool r) ∧ Below w.heap.size w w' := by
  have hm9 : la ≤ 9223372036854775807 := hm
  have HA := Lib.hid hA
  have HB := Lib.hid hB
  have Hl := Lib.hid (And.intro hla hlb)
  have Hr := Lib.hid hr
  by_cases hlen : la = lb
  · subst hlen
    clear hA hB hla hlb hr hm
    go_enter Tryz.func38, Tryz.ntmps38
    go_wp2
    go_loopw [5] (fun vi wr => ∃ k : Nat, k ≤ la ∧ vi = .int .i64 k ∧ Hid ((∀ j, j < k → (A[j]?.getD (⟨#[]⟩ : ByteArray)) = (B[j]?.getD (⟨#[]⟩ : ByteArray))) ∧ ∃ q, wr = w.drewN q)) (fun i _ => la - (intOf i).toNat)
    case atStart => exact ⟨0, by omega, rfl, Lib.hid ⟨fun j hj => by omega, 0, rfl⟩⟩
    case round =>
      obtain ⟨k, hk, rfl, H⟩ := hrel
      have hbw : Below w.heap.size w wr := by
        obtain ⟨_, q, rfl⟩ := H.out
        exact ⟨rfl, rfl, rfl, Nat.le_refl _, fun _ _ => rfl⟩
      have Hbw := Lib.hid hbw
      have hk2 : k < la ∨ k = la := by omega
      rcases hk2 with hlt | rfl
      · have hlt2 : (k : Int) < la := by omega
        have hcA : ∀ n, TxsAt n w a A → TxsAt n wr a A := fun n h => by
          obtain ⟨_, q, rfl⟩ := H.out
          exact h
        have hcB : ∀ n, TxsAt n w b B → TxsAt n wr b B := fun n h => by
          obtain ⟨_, q, rfl⟩ := H.out
          exact h
        rcases hcA _ HA.out with he | ⟨ba, oa, rfl, _, h1⟩
        · exfalso
          have := Hl.out.1
          rw [he] at this; simp at this; omega
        rcases hcB _ HB.out with he | ⟨bb, ob, rfl, _, h2⟩
        · exfalso
          have := Hl.out.2
          rw [he] at this; simp at this; omega
        have h1 := h1 k (by have := Hl.out.1; omega)
        have h2 := h2 k (by have := Hl.out.2; omega)
        obtain ⟨x, hx⟩ : ∃ x, A[k]?.getD (⟨#[]⟩ : ByteArray) = x := ⟨_, rfl⟩
        obtain ⟨y, hy⟩ : ∃ y, B[k]?.getD (⟨#[]⟩ : ByteArray) = y := ⟨_, rfl⟩
        rw [hx] at h1
        rw [hy] at h2
        have Hxy := Lib.hid (And.intro hx hy)
        clear hx hy hcA hcB hbw
        by_cases he : x = y
        · subst he
          go_wp2
          go_quiet (fail)
          go_wp2
          go_roundw
          case rel => exact ⟨k + 1, by omega, by go_num, Lib.hid ⟨fun j hj => by
            by_cases e : j = k
            · rw [e, Hxy.out.1, Hxy.out.2]
            · exact H.out.1 j (by omega), by
              obtain ⟨_, q, hq⟩ := H.out
              exact ⟨q + nq, by rw [hq, World.drewN_drewN]⟩⟩⟩
          case measure => simp [intOf]; omega
        · have e1 := txt_ne he
          have e2 : (x.toList != y.toList) = true := by rw [bne, e1]; rfl
          have hrf : r = false := by
            rw [← Hr.out]
            apply decide_eq_false
            intro hAB
            apply he
            rw [← Hxy.out.1, ← Hxy.out.2, hAB]
          subst hrf
          clear he
          go_wp2
          go_quiet (fail)
          go_wp2
          go_ret
          exact ⟨rfl, Hbw.out.trans ⟨rfl, rfl, rfl, Nat.le_refl _, fun _ _ => rfl⟩⟩
      · have hrt : r = true := by
          rw [← Hr.out]
          exact decide_eq_true (texts_ext (by have := Hl.out; omega) (fun j hj => H.out.1 j (by have := Hl.out.1; omega)))
        subst hrt
        clear hbw
        go_wp2
        go_ret
        exact ⟨rfl, Hbw.out⟩
  · have hrf : r = false := by
      rw [← hr]
      exact decide_eq_false (fun e => hlen (by rw [← hla, ← hlb, e]))
    subst hrf
    have e1 : ((la : Int) == (lb : Int)) = false := beq_eq_false_iff_ne.2 (by omega)
    have e2 : ((la : Int) != (lb : Int)) = true := bne_iff_ne.2 (by omega)
    have e3 : (la == lb) = false := beq_eq_false_iff_ne.2 hlen
    clear hA hB hla hlb hr hm hlen
    go_enter Tryz.func38, Tryz.ntmps38
    go_wp2
    go_ret
    exact ⟨rfl, Below.refl _ _⟩
end Go.Proofs.YthdicfcgkbepdaaGreatDoor
