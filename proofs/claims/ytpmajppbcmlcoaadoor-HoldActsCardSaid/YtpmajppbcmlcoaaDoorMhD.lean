/- Walks of the document's Keys and Put of a hold. -/
import Derived.Test.YtpmajppbcmlcoaaDoorMhC
import Derived.Test.YtpmajppbcmlcoaaDoorKeys
namespace Go.Proofs.YtpmajppbcmlcoaaDoor
section
open Go.RowKit

/-- keys, each once where it stands together. -/
def keyStep (out : List ByteArray) (p : Kp) : List ByteArray := if out.getLast? = some p.1 then out else out ++ [p.1]
def keysL (l : List Kp) : List ByteArray := l.foldl keyStep []
theorem keysL_take {l : List Kp} {i : Nat} (hi : i < l.length) : keysL (l.take (i + 1)) = keyStep (keysL (l.take i)) (l[i]?.getD kp0) := by
  unfold keysL
  rw [List.take_succ_eq_append_getElem hi, List.foldl_append, List.getElem?_eq_getElem hi]
  rfl
theorem keyStep_le (out : List ByteArray) (p : Kp) : (keyStep out p).length ≤ out.length + 1 := by
  unfold keyStep
  split <;> simp
set_option maxRecDepth 100000 in
set_option maxHeartbeats 8000000 in
theorem mkeys_walk (G : Nat → Prop) (w : World) (mb : Nat) (sd : Bool) (l : List Kp) (h : MHAt G w mb sd l) (hl : l.length ≤ 1000) :
    Calls Tryd.prog 69 #[.pointer (some ⟨mb, 0, none⟩)] w fun e w' => (∃ v, e = .returned v ∧ OwnT w.heap.size w' v (keysL l)) ∧ (keysL l).length ≤ 1000 ∧ Below w.heap.size w w' := by
  have HM := Lib.hid h
  obtain ⟨n, hn⟩ : ∃ n, l.length = n := ⟨_, rfl⟩
  have Hn := Lib.hid hn
  rw [hn] at hl
  clear h hn
  go_enter Tryd.func69, Tryd.ntmps69
  go_wp2
  go_loopw [3, 4] (fun vo vi wr => ∃ i : Nat, i ≤ n ∧ vi = .int .i64 i ∧ Hid (OwnT w.heap.size wr vo (keysL (l.take i)) ∧ (keysL (l.take i)).length ≤ i ∧ Below w.heap.size w wr)) (fun _ vi _ => n - (intOf vi).toNat)
  case atStart => exact ⟨0, by omega, rfl, Lib.hid ⟨by simpa [keysL] using OwnT.nil _ _, by simp [keysL], Below.refl _ _⟩⟩
  case round =>
    obtain ⟨i, hi, rfl, Hr⟩ := hrel
    have hM := HM.out.below Hr.out.2.2 (Nat.le_refl _)
    obtain ⟨a, cap, c0, hc, hcm, ha, _, hRd⟩ := hM.c0
    rw [Hn.out] at c0 hc
    obtain ⟨ao, co, hve, hco, hcom, _, hto⟩ := Hr.out.1.read
    obtain ⟨O, hO⟩ : ∃ O, keysL (l.take i) = O := ⟨_, rfl⟩
    have Hr2 := Lib.hid (by have h9 := Hr.out; rw [hO] at h9; exact h9)
    rw [hO] at hve hco hto
    have hlO := Hr2.out.2.1
    have hi2 : i < n ∨ i = n := by omega
    rcases hi2 with hilt | rfl
    · have hilt2 : (i : Int) < n := by omega
      have hil : i < l.length := by have := Hn.out; omega
      rcases hRd with he | ⟨b, off, rfl, hbl, hcx⟩
      · exfalso
        rw [he] at hil; simp at hil
      obtain ⟨k0, _⟩ := hcx i hil
      have hst := keysL_take hil
      rw [hO] at hst
      obtain ⟨p, hp⟩ : ∃ p, l[i]?.getD kp0 = p := ⟨_, rfl⟩
      rw [hp] at k0 hst
      obtain ⟨x, y⟩ := p
      dsimp only at k0
      have Hst := Lib.hid hst
      obtain ⟨Wr, hWr⟩ : ∃ Wr : World, Wr = wr := ⟨_, rfl⟩
      have HO := Lib.hid (show OwnT w.heap.size Wr u3 O ∧ Below w.heap.size w Wr by rw [hWr]; exact ⟨Hr2.out.1, Hr2.out.2.2⟩)
      rw [← hWr] at k0 c0 hto ⊢
      clear hWr hcx hp hst hM ha hc hcm hbl hil Hr Hr2 hO
      obtain ⟨m, hm⟩ : ∃ m, O.length = m := ⟨_, rfl⟩
      rw [hm] at hve hlO hco
      have Hm := Lib.hid hm
      clear hm
      -- the tail that appends
      have HAp : Hid (∀ (nq : Nat), OwnT w.heap.size (Wr.drewN nq) u3 O ∧ O.length ≤ 1000000 ∧ w.heap.size ≤ (Wr.drewN nq).heap.size ∧ Below w.heap.size w (Wr.drewN nq)) := Lib.hid (fun nq => ⟨HO.out.1.below (show Below Wr.heap.size Wr (Wr.drewN nq) from ⟨rfl, rfl, rfl, Nat.le_refl _, fun _ _ => rfl⟩) (Nat.le_refl _), by rw [Hm.out]; omega, HO.out.2.size, HO.out.2.trans ⟨rfl, rfl, rfl, Nat.le_refl _, fun _ _ => rfl⟩⟩)
      rcases Nat.eq_zero_or_pos m with h0 | hpos
      · subst h0
        have hOe : O = [] := List.length_eq_zero_iff.1 Hm.out
        have HS : Hid (keysL (l.take (i + 1)) = O ++ [x] ∧ (O ++ [x]).length ≤ i + 1) := Lib.hid ⟨by rw [Hst.out, hOe]; rfl, by rw [hOe]; simp⟩
        clear hOe
        subst hve
        go_wp2
        go_quiet (fail)
        have hA := HAp.out nq
        go_wp2_with (at_builtin; refine append_txt 34 43 rfl rfl w.heap.size _ O x rfl rfl hA.1 hA.2.1 hA.2.2.1 ?_)
        intro v' w' q1 q2 _
        have HN : Hid (OwnT w.heap.size w' v' (keysL (l.take (i + 1))) ∧ (keysL (l.take (i + 1))).length ≤ i + 1 ∧ Below w.heap.size w w') := Lib.hid ⟨by rw [HS.out.1]; exact q1, by rw [HS.out.1]; exact HS.out.2, (hA.2.2.2.alloc hA.2.2.1 _).grown q2 (by have := hA.2.2.1; simp at *; omega) (fun j e => (Own1.lt hA.1 j e).1)⟩
        clear q1 q2 hA
        go_wp2
        go_roundw
        case rel => exact ⟨i + 1, by omega, by go_num, HN⟩
        case measure => simp [intOf]; omega
      · obtain ⟨q, rfl⟩ : ∃ q, m = q + 1 := ⟨m - 1, by omega⟩
        rcases hto with he | ⟨bo, oo, rfl, _, hcx⟩
        · exfalso
          have := Hm.out
          rw [he] at this; simp at this
        have t0 := hcx q (by rw [Hm.out]; omega)
        obtain ⟨z, hz⟩ : ∃ z, O[q]?.getD ⟨#[]⟩ = z := ⟨_, rfl⟩
        rw [hz] at t0
        have hlast : O.getLast? = some z := by
          have hlt : q < O.length := by rw [Hm.out]; omega
          rw [List.getLast?_eq_getElem?, Hm.out, show q + 1 - 1 = q from rfl, List.getElem?_eq_getElem hlt]
          rw [List.getElem?_eq_getElem hlt] at hz
          exact congrArg some hz
        have HL := Lib.hid hlast
        have hwq : IntKind.i64.wrap ((q : Int) + 1 - 1) = q := by rw [show (q : Int) + 1 - 1 = q by omega]; exact IntWalk.i64_in _ (by omega)
        have hwq2 : (q : Int) < q + 1 := by omega
        have e0 : ((q : Int) + 1 == 0) = false := beq_eq_false_iff_ne.2 (by omega)
        have e0b : (q + 1 == 0) = false := rfl
        clear hcx hz hlast
        subst hve
        by_cases hzx : z = x
        · subst hzx
          have HS : Hid (keysL (l.take (i + 1)) = O) := Lib.hid (by rw [Hst.out]; unfold keyStep; rw [if_pos HL.out])
          go_wp2
          go_quiet (fail)
          have HN : Hid (OwnT w.heap.size (Wr.drewN nq) (.slice (some ⟨bo, oo, none⟩) (q + 1) co) (keysL (l.take (i + 1))) ∧ (keysL (l.take (i + 1))).length ≤ i + 1 ∧ Below w.heap.size w (Wr.drewN nq)) := Lib.hid ⟨by rw [HS.out]; exact (HAp.out nq).1, by rw [HS.out, Hm.out]; omega, (HAp.out nq).2.2.2⟩
          go_wp2
          go_roundw
          case rel => exact ⟨i + 1, by omega, by go_num, HN⟩
          case measure => simp [intOf]; omega
        · have HS : Hid (keysL (l.take (i + 1)) = O ++ [x] ∧ (O ++ [x]).length ≤ i + 1) := Lib.hid ⟨by rw [Hst.out]; unfold keyStep; rw [if_neg (by rw [HL.out]; intro e; exact hzx (Option.some.inj e))], by have := Hm.out; simp; omega⟩
          have e1 := txt_neW hzx
          clear hzx
          go_wp2
          go_quiet (fail)
          have hA := HAp.out nq
          go_wp2_with (at_builtin; refine append_txt 34 43 rfl rfl w.heap.size _ O x rfl rfl hA.1 hA.2.1 hA.2.2.1 ?_)
          intro v' w' q1 q2 _
          have HN : Hid (OwnT w.heap.size w' v' (keysL (l.take (i + 1))) ∧ (keysL (l.take (i + 1))).length ≤ i + 1 ∧ Below w.heap.size w w') := Lib.hid ⟨by rw [HS.out.1]; exact q1, by rw [HS.out.1]; exact HS.out.2, (hA.2.2.2.alloc hA.2.2.1 _).grown q2 (by have := hA.2.2.1; simp at *; omega) (fun j e => (Own1.lt hA.1 j e).1)⟩
          clear q1 q2 hA
          go_wp2
          go_roundw
          case rel => exact ⟨i + 1, by omega, by go_num, HN⟩
          case measure => simp [intOf]; omega
    · have hall : l.take i = l := List.take_of_length_le (by have := Hn.out; omega)
      rw [hall] at hO
      have HR : Hid (OwnT w.heap.size wr u3 (keysL l) ∧ (keysL l).length ≤ i ∧ Below w.heap.size w wr) := Lib.hid (by rw [hO]; exact Hr2.out)
      clear hall hM hRd ha hc hcm hO Hr Hr2 hve hto hco
      go_wp2
      go_ret
      exact ⟨⟨_, rfl, HR.out.1⟩, by have := HR.out.2.1; omega, HR.out.2.2⟩
end
end Go.Proofs.YtpmajppbcmlcoaaDoor
