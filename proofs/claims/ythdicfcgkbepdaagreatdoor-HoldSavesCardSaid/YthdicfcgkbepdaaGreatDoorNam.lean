/- The walks of names: ring.Name, the document's IsName. -/
import Derived.Test.YthdicfcgkbepdaaGreatDoorNod
import Derived.Test.YthdicfcgkbepdaaGreatDoorBytes
import Derived.Lib.ConvBytes
namespace Go.Proofs.YthdicfcgkbepdaaGreatDoor
open Go.RowKit

def letB (x : Int) : Bool := decide ((97 ≤ x ∧ x ≤ 122) ∨ (48 ≤ x ∧ x ≤ 57) ∨ x = 45)
theorem letB_of (c : UInt8) : letB (c.toNat : Int) = letterB c := by unfold letB letterB; rw [decide_eq_decide]; omega
theorem letB_no {x : Int} (h : ¬ ((97 ≤ x ∧ x ≤ 122) ∨ (48 ≤ x ∧ x ≤ 57) ∨ x = 45)) : letB x = false := decide_eq_false h
theorem letB_yes {x : Int} (h : (97 ≤ x ∧ x ≤ 122) ∨ (48 ≤ x ∧ x ≤ 57) ∨ x = 45) : letB x = true := decide_eq_true h
theorem bytesWorld_below (w : World) (e : TypeId) (s : ByteArray) : Below w.heap.size w (Lib.bytesWorld w e s) :=
  ⟨by simp [Lib.bytesWorld, World.freeze, World.alloc, World.drew, -World.alloc_eq, -World.drew_eq], by simp [Lib.bytesWorld, World.freeze, World.alloc, World.drew, -World.alloc_eq, -World.drew_eq],
    by simp [Lib.bytesWorld, World.freeze, World.alloc, World.drew, -World.alloc_eq, -World.drew_eq], by rw [Lib.bytesWorld_size]; omega, fun k hk => Lib.bytesWorld_at_old w e s k hk⟩

set_option maxRecDepth 100000 in
set_option maxHeartbeats 4000000 in
theorem letter_walk (x : Int) (w : World) :
    Calls Tryz.prog 60 #[.int .u8 x] w fun e w' => e = .returned (.bool (!letB x)) ∧ w = w' := by
  by_cases h5 : x = 45
  · subst h5
    go_enter Tryz.func60, Tryz.ntmps60
    go_wp2
    go_ret
    exact ⟨rfl, rfl⟩
  · have h5a : (x == 45) = false := by simpa using h5
    have h5b : (x != 45) = true := by simpa using h5
    rcases (show x < 48 ∨ (48 ≤ x ∧ x ≤ 57) ∨ (57 < x ∧ x < 97) ∨ (97 ≤ x ∧ x ≤ 122) ∨ 122 < x by omega) with h | h | h | h | h
    case' inl =>
      have h1 : x < 97 := by omega
      rw [letB_no (by omega)]
    case' inr.inl =>
      have h1 : x < 97 := by omega
      have h2 : ¬ x < 48 := by omega
      have h3 : ¬ 57 < x := by omega
      rw [letB_yes (by omega)]
    case' inr.inr.inl =>
      have h1 : x < 97 := by omega
      have h2 : ¬ x < 48 := by omega
      have h3 : 57 < x := by omega
      rw [letB_no (by omega)]
    case' inr.inr.inr.inl =>
      have h1 : ¬ x < 97 := by omega
      have h2 : ¬ 122 < x := by omega
      rw [letB_yes (by omega)]
    case' inr.inr.inr.inr =>
      have h1 : ¬ x < 97 := by omega
      have h2 : ¬ x < 48 := by omega
      have h3 : 57 < x := by omega
      rw [letB_no (by omega)]
    all_goals
      clear h5
      go_enter Tryz.func60, Tryz.ntmps60
      go_wp2
      go_ret
      exact ⟨rfl, rfl⟩
set_option maxRecDepth 100000 in
set_option maxHeartbeats 2000000 in
theorem nameI_walk (b cap m : Nat) (f : Nat → Int) (w : World) (hm : m ≤ maxLen) (hc : ∀ j, j < m → w.cell? ⟨b, j, none⟩ = some (.int .u8 (f j))) :
    Calls Tryz.prog 86 #[.slice (some ⟨b, 0, none⟩) m cap, .func (.func 60) #[] #[]] w
      fun e w' => (((∀ j, j < m → letB (f j) = true) ∧ e = .returned (.int .i64 (-1))) ∨ ∃ k, k < m ∧ letB (f k) = false ∧ e = .returned (.int .i64 (k : Nat))) ∧ w = w' := by
  have hm' : m ≤ 9223372036854775807 := hm
  have Hc := Lib.hid hc; clear hc
  go_enter Tryz.func86, Tryz.ntmps86
  go_wp2
  go_loop [8] (fun vi => ∃ k : Nat, k ≤ m ∧ vi = .int .i64 k ∧ ∀ j, j < k → letB (f j) = true) (fun i => m - (intOf i).toNat)
  case atStart => exact ⟨0, by omega, rfl, fun j hj => by omega⟩
  case round =>
    obtain ⟨k, hk, rfl, hz⟩ := hrel
    have Hz := Lib.hid hz; clear hz
    have hk2 : k < m ∨ k = m := by omega
    rcases hk2 with hlt | rfl
    · have hlt2 : (k : Int) < m := by omega
      have h1 := Hc.out k hlt
      have Hp := Lib.hid (letter_walk (f k) w)
      cases hx : letB (f k) with
      | true =>
        rw [hx] at Hp
        have Hx := Lib.hid hx; clear hx
        go_wp2_with (go_at_call 60; refine Hp.out.mono ?_; rintro e w' ⟨rfl, rfl⟩)
        go_round
        case rel => exact ⟨k + 1, by omega, by go_num, fun j hj => by
          by_cases e : j = k
          · rw [e, Hx.out]
          · exact Hz.out j (by omega)⟩
        case measure => simp [intOf]; omega
      | false =>
        rw [hx] at Hp
        have Hx := Lib.hid hx; clear hx
        go_wp2_with (go_at_call 60; refine Hp.out.mono ?_; rintro e w' ⟨rfl, rfl⟩)
        go_ret
        exact ⟨.inr ⟨k, hlt, Hx.out, rfl⟩, rfl⟩
    · go_wp2
      go_ret
      exact ⟨.inl ⟨Hz.out, rfl⟩, rfl⟩
theorem nameC_walk (b cap m : Nat) (f : Nat → Int) (w : World) (r : Bool) (hm : m ≤ maxLen) (hc : ∀ j, j < m → w.cell? ⟨b, j, none⟩ = some (.int .u8 (f j))) (hr : r = true ↔ ∀ j, j < m → letB (f j) = true) :
    Calls Tryz.prog 59 #[.slice (some ⟨b, 0, none⟩) m cap, .func (.func 60) #[] #[]] w fun e w' => e = .returned (.bool (!r)) ∧ w = w' := by
  have Hi := Lib.hid (nameI_walk b cap m f w hm hc)
  have Hr := Lib.hid hr
  clear hc hr
  go_enter Tryz.func59, Tryz.ntmps59
  go_wp2_with fail
  refine Hi.out.mono ?_
  rintro e w' ⟨⟨h, rfl⟩ | ⟨k, hk, hf, rfl⟩, rfl⟩
  · have hrt : r = true := Hr.out.2 h
    clear h
    subst hrt
    go_wp2
    go_ret
    exact ⟨rfl, rfl⟩
  · have hrf : r = false := by
      cases r with
      | false => rfl
      | true => exact absurd (Hr.out.1 rfl k hk) (by rw [hf]; decide)
    have hk0 : (0 : Int) ≤ (k : Int) := by omega
    clear hf
    subst hrf
    go_wp2
    go_ret
    exact ⟨by simp, rfl⟩
theorem nameB_iff (s : ByteArray) (h : 1 ≤ s.size ∧ s.size ≤ 16) : nameB s = true ↔ ∀ j, j < s.size → letB ((s.data.toList.getD j 0).toNat : Int) = true := by
  unfold nameB
  rw [decide_eq_true h, Bool.true_and, List.all_eq_true]
  constructor
  · intro ha j hj
    have hj2 : j < s.data.toList.length := by simpa using hj
    rw [letB_of, List.getD_eq_getElem?_getD, List.getElem?_eq_getElem hj2]
    exact ha _ (List.getElem_mem hj2)
  · intro ha c hc
    obtain ⟨j, hj, rfl⟩ := List.getElem_of_mem hc
    have := ha j (by simpa using hj)
    rw [letB_of, List.getD_eq_getElem?_getD, List.getElem?_eq_getElem hj] at this
    exact this
theorem nameB_size {s : ByteArray} (h : ¬ (1 ≤ s.size ∧ s.size ≤ 16)) : nameB s = false := by
  unfold nameB
  rw [decide_eq_false h]; rfl
theorem empty_of_size {s : ByteArray} (h : s.size = 0) : s = ⟨#[]⟩ := by
  obtain ⟨a⟩ := s
  exact congrArg ByteArray.mk (Array.size_eq_zero_iff.1 h)
theorem ne_empty {s : ByteArray} (h : s.size ≠ 0) : (s.toList == ([] : List UInt8)) = false ∧ (s.toList != ([] : List UInt8)) = true ∧ s.toList.isEmpty = false := by
  have hl : s.toList ≠ [] := by
    rw [ByteArray.toList_eq]
    intro e
    apply h
    have : s.data.toList.length = 0 := by rw [e]; rfl
    simpa using this
  refine ⟨by simpa using hl, by simpa using hl, ?_⟩
  cases hs : s.toList with
  | nil => exact absurd hs hl
  | cons _ _ => rfl
set_option maxRecDepth 100000 in
set_option maxHeartbeats 2000000 in
theorem name_walk (s : ByteArray) (w : World) (hs : s.size ≤ maxLen) :
    Calls Tryz.prog 40 #[.string s] w fun e w' => e = .returned (.bool (nameB s)) ∧ Below w.heap.size w w' := by
  by_cases h0 : s.size = 0
  · rw [nameB_size (by omega)]
    have := empty_of_size h0
    subst this
    go_enter Tryz.func40, Tryz.ntmps40
    go_wp2
    go_ret
    exact ⟨rfl, Below.refl _ _⟩
  obtain ⟨e1, e2, e3⟩ := ne_empty h0
  by_cases h1 : 16 < s.size
  · rw [nameB_size (by omega)]
    have h2 : ¬ (s.size : Int) ≤ 16 := by omega
    have h3 : decide (s.size ≤ 16) = false := by simp; omega
    clear h0 h1
    go_enter Tryz.func40, Tryz.ntmps40
    go_wp2
    go_ret
    exact ⟨rfl, Below.refl _ _⟩
  · have h2 : (s.size : Int) ≤ 16 := by omega
    have h3 : decide (s.size ≤ 16) = true := by simp; omega
    have hcv := Lib.run_convert_string_bytes (P := Tryz.prog) w 9 53 5 s Tryz.underlying9 Tryz.underlying53 Tryz.underlying5
    have Hi := Lib.hid (nameB_iff s (by omega))
    obtain ⟨r, hr⟩ : ∃ r, nameB s = r := ⟨_, rfl⟩
    rw [hr] at Hi ⊢
    have Hc := Lib.hid (nameC_walk w.heap.size (grownCap w s.size 0 5) s.size (fun j => ((s.data.toList.getD j 0).toNat : Int)) (Lib.bytesWorld w 5 s) r hs (fun j hj => Lib.bytesWorld_cell w _ s j hj) Hi.out)
    have Hb := Lib.hid (bytesWorld_below w 5 s)
    obtain ⟨W, hW⟩ : ∃ W, Lib.bytesWorld w 5 s = W := ⟨_, rfl⟩
    obtain ⟨cp, hcp⟩ : ∃ cp, grownCap w s.size 0 5 = cp := ⟨_, rfl⟩
    rw [hW] at hcv Hc Hb
    rw [hcp] at hcv Hc
    clear h0 h1 hr hW hcp
    go_enter Tryz.func40, Tryz.ntmps40
    go_wp2_with fail
    refine Hc.out.mono ?_
    rintro e w' ⟨rfl, rfl⟩
    go_wp2
    go_ret
    exact ⟨by simp, Hb.out⟩
set_option maxRecDepth 100000 in
set_option maxHeartbeats 4000000 in
theorem rname_walk (s : ByteArray) (w : World) (hs : s.size ≤ maxLen) :
    Calls Tryz.prog 84 #[.string s] w fun e w' => e = .returned (.bool (nameB s)) ∧ w = w' := by
  by_cases h0 : s.size = 0
  · rw [nameB_size (by omega)]
    have := empty_of_size h0
    subst this
    go_enter Tryz.func84, Tryz.ntmps84
    go_wp2
    go_ret
    exact ⟨rfl, rfl⟩
  have g1 : ¬ (s.size : Int) < 1 := by omega
  have g1d : decide (s.size < 1) = false := decide_eq_false (by omega)
  by_cases h1 : 16 < s.size
  · rw [nameB_size (by omega)]
    have h2 : (16 : Int) < s.size := by omega
    have h3 : decide (16 < s.size) = true := by simp; omega
    clear h0 h1
    go_enter Tryz.func84, Tryz.ntmps84
    go_wp2
    go_ret
    exact ⟨rfl, rfl⟩
  · have h2 : ¬ (16 : Int) < s.size := by omega
    have h3 : decide (16 < s.size) = false := by simp; omega
    have Hi := Lib.hid (nameB_iff s (by omega))
    obtain ⟨r, hr⟩ : ∃ r, nameB s = r := ⟨_, rfl⟩
    rw [hr] at Hi ⊢
    clear h0 h1 hr
    go_enter Tryz.func84, Tryz.ntmps84
    go_wp2
    go_loop [3] (fun vi => ∃ k : Nat, k ≤ s.size ∧ vi = .int .i64 k ∧ Hid (∀ j, j < k → letB ((s.data.toList.getD j 0).toNat : Int) = true)) (fun i => s.size - (intOf i).toNat)
    case atStart => exact ⟨0, by omega, rfl, Lib.hid (fun j hj => by omega)⟩
    case round =>
      obtain ⟨k, hk, rfl, Hz⟩ := hrel
      have hk2 : k < s.size ∨ k = s.size := by omega
      rcases hk2 with hlt | rfl
      · have hlt2 : (k : Int) < s.size := by omega
        have hx : (((s[k]'hlt).toNat : Nat) : Int) = ((s.data.toList.getD k 0).toNat : Int) := by
          have hj2 : k < s.data.toList.length := by simpa using hlt
          rw [List.getD_eq_getElem?_getD, List.getElem?_eq_getElem hj2]
          rfl
        obtain ⟨x, hxx⟩ : ∃ x, ((s.data.toList.getD k 0).toNat : Int) = x := ⟨_, rfl⟩
        have Hx := Lib.hid hxx
        rw [hxx] at hx
        clear hxx
        by_cases h5 : x = 45
        case' pos =>
          have h5a : (x == 45) = true := by simpa using h5
          have hl : letB x = true := letB_yes (by omega)
          have a1 : ¬ 97 ≤ x := by omega
          have a2 : ¬ 48 ≤ x := by omega
        case' neg =>
          have h5a : (x == 45) = false := by simpa using h5
          rcases (show x < 48 ∨ (48 ≤ x ∧ x ≤ 57) ∨ (57 < x ∧ x < 97) ∨ (97 ≤ x ∧ x ≤ 122) ∨ 122 < x by omega) with h | h | h | h | h
          case' inl =>
            have a1 : ¬ 97 ≤ x := by omega
            have a2 : ¬ 48 ≤ x := by omega
            have hl : letB x = false := letB_no (by omega)
          case' inr.inl =>
            have a1 : ¬ 97 ≤ x := by omega
            have a2 : 48 ≤ x := by omega
            have a3 : x ≤ 57 := by omega
            have hl : letB x = true := letB_yes (by omega)
          case' inr.inr.inl =>
            have a1 : ¬ 97 ≤ x := by omega
            have a2 : 48 ≤ x := by omega
            have a3 : ¬ x ≤ 57 := by omega
            have hl : letB x = false := letB_no (by omega)
          case' inr.inr.inr.inl =>
            have a1 : 97 ≤ x := by omega
            have a2 : x ≤ 122 := by omega
            have hl : letB x = true := letB_yes (by omega)
          case' inr.inr.inr.inr =>
            have a1 : 97 ≤ x := by omega
            have a2 : ¬ x ≤ 122 := by omega
            have a3 : 48 ≤ x := by omega
            have a4 : ¬ x ≤ 57 := by omega
            have hl : letB x = false := letB_no (by omega)
        all_goals
          have Hl := Lib.hid hl
          clear hl h5
          go_wp2
          first
          | (go_round
             case rel => exact ⟨k + 1, by omega, by go_num, Lib.hid (fun j hj => by
              by_cases e : j = k
              · rw [e, Hx.out]; exact Hl.out
              · exact Hz.out j (by omega))⟩
             case measure => simp [intOf]; omega)
          | (have hrf : r = false := by
              cases r with
              | false => rfl
              | true =>
                have h9 := Hi.out.1 rfl k hlt
                rw [Hx.out, Hl.out] at h9
                cases h9
             subst hrf
             go_ret
             exact ⟨rfl, rfl⟩)
      · have hrt : r = true := Hi.out.2 Hz.out
        subst hrt
        go_wp2
        go_ret
        exact ⟨rfl, rfl⟩
end Go.Proofs.YthdicfcgkbepdaaGreatDoor
