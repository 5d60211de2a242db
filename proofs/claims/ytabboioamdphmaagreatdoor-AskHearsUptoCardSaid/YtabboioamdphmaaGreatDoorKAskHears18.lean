/- The walks of names: ring.Name, the document's IsName. -/
import Derived.Test.YtabboioamdphmaaGreatDoorKAskHears14
import Derived.Test.YtabboioamdphmaaGreatDoorKAskHears01
import Derived.Lib.ConvBytes
import Derived.Test.YtabboioamdphmaaGreatDoorKAskHears17
namespace Go.Proofs.YtabboioamdphmaaGreatDoor
open Go.RowKit

def letB (x : Int) : Bool := decide ((97 ≤ x ∧ x ≤ 122) ∨ (48 ≤ x ∧ x ≤ 57) ∨ x = 45)
theorem letB_of (c : UInt8) : letB (c.toNat : Int) = letterB c := by unfold letB letterB; rw [decide_eq_decide]; omega
theorem letB_no {x : Int} (h : ¬ ((97 ≤ x ∧ x ≤ 122) ∨ (48 ≤ x ∧ x ≤ 57) ∨ x = 45)) : letB x = false := decide_eq_false h
theorem letB_yes {x : Int} (h : (97 ≤ x ∧ x ≤ 122) ∨ (48 ≤ x ∧ x ≤ 57) ∨ x = 45) : letB x = true := decide_eq_true h
theorem bytesWorld_below (w : World) (e : TypeId) (s : ByteArray) : Below w.heap.size w (Lib.bytesWorld w e s) :=
  ⟨by simp [Lib.bytesWorld, World.freeze, World.alloc, World.drew, -World.alloc_eq, -World.drew_eq], by simp [Lib.bytesWorld, World.freeze, World.alloc, World.drew, -World.alloc_eq, -World.drew_eq],
    by simp [Lib.bytesWorld, World.freeze, World.alloc, World.drew, -World.alloc_eq, -World.drew_eq], by rw [Lib.bytesWorld_size]; omega, fun k hk => Lib.bytesWorld_at_old w e s k hk⟩

set_option maxRecDepth 100000 in
set_option maxHeartbeats 4000000 in
theorem letter_walk (x : Int) (w : World) :
    Calls Tryz.prog 60 #[.int .u8 x] w fun e w' => e = .returned (.bool (!letB x)) ∧ w = w' := by
  by_cases h5 : x = 45
  · subst h5
    go_enter Tryz.func60, Tryz.ntmps60
    go_wp2
    go_ret
    exact ⟨rfl, rfl⟩
  · have h5a : (x == 45) = false := by simpa using h5
    have h5b : (x != 45) = true := by simpa using h5
    rcases (show x < 48 ∨ (48 ≤ x ∧ x ≤ 57) ∨ (57 < x ∧ x < 97) ∨ (97 ≤ x ∧ x ≤ 122) ∨ 122 < x by omega) with h | h | h | h | h
    case' inl =>
      have h1 : x < 97 := by omega
      rw [letB_no (by omega)]
    case' inr.inl =>
      have h1 : x < 97 := by omega
      have h2 : ¬ x < 48 := by omega
      have h3 : ¬ 57 < x := by omega
      rw [letB_yes (by omega)]
    case' inr.inr.inl =>
      have h1 : x < 97 := by omega
      have h2 : ¬ x < 48 := by omega
      have h3 : 57 < x := by omega
      rw [letB_no (by omega)]
    case' inr.inr.inr.inl =>
      have h1 : ¬ x < 97 := by omega
      have h2 : ¬ 122 < x := by omega
      rw [letB_yes (by omega)]
    case' inr.inr.inr.inr =>
      have h1 : ¬ x < 97 := by omega
      have h2 : ¬ x < 48 := by omega
      have h3 : 57 < x := by omega
      rw [letB_no (by omega)]
    all_goals
      clear h5
      go_enter Tryz.func60, Tryz.ntmps60
      go_wp2
      go_ret
      exact ⟨rfl, rfl⟩
set_option maxRecDepth 100000 in
set_option maxHeartbeats 2000000 in
theorem nameI_walk (b cap m : Nat) (f : Nat → Int) (w : World) (hm : m ≤ maxLen) (hc : ∀ j, j < m → w.cell? ⟨b, j, none⟩ = some (.int .u8 (f j))) :
    Calls Tryz.prog 82 #[.slice (some ⟨b, 0, none⟩) m cap, .func (.func 60) #[] #[]] w
      fun e w' => (((∀ j, j < m → letB (f j) = true) ∧ e = .returned (.int .i64 (-1))) ∨ ∃ k, k < m ∧ letB (f k) = false ∧ e = .returned (.int .i64 (k : Nat))) ∧ w = w' := by
  have hm' : m ≤ 9223372036854775807 := hm
  have Hc := Lib.hid hc; clear hc
  go_enter Tryz.func82, Tryz.ntmps82
  go_wp2
  go_loop [8] (fun vi => ∃ k : Nat, k ≤ m ∧ vi = .int .i64 k ∧ ∀ j, j < k → letB (f j) = true) (fun i => m - (intOf i).toNat)
  case atStart => exact ⟨0, by omega, rfl, fun j hj => by omega⟩
  case round =>
    obtain ⟨k, hk, rfl, hz⟩ := hrel
    have Hz := Lib.hid hz; clear hz
    have hk2 : k < m ∨ k = m := by omega
    rcases hk2 with hlt | rfl
    · have hlt2 : (k : Int) < m := by omega
      have h1 := Hc.out k hlt
      have Hp := Lib.hid (letter_walk (f k) w)
      cases hx : letB (f k) with
      | true =>
        rw [hx] at Hp
        have Hx := Lib.hid hx; clear hx
        go_wp2_with (go_at_call 60; refine Hp.out.mono ?_; rintro e w' ⟨rfl, rfl⟩)
        go_round
        case rel => exact ⟨k + 1, by omega, by go_num, fun j hj => by
          by_cases e : j = k
          · rw [e, Hx.out]
          · exact Hz.out j (by omega)⟩
        case measure => simp [intOf]; omega
      | false =>
        rw [hx] at Hp
        have Hx := Lib.hid hx; clear hx
        go_wp2_with (go_at_call 60; refine Hp.out.mono ?_; rintro e w' ⟨rfl, rfl⟩)
        go_ret
        exact ⟨.inr ⟨k, hlt, Hx.out, rfl⟩, rfl⟩
    · go_wp2
      go_ret
      exact ⟨.inl ⟨Hz.out, rfl⟩, rfl⟩
theorem nameC_walk (b cap m : Nat) (f : Nat → Int) (w : World) (r : Bool) (hm : m ≤ maxLen) (hc : ∀ j, j < m → w.cell? ⟨b, j, none⟩ = some (.int .u8 (f j))) (hr : r = true ↔ ∀ j, j < m → letB (f j) = true) :
    Calls Tryz.prog 59 #[.slice (some ⟨b, 0, none⟩) m cap, .func (.func 60) #[] #[]] w fun e w' => e = .returned (.bool (!r)) ∧ w = w' := by
  have Hi := Lib.hid (nameI_walk b cap m f w hm hc)
  have Hr := Lib.hid hr
  clear hc hr
  go_enter Tryz.func59, Tryz.ntmps59
  go_wp2_with fail
  refine Hi.out.mono ?_
  rintro e w' ⟨⟨h, rfl⟩ | ⟨k, hk, hf, rfl⟩, rfl⟩
  · have hrt : r = true := Hr.out.2 h
    clear h
    subst hrt
    go_wp2
    go_ret
    exact ⟨rfl, rfl⟩
  · have hrf : r = false := by
      cases r with
      | false => rfl
      | true => exact absurd (Hr.out.1 rfl k hk) (by rw [hf]; decide)
    have hk0 : (0 : Int) ≤ (k : Int) := by omega
    clear hf
    subst hrf
    go_wp2
    go_ret
    exact ⟨by simp, rfl⟩
theorem nameB_iff (s : ByteArray) (h : 1 ≤ s.size ∧ s.size ≤ 16) : nameB s = true ↔ ∀ j, j < s.size → letB ((s.data.toList.getD j 0).toNat : Int) = true := by
  unfold nameB
  rw [decide_eq_true h, Bool.true_and, List.all_eq_true]
  constructor
  · intro ha j hj
    have hj2 : j < s.data.toList.length := by simpa using hj
    rw [letB_of, List.getD_eq_getElem?_getD, List.getElem?_eq_getElem hj2]
    exact ha _ (List.getElem_mem hj2)
  · intro ha c hc
    obtain ⟨j, hj, rfl⟩ := List.getElem_of_mem hc
    have := ha j (by simpa using hj)
    rw [letB_of, List.getD_eq_getElem?_getD, List.getElem?_eq_getElem hj] at this
    exact this
theorem nameB_size {s : ByteArray} (h : ¬ (1 ≤ s.size ∧ s.size ≤ 16)) : nameB s = false := by
  unfold nameB
  rw [decide_eq_false h]; rfl
theorem empty_of_size {s : ByteArray} (h : s.size = 0) : s = ⟨#[]⟩ := by
  obtain ⟨a⟩ := s
  exact congrArg ByteArray.mk (Array.size_eq_zero_iff.1 h)
theorem ne_empty {s : ByteArray} (h : s.size ≠ 0) : (s.toList == ([] : List UInt8)) = false ∧ (s.toList != ([] : List UInt8)) = true ∧ s.toList.isEmpty = false := by
  have hl : s.toList ≠ [] := by
    rw [ByteArray.toList_eq]
    intro e
    apply h
    have : s.data.toList.length = 0 := by rw [e]; rfl
    simpa using this
  refine ⟨by simpa using hl, by simpa using hl, ?_⟩
  cases hs : s.toList with
  | nil => exact absurd hs hl
  | cons _ _ => rfl
set_option maxRecDepth 100000 in
set_option maxHeartbeats 2000000 in
theorem name_walk (s : ByteArray) (w : World) (hs : s.size ≤ maxLen) :
    Calls Tryz.prog 34 #[.string s] w fun e w' => e = .returned (.bool (nameB s)) ∧ Below w.heap.size w w' := by
  by_cases h0 : s.size = 0
  · rw [nameB_size (by omega)]
    have := empty_of_size h0
    subst this
    go_enter Tryz.func34, Tryz.ntmps34
    go_wp2
    go_ret
    exact ⟨rfl, Below.refl _ _⟩
  obtain ⟨e1, e2, e3⟩ := ne_empty h0
  by_cases h1 : 16 < s.size
  · rw [nameB_size (by omega)]
    have h2 : ¬ (s.size : Int) ≤ 16 := by omega
    have h3 : decide (s.size ≤ 16) = false := by simp; omega
    clear h0 h1
    go_enter Tryz.func34, Tryz.ntmps34
    go_wp2
    go_ret
    exact ⟨rfl, Below.refl _ _⟩
  · have h2 : (s.size : Int) ≤ 16 := by omega
    have h3 : decide (s.size ≤ 16) = true := by simp; omega
    have hcv := Lib.run_convert_string_bytes (P := Tryz.prog) w 9 112 5 s Tryz.underlying9 Tryz.underlying112 Tryz.underlying5
    have Hi := Lib.hid (nameB_iff s (by omega))
    obtain ⟨r, hr⟩ : ∃ r, nameB s = r := ⟨_, rfl⟩
    rw [hr] at Hi ⊢
    have Hc := Lib.hid (nameC_walk w.heap.size (grownCap w s.size 0 5) s.size (fun j => ((s.data.toList.getD j 0).toNat : Int)) (Lib.bytesWorld w 5 s) r hs (fun j hj => Lib.bytesWorld_cell w _ s j hj) Hi.out)
    have Hb := Lib.hid (bytesWorld_below w 5 s)
    obtain ⟨W, hW⟩ : ∃ W, Lib.bytesWorld w 5 s = W := ⟨_, rfl⟩
    obtain ⟨cp, hcp⟩ : ∃ cp, grownCap w s.size 0 5 = cp := ⟨_, rfl⟩
    rw [hW] at hcv Hc Hb
    rw [hcp] at hcv Hc
    clear h0 h1 hr hW hcp
    go_enter Tryz.func34, Tryz.ntmps34
    go_wp2_with fail
    refine Hc.out.mono ?_
    rintro e w' ⟨rfl, rfl⟩
    go_wp2
    go_ret
    exact ⟨by simp, Hb.out⟩
set_option maxRecDepth 100000 in
set_option maxHeartbeats 4000000 in
theorem rname_walk (s : ByteArray) (w : World) (hs : s.size ≤ maxLen) :
    Calls Tryz.prog 11 #[.string s] w fun e w' => e = .returned (.bool (nameB s)) ∧ w = w' := by
  by_cases h0 : s.size = 0
  · rw [nameB_size (by omega)]
    have := empty_of_size h0
    subst this
    go_enter Tryz.func11, Tryz.ntmps11
    go_wp2
    go_ret
    exact ⟨rfl, rfl⟩
  have g1 : ¬ (s.size : Int) < 1 := by omega
  have g1d : decide (s.size < 1) = false := decide_eq_false (by omega)
  by_cases h1 : 16 < s.size
  · rw [nameB_size (by omega)]
    have h2 : (16 : Int) < s.size := by omega
    have h3 : decide (16 < s.size) = true := by simp; omega
    clear h0 h1
    go_enter Tryz.func11, Tryz.ntmps11
    go_wp2
    go_ret
    exact ⟨rfl, rfl⟩
  · have h2 : ¬ (16 : Int) < s.size := by omega
    have h3 : decide (16 < s.size) = false := by simp; omega
    have Hi := Lib.hid (nameB_iff s (by omega))
    obtain ⟨r, hr⟩ : ∃ r, nameB s = r := ⟨_, rfl⟩
    rw [hr] at Hi ⊢
    clear h0 h1 hr
    go_enter Tryz.func11, Tryz.ntmps11
    go_wp2
    go_loop [3] (fun vi => ∃ k : Nat, k ≤ s.size ∧ vi = .int .i64 k ∧ Hid (∀ j, j < k → letB ((s.data.toList.getD j 0).toNat : Int) = true)) (fun i => s.size - (intOf i).toNat)
    case atStart => exact ⟨0, by omega, rfl, Lib.hid (fun j hj => by omega)⟩
    case round =>
      obtain ⟨k, hk, rfl, Hz⟩ := hrel
      have hk2 : k < s.size ∨ k = s.size := by omega
      rcases hk2 with hlt | rfl
      · have hlt2 : (k : Int) < s.size := by omega
        have hx : (((s[k]'hlt).toNat : Nat) : Int) = ((s.data.toList.getD k 0).toNat : Int) := by
          have hj2 : k < s.data.toList.length := by simpa using hlt
          rw [List.getD_eq_getElem?_getD, List.getElem?_eq_getElem hj2]
          rfl
        obtain ⟨x, hxx⟩ : ∃ x, ((s.data.toList.getD k 0).toNat : Int) = x := ⟨_, rfl⟩
        have Hx := Lib.hid hxx
        rw [hxx] at hx
        clear hxx
        by_cases h5 : x = 45
        case' pos =>
          have h5a : (x == 45) = true := by simpa using h5
          have hl : letB x = true := letB_yes (by omega)
          have a1 : ¬ 97 ≤ x := by omega
          have a2 : ¬ 48 ≤ x := by omega
        case' neg =>
          have h5a : (x == 45) = false := by simpa using h5
          rcases (show x < 48 ∨ (48 ≤ x ∧ x ≤ 57) ∨ (57 < x ∧ x < 97) ∨ (97 ≤ x ∧ x ≤ 122) ∨ 122 < x by omega) with h | h | h | h | h
          case' inl =>
            have a1 : ¬ 97 ≤ x := by omega
            have a2 : ¬ 48 ≤ x := by omega
            have hl : letB x = false := letB_no (by omega)
          case' inr.inl =>
            have a1 : ¬ 97 ≤ x := by omega
            have a2 : 48 ≤ x := by omega
            have a3 : x ≤ 57 := by omega
            have hl : letB x = true := letB_yes (by omega)
          case' inr.inr.inl =>
            have a1 : ¬ 97 ≤ x := by omega
            have a2 : 48 ≤ x := by omega
            have a3 : ¬ x ≤ 57 := by omega
            have hl : letB x = false := letB_no (by omega)
          case' inr.inr.inr.inl =>
            have a1 : 97 ≤ x := by omega
            have a2 : x ≤ 122 := by omega
            have hl : letB x = true := letB_yes (by omega)
          case' inr.inr.inr.inr =>
            have a1 : 97 ≤ x := by omega
            have a2 : ¬ x ≤ 122 := by omega
            have a3 : 48 ≤ x := by omega
            have a4 : ¬ x ≤ 57 := by omega
            have hl : letB x = false := letB_no (by omega)
        all_goals
          have Hl := Lib.hid hl
          clear hl h5
          go_wp2
          first
          | (go_round
             case rel => exact ⟨k + 1, by omega, by go_num, Lib.hid (fun j hj => by
              by_cases e : j = k
              · rw [e, Hx.out]; exact Hl.out
              · exact Hz.out j (by omega))⟩
             case measure => simp [intOf]; omega)
          | (have hrf : r = false := by
              cases r with
              | false => rfl
              | true =>
                have h9 := Hi.out.1 rfl k hlt
                rw [Hx.out, Hl.out] at h9
                cases h9
             subst hrf
             go_ret
             exact ⟨rfl, rfl⟩)
      · have hrt : r = true := Hi.out.2 Hz.out
        subst hrt
        go_wp2
        go_ret
        exact ⟨rfl, rfl⟩
end Go.Proofs.YtabboioamdphmaaGreatDoor
/- The walks of the checks of nodes: slices.Contains of texts, ring.Check, the document's Index, NodesFault. -/
namespace Go.Proofs.YtabboioamdphmaaGreatDoor
open Go.RowKit

theorem ret_i {a b : Int} (h : a = b) : Ending.returned (.int .i64 a) = .returned (.int .i64 b) := by rw [h]
theorem txt_inj {a b : ByteArray} (h : a.toList = b.toList) : a = b := by
  rw [ByteArray.toList_eq, ByteArray.toList_eq] at h
  obtain ⟨a⟩ := a
  obtain ⟨b⟩ := b
  exact congrArg ByteArray.mk (Array.toList_inj.1 h)
theorem txt_ne {a b : ByteArray} (h : a ≠ b) : (a.toList == b.toList) = false := by
  rw [beq_eq_false_iff_ne]; exact fun e => h (txt_inj e)
theorem at_take {L : List ByteArray} {k : Nat} (hk : k ≤ L.length) : (L.take k).length = k := by simp; omega

set_option maxRecDepth 100000 in
set_option maxHeartbeats 1000000 in
theorem idxS_walk (n₀ : Nat) (a : Option Addr) (len cap : Nat) (L : List ByteArray) (s : ByteArray) (w : World) (hlen : L.length = len) (hl : len ≤ maxLen) (hI : TxsAt n₀ w a L) :
    Calls Tryz.prog 92 #[.slice a len cap, .string s] w fun e w' => e = .returned (.int .i64 (idxT L s)) ∧ w = w' := by
  have hm' : len ≤ 9223372036854775807 := hl
  obtain ⟨r, hr⟩ : ∃ r, idxT L s = r := ⟨_, rfl⟩
  have Hr := Lib.hid hr
  rw [hr]
  have Hl := Lib.hid hlen
  have HI := Lib.hid hI
  clear hr hlen hI hl
  go_enter Tryz.func92, Tryz.ntmps92
  go_wp2
  go_loop [8] (fun vi => ∃ k : Nat, k ≤ len ∧ vi = .int .i64 k ∧ Hid (∀ j, j < k → (L[j]?.getD ⟨#[]⟩) ≠ s)) (fun i => len - (intOf i).toNat)
  case atStart => exact ⟨0, by omega, rfl, Lib.hid (fun j hj => by omega)⟩
  case round =>
    obtain ⟨k, hk, rfl, Hz⟩ := hrel
    have hk2 : k < len ∨ k = len := by omega
    rcases hk2 with hlt | rfl
    · have hlt2 : (k : Int) < len := by omega
      rcases HI.out with he | ⟨b, off, rfl, _, hc⟩
      · exfalso
        have := Hl.out
        rw [he] at this; simp at this; omega
      have h1 := hc k (by have := Hl.out; omega)
      obtain ⟨x, hx⟩ : ∃ x, L[k]?.getD ⟨#[]⟩ = x := ⟨_, rfl⟩
      rw [hx] at h1
      have Hx := Lib.hid hx
      clear hc hx
      by_cases he : x = s
      · subst he
        go_wp2
        go_ret
        exact ⟨ret_i (by rw [← Hr.out, idxT_at (by have := Hl.out; omega) Hz.out Hx.out]), rfl⟩
      · have e1 := txt_ne (Ne.symm he)
        have He := Lib.hid he
        clear he
        go_wp2
        go_round
        case rel => exact ⟨k + 1, by omega, by go_num, Lib.hid (fun j hj => by
          by_cases e : j = k
          · rw [e, Hx.out]; exact He.out
          · exact Hz.out j (by omega))⟩
        case measure => simp [intOf]; omega
    · go_wp2
      go_ret
      exact ⟨ret_i (by rw [← Hr.out, idxT_none (fun j hj => Hz.out j (by have := Hl.out; omega))]), rfl⟩
set_option maxRecDepth 100000 in
theorem contS_walk (n₀ : Nat) (a : Option Addr) (len cap : Nat) (L : List ByteArray) (s : ByteArray) (r : Bool) (w : World) (hlen : L.length = len) (hl : len ≤ maxLen) (hI : TxsAt n₀ w a L) (hr : decide (s ∈ L) = r) :
    Calls Tryz.prog 66 #[.slice a len cap, .string s] w fun e w' => e = .returned (.bool r) ∧ w = w' := by
  have Hi := Lib.hid (idxS_walk n₀ a len cap L s w hlen hl hI)
  have h0 := idxT_pos (L := L) (s := s)
  rw [hr] at h0
  obtain ⟨x, hx⟩ : ∃ x, idxT L s = x := ⟨_, rfl⟩
  rw [hx] at Hi h0
  clear hlen hl hI hr hx
  cases r with
  | true =>
    have h1 : 0 ≤ x := by simpa using h0
    clear h0
    go_enter Tryz.func66, Tryz.ntmps66
    go_wp2_with fail
    refine Hi.out.mono ?_
    rintro e w' ⟨rfl, rfl⟩
    go_wp2
    go_ret
    exact ⟨by simp, rfl⟩
  | false =>
    have h1 : ¬ 0 ≤ x := by simpa using h0
    clear h0
    go_enter Tryz.func66, Tryz.ntmps66
    go_wp2_with fail
    refine Hi.out.mono ?_
    rintro e w' ⟨rfl, rfl⟩
    go_wp2
    go_ret
    exact ⟨by simp; omega, rfl⟩
set_option maxRecDepth 100000 in
set_option maxHeartbeats 1000000 in
theorem ridx_walk (n₀ : Nat) (a : Option Addr) (len cap : Nat) (L : List ByteArray) (s : ByteArray) (w : World) (hlen : L.length = len) (hl : len ≤ maxLen) (hI : TxsAt n₀ w a L) :
    Calls Tryz.prog 50 #[.slice a len cap, .string s] w fun e w' => e = .returned (.int .i64 (idxT L s)) ∧ w = w' := by
  have hm' : len ≤ 9223372036854775807 := hl
  obtain ⟨r, hr⟩ : ∃ r, idxT L s = r := ⟨_, rfl⟩
  have Hr := Lib.hid hr
  rw [hr]
  have Hl := Lib.hid hlen
  have HI := Lib.hid hI
  clear hr hlen hI hl
  go_enter Tryz.func50, Tryz.ntmps50
  go_wp2
  go_loop [5] (fun vi => ∃ k : Nat, k ≤ len ∧ vi = .int .i64 k ∧ Hid (∀ j, j < k → (L[j]?.getD ⟨#[]⟩) ≠ s)) (fun i => len - (intOf i).toNat)
  case atStart => exact ⟨0, by omega, rfl, Lib.hid (fun j hj => by omega)⟩
  case round =>
    obtain ⟨k, hk, rfl, Hz⟩ := hrel
    have hk2 : k < len ∨ k = len := by omega
    rcases hk2 with hlt | rfl
    · have hlt2 : (k : Int) < len := by omega
      rcases HI.out with he | ⟨b, off, rfl, _, hc⟩
      · exfalso
        have := Hl.out
        rw [he] at this; simp at this; omega
      have h1 := hc k (by have := Hl.out; omega)
      obtain ⟨x, hx⟩ : ∃ x, L[k]?.getD ⟨#[]⟩ = x := ⟨_, rfl⟩
      rw [hx] at h1
      have Hx := Lib.hid hx
      clear hc hx
      by_cases he : x = s
      · subst he
        go_wp2
        go_ret
        exact ⟨ret_i (by rw [← Hr.out, idxT_at (by have := Hl.out; omega) Hz.out Hx.out]), rfl⟩
      · have e1 := txt_ne he
        have He := Lib.hid he
        clear he
        go_wp2
        go_round
        case rel => exact ⟨k + 1, by omega, by go_num, Lib.hid (fun j hj => by
          by_cases e : j = k
          · rw [e, Hx.out]; exact He.out
          · exact Hz.out j (by omega))⟩
        case measure => simp [intOf]; omega
    · go_wp2
      go_ret
      exact ⟨ret_i (by rw [← Hr.out, idxT_none (fun j hj => Hz.out j (by have := Hl.out; omega))]), rfl⟩

set_option maxRecDepth 100000 in
set_option maxHeartbeats 2000000 in
/-- ring.Check. -/
theorem check_walk (n₀ : Nat) (a : Option Addr) (len cap : Nat) (L : List ByteArray) (w : World) (E : Nat → Addr) (hE : ErrNx w E) (hlen : L.length = len) (hcap : len ≤ cap) (hsz : ∀ j : Nat, (L[j]?.getD (⟨#[]⟩ : ByteArray)).size ≤ maxLen) (hI : TxsAt n₀ w a L) (hn : n₀ ≤ w.heap.size) :
    Calls Tryz.prog 58 #[.slice a len cap] w fun e w' => (∃ v, e = .returned v ∧ FltV w' E (nodesF L) v) ∧ Below w.heap.size w w' := by
  by_cases hb : 1 ≤ len ∧ len ≤ 16
  · have hm' : len ≤ 9223372036854775807 := by omega
    have hb' : 1 ≤ L.length ∧ L.length ≤ 16 := by rw [hlen]; exact hb
    have g1 : ¬ (len : Int) < 1 := by omega
    have g1d : decide (len < 1) = false := decide_eq_false (by omega)
    have g2 : ¬ (16 : Int) < len := by omega
    have g2d : decide (16 < len) = false := decide_eq_false (by omega)
    have hcap2 : (len : Int) ≤ cap := by omega
    have Hl := Lib.hid (And.intro hlen hb')
    have HI := Lib.hid (hI.mono hn)
    have HE := Lib.hid hE
    have Hs := Lib.hid hsz
    obtain ⟨F, hF⟩ : ∃ F, nodesF L = F := ⟨_, rfl⟩
    have HF := Lib.hid hF
    rw [hF]
    have hfin : ∀ (V V' : World), Below w.heap.size w V → ∀ k i, k < len → (∀ j, j < k → badAt L j = 0) → badAt L k = i + 1 → i < 12 → V' = V.alloc (.cells #[.int .i64 (k : Int), errV (E i)] 120) →
        FltV V' E F (.iface 116 (.pointer (some ⟨V.heap.size, 0, none⟩))) ∧ Below w.heap.size w V' := fun V V' hB k i hk hj hbk hi hV => by
      subst hV
      refine ⟨.inr (.inr ⟨i, V.heap.size, hi, ?_, rfl, ?_⟩), hB.alloc hB.size _⟩
      · rw [← hF, nodesF_at hb' (by omega) hj (by omega), hbk]
      · rw [← hF, nodesF_at hb' (by omega) hj (by omega)]
        exact ⟨by simp, by simp⟩
    have Hfin := Lib.hid hfin
    clear hb hlen hI hE hsz hcap hb' hF hfin
    go_enter Tryz.func58, Tryz.ntmps58
    go_wp2
    go_loopw [16] (fun vi wr => ∃ k : Nat, k ≤ len ∧ vi = .int .i64 k ∧ Hid ((∀ j, j < k → badAt L j = 0) ∧ Below w.heap.size w wr)) (fun i _ => len - (intOf i).toNat)
    case atStart => exact ⟨0, by omega, rfl, Lib.hid ⟨fun j hj => by omega, Below.refl _ _⟩⟩
    case round =>
      obtain ⟨k, hk, rfl, Hz⟩ := hrel
      have hk2 : k < len ∨ k = len := by omega
      rcases hk2 with hlt | rfl
      · have hlt2 : (k : Int) < len := by omega
        rcases HI.out.below Hz.out.2 with he | ⟨b, off, rfl, hbl, hc⟩
        · exfalso
          have := Hl.out.1
          rw [he] at this; simp at this; omega
        have h1 := hc k (by have := Hl.out.1; omega)
        have hk3 : (k : Int) ≤ cap := by omega
        obtain ⟨x, hx⟩ : ∃ x, L[k]?.getD ⟨#[]⟩ = x := ⟨_, rfl⟩
        have hxs := Hs.out k
        rw [hx] at h1 hxs
        have Hx := Lib.hid hx
        have Hn := Lib.hid (name_walk x wr hxs)
        clear hc hx hxs
        cases hnb : nameB x with
        | false =>
          rw [hnb] at Hn
          have hbad : badAt L k = 3 + 1 := badAt_name (by rw [Hx.out]; exact hnb)
          have Hbad := Lib.hid hbad
          clear hnb hbad
          go_wp2_with fail
          refine Hn.out.mono ?_
          rintro e w1 ⟨rfl, hb1⟩
          have HB := Lib.hid (Hz.out.2.trans (hb1.mono Hz.out.2.size))
          have hc3 := (HE.out.below HB.out (Nat.le_refl _)).c3
          clear hb1
          go_wp2
          go_ret
          obtain ⟨f1, f2⟩ := Hfin.out w1 _ HB.out k 3 hlt Hz.out.1 Hbad.out (by decide) rfl
          exact ⟨⟨_, rfl, f1⟩, f2⟩
        | true =>
          rw [hnb] at Hn
          have Hnb := Lib.hid hnb
          clear hnb
          go_wp2_with fail
          refine Hn.out.mono ?_
          rintro e w1 ⟨rfl, hb1⟩
          have HB := Lib.hid (Hz.out.2.trans (hb1.mono Hz.out.2.size))
          have hc5 := (HE.out.below HB.out (Nat.le_refl _)).c5
          have hT : TxsAt w.heap.size w1 (some ⟨b, off, none⟩) (L.take k) := (HI.out.below HB.out).take k
          obtain ⟨r, hr⟩ : ∃ r, decide (x ∈ L.take k) = r := ⟨_, rfl⟩
          have Hr := Lib.hid hr
          have Hcs := Lib.hid (fun c => contS_walk w.heap.size (some ⟨b, off, none⟩) k c (L.take k) x r w1 (at_take (by have := Hl.out.1; omega)) (by have := Hl.out; unfold maxLen; omega) hT hr)
          clear hb1 hT hr
          cases r with
          | true =>
            have hbad : badAt L k = 5 + 1 := badAt_exist (by rw [Hx.out]; exact Hnb.out) (by rw [Hx.out]; exact of_decide_eq_true Hr.out)
            have Hbad := Lib.hid hbad
            clear hbad
            go_wp2_with fail
            refine (Hcs.out _).mono ?_
            rintro e w' ⟨rfl, rfl⟩
            go_wp2
            go_ret
            obtain ⟨f1, f2⟩ := Hfin.out w1 _ HB.out k 5 hlt Hz.out.1 Hbad.out (by decide) rfl
            exact ⟨⟨_, rfl, f1⟩, f2⟩
          | false =>
            have hbad : badAt L k = 0 := badAt_ok (by rw [Hx.out]; exact Hnb.out) (by rw [Hx.out]; exact of_decide_eq_false Hr.out)
            have Hbad := Lib.hid hbad
            clear hbad
            go_wp2_with fail
            refine (Hcs.out _).mono ?_
            rintro e w' ⟨rfl, rfl⟩
            go_wp2
            go_roundw
            case rel => exact ⟨k + 1, by omega, by go_num, Lib.hid ⟨fun j hj => by
              by_cases e : j = k
              · rw [e]; exact Hbad.out
              · exact Hz.out.1 j (by omega), HB.out⟩⟩
            case measure => simp [intOf]; omega
      · go_wp2
        go_ret
        exact ⟨⟨_, rfl, .inl ⟨by rw [← HF.out, nodesF_ok Hl.out.2 (fun j hj => Hz.out.1 j (by have := Hl.out.1; omega))], rfl⟩⟩, Hz.out.2⟩
  · have hF : nodesF L = (2, -1) := nodesF_out (by rw [hlen]; exact hb)
    have hc1 := hE.c1
    rw [hF]
    have hcase : len < 1 ∨ (¬ len < 1 ∧ 16 < len) := by omega
    rcases hcase with h1 | ⟨h1, h2⟩
    case' inl =>
      have g1 : (len : Int) < 1 := by omega
      have g1d : decide (len < 1) = true := decide_eq_true h1
    case' inr =>
      have g1 : ¬ (len : Int) < 1 := by omega
      have g1d : decide (len < 1) = false := decide_eq_false h1
      have g2 : (16 : Int) < len := by omega
      have g2d : decide (16 < len) = true := decide_eq_true h2
    all_goals
      clear hb hlen hI hE hsz hcap hF h1
      try clear h2
      go_enter Tryz.func58, Tryz.ntmps58
      go_wp2
      go_ret
      exact ⟨⟨_, rfl, .inr (.inl ⟨1, by decide, rfl, rfl⟩)⟩, Below.refl _ _⟩

/-! ### the document's -/
/-- two cells of a block of the call's own. -/
structure Pair (w : World) (b : Nat) (x y : Value) : Prop where
  c0 : w.cell? ⟨b, 0, none⟩ = some x
  c1 : w.cell? ⟨b, 1, none⟩ = some y
  f0 : w.frozen? ⟨b, 0, none⟩ = false
  f1 : w.frozen? ⟨b, 1, none⟩ = false
theorem Pair.new (w : World) (x y : Value) (T : TypeId) : Pair (w.alloc (.cells #[x, y] T)) w.heap.size x y := ⟨by simp, by simp, by simp, by simp⟩
theorem Pair.drewN {w : World} {b : Nat} {x y : Value} (h : Pair w b x y) (n : Nat) : Pair (w.drewN n) b x y := ⟨h.c0, h.c1, h.f0, h.f1⟩
theorem Pair.below {n : Nat} {w w' : World} {b : Nat} {x y : Value} (h : Pair w b x y) (hb : Below n w w') (hn : b < n) : Pair w' b x y :=
  ⟨(hb.cell (p := ⟨b, 0, none⟩) hn).trans h.c0, (hb.cell (p := ⟨b, 1, none⟩) hn).trans h.c1, (hb.frozen (p := ⟨b, 0, none⟩) hn).trans h.f0, (hb.frozen (p := ⟨b, 1, none⟩) hn).trans h.f1⟩
theorem bare_walk (c : Int) (w : World) :
    Calls Tryz.prog 12 #[.int .i64 c] w fun e w' => e = .returned (.agg #[.int .i64 c, .int .i64 (-1)]) ∧ Below w.heap.size w w' := by
  go_enter Tryz.func12, Tryz.ntmps12
  go_wp2
  exact bodyPost_ret (v := .agg #[.int .i64 c, .int .i64 (-1)]) (by simp [results, Tryz.results12, go_sem]) rfl ⟨rfl, (Below.refl _ _).alloc (Nat.le_refl _) _⟩
theorem fine_walk (w : World) :
    Calls Tryz.prog 61 #[] w fun e w' => e = .returned (.agg #[.int .i64 0, .int .i64 (-1)]) ∧ Below w.heap.size w w' := by
  go_enter Tryz.func61, Tryz.ntmps61
  go_wp2
  exact bodyPost_ret (v := .agg #[.int .i64 0, .int .i64 (-1)]) (by simp [results, Tryz.results61, go_sem]) rfl ⟨rfl, (Below.refl _ _).alloc (Nat.le_refl _) _⟩
end Go.Proofs.YtabboioamdphmaaGreatDoor
