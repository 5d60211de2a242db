/- The document's reading: numbers and texts. -/
import Derived.Test.YtgcnohejmofhkaaDoorWrF
namespace Go.Proofs.YtgcnohejmofhkaaDoor
section
open Go.RowKit

/-- a reading lies at rb: what it is still to read, or bad. -/
def RdAt (w : World) (rb : Nat) : Option ByteArray → Prop
  | some s => w.heap[rb]? = some (.cells #[.string s, .bool false] 80 (0, 0))
  | none => ∃ s, w.heap[rb]? = some (.cells #[.string s, .bool true] 80 (0, 0))
theorem RdAt.lt {w : World} {rb : Nat} {o : Option ByteArray} (h : RdAt w rb o) : rb < w.heap.size := by
  cases o with
  | none => obtain ⟨s, h⟩ := h; exact (Array.getElem?_eq_some_iff.1 h).1
  | some s => exact (Array.getElem?_eq_some_iff.1 h).1
theorem RdAt.kept {F : Nat → Prop} {w w' : World} {rb : Nat} {o : Option ByteArray} (h : RdAt w rb o) (hk : KeptBut F w w') (hf : ¬ F rb) : RdAt w' rb o := by
  cases o with
  | none => obtain ⟨s, h⟩ := h; exact ⟨s, hk.heap h hf⟩
  | some s => exact hk.heap h hf
/-- what was read, or nothing. -/
def rdv {α : Type} (z : α) : Option (α × ByteArray) → α
  | some p => p.1
  | none => z
/-- what a reading gives, and what is left. -/
def RdP {α : Type} (enc : α → Value) (z : α) (o : Option (α × ByteArray)) (w w' : World) (rb : Nat) (e : Ending) : Prop :=
  e = .returned (enc (rdv z o)) ∧ RdAt w' rb (o.map Prod.snd) ∧ KeptBut (fun b => b = rb) w w'
set_option maxRecDepth 100000 in
set_option maxHeartbeats 8000000 in
theorem rnum_bad (w : World) (rb : Nat) (s : ByteArray) (h : w.heap[rb]? = some (.cells #[.string s, .bool true] 80 (0, 0))) :
    Calls Tryd.prog 32 #[.pointer (some ⟨rb, 0, none⟩)] w fun e w' => RdP intV 0 none w w' rb e := by
  have c0 := cell_of_heap h 0
  have c1 := cell_of_heap h 1
  have z0 := frozen_of_heap h 0
  have z1 := frozen_of_heap h 1
  have H := Lib.hid h
  clear h
  go_enter Tryd.func32, Tryd.ntmps32
  go_wp2
  go_ret
  exact ⟨rfl, ⟨s, (heap_setCell_same w rb 1 _ _ _ H.out).trans (by simp)⟩, (KeptBut.refl (fun b => b = rb) w).set1 (p := ⟨rb, 1, none⟩) rfl _⟩
set_option maxRecDepth 100000 in
set_option maxHeartbeats 8000000 in
theorem rnum_no (w : World) (rb : Nat) (s : ByteArray) (h : RdAt w rb (some s)) (hs : s.size ≤ 1000000) (h8 : ¬ (8 ≤ s.size ∧ sb s 0 < 128)) :
    Calls Tryd.prog 32 #[.pointer (some ⟨rb, 0, none⟩)] w fun e w' => RdP intV 0 none w w' rb e := by
  have h : w.heap[rb]? = some (.cells #[.string s, .bool false] 80 (0, 0)) := h
  have c0 := cell_of_heap h 0
  have c1 := cell_of_heap h 1
  have z0 := frozen_of_heap h 0
  have z1 := frozen_of_heap h 1
  have H := Lib.hid h
  clear h
  have hcs : ¬ 8 ≤ s.size ∨ (8 ≤ s.size ∧ ¬ sb s 0 < 128) := by omega
  rcases hcs with h1 | ⟨h1, h2⟩
  · have h8i : (s.size : Int) < 8 := by omega
    have h8d : decide ((s.size : Int) < 8) = true := decide_eq_true h8i
    clear h8
    go_enter Tryd.func32, Tryd.ntmps32
    go_wp2
    go_ret
    exact ⟨rfl, ⟨s, (heap_setCell_same w rb 1 _ _ _ H.out).trans (by simp)⟩, (KeptBut.refl (fun b => b = rb) w).set1 (p := ⟨rb, 1, none⟩) rfl _⟩
  · have h8i : ¬ (s.size : Int) < 8 := by omega
    have h8d : decide ((s.size : Int) < 8) = false := decide_eq_false h8i
    have hb0 : ¬ s[0].toNat < 128 := by rw [← sb_get s 0 (by omega)]; exact h2
    have hbi : (127 : Int) < (s[0].toNat : Int) := by omega
    have hb0d : decide ((127 : Int) < (s[0].toNat : Int)) = true := decide_eq_true hbi
    clear h8 h2 hb0
    go_enter Tryd.func32, Tryd.ntmps32
    go_wp2
    go_ret
    exact ⟨rfl, ⟨s, (heap_setCell_same w rb 1 _ _ _ H.out).trans (by simp)⟩, (KeptBut.refl (fun b => b = rb) w).set1 (p := ⟨rb, 1, none⟩) rfl _⟩
set_option maxRecDepth 100000 in
set_option maxHeartbeats 8000000 in
theorem rnum_ok (w : World) (rb : Nat) (s : ByteArray) (h : RdAt w rb (some s)) (hs : s.size ≤ 1000000) (h8 : 8 ≤ s.size) (h0 : sb s 0 < 128) :
    Calls Tryd.prog 32 #[.pointer (some ⟨rb, 0, none⟩)] w fun e w' => RdP intV 0 (some (beN s 8, s.extract 8 s.size)) w w' rb e := by
  have h : w.heap[rb]? = some (.cells #[.string s, .bool false] 80 (0, 0)) := h
  have c0 := cell_of_heap h 0
  have c1 := cell_of_heap h 1
  have z0 := frozen_of_heap h 0
  have z1 := frozen_of_heap h 1
  have H := Lib.hid h
  clear h
  have h8i : ¬ (s.size : Int) < 8 := by omega
  have h8j : (8 : Int) ≤ s.size := by omega
  have h8d : decide ((s.size : Int) < 8) = false := decide_eq_false h8i
  have hb0 : s[0].toNat < 128 := by rw [← sb_get s 0 (by omega)]; exact h0
  have hbi : ¬ (127 : Int) < (s[0].toNat : Int) := by omega
  have hb0d : decide ((127 : Int) < (s[0].toNat : Int)) = false := decide_eq_false hbi
  have hbn : ∀ i, i ≤ 7 → beN s i < 36028797018963968 := fun i hi => by
    have h1 : sb s 0 < 128 := h0
    have t1 := sb_lt s 1
    have t2 := sb_lt s 2
    have t3 := sb_lt s 3
    have t4 := sb_lt s 4
    have t5 := sb_lt s 5
    have t6 := sb_lt s 6
    match i, hi with
    | 0, _ => simp [beN]
    | 1, _ => simp only [beN]; omega
    | 2, _ => simp only [beN]; omega
    | 3, _ => simp only [beN]; omega
    | 4, _ => simp only [beN]; omega
    | 5, _ => simp only [beN]; omega
    | 6, _ => simp only [beN]; omega
    | 7, _ => simp only [beN]; omega
  have Hn := Lib.hid hbn
  clear hbn h0 hb0
  go_enter Tryd.func32, Tryd.ntmps32
  go_wp2
  go_loop [3, 4] (fun vn vi => ∃ i : Nat, i ≤ 8 ∧ vi = .int .i64 i ∧ vn = .int .i64 (beN s i : Nat)) (fun _ vi => 8 - (intOf vi).toNat)
  case atStart => exact ⟨0, by omega, rfl, rfl⟩
  case round =>
    obtain ⟨i, hi, rfl, rfl⟩ := hrel
    have hi2 : i < 8 ∨ i = 8 := by omega
    rcases hi2 with hilt | rfl
    · have hilt2 : (i : Int) < 8 := by omega
      have his : i < s.size := by omega
      have hisi : (i : Int) < s.size := by omega
      have hsb : sb s i = s[i].toNat := sb_get s i his
      have hv := Hn.out i (by omega)
      have hst : beN s (i + 1) = beN s i * 256 + s[i].toNat := by rw [← hsb]; rfl
      have Hst := Lib.hid hst
      have hbl := s[i].toNat_lt
      obtain ⟨v, hvv⟩ : ∃ v, beN s i = v := ⟨_, rfl⟩
      rw [hvv] at hv Hst ⊢
      clear hst hsb hvv
      have hw : wrap64 (s[i].toNat : Int) = s[i].toNat := by unfold wrap64; omega
      have hw2 : wrap64 (256 * (v : Int)) = 256 * (v : Int) := by unfold wrap64; omega
      have hw3 : wrap64 (256 * (v : Int) + (s[i].toNat : Int)) = ((beN s (i + 1) : Nat) : Int) := by rw [Hst.out]; unfold wrap64; omega
      go_wp2
      go_round
      case rel => exact ⟨i + 1, by omega, by go_num, by first | rfl | (simp only [Value.int.injEq, true_and]; have := Hst.out; omega)⟩
      case measure => simp [intOf]; omega
    · go_wp2
      go_ret
      exact ⟨rfl, (heap_setCell_same w rb 0 _ _ _ H.out).trans (by simp), (KeptBut.refl (fun b => b = rb) w).set1 (p := ⟨rb, 0, none⟩) rfl _⟩
theorem rnum_walk (w : World) (rb : Nat) (o : Option ByteArray) (h : RdAt w rb o) (hs : ∀ s, o = some s → s.size ≤ 1000000) :
    Calls Tryd.prog 32 #[.pointer (some ⟨rb, 0, none⟩)] w fun e w' => RdP intV 0 (o.bind eyeN) w w' rb e := by
  cases o with
  | none => obtain ⟨s, h⟩ := h; exact rnum_bad w rb s h
  | some s =>
    show Calls _ _ _ _ fun e w' => RdP intV 0 (eyeN s) w w' rb e
    unfold eyeN
    by_cases hc : 8 ≤ s.size ∧ sb s 0 < 128
    · rw [if_pos hc]
      exact rnum_ok w rb s h (hs s rfl) hc.1 hc.2
    · rw [if_neg hc]
      exact rnum_no w rb s h (hs s rfl) hc
set_option maxRecDepth 100000 in
set_option maxHeartbeats 8000000 in
theorem rtext_walk (w : World) (rb : Nat) (o : Option ByteArray) (h : RdAt w rb o) (hs : ∀ s, o = some s → s.size ≤ 1000000) :
    Calls Tryd.prog 31 #[.pointer (some ⟨rb, 0, none⟩)] w fun e w' => RdP Value.string ⟨#[]⟩ (o.bind eyeT) w w' rb e := by
  have Hn := Lib.hid (rnum_walk w rb o h hs)
  clear h
  have hcs : o.bind eyeN = none ∨ ∃ n r, o.bind eyeN = some (n, r) := by
    cases hb : o.bind eyeN with
    | none => exact .inl rfl
    | some p => exact .inr ⟨p.1, p.2, rfl⟩
  rcases hcs with hN | ⟨n, r, hN⟩
  · have hT : o.bind eyeT = none := by
      cases o with
      | none => rfl
      | some s => show eyeT s = none; unfold eyeT; have hN : eyeN s = none := hN; rw [hN]
    rw [hT]
    rw [hN] at Hn
    clear hT hN hs
    go_enter Tryd.func31, Tryd.ntmps31
    go_wp2_with fail
    refine Hn.out.mono ?_
    rintro e w1 ⟨rfl, ⟨q, he⟩, hk⟩
    have c0 := cell_of_heap he 0
    have c1 := cell_of_heap he 1
    have z0 := frozen_of_heap he 0
    have z1 := frozen_of_heap he 1
    have H := Lib.hid he
    clear he
    unfold intV
    simp only [rdv]
    go_wp2
    go_ret
    exact ⟨rfl, ⟨q, (heap_setCell_same w1 rb 1 _ _ _ H.out).trans (by simp)⟩, hk.set1 (p := ⟨rb, 1, none⟩) rfl _⟩
  · obtain ⟨s, rfl, hN2⟩ : ∃ s, o = some s ∧ eyeN s = some (n, r) := by
      cases o with
      | none => cases hN
      | some s => exact ⟨s, rfl, hN⟩
    obtain ⟨hr, hn⟩ := eyeN_size hN2
    have hsz := hs s rfl
    have hT : (some s).bind eyeT = if n ≤ r.size then some (r.extract 0 n, r.extract n r.size) else none := by
      show eyeT s = _
      unfold eyeT
      rw [hN2]
    rw [hT]
    rw [hN] at Hn
    clear hT hN hN2 hs
    have hn9 : (n : Int) ≤ 9223372036854775807 := by omega
    by_cases hle : n ≤ r.size
    · rw [if_pos hle]
      have hle2 : ¬ (r.size : Int) < n := by omega
      have hle3 : (n : Int) ≤ r.size := by omega
      have hdle : decide ((r.size : Int) < n) = false := decide_eq_false hle2
      go_enter Tryd.func31, Tryd.ntmps31
      go_wp2_with fail
      refine Hn.out.mono ?_
      rintro e w1 ⟨rfl, he, hk⟩
      have he : w1.heap[rb]? = some (.cells #[.string r, .bool false] 80 (0, 0)) := he
      have c0 := cell_of_heap he 0
      have c1 := cell_of_heap he 1
      have z0 := frozen_of_heap he 0
      have z1 := frozen_of_heap he 1
      have H := Lib.hid he
      clear he
      unfold intV
      simp only [rdv]
      go_wp2
      go_ret
      exact ⟨rfl, (heap_setCell_same w1 rb 0 _ _ _ H.out).trans (by simp), hk.set1 (p := ⟨rb, 0, none⟩) rfl _⟩
    · rw [if_neg hle]
      have hle2 : (r.size : Int) < n := by omega
      have hdle : decide ((r.size : Int) < n) = true := decide_eq_true hle2
      go_enter Tryd.func31, Tryd.ntmps31
      go_wp2_with fail
      refine Hn.out.mono ?_
      rintro e w1 ⟨rfl, he, hk⟩
      have he : w1.heap[rb]? = some (.cells #[.string r, .bool false] 80 (0, 0)) := he
      have c0 := cell_of_heap he 0
      have c1 := cell_of_heap he 1
      have z0 := frozen_of_heap he 0
      have z1 := frozen_of_heap he 1
      have H := Lib.hid he
      clear he
      unfold intV
      simp only [rdv]
      go_wp2
      go_ret
      exact ⟨rfl, ⟨r, (heap_setCell_same w1 rb 1 _ _ _ H.out).trans (by simp)⟩, hk.set1 (p := ⟨rb, 1, none⟩) rfl _⟩
end
end Go.Proofs.YtgcnohejmofhkaaDoor
