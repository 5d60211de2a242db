/- The eye: numbers and texts out of bytes. -/
import Derived.Test.YtgcnohejmofhkaaDoorWrC
import Derived.Defers
import Derived.Recover
import Derived.WalkLawsBesides
namespace Go.Proofs.YtgcnohejmofhkaaDoor
section
open Go.RowKit

def blindE : PanicEntry := { v := .iface 65 (.agg #[]), recovered := false }
theorem must_yes (w : World) : Calls Tryd.prog 26 #[.bool true] w fun e w' => e = .returned (.tuple #[]) ∧ w' = w := by
  go_enter Tryd.func26, Tryd.ntmps26
  go_wp2
  go_end0
  exact ⟨rfl, rfl⟩
theorem must_no (w : World) : Calls Tryd.prog 26 #[.bool false] w fun e w' => e = .panicked [blindE] ∧ w' = w := by
  go_enter Tryd.func26, Tryd.ntmps26
  go_wp2
  exact ⟨rfl, rfl, rfl⟩
/-- an eye lies at eb: what it is still to read. -/
def EyeAt (w : World) (eb : Nat) (s : ByteArray) : Prop := w.heap[eb]? = some (.cells #[.string s] 69 (0, 0))
theorem or_i64 (a b : Nat) (ha : a < 36028797018963968) (hb : b < 256) : bits .or .i64 ((a * 256 : Nat) : Int) (b : Int) = ((a * 256 + b : Nat) : Int) := by
  have e : ∀ n : Nat, n < 9223372036854775808 → (BitVec.ofInt 64 (n : Int)).toNat = n := fun n hn => by
    rw [BitVec.toNat_ofInt]; omega
  show IntKind.i64.wrap ((BitVec.ofInt 64 ((a * 256 : Nat) : Int) ||| BitVec.ofInt 64 (b : Int)).toNat : Nat) = _
  have h9 : a * 256 ||| b = a * 256 + b := by
    have := Nat.two_pow_add_eq_or_of_lt (i := 8) (b := b) (by omega) a
    rw [Nat.mul_comm] at this
    exact this.symm
  rw [BitVec.toNat_or, e _ (by omega), e b (by omega), h9, IntKind.wrap_i64]
  omega
/-- what the first k bytes tell. -/
def beN (s : ByteArray) : Nat → Nat
  | 0 => 0
  | k + 1 => beN s k * 256 + sb s k
theorem beN_lt (s : ByteArray) : ∀ k, beN s k < 256 ^ k
  | 0 => by unfold beN; simp
  | k + 1 => by
    have h1 := beN_lt s k
    have h2 := sb_lt s k
    unfold beN
    rw [Nat.pow_succ]
    omega
/-- a number that can be read, and what is left. -/
def eyeN (s : ByteArray) : Option (Nat × ByteArray) := if 8 ≤ s.size ∧ sb s 0 < 128 then some (beN s 8, s.extract 8 s.size) else none
def eyeT (s : ByteArray) : Option (ByteArray × ByteArray) :=
  match eyeN s with
  | some (n, r) => if n ≤ r.size then some (r.extract 0 n, r.extract n r.size) else none
  | none => none
set_option maxRecDepth 100000 in
set_option maxHeartbeats 8000000 in
theorem number_ok (w : World) (eb : Nat) (s : ByteArray) (h : EyeAt w eb s) (hs : s.size ≤ 1000000) (h8 : 8 ≤ s.size) (h0 : sb s 0 < 128) :
    Calls Tryd.prog 25 #[.pointer (some ⟨eb, 0, none⟩)] w fun e w' => e = .returned (.int .i64 (beN s 8 : Nat)) ∧ w' = w.setCell ⟨eb, 0, none⟩ (.string (s.extract 8 s.size)) := by
  have c0 := cell_of_heap h 0
  have z0 := frozen_of_heap h 0
  have h8i : (8 : Int) ≤ s.size := by omega
  have hb0 : s[0].toNat < 128 := by rw [← sb_get s 0 (by omega)]; exact h0
  have hb0d : decide ((s[0].toNat : Int) < 128) = true := decide_eq_true (by omega)
  have hbn : ∀ i, i ≤ 7 → beN s i < 36028797018963968 := fun i hi => by
    have h1 : sb s 0 < 128 := h0
    have t1 := sb_lt s 1
    have t2 := sb_lt s 2
    have t3 := sb_lt s 3
    have t4 := sb_lt s 4
    have t5 := sb_lt s 5
    have t6 := sb_lt s 6
    match i, hi with
    | 0, _ => simp [beN]
    | 1, _ => simp only [beN]; omega
    | 2, _ => simp only [beN]; omega
    | 3, _ => simp only [beN]; omega
    | 4, _ => simp only [beN]; omega
    | 5, _ => simp only [beN]; omega
    | 6, _ => simp only [beN]; omega
    | 7, _ => simp only [beN]; omega
  have Hn := Lib.hid hbn
  clear hbn h0 hb0
  go_enter Tryd.func25, Tryd.ntmps25
  go_wp2_with fail
  refine (must_yes _).mono ?_
  rintro e w1 ⟨rfl, rfl⟩
  go_wp2
  go_loop [20, 3] (fun vi vn => ∃ i : Nat, i ≤ 8 ∧ vi = .int .i64 i ∧ vn = .int .i64 (beN s i : Nat)) (fun vi _ => 8 - (intOf vi).toNat)
  case atStart => exact ⟨0, by omega, rfl, rfl⟩
  case round =>
    obtain ⟨i, hi, rfl, rfl⟩ := hrel
    have hi2 : i < 8 ∨ i = 8 := by omega
    rcases hi2 with hilt | rfl
    · have hilt2 : (i : Int) < 8 := by omega
      have his : i < s.size := by omega
      have hisi : (i : Int) < s.size := by omega
      have hsb : sb s i = s[i].toNat := sb_get s i his
      have hv := Hn.out i (by omega)
      have hst : beN s (i + 1) = beN s i * 256 + s[i].toNat := by rw [← hsb]; rfl
      have hor := or_i64 (beN s i) s[i].toNat hv s[i].toNat_lt
      have Hst := Lib.hid hst
      obtain ⟨v, hvv⟩ : ∃ v, beN s i = v := ⟨_, rfl⟩
      rw [hvv] at hor hv Hst ⊢
      clear hst hsb hvv
      have hw : wrap64 (s[i].toNat : Int) = s[i].toNat := by have := s[i].toNat_lt; unfold wrap64; omega
      have hor2 : bits BinOp.or IntKind.i64 ((v : Int) * 256) (wrap64 (s[i].toNat : Int)) = ((beN s (i + 1) : Nat) : Int) := by
        rw [hw, Hst.out]
        exact hor
      have Hor := Lib.hid hor2
      clear hor hw hor2
      go_wp2
      go_round
      case rel => exact ⟨i + 1, by omega, by go_num, by rw [Hor.out]⟩
      case measure => simp [intOf]; omega
    · go_wp2
      go_ret
      exact ⟨rfl, rfl⟩
set_option maxRecDepth 100000 in
set_option maxHeartbeats 8000000 in
theorem number_no (w : World) (eb : Nat) (s : ByteArray) (h : EyeAt w eb s) (hs : s.size ≤ 1000000) (h8 : ¬ (8 ≤ s.size ∧ sb s 0 < 128)) :
    Calls Tryd.prog 25 #[.pointer (some ⟨eb, 0, none⟩)] w fun e w' => e = .panicked [blindE] ∧ w' = w := by
  have c0 := cell_of_heap h 0
  have z0 := frozen_of_heap h 0
  have hcs : ¬ 8 ≤ s.size ∨ (8 ≤ s.size ∧ ¬ sb s 0 < 128) := by omega
  rcases hcs with h1 | ⟨h1, h2⟩
  · have h8i : ¬ (8 : Int) ≤ s.size := by omega
    clear h8
    go_enter Tryd.func25, Tryd.ntmps25
    go_wp2_with fail
    refine (must_no _).mono ?_
    rintro e w1 ⟨rfl, rfl⟩
    go_wp2
    exact ⟨rfl, rfl, rfl⟩
  · have h8i : (8 : Int) ≤ s.size := by omega
    have hb0 : ¬ s[0].toNat < 128 := by rw [← sb_get s 0 (by omega)]; exact h2
    have hb0d : decide ((s[0].toNat : Int) < 128) = false := decide_eq_false (by omega)
    clear h8 h2 hb0
    go_enter Tryd.func25, Tryd.ntmps25
    go_wp2_with fail
    refine (must_no _).mono ?_
    rintro e w1 ⟨rfl, rfl⟩
    go_wp2
    exact ⟨rfl, rfl, rfl⟩
theorem EyeAt.set {w : World} {eb : Nat} {s : ByteArray} (h : EyeAt w eb s) (r : ByteArray) : EyeAt (w.setCell ⟨eb, 0, none⟩ (.string r)) eb r := (heap_setCell_same w eb 0 _ _ _ h).trans (by simp)
/-- what is read, or thrown. -/
def EyeP {α : Type} (enc : α → Value) (o : Option (α × ByteArray)) (w w' : World) (eb : Nat) (e : Ending) : Prop :=
  match o with
  | some (x, r) => e = .returned (enc x) ∧ EyeAt w' eb r ∧ KeptBut (fun b => b = eb) w w'
  | none => e = .panicked [blindE] ∧ KeptBut (fun b => b = eb) w w'
def intV (n : Nat) : Value := .int .i64 (n : Int)
theorem number_walk (w : World) (eb : Nat) (s : ByteArray) (h : EyeAt w eb s) (hs : s.size ≤ 1000000) :
    Calls Tryd.prog 25 #[.pointer (some ⟨eb, 0, none⟩)] w fun e w' => EyeP intV (eyeN s) w w' eb e := by
  unfold eyeN
  by_cases hc : 8 ≤ s.size ∧ sb s 0 < 128
  · rw [if_pos hc]
    refine (number_ok w eb s h hs hc.1 hc.2).mono fun e w' hp => ?_
    obtain ⟨rfl, rfl⟩ := hp
    exact ⟨rfl, h.set _, (KeptBut.refl (fun b => b = eb) w).set1 (p := ⟨eb, 0, none⟩) rfl _⟩
  · rw [if_neg hc]
    refine (number_no w eb s h hs hc).mono fun e w' hp => ?_
    obtain ⟨rfl, rfl⟩ := hp
    exact ⟨rfl, KeptBut.refl _ _⟩
theorem eyeN_size {s r : ByteArray} {n : Nat} (h : eyeN s = some (n, r)) : r.size + 8 = s.size ∧ n < 9223372036854775808 := by
  unfold eyeN at h
  by_cases hc : 8 ≤ s.size ∧ sb s 0 < 128
  · rw [if_pos hc] at h
    simp only [Option.some.injEq, Prod.mk.injEq] at h
    obtain ⟨rfl, rfl⟩ := h
    refine ⟨by simp [ByteArray.size_extract]; omega, ?_⟩
    have t1 := sb_lt s 1
    have t2 := sb_lt s 2
    have t3 := sb_lt s 3
    have t4 := sb_lt s 4
    have t5 := sb_lt s 5
    have t6 := sb_lt s 6
    have t7 := sb_lt s 7
    have h0 := hc.2
    simp only [beN]
    omega
  · rw [if_neg hc] at h; cases h
set_option maxRecDepth 100000 in
set_option maxHeartbeats 8000000 in
theorem text_walk (w : World) (eb : Nat) (s : ByteArray) (h : EyeAt w eb s) (hs : s.size ≤ 1000000) :
    Calls Tryd.prog 24 #[.pointer (some ⟨eb, 0, none⟩)] w fun e w' => EyeP Value.string (eyeT s) w w' eb e := by
  have Hn := Lib.hid (number_walk w eb s h hs)
  unfold eyeT
  cases hN : eyeN s with
  | none =>
    rw [hN] at Hn
    clear hN h
    go_enter Tryd.func24, Tryd.ntmps24
    go_wp2_with fail
    refine Hn.out.mono ?_
    rintro e w1 ⟨rfl, hk1⟩
    go_wp2
    exact ⟨rfl, rfl, hk1⟩
  | some p =>
    obtain ⟨n, r⟩ := p
    rw [hN] at Hn
    obtain ⟨hr, hn⟩ := eyeN_size hN
    clear hN h
    dsimp only
    have hn9 : (n : Int) ≤ 9223372036854775807 := by omega
    by_cases hle : n ≤ r.size
    · rw [if_pos hle]
      have hle2 : (n : Int) ≤ r.size := by omega
      have hdle : decide ((n : Int) ≤ r.size) = true := decide_eq_true hle2
      go_enter Tryd.func24, Tryd.ntmps24
      go_wp2_with fail
      refine Hn.out.mono ?_
      rintro e w1 ⟨rfl, he1, hk1⟩
      unfold intV
      have c0 := cell_of_heap he1 0
      have z0 := frozen_of_heap he1 0
      go_wp2_with fail
      refine (must_yes _).mono ?_
      rintro e w2 ⟨rfl, rfl⟩
      go_wp2
      go_ret
      exact ⟨rfl, he1.set _, hk1.set1 (p := ⟨eb, 0, none⟩) rfl _⟩
    · rw [if_neg hle]
      have hle2 : ¬ (n : Int) ≤ r.size := by omega
      have hdle : decide ((n : Int) ≤ r.size) = false := decide_eq_false hle2
      go_enter Tryd.func24, Tryd.ntmps24
      go_wp2_with fail
      refine Hn.out.mono ?_
      rintro e w1 ⟨rfl, he1, hk1⟩
      unfold intV
      have c0 := cell_of_heap he1 0
      have z0 := frozen_of_heap he1 0
      go_wp2_with fail
      refine (must_no _).mono ?_
      rintro e w2 ⟨rfl, rfl⟩
      go_wp2
      exact ⟨rfl, rfl, hk1⟩
end
end Go.Proofs.YtgcnohejmofhkaaDoor
