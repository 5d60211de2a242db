/- What is read was written: Decode and Encode, plain. -/
import Derived.Test.YtgcnohejmofhkaaDoorWrJ
namespace Go.Proofs.YtgcnohejmofhkaaDoor
section
open Go.RowKit

theorem nbyte_nat (n k : Nat) : nbyte (n : Int) k = n / 2 ^ (8 * k) % 256 := by
  unfold nbyte
  have h0 : ((2 : Int) ^ (8 * k)) = ((2 ^ (8 * k) : Nat) : Int) := by simp
  rw [h0, ← Int.natCast_ediv]
  generalize n / 2 ^ (8 * k) = d
  omega
theorem nbytes_be (s : ByteArray) : nbytes ((beN s 8 : Nat) : Int) = [sb s 0, sb s 1, sb s 2, sb s 3, sb s 4, sb s 5, sb s 6, sb s 7] := by
  have t0 := sb_lt s 0
  have t1 := sb_lt s 1
  have t2 := sb_lt s 2
  have t3 := sb_lt s 3
  have t4 := sb_lt s 4
  have t5 := sb_lt s 5
  have t6 := sb_lt s 6
  have t7 := sb_lt s 7
  unfold nbytes
  simp only [nbyte_nat, beN]
  simp only [List.cons.injEq, and_true]
  simp only [Nat.reduceMul, Nat.reducePow]
  refine ⟨?_, ?_, ?_, ?_, ?_, ?_, ?_, ?_⟩
  all_goals omega
theorem nats_at (s : ByteArray) (i : Nat) (h : i < s.size) : (Sm.nats s)[i]? = some (sb s i) := by
  unfold Sm.nats sb
  have h2 : i < s.data.toList.length := by simpa using h
  rw [List.getElem?_map, List.getElem?_eq_getElem h2]
  rfl
theorem nats_extract (s : ByteArray) (i : Nat) : Sm.nats s = (Sm.nats s).take i ++ Sm.nats (s.extract i s.size) := by
  have h2 : Sm.nats (s.extract i s.size) = (Sm.nats s).drop i := by
    unfold Sm.nats
    rw [← List.map_drop]
    congr 1
    have h3 : (s.extract i s.size).data = s.data.extract i s.size := by simp [ByteArray.data_extract]
    rw [h3, Array.toList_extract]
    have h4 : s.data.toList.length = s.size := by simp
    rw [List.extract_eq_take_drop]
    exact List.take_of_length_le (by simp)
  rw [h2, List.take_append_drop]
theorem take8 : ∀ l : List Nat, 8 ≤ l.length → l.take 8 = [l[0]?.getD 0, l[1]?.getD 0, l[2]?.getD 0, l[3]?.getD 0, l[4]?.getD 0, l[5]?.getD 0, l[6]?.getD 0, l[7]?.getD 0]
  | _ :: _ :: _ :: _ :: _ :: _ :: _ :: _ :: _, _ => rfl
  | [], h => by simp at h
  | [_], h => by simp at h
  | [_, _], h => by simp at h
  | [_, _, _], h => by simp at h
  | [_, _, _, _], h => by simp at h
  | [_, _, _, _, _], h => by simp at h
  | [_, _, _, _, _, _], h => by simp at h
  | [_, _, _, _, _, _, _], h => by simp at h
theorem eyeN_nats {s r : ByteArray} {n : Nat} (h : eyeN s = some (n, r)) : Sm.nats s = nbytes (n : Int) ++ Sm.nats r := by
  unfold eyeN at h
  by_cases hc : 8 ≤ s.size ∧ sb s 0 < 128
  · rw [if_pos hc] at h
    simp only [Option.some.injEq, Prod.mk.injEq] at h
    obtain ⟨rfl, rfl⟩ := h
    have ht : (Sm.nats s).take 8 = [sb s 0, sb s 1, sb s 2, sb s 3, sb s 4, sb s 5, sb s 6, sb s 7] := by
      rw [take8 _ (by rw [Sm.nats_length]; exact hc.1)]
      have := hc.1
      simp only [nats_at s 0 (by omega), nats_at s 1 (by omega), nats_at s 2 (by omega), nats_at s 3 (by omega), nats_at s 4 (by omega), nats_at s 5 (by omega), nats_at s 6 (by omega), nats_at s 7 (by omega), Option.getD_some]
    rw [nbytes_be, ← ht]
    exact nats_extract s 8
  · rw [if_neg hc] at h; cases h
theorem nats_take (s : ByteArray) (n : Nat) : Sm.nats (s.extract 0 n) = (Sm.nats s).take n := by
  unfold Sm.nats
  rw [← List.map_take]
  congr 1
  have h3 : (s.extract 0 n).data = s.data.extract 0 n := by simp [ByteArray.data_extract]
  rw [h3, Array.toList_extract, List.extract_eq_take_drop]
  simp
theorem eyeT_nats {s t r : ByteArray} (h : eyeT s = some (t, r)) : Sm.nats s = tbytes t ++ Sm.nats r := by
  unfold eyeT at h
  cases hN : eyeN s with
  | none => rw [hN] at h; cases h
  | some p =>
    obtain ⟨n, q⟩ := p
    rw [hN] at h
    dsimp only at h
    by_cases hn : n ≤ q.size
    · rw [if_pos hn] at h
      simp only [Option.some.injEq, Prod.mk.injEq] at h
      obtain ⟨rfl, rfl⟩ := h
      have hz : (q.extract 0 n).size = n := by simp [ByteArray.size_extract]; omega
      unfold tbytes
      rw [eyeN_nats hN, hz, nats_take, List.append_assoc]
      congr 1
      exact nats_extract q n
    · rw [if_neg hn] at h; cases h
theorem eyeV_nats {s r : ByteArray} {x : Ver} (h : eyeV s = some (x, r)) : Sm.nats s = vbytes x ++ Sm.nats r ∧ neg (vints x) = false := by
  unfold eyeV at h
  cases h1 : eyeN s with
  | none => rw [h1] at h; cases h
  | some p1 =>
  obtain ⟨a, s1⟩ := p1
  rw [h1] at h; dsimp only at h
  cases h2 : eyeN s1 with
  | none => rw [h2] at h; cases h
  | some p2 =>
  obtain ⟨b, s2⟩ := p2
  rw [h2] at h; dsimp only at h
  cases h3 : eyeN s2 with
  | none => rw [h3] at h; cases h
  | some p3 =>
  obtain ⟨c, s3⟩ := p3
  rw [h3] at h; dsimp only at h
  cases h4 : eyeN s3 with
  | none => rw [h4] at h; cases h
  | some p4 =>
  obtain ⟨d, s4⟩ := p4
  rw [h4] at h; dsimp only at h
  cases h5 : eyeT s4 with
  | none => rw [h5] at h; cases h
  | some p5 =>
  obtain ⟨t, s5⟩ := p5
  rw [h5] at h; dsimp only at h
  simp only [Option.some.injEq, Prod.mk.injEq] at h
  obtain ⟨rfl, rfl⟩ := h
  refine ⟨?_, ?_⟩
  · rw [eyeN_nats h1, eyeN_nats h2, eyeN_nats h3, eyeN_nats h4, eyeT_nats h5]
    simp [vbytes, vints]
  · simp only [neg, vints, List.any_cons, List.any_nil, Bool.or_false, Bool.or_eq_false_iff, decide_eq_false_iff_not]
    omega
theorem eyeL_nats : ∀ {n : Nat} {s r : ByteArray} {L : List Ver}, eyeL n s = some (L, r) → Sm.nats s = L.flatMap vbytes ++ Sm.nats r ∧ L.length = n ∧ vneg L = false
  | 0, s, r, L, h => by
    simp only [eyeL, Option.some.injEq, Prod.mk.injEq] at h
    obtain ⟨rfl, rfl⟩ := h
    exact ⟨rfl, rfl, rfl⟩
  | n + 1, s, r, L, h => by
    simp only [eyeL] at h
    cases hV : eyeV s with
    | none => rw [hV] at h; cases h
    | some p =>
      obtain ⟨x, q⟩ := p
      rw [hV] at h
      dsimp only at h
      cases hL : eyeL n q with
      | none => rw [hL] at h; cases h
      | some z =>
        obtain ⟨vs, q2⟩ := z
        rw [hL] at h
        simp only [Option.some.injEq, Prod.mk.injEq] at h
        obtain ⟨rfl, rfl⟩ := h
        obtain ⟨e1, e2⟩ := eyeV_nats hV
        obtain ⟨f1, f2, f3⟩ := eyeL_nats hL
        refine ⟨?_, by simp [f2], ?_⟩
        · rw [e1, f1]
          simp
        · unfold vneg at f3 ⊢
          rw [List.any_cons, e2, f3]
          rfl
theorem decB_nats {t : ByteArray} {m : Msg} (h : decB t = some m) : Sm.nats t = encB m ∧ encBad m = false := by
  unfold decB at h
  cases h1 : eyeT t with
  | none => rw [h1] at h; cases h
  | some p1 =>
  obtain ⟨fr, s1⟩ := p1
  rw [h1] at h; dsimp only at h
  cases h2 : eyeT s1 with
  | none => rw [h2] at h; cases h
  | some p2 =>
  obtain ⟨dst, s2⟩ := p2
  rw [h2] at h; dsimp only at h
  cases h3 : eyeT s2 with
  | none => rw [h3] at h; cases h
  | some p3 =>
  obtain ⟨kind, s3⟩ := p3
  rw [h3] at h; dsimp only at h
  cases h4 : eyeT s3 with
  | none => rw [h4] at h; cases h
  | some p4 =>
  obtain ⟨key, s4⟩ := p4
  rw [h4] at h; dsimp only at h
  cases h5 : eyeN s4 with
  | none => rw [h5] at h; cases h
  | some p5 =>
  obtain ⟨op, s5⟩ := p5
  rw [h5] at h; dsimp only at h
  cases h6 : eyeN s5 with
  | none => rw [h6] at h; cases h
  | some p6 =>
  obtain ⟨cf, s6⟩ := p6
  rw [h6] at h; dsimp only at h
  cases h7 : eyeN s6 with
  | none => rw [h7] at h; cases h
  | some p7 =>
  obtain ⟨sl, s7⟩ := p7
  rw [h7] at h; dsimp only at h
  by_cases hsl : sl < 2
  · rw [if_pos hsl] at h
    cases h8 : eyeN s7 with
    | none => rw [h8] at h; cases h
    | some p8 =>
    obtain ⟨many, s8⟩ := p8
    rw [h8] at h; dsimp only at h
    cases h9 : eyeL many s8 with
    | none => rw [h9] at h; cases h
    | some p9 =>
    obtain ⟨L, s9⟩ := p9
    rw [h9] at h; dsimp only at h
    by_cases h0 : s9.size = 0
    · rw [if_pos h0] at h
      simp only [Option.some.injEq] at h
      subst h
      obtain ⟨f1, f2, f3⟩ := eyeL_nats h9
      have hz : Sm.nats s9 = [] := List.length_eq_zero_iff.1 (by rw [Sm.nats_length]; exact h0)
      have hslv : (if decide (sl = 1) = true then (1 : Int) else 0) = (sl : Int) := by
        by_cases h1 : sl = 1
        · simp [h1]
        · simp [h1]; omega
      refine ⟨?_, ?_⟩
      · rw [eyeT_nats h1, eyeT_nats h2, eyeT_nats h3, eyeT_nats h4, eyeN_nats h5, eyeN_nats h6, eyeN_nats h7, eyeN_nats h8, f1, hz]
        unfold encB encH hints
        dsimp only
        rw [hslv, f2]
        simp
      · unfold encBad hints
        dsimp only
        rw [hslv, f3]
        simp only [neg, List.any_cons, List.any_nil, Bool.or_false, Bool.or_eq_false_iff, decide_eq_false_iff_not]
        omega
    · rw [if_neg h0] at h; cases h
  · rw [if_neg hsl] at h; cases h
theorem strOf_nats' (t : ByteArray) : strOf (Sm.nats t) = t := by
  unfold strOf Sm.nats
  rw [List.map_map]
  have h : (UInt8.ofNat ∘ UInt8.toNat) = id := by
    funext x
    simp
  rw [h, List.map_id]
theorem body_tail' (s : ByteArray) : bodyOf s ++ tailOf s = s := by
  apply ByteArray.ext
  unfold bodyOf tailOf
  simp only [ByteArray.data_append, ByteArray.data_extract]
  apply Array.ext'
  simp [List.extract_eq_take_drop]
  exact List.take_of_length_le (by simp)
/-- a packed text that is read is written again. -/
theorem recode (E : Nat → Addr) (s : ByteArray) (h1 : ¬ 4000 < s.size) (h2 : ¬ s.size < 4) (h3 : fourS (Sm.crc (Sm.nats (bodyOf s))) = tailOf s) {m : Msg} (h : decB (bodyOf s) = some m) : encE E m = .returned (.tuple #[.string s, .nilIface]) := by
  obtain ⟨e1, e2⟩ := decB_nats h
  have hz : (bodyOf s).size = s.size - 4 := by unfold bodyOf; simp [ByteArray.size_extract]
  unfold encE
  rw [if_neg (by rw [e2]; simp), ← e1, if_neg (by rw [Sm.nats_length]; omega), strOf_nats', h3, body_tail' s]
end
end Go.Proofs.YtgcnohejmofhkaaDoor
