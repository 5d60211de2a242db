/- Plain: a hold as a text, and back. -/
import Derived.Test.YthdicfcgkbepdaaGreatDoorHpB
import Derived.Lib.AtoiAll
import Derived.Lib.ItoaMem
import Derived.Lib.ItoaLen
import Derived.Lib.Bytealg
namespace Go.Proofs.YthdicfcgkbepdaaGreatDoor
section
open Go.RowKit

/-- an item: how long, a colon, the text. -/
def itemB (s : List UInt8) : List UInt8 := Lib.itoa (s.length : Int) ++ 58 :: s
def numB (n : Int) : List UInt8 := itemB (Lib.itoa n)
def rowB (p : Kp) : List UInt8 := itemB p.1.data.toList ++ numB p.2.1 ++ numB p.2.2.1 ++ numB p.2.2.2.1 ++ numB p.2.2.2.2.1 ++ itemB p.2.2.2.2.2.data.toList
def markB (sd : Bool) : List UInt8 := if sd = true then [33] else []
def holdW : List UInt8 := [104, 111, 108, 100]
def saveB (sd : Bool) (l : List Kp) : List UInt8 := holdW ++ markB sd ++ l.flatMap rowB
/-- an item is cut. -/
def cutB (s : List UInt8) : Option (List UInt8 × List UInt8) :=
  if Lib.indexByte s 58 < 1 ∨ 6 < Lib.indexByte s 58 then none else
  match Lib.atoiAll (s.take (Lib.indexByte s 58).toNat) with
  | .ok n => if n < 0 ∨ (s.length : Int) - Lib.indexByte s 58 - 1 < n then none else some ((s.drop ((Lib.indexByte s 58).toNat + 1)).take n.toNat, s.drop ((Lib.indexByte s 58).toNat + 1 + n.toNat))
  | _ => none
def cutN : Nat → List UInt8 → Option (List (List UInt8) × List UInt8)
  | 0, s => some ([], s)
  | n + 1, s => match cutB s with
    | none => none
    | some (t, r) => (cutN n r).map fun p => (t :: p.1, p.2)
def okN (l : List UInt8) : Option Int := match Lib.atoiAll l with
  | .ok v => some v
  | _ => none
/-- a version more is read, and put. -/
def putR (l : List Kp) (ts : List (List UInt8)) : Option (List Kp) :=
  match okN (ts[1]?.getD []), okN (ts[2]?.getD []), okN (ts[3]?.getD []), okN (ts[4]?.getD []) with
  | some a, some b, some c, some d => if putM (errM false l ⟨(ts[0]?.getD []).toArray⟩ (a, b, c, d, ⟨(ts[5]?.getD []).toArray⟩)) = 0 then some (afterP false l ⟨(ts[0]?.getD []).toArray⟩ (a, b, c, d, ⟨(ts[5]?.getD []).toArray⟩)) else none
  | _, _, _, _ => none
theorem cutB_lt {s t r : List UInt8} (h : cutB s = some (t, r)) : r.length < s.length := by
  unfold cutB at h
  split at h
  · cases h
  · rename_i h1
    split at h
    · rename_i n hn
      split at h
      · cases h
      · simp only [Option.some.injEq, Prod.mk.injEq] at h
        rw [← h.2, List.length_drop]
        have h9 : s ≠ [] := fun e => by
          rw [e] at h1
          exact h1 (.inl (by simp [Lib.indexByte]))
        have := List.length_pos_iff.2 h9
        omega
    · cases h
theorem cutN_le : ∀ (n : Nat) {s : List UInt8} {ts : List (List UInt8)} {r : List UInt8}, cutN n s = some (ts, r) → r.length ≤ s.length ∧ (0 < n → r.length < s.length) ∧ ts.length = n
  | 0, s, ts, r, h => by
    simp only [cutN, Option.some.injEq, Prod.mk.injEq] at h
    rw [← h.1, ← h.2]
    exact ⟨Nat.le_refl _, fun h => by omega, rfl⟩
  | n + 1, s, ts, r, h => by
    rw [cutN] at h
    split at h
    · cases h
    · rename_i t r' hc
      cases hn : cutN n r' with
      | none => rw [hn] at h; cases h
      | some p =>
        rw [hn] at h
        simp only [Option.map_some, Option.some.injEq, Prod.mk.injEq] at h
        have h1 := cutN_le n hn
        have h2 := cutB_lt hc
        rw [← h.2, ← h.1]
        exact ⟨by omega, fun _ => by omega, by simp [h1.2.2]⟩
/-- versions are read until nothing is left. -/
def loadR (l : List Kp) (s : List UInt8) : Option (List Kp) :=
  if s = [] then some l else
  match _hc : cutN 6 s with
  | none => none
  | some (ts, r) => match putR l ts with
    | none => none
    | some l' => loadR l' r
termination_by s.length
decreasing_by exact (cutN_le 6 _hc).2.1 (by omega)
theorem loadR_nil (l : List Kp) : loadR l [] = some l := by rw [loadR]; simp
theorem loadR_none {l : List Kp} {s : List UInt8} (h : s ≠ []) (hc : cutN 6 s = none) : loadR l s = none := by
  rw [loadR, if_neg h]
  split
  · rfl
  · rename_i h9; rw [hc] at h9; cases h9
theorem loadR_bad {l : List Kp} {s : List UInt8} {ts : List (List UInt8)} {r : List UInt8} (h : s ≠ []) (hc : cutN 6 s = some (ts, r)) (hp : putR l ts = none) : loadR l s = none := by
  rw [loadR, if_neg h]
  split
  · rfl
  · rename_i ts' r' h9
    rw [hc] at h9
    cases h9
    rw [hp]
theorem loadR_ok {l l' : List Kp} {s : List UInt8} {ts : List (List UInt8)} {r : List UInt8} (h : s ≠ []) (hc : cutN 6 s = some (ts, r)) (hp : putR l ts = some l') : loadR l s = loadR l' r := by
  rw [loadR, if_neg h]
  split
  · rename_i h9; rw [hc] at h9; cases h9
  · rename_i ts' r' h9
    rw [hc] at h9
    cases h9
    rw [hp]
/-- what a text that is open holds: none, or rows, and whether it is sealed. -/
def loadB (t : List UInt8) : Option (List Kp × Bool) :=
  if t.take 4 = holdW then
    match loadR [] (if (t.drop 4).take 1 = [33] then t.drop 5 else t.drop 4) with
    | none => none
    | some l => if saveB (decide ((t.drop 4).take 1 = [33])) l = t then some (l, decide ((t.drop 4).take 1 = [33])) else none
  else none
/-! ### what is written is read -/
theorem pu_append : ∀ (l : List UInt8) (acc u : Nat) (c : UInt8), Lib.parseUint10 acc l = .ok u → 48 ≤ c.toNat → c.toNat ≤ 57 → u * 10 + (c.toNat - 48) < 18446744073709551616 → Lib.parseUint10 acc (l ++ [c]) = .ok (u * 10 + (c.toNat - 48))
  | [], acc, u, c, h, h1, h2, h3 => by
    simp only [Lib.parseUint10, Lib.NumEnd.ok.injEq] at h
    subst h
    simp only [List.nil_append, Lib.parseUint10]
    rw [if_pos ⟨h1, h2⟩, if_neg (by omega), if_neg (by omega)]
  | a :: r, acc, u, c, h, h1, h2, h3 => by
    rw [List.cons_append]
    simp only [Lib.parseUint10] at h ⊢
    split at h
    · rename_i ha
      rw [if_pos ha]
      split at h
      · cases h
      · rename_i hb
        rw [if_neg hb]
        split at h
        · cases h
        · rename_i hc
          rw [if_neg hc]
          exact pu_append r _ u c h h1 h2 h3
    · cases h
theorem dig_nat {d : Nat} (h : d < 10) : (UInt8.ofNat (48 + d)).toNat = 48 + d := by
  rw [UInt8.toNat_ofNat']
  omega
theorem pu_digits : ∀ (u : Nat), u < 18446744073709551616 → Lib.parseUint10 0 (Lib.decDigits u) = .ok u := by
  intro u
  induction u using Nat.strongRecOn with
  | ind u ih =>
    intro hu
    rw [Lib.decDigits]
    by_cases h : u < 10
    · rw [dif_pos h]
      have hd := dig_nat h
      simp only [Lib.parseUint10]
      rw [hd, if_pos (by omega), if_neg (by omega), if_neg (by omega)]
      congr 1
      omega
    · rw [dif_neg h]
      have h1 := ih (u / 10) (by omega) (by omega)
      have hd := dig_nat (d := u % 10) (by omega)
      have h2 := pu_append _ 0 (u / 10) (UInt8.ofNat (48 + u % 10)) h1 (by omega) (by omega) (by omega)
      rw [h2, hd]
      congr 1
      omega
theorem dig_in : ∀ (u : Nat), ∀ c ∈ Lib.decDigits u, 48 ≤ c.toNat ∧ c.toNat ≤ 57 := by
  intro u
  induction u using Nat.strongRecOn with
  | ind u ih =>
    intro c hc
    rw [Lib.decDigits] at hc
    by_cases h : u < 10
    · rw [dif_pos h] at hc
      have hd := dig_nat h
      simp only [List.mem_singleton] at hc
      rw [hc]
      omega
    · rw [dif_neg h, List.mem_append, List.mem_singleton] at hc
      rcases hc with hc | hc
      · exact ih (u / 10) (by omega) c hc
      · have hd := dig_nat (d := u % 10) (by omega)
        rw [hc]
        omega
theorem dig_ne (u : Nat) : Lib.decDigits u ≠ [] := by
  intro e
  have h1 := Lib.decDigits_length u
  rw [e] at h1
  rw [Lib.nDigits] at h1
  split at h1 <;> simp at h1
theorem ok_itoa {n : Nat} (h : n < 9223372036854775808) : okN (Lib.itoa (n : Int)) = some (n : Int) := by
  unfold okN
  rw [Lib.itoa_nonneg]
  have h1 := pu_digits n (by omega)
  obtain ⟨c, r, hc⟩ : ∃ c r, Lib.decDigits n = c :: r := by
    cases hd : Lib.decDigits n with
    | nil => exact absurd hd (dig_ne n)
    | cons c r => exact ⟨c, r, rfl⟩
  have h2 := dig_in n c (by rw [hc]; exact List.mem_cons_self ..)
  rw [hc] at h1 ⊢
  unfold Lib.atoiAll
  dsimp only
  rw [if_neg (by omega)]
  unfold Lib.parseMag
  rw [if_neg (by simp), h1]
  dsimp only
  rw [if_neg (by omega), if_neg (by omega), if_neg (by omega)]
theorem atoi_itoa {n : Nat} (h : n < 9223372036854775808) : Lib.atoiAll (Lib.itoa (n : Int)) = .ok (n : Int) := by
  have h1 := ok_itoa h
  unfold okN at h1
  split at h1
  · rename_i v hv
    rw [hv]
    simp only [Option.some.injEq] at h1
    rw [h1]
  · cases h1
theorem ib_append : ∀ (l r : List UInt8), (∀ c ∈ l, c ≠ 58) → Lib.indexByte (l ++ 58 :: r) 58 = (l.length : Int)
  | [], r, _ => by simp [Lib.indexByte]
  | a :: l, r, h => by
    have h1 := ib_append l r (fun c hc => h c (List.mem_cons_of_mem _ hc))
    have h2 : (a == 58) = false := beq_eq_false_iff_ne.2 (h a (List.mem_cons_self ..))
    rw [List.cons_append, Lib.indexByte, h2, if_neg (by decide), h1]
    have h3 : ((l.length : Int) == -1) = false := beq_eq_false_iff_ne.2 (by omega)
    rw [h3, if_neg (by decide), List.length_cons]
    omega
theorem nd_le : ∀ (k u : Nat), u < 10 ^ (k + 1) → Lib.nDigits u ≤ k + 1
  | 0, u, h => by rw [Lib.nDigits, dif_pos (by simpa using h)]; exact Nat.le_refl _
  | k + 1, u, h => by
    rw [Lib.nDigits]
    split
    · omega
    · have h9 : u < 10 ^ (k + 1) * 10 := by rw [← Nat.pow_succ]; exact h
      have := nd_le k (u / 10) (by omega)
      omega
theorem cut_item {s r : List UInt8} (h : s.length < 1000000) : cutB (itemB s ++ r) = some (s, r) := by
  have hd : ∀ c ∈ Lib.itoa (s.length : Int), c ≠ 58 := fun c hc e => by
    rw [Lib.itoa_nonneg] at hc
    have := dig_in _ c hc
    rw [e] at this
    simp at this
  have e : itemB s ++ r = Lib.itoa (s.length : Int) ++ 58 :: (s ++ r) := by unfold itemB; simp
  obtain ⟨d, hd2⟩ : ∃ d, Lib.itoa (s.length : Int) = d := ⟨_, rfl⟩
  have hat := atoi_itoa (n := s.length) (by omega)
  have hdl : 1 ≤ d.length ∧ d.length ≤ 6 := by
    rw [← hd2, Lib.itoa_nonneg, Lib.decDigits_length]
    refine ⟨?_, nd_le 5 _ (by simpa using h)⟩
    rw [Lib.nDigits]; split <;> omega
  rw [e, hd2]
  rw [hd2] at hd hat
  unfold cutB
  rw [ib_append d (s ++ r) hd, if_neg (by omega), Int.toNat_natCast]
  rw [List.take_left, hat]
  dsimp only
  rw [if_neg (by simp; omega), Int.toNat_natCast]
  have h1 : (d ++ 58 :: (s ++ r)).drop (d.length + 1) = s ++ r := by
    rw [List.drop_append, List.drop_eq_nil_of_le (by omega)]
    simp
  have h2 : (d ++ 58 :: (s ++ r)).drop (d.length + 1 + s.length) = r := by
    rw [← List.drop_drop, h1, List.drop_left]
  rw [h1, h2, List.take_left]
/-- what may stand in a hold. -/
def RowOkP (p : Kp) : Prop := nameB p.1 = true ∧ rightB p.2 = true ∧ p.1.size < 1000000
theorem num_len {n : Int} (h0 : 0 ≤ n) (h1 : n ≤ 9223372036854775807) : (Lib.itoa n).length < 1000000 := by
  have := Lib.itoa_length_le n (by omega) h1
  omega
theorem ok_num {n : Int} (h0 : 0 ≤ n) (h1 : n ≤ 9223372036854775807) : okN (Lib.itoa n) = some n := by
  obtain ⟨m, rfl⟩ := Int.eq_ofNat_of_zero_le h0
  exact ok_itoa (by omega)
theorem right_num {x : Ver} (h : rightB x = true) : (0 ≤ x.1 ∧ x.1 ≤ 1099511627776) ∧ (0 ≤ x.2.1 ∧ x.2.1 ≤ 1099511627776) ∧ (0 ≤ x.2.2.1 ∧ x.2.2.1 ≤ 1000) ∧ (0 ≤ x.2.2.2.1 ∧ x.2.2.2.1 < 12) ∧ x.2.2.2.2.size ≤ 1000 := by
  unfold rightB tagB at h
  rw [Bool.and_eq_true, decide_eq_true_eq, decide_eq_true_eq] at h
  omega
theorem cut_row {p : Kp} (h : RowOkP p) (r : List UInt8) : cutN 6 (rowB p ++ r) = some ([p.1.data.toList, Lib.itoa p.2.1, Lib.itoa p.2.2.1, Lib.itoa p.2.2.2.1, Lib.itoa p.2.2.2.2.1, p.2.2.2.2.2.data.toList], r) := by
  obtain ⟨hn, hr, hk⟩ := h
  obtain ⟨⟨a1, a2⟩, ⟨b1, b2⟩, ⟨c1, c2⟩, ⟨d1, d2⟩, e1⟩ := right_num hr
  have hk2 : p.1.data.toList.length < 1000000 := by simpa using hk
  have he2 : p.2.2.2.2.2.data.toList.length < 1000000 := by
    have h9 : p.2.2.2.2.2.data.toList.length = p.2.2.2.2.2.size := by simp
    omega
  unfold rowB numB
  simp only [List.append_assoc]
  rw [cutN, cut_item hk2]
  dsimp only
  rw [cutN, cut_item (num_len a1 (by omega))]
  dsimp only
  rw [cutN, cut_item (num_len b1 (by omega))]
  dsimp only
  rw [cutN, cut_item (num_len c1 (by omega))]
  dsimp only
  rw [cutN, cut_item (num_len d1 (by omega))]
  dsimp only
  rw [cutN, cut_item he2]
  dsimp only
  simp [cutN]
theorem put_end {acc : List Kp} {p : Kp} (h : RowOkP p) (hs : Srt (acc ++ [p])) (hl : acc.length < 60) : errM false acc p.1 p.2 = 0 ∧ afterP false acc p.1 p.2 = acc ++ [p] := by
  have hlt : ∀ q ∈ acc, kLt q p := fun q hq => (List.pairwise_append.1 hs).2.2 q hq p (List.mem_singleton_self _)
  have hnot : ∀ q ∈ acc, sameTag p.1 p.2 q = false := fun q hq => by
    have h1 := hlt q hq
    unfold sameTag
    refine decide_eq_false (fun e => ?_)
    rcases h1 with h1 | ⟨_, h1⟩
    · rw [e.1, Rg.tlt_irrefl] at h1; cases h1
    · rw [e.2.1, e.2.2] at h1
      unfold tagLt at h1
      simp at h1
  have he : errM false acc p.1 p.2 = 0 := by
    rw [errM_none h.1 h.2.1 (fun j hj => hnot _ (by rw [List.getElem?_eq_getElem hj]; exact List.getElem_mem hj)), if_neg (by omega)]
  refine ⟨he, ?_⟩
  unfold afterP
  rw [if_pos he, insL_is]
  have h1 : acc.takeWhile (ltK p.1 p.2.1 p.2.2.1) = acc := by
    have : ∀ q ∈ acc, ltK p.1 p.2.1 p.2.2.1 q = true := fun q hq => ltK_iff.2 (hlt q hq)
    clear hlt hnot he hs hl
    induction acc with
    | nil => rfl
    | cons a r ih =>
      rw [List.takeWhile_cons, if_pos (this a (List.mem_cons_self ..)), ih (fun q hq => this q (List.mem_cons_of_mem _ hq))]
  have h2 : acc.dropWhile (ltK p.1 p.2.1 p.2.2.1) = [] := by
    have := List.takeWhile_append_dropWhile (p := ltK p.1 p.2.1 p.2.2.1) (l := acc)
    rw [h1] at this
    exact List.append_right_eq_self.1 this
  rw [h1, h2]
theorem ba_of (b : ByteArray) : (⟨b.data.toList.toArray⟩ : ByteArray) = b := by simp
theorem load_rows : ∀ (l acc : List Kp), (∀ p ∈ l, RowOkP p) → Srt (acc ++ l) → (acc ++ l).length ≤ 60 → loadR acc (l.flatMap rowB) = some (acc ++ l)
  | [], acc, _, _, _ => by rw [List.flatMap_nil, loadR_nil, List.append_nil]
  | p :: r, acc, hok, hs, hl => by
    have hp := hok p (List.mem_cons_self ..)
    have hcr := cut_row hp (r.flatMap rowB)
    have hs1 : Srt (acc ++ [p]) := by
      exact hs.sublist ((List.append_sublist_append_left acc).2 (List.singleton_sublist.2 (List.mem_cons_self ..)))
    obtain ⟨h1, h2⟩ := put_end hp hs1 (by rw [List.length_append, List.length_cons] at hl; omega)
    obtain ⟨⟨a1, a2⟩, ⟨b1, b2⟩, ⟨c1, c2⟩, ⟨d1, d2⟩, e1⟩ := right_num hp.2.1
    have hput : putR acc [p.1.data.toList, Lib.itoa p.2.1, Lib.itoa p.2.2.1, Lib.itoa p.2.2.2.1, Lib.itoa p.2.2.2.2.1, p.2.2.2.2.2.data.toList] = some (acc ++ [p]) := by
      unfold putR
      simp only [List.getElem?_cons_zero, List.getElem?_cons_succ, Option.getD_some]
      rw [ok_num a1 (by omega), ok_num b1 (by omega), ok_num c1 (by omega), ok_num d1 (by omega)]
      dsimp only
      rw [ba_of, ba_of]
      show (if putM (errM false acc p.1 p.2) = 0 then some (afterP false acc p.1 p.2) else none) = _
      rw [h1, h2]; rfl
    rw [List.flatMap_cons, loadR_ok (fun e => by
      have := congrArg List.length e
      unfold rowB itemB at this
      simp at this
      ) hcr hput, load_rows r (acc ++ [p]) (fun q hq => hok q (List.mem_cons_of_mem _ hq)) (by simpa using hs) (by simpa using hl)]
    simp
/-- what is saved is loaded. -/
theorem load_save {sd : Bool} {l : List Kp} (hok : ∀ p ∈ l, RowOkP p) (hf : Fine l) : loadB (saveB sd l) = some (l, sd) := by
  have hr := load_rows l [] hok (by simpa using hf.1) (by simpa using hf.2)
  have hfirst : sd = false → (l.flatMap rowB).take 1 ≠ [33] := fun _ e => by
    cases l with
    | nil => simp at e
    | cons p r =>
      rw [List.flatMap_cons] at e
      unfold rowB itemB at e
      rw [Lib.itoa_nonneg] at e
      obtain ⟨c, t, hc⟩ : ∃ c t, Lib.decDigits p.1.data.toList.length = c :: t := by
        cases hd : Lib.decDigits p.1.data.toList.length with
        | nil => exact absurd hd (dig_ne _)
        | cons c t => exact ⟨c, t, rfl⟩
      have h2 := dig_in p.1.data.toList.length c (by rw [hc]; exact List.mem_cons_self ..)
      rw [hc] at e
      simp at e
      rw [e] at h2
      simp at h2
  unfold loadB
  have e4 : (saveB sd l).take 4 = holdW := by simp [saveB, holdW]
  have e5 : (saveB sd l).drop 4 = markB sd ++ l.flatMap rowB := by simp [saveB, holdW]
  have e6 : (saveB sd l).drop 5 = (markB sd ++ l.flatMap rowB).drop 1 := by rw [← e5, List.drop_drop]
  rw [if_pos e4, e5, e6]
  cases sd with
  | true =>
    have h1 : (markB true ++ l.flatMap rowB).take 1 = [33] := by simp [markB]
    have h2 : (markB true ++ l.flatMap rowB).drop 1 = l.flatMap rowB := by simp [markB]
    rw [if_pos h1, h2, hr, decide_eq_true h1]
    simp
  | false =>
    have h1 : ¬ (markB false ++ l.flatMap rowB).take 1 = [33] := by simpa [markB] using hfirst rfl
    have h2 : markB false ++ l.flatMap rowB = l.flatMap rowB := by simp [markB]
    rw [if_neg h1, decide_eq_false h1, h2, hr]
    simp
end
end Go.Proofs.YthdicfcgkbepdaaGreatDoor
