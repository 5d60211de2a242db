/- Plain: a hold and the document's model of it go alike. -/
import Derived.Test.YthdicfcgkbepdaaGreatDoorMhE
import Derived.Test.YthdicfcgkbepdaaGreatDoorKyP
import Derived.Test.YthdicfcgkbepdaaGreatDoorHlG
namespace Go.Proofs.YthdicfcgkbepdaaGreatDoor
section
open Go.RowKit

theorem hput_any (F : Nat → Prop) (w : World) (hb : Nat) (sd : Bool) (C : ByteArray → List Ver) (ks : List ByteArray) (S : ByteArray → Value) (key : ByteArray) (x1 x2 x3 x4 : Int) (x5 : ByteArray) (E : Nat → Addr) (h : HoldAt F w hb sd C ks S) (hE : ErrHx w E) (hk : key.size ≤ maxLen) (ht : totC C ks ≤ 1000) (hs : VSorted (C key)) :
    Calls Tryz.prog 15 #[.pointer (some ⟨hb, 0, none⟩), .string key, .agg #[.int .i64 x1, .int .i64 x2, .int .i64 x3, .int .i64 x4, .string x5]] w fun e w' => PutPost F w w' E hb sd C ks S key (x1, x2, x3, x4, x5) e :=
  hput_walk F w hb sd C ks S key x1 x2 x3 x4 x5 E h hE hk ht hs (fun W gx h1 h2 h3 => by
    have e : insV (C key) (x1, x2, x3, x4, x5) = insAt (C key) (posV (C key) x1 x2) (x1, x2, x3, x4, x5) := by unfold insV insAt; simp
    rw [e]
    exact insert_walk 0 (S key) (C key) _ gx _ W h1 (posV_spec x1 x2 hs).1 (by have := h.len_le key; omega) h2 h3 (Nat.zero_le _))
/-- rows by key, then by tag. -/
def kLt (p q : Kp) : Prop := Rg.tlt p.1 q.1 = true ∨ (p.1 = q.1 ∧ tagLt p.2.1 p.2.2.1 q.2.1 q.2.2.1 = true)
def Srt (l : List Kp) : Prop := l.Pairwise kLt
theorem kLt_trans {p q r : Kp} (h1 : kLt p q) (h2 : kLt q r) : kLt p r := by
  rcases h1 with a | ⟨a, b⟩ <;> rcases h2 with c | ⟨c, d⟩
  · exact .inl (Rg.tlt_trans a c)
  · exact .inl (by rw [← c]; exact a)
  · exact .inl (by rw [a]; exact c)
  · exact .inr ⟨a.trans c, tagLt_trans b d⟩
theorem getL_cons (p : Kp) (r : List Kp) (k : ByteArray) : getL (p :: r) k = if p.1 = k then p.2 :: getL r k else getL r k := by
  unfold getL
  rw [List.filter_cons]
  by_cases h : p.1 = k
  · rw [if_pos (by simpa using h), if_pos h]; rfl
  · rw [if_neg (by simpa using h), if_neg h]
theorem getL_append (a b : List Kp) (k : ByteArray) : getL (a ++ b) k = getL a k ++ getL b k := by
  unfold getL; rw [List.filter_append, List.map_append]
theorem getL_ne {l : List Kp} {k : ByteArray} : getL l k ≠ [] ↔ ∃ p ∈ l, p.1 = k := by
  unfold getL
  rw [Ne, List.map_eq_nil_iff, List.filter_eq_nil_iff]
  simp
theorem mem_getL {l : List Kp} {k : ByteArray} {y : Ver} : y ∈ getL l k ↔ (k, y) ∈ l := by
  unfold getL
  rw [List.mem_map]
  constructor
  · rintro ⟨p, hp, rfl⟩
    obtain ⟨h1, h2⟩ := List.mem_filter.1 hp
    have e : p.1 = k := by simpa using h2
    rw [← e]; exact h1
  · intro h
    exact ⟨(k, y), List.mem_filter.2 ⟨h, by simp⟩, rfl⟩
theorem Srt.get {l : List Kp} (h : Srt l) (k : ByteArray) : VSorted (getL l k) := by
  unfold VSorted getL
  rw [List.pairwise_map]
  refine (h.filter fun p => decide (p.1 = k)).imp_of_mem ?_
  intro p q hp hq hpq
  have e1 : p.1 = k := by simpa using (List.mem_filter.1 hp).2
  have e2 : q.1 = k := by simpa using (List.mem_filter.1 hq).2
  rcases hpq with h9 | h9
  · rw [e1, e2, Rg.tlt_irrefl] at h9; cases h9
  · exact h9.2
theorem sum_ind (x : ByteArray) (f : ByteArray → Nat) : ∀ ks : List ByteArray, (ks.Nodup → x ∈ ks → (ks.map fun k => f k + if x = k then 1 else 0).sum = (ks.map f).sum + 1) ∧ (x ∉ ks → (ks.map fun k => f k + if x = k then 1 else 0).sum = (ks.map f).sum)
  | [] => ⟨fun _ h => (by cases h), fun _ => rfl⟩
  | k :: r => by
    obtain ⟨h1, h2⟩ := sum_ind x f r
    refine ⟨fun hn hx => ?_, fun hx => ?_⟩
    · obtain ⟨hk, hr⟩ := List.nodup_cons.1 hn
      rw [List.map_cons, List.sum_cons, List.map_cons, List.sum_cons]
      by_cases e : x = k
      · subst e
        rw [h2 hk, if_pos rfl]; omega
      · rw [h1 hr ((List.mem_cons.1 hx).resolve_left e), if_neg e]; omega
    · rw [List.map_cons, List.sum_cons, List.map_cons, List.sum_cons, h2 (fun h => hx (List.mem_cons_of_mem _ h)), if_neg (fun e => hx (by rw [e]; exact List.mem_cons_self ..))]
      omega
theorem sum0 : ∀ ks : List ByteArray, (ks.map fun _ => 0).sum = 0
  | [] => rfl
  | _ :: r => by rw [List.map_cons, List.sum_cons, sum0 r]
theorem tot_is : ∀ (l : List Kp) (ks : List ByteArray), ks.Nodup → (∀ p ∈ l, p.1 ∈ ks) → totC (getL l) ks = l.length
  | [], ks, _, _ => sum0 ks
  | p :: r, ks, hn, h => by
    have ih := tot_is r ks hn (fun q hq => h q (List.mem_cons_of_mem _ hq))
    unfold totC at *
    rw [List.length_cons, ← ih, ← (sum_ind p.1 (fun k => (getL r k).length) ks).1 hn (h p (List.mem_cons_self ..))]
    congr 1
    refine List.map_congr_left (fun k _ => ?_)
    rw [getL_cons]
    split <;> simp
/-- two lists of texts that rise and have the same members. -/
theorem rise_one : ∀ {A B : List ByteArray}, A.Pairwise (fun x y => Rg.tlt x y = true) → B.Pairwise (fun x y => Rg.tlt x y = true) → (∀ k, k ∈ A ↔ k ∈ B) → A = B
  | [], [], _, _, _ => rfl
  | [], b :: B, _, _, h => absurd ((h b).2 (List.mem_cons_self ..)) (by simp)
  | a :: A, [], _, _, h => absurd ((h a).1 (List.mem_cons_self ..)) (by simp)
  | a :: A, b :: B, hA, hB, h => by
    obtain ⟨a1, a2⟩ := List.pairwise_cons.1 hA
    obtain ⟨b1, b2⟩ := List.pairwise_cons.1 hB
    have e : a = b := by
      rcases List.mem_cons.1 ((h a).1 (List.mem_cons_self ..)) with e | e
      · exact e
      · rcases List.mem_cons.1 ((h b).2 (List.mem_cons_self ..)) with e2 | e2
        · exact e2.symm
        · have h1 := Rg.tlt_asymm (b1 a e)
          rw [a1 b e2] at h1; cases h1
    subst e
    have e2 : A = B := rise_one a2 b2 (fun k => by
      have hk := h k
      constructor
      · intro hm
        rcases List.mem_cons.1 (hk.1 (List.mem_cons_of_mem _ hm)) with e | e
        · subst e
          have := a1 k hm
          rw [Rg.tlt_irrefl] at this; cases this
        · exact e
      · intro hm
        rcases List.mem_cons.1 (hk.2 (List.mem_cons_of_mem _ hm)) with e | e
        · subst e
          have := b1 k hm
          rw [Rg.tlt_irrefl] at this; cases this
        · exact e)
    rw [e2]
theorem keys_fold : ∀ (l : List Kp) (out : List ByteArray), out.Pairwise (fun x y => Rg.tlt x y = true) → (∀ o ∈ out, ∀ p ∈ l, Rg.tlt o p.1 = true ∨ o = p.1) → Srt l →
    (l.foldl keyStep out).Pairwise (fun x y => Rg.tlt x y = true) ∧ ∀ k, k ∈ l.foldl keyStep out ↔ k ∈ out ∨ ∃ p ∈ l, p.1 = k
  | [], out, h, _, _ => ⟨h, fun k => by simp⟩
  | p :: r, out, h, ho, hs => by
    obtain ⟨s1, s2⟩ := List.pairwise_cons.1 hs
    have hle : ∀ q ∈ r, Rg.tlt p.1 q.1 = true ∨ p.1 = q.1 := fun q hq => (s1 q hq).imp id (fun h9 => h9.1)
    rw [List.foldl_cons]
    have hst : (keyStep out p).Pairwise (fun x y => Rg.tlt x y = true) ∧ ∀ k, k ∈ keyStep out p ↔ k ∈ out ∨ k = p.1 := by
      unfold keyStep
      by_cases e : out.getLast? = some p.1
      · rw [if_pos e]
        refine ⟨h, fun k => ⟨.inl, fun h9 => h9.elim id (fun e2 => ?_)⟩⟩
        rw [e2]; exact List.mem_of_getLast? e
      · rw [if_neg e]
        refine ⟨List.pairwise_append.2 ⟨h, List.pairwise_singleton _ _, fun o hm q hq => ?_⟩, fun k => by simp⟩
        obtain rfl := List.mem_singleton.1 hq
        rcases ho o hm p (List.mem_cons_self ..) with h9 | rfl
        · exact h9
        · exfalso
          rcases List.eq_nil_or_concat out with h0 | ⟨ys, z, h0⟩
          · rw [h0] at hm; cases hm
          · have h0' : out = ys ++ [z] := by rw [h0]; simp
            rw [h0', List.getLast?_append] at e
            have hz : z ≠ p.1 := fun e2 => e (by simp [e2])
            rw [h0'] at hm h
            rcases List.mem_append.1 hm with hy | hy
            · have h1 := (List.pairwise_append.1 h).2.2 _ hy z (List.mem_singleton.2 rfl)
              rcases ho z (by rw [h0']; simp) p (List.mem_cons_self ..) with h2 | h2
              · have h3 := Rg.tlt_asymm h1
                rw [h2] at h3; cases h3
              · exact hz h2
            · exact hz (List.mem_singleton.1 hy).symm
    obtain ⟨k1, k2⟩ := keys_fold r (keyStep out p) hst.1 (fun o hm q hq => by
      rcases (hst.2 o).1 hm with h9 | h9
      · exact ho o h9 q (List.mem_cons_of_mem _ hq)
      · rw [h9]; exact hle q hq) s2
    refine ⟨k1, fun k => ?_⟩
    rw [k2, hst.2]
    constructor
    · rintro ((h9 | h9) | ⟨q, hq, e⟩)
      · exact .inl h9
      · exact .inr ⟨p, List.mem_cons_self .., h9.symm⟩
      · exact .inr ⟨q, List.mem_cons_of_mem _ hq, e⟩
    · rintro (h9 | ⟨q, hq, e⟩)
      · exact .inl (.inl h9)
      · rcases List.mem_cons.1 hq with rfl | hq
        · exact .inl (.inr e.symm)
        · exact .inr ⟨q, hq, e⟩
theorem keysL_mem {l : List Kp} (hs : Srt l) (k : ByteArray) : k ∈ keysL l ↔ getL l k ≠ [] := by
  obtain ⟨b1, b2⟩ := keys_fold l [] List.Pairwise.nil (fun o h => by cases h) hs
  rw [getL_ne]
  unfold keysL
  rw [b2]
  simp
theorem has_at {M : List Ver} {y : Ver} (hs : VSorted M) (hy : y ∈ M) : hasV M y.1 y.2.1 = true ∧ M[posV M y.1 y.2.1]?.getD ver0 = y := by
  obtain ⟨j, hj, rfl⟩ := List.getElem_of_mem hy
  obtain ⟨h1, h2⟩ := posV_spec M[j].1 M[j].2.1 hs
  have e : posV M M[j].1 M[j].2.1 = j := by
    rcases Nat.lt_trichotomy (posV M M[j].1 M[j].2.1) j with h | h | h
    · exfalso
      have hlt := List.pairwise_iff_getElem.1 hs _ _ (Nat.lt_trans h hj) hj h
      have h3 := (h2 _ (Nat.lt_trans h hj)).1 (by rw [List.getElem?_eq_getElem (Nat.lt_trans h hj)]; exact hlt)
      omega
    · exact h
    · exfalso
      have h3 := (h2 j hj).2 h
      rw [List.getElem?_eq_getElem hj] at h3
      unfold tagLt at h3
      simp at h3
  unfold hasV
  rw [e, List.getElem?_eq_getElem hj]
  exact ⟨by simp [hj], rfl⟩
theorem has_not {M : List Ver} {n m : Int} (h : ∀ y ∈ M, ¬ (y.1 = n ∧ y.2.1 = m)) : hasV M n m = false := by
  unfold hasV
  refine decide_eq_false (fun h9 => ?_)
  have hlt := h9.1
  rw [List.getElem?_eq_getElem hlt] at h9
  exact h _ (List.getElem_mem hlt) h9.2
/-- both sides' answers to a put. -/
theorem err_same {sd : Bool} {l : List Kp} {ks : List ByteArray} {key : ByteArray} {x : Ver} (hs : Srt l) (ht : totC (getL l) ks = l.length) :
    (∃ i, putErr sd (getL l) ks key x = some i ∧ errM sd l key x = (i + 1 : Nat) ∧ i < 10) ∨ (putErr sd (getL l) ks key x = none ∧ hasV (getL l key) x.1 x.2.1 = true ∧ errM sd l key x = -1) ∨
    (putErr sd (getL l) ks key x = none ∧ hasV (getL l key) x.1 x.2.1 = false ∧ errM sd l key x = 0 ∧ (∀ p ∈ l, sameTag key x p = false) ∧ l.length < 60) := by
  unfold putErr errM
  cases sd with
  | true => exact .inl ⟨9, by simp, by simp, by omega⟩
  | false =>
    simp only [Bool.false_eq_true, if_false]
    cases nameB key with
    | false => exact .inl ⟨3, by simp, by simp, by omega⟩
    | true =>
      simp only [Bool.true_eq_false, if_false]
      cases rightB x with
      | false => exact .inl ⟨1, by simp, by simp, by omega⟩
      | true =>
        simp only [Bool.true_eq_false, if_false]
        cases hf : l.find? (sameTag key x) with
        | some p =>
          have hp := List.find?_some hf
          have hm := List.mem_of_find?_eq_some hf
          unfold sameTag at hp
          obtain ⟨e1, e2, e3⟩ := of_decide_eq_true hp
          have hy : p.2 ∈ getL l key := mem_getL.2 (by rw [← e1]; exact hm)
          obtain ⟨g1, g2⟩ := has_at (hs.get key) hy
          rw [e2, e3] at g1 g2
          rw [g1, g2]
          by_cases e : p.2 = x
          · exact .inr (.inl ⟨by simp [e], rfl, by simp [e]⟩)
          · exact .inl ⟨5, by simp [e], by simp [e], by omega⟩
        | none =>
          have hn : ∀ p ∈ l, sameTag key x p = false := fun p hp => by simpa using List.find?_eq_none.1 hf p hp
          have hh : hasV (getL l key) x.1 x.2.1 = false := has_not (fun y hy h9 => by
            have h1 := hn _ (mem_getL.1 hy)
            unfold sameTag at h1
            exact (of_decide_eq_false h1) ⟨rfl, h9⟩)
          rw [hh, ht]
          by_cases h60 : 60 ≤ l.length
          · exact .inl ⟨6, by simp [h60], by simp [h60], by omega⟩
          · exact .inr (.inr ⟨by simp [h60], rfl, by simp [h60], hn, by omega⟩)
theorem tw_parts {α : Type} (f : α → Bool) : ∀ l : List α, l.take (l.takeWhile f).length = l.takeWhile f ∧ l.drop (l.takeWhile f).length = l.dropWhile f
  | [] => ⟨rfl, rfl⟩
  | x :: r => by
    obtain ⟨h1, h2⟩ := tw_parts f r
    by_cases e : f x = true
    · rw [List.takeWhile_cons_of_pos e, List.dropWhile_cons_of_pos e, List.length_cons, List.take_succ_cons, List.drop_succ_cons, h1, h2]
      exact ⟨rfl, rfl⟩
    · rw [List.takeWhile_cons_of_neg e, List.dropWhile_cons_of_neg e]
      exact ⟨rfl, rfl⟩
theorem insL_is (l : List Kp) (key : ByteArray) (x : Ver) : insL l key x = l.takeWhile (ltK key x.1 x.2.1) ++ (key, x) :: l.dropWhile (ltK key x.1 x.2.1) := by
  unfold insL posL
  rw [(tw_parts _ l).1, (tw_parts _ l).2]
theorem insV_is (M : List Ver) (x : Ver) : insV M x = M.takeWhile (fun y => tagLt y.1 y.2.1 x.1 x.2.1) ++ x :: M.dropWhile (fun y => tagLt y.1 y.2.1 x.1 x.2.1) := by
  unfold insV posV
  rw [(tw_parts _ M).1, (tw_parts _ M).2]
theorem ltK_iff {key : ByteArray} {x : Ver} {p : Kp} : ltK key x.1 x.2.1 p = true ↔ kLt p (key, x) := by
  unfold ltK kLt
  simp
theorem not_ltK {key : ByteArray} {x : Ver} {p : Kp} (h : ltK key x.1 x.2.1 p = false) (hs : sameTag key x p = false) : kLt (key, x) p := by
  unfold ltK at h
  simp only [Bool.or_eq_false_iff] at h
  unfold kLt
  by_cases e : p.1 = key
  · right
    refine ⟨e.symm, ?_⟩
    have h2 : tagLt p.2.1 p.2.2.1 x.1 x.2.1 = false := by simpa [e] using h.2
    unfold tagLt at *
    unfold sameTag at hs
    have h3 := of_decide_eq_false hs
    have h4 := of_decide_eq_false h2
    refine decide_eq_true ?_
    have h5 : ¬ (p.2.1 = x.1 ∧ p.2.2.1 = x.2.1) := fun h9 => h3 ⟨e, h9⟩
    show x.1 < p.2.1 ∨ (x.1 = p.2.1 ∧ x.2.1 < p.2.2.1)
    omega
  · left
    show Rg.tlt key p.1 = true
    cases h9 : Rg.tlt key p.1 with
    | true => rfl
    | false => exact absurd (Rg.tlt_total h.1 h9) e
theorem insL_sorted : ∀ {l : List Kp} {key : ByteArray} {x : Ver}, Srt l → (∀ p ∈ l, sameTag key x p = false) → Srt (l.takeWhile (ltK key x.1 x.2.1) ++ (key, x) :: l.dropWhile (ltK key x.1 x.2.1))
  | [], key, x, _, _ => List.pairwise_singleton _ _
  | p :: r, key, x, h, hn => by
    obtain ⟨h1, h2⟩ := List.pairwise_cons.1 h
    have ih := insL_sorted (key := key) (x := x) h2 (fun q hq => hn q (List.mem_cons_of_mem _ hq))
    by_cases e : ltK key x.1 x.2.1 p = true
    · rw [List.takeWhile_cons_of_pos e, List.dropWhile_cons_of_pos e, List.cons_append]
      refine List.pairwise_cons.2 ⟨fun q hq => ?_, ih⟩
      rcases List.mem_append.1 hq with hq | hq
      · exact h1 q ((List.takeWhile_sublist _).subset hq)
      · rcases List.mem_cons.1 hq with rfl | hq
        · exact ltK_iff.1 e
        · exact h1 q ((List.dropWhile_sublist _).subset hq)
    · have e2 : ltK key x.1 x.2.1 p = false := by simpa using e
      rw [List.takeWhile_cons_of_neg e, List.dropWhile_cons_of_neg e, List.nil_append]
      have h3 := not_ltK e2 (hn p (List.mem_cons_self ..))
      refine List.pairwise_cons.2 ⟨fun q hq => ?_, h⟩
      rcases List.mem_cons.1 hq with rfl | hq
      · exact h3
      · exact kLt_trans h3 (h1 q hq)
theorem getL_while : ∀ {l : List Kp} {key : ByteArray} {x : Ver}, Srt l →
    getL (l.takeWhile (ltK key x.1 x.2.1)) key = (getL l key).takeWhile (fun y => tagLt y.1 y.2.1 x.1 x.2.1) ∧ getL (l.dropWhile (ltK key x.1 x.2.1)) key = (getL l key).dropWhile (fun y => tagLt y.1 y.2.1 x.1 x.2.1)
  | [], _, _, _ => ⟨rfl, rfl⟩
  | p :: r, key, x, h => by
    obtain ⟨h1, h2⟩ := List.pairwise_cons.1 h
    obtain ⟨i1, i2⟩ := getL_while (key := key) (x := x) h2
    by_cases e : ltK key x.1 x.2.1 p = true
    · rw [List.takeWhile_cons_of_pos e, List.dropWhile_cons_of_pos e, getL_cons, getL_cons, i1, i2]
      by_cases hk : p.1 = key
      · have ht : tagLt p.2.1 p.2.2.1 x.1 x.2.1 = true := by
          unfold ltK at e
          simpa [hk, Rg.tlt_irrefl] using e
        rw [if_pos hk, if_pos hk, List.takeWhile_cons_of_pos (by simpa using ht), List.dropWhile_cons_of_pos (by simpa using ht)]
        exact ⟨rfl, rfl⟩
      · rw [if_neg hk, if_neg hk]
        exact ⟨rfl, rfl⟩
    · rw [List.takeWhile_cons_of_neg e, List.dropWhile_cons_of_neg e]
      by_cases hk : p.1 = key
      · have ht : ¬ tagLt p.2.1 p.2.2.1 x.1 x.2.1 = true := fun h9 => e (by unfold ltK; simp [hk, h9])
        rw [getL_cons, if_pos hk, List.takeWhile_cons_of_neg (by simpa using ht), List.dropWhile_cons_of_neg (by simpa using ht)]
        exact ⟨rfl, rfl⟩
      · have hz : getL (p :: r) key = [] := Classical.byContradiction fun h9 => by
          obtain ⟨q, hq, rfl⟩ := getL_ne.1 h9
          have h3 : Rg.tlt p.1 q.1 = false := by
            cases h4 : Rg.tlt p.1 q.1 with
            | false => rfl
            | true => exact absurd (by unfold ltK; rw [h4]; rfl) e
          rcases List.mem_cons.1 hq with e2 | hq
          · exact hk (by rw [e2])
          · rcases h1 q hq with h5 | h5
            · rw [h3] at h5; cases h5
            · exact hk h5.1
        rw [hz]
        exact ⟨rfl, rfl⟩
/-- what a put leaves, key by key. -/
theorem getL_ins {l : List Kp} {key : ByteArray} {x : Ver} (h : Srt l) : getL (insL l key x) = updC (getL l) key (insV (getL l key) x) := by
  funext k
  rw [insL_is, getL_append, getL_cons]
  unfold updC
  by_cases e : k = key
  · subst e
    obtain ⟨i1, i2⟩ := getL_while (key := k) (x := x) h
    rw [if_pos rfl, if_pos rfl, insV_is, i1, i2]
  · rw [if_neg (fun e2 => e e2.symm), if_neg e, ← getL_append, List.takeWhile_append_dropWhile]
theorem insL_len (l : List Kp) (key : ByteArray) (x : Ver) : (insL l key x).length = l.length + 1 := by
  have h := congrArg List.length (List.takeWhile_append_dropWhile (p := ltK key x.1 x.2.1) (l := l))
  rw [insL_is]
  rw [List.length_append] at *
  rw [List.length_cons]
  omega
theorem trimL_sub : ∀ (l : List Kp) (key : ByteArray) (g : Nat), (trimL l key g).Sublist l
  | [], _, _ => List.Sublist.refl _
  | p :: r, key, g => by
    unfold trimL
    split
    · exact (trimL_sub r key (g - 1)).cons _
    · exact (trimL_sub r key g).cons_cons _
theorem getL_trim1 : ∀ (l : List Kp) (key k : ByteArray) (g : Nat), getL (trimL l key g) k = if k = key then (getL l key).drop g else getL l k
  | [], key, k, g => by unfold trimL; split <;> simp [getL]
  | p :: r, key, k, g => by
    unfold trimL
    by_cases h : p.1 = key ∧ 0 < g
    · rw [if_pos h, getL_trim1 r key k (g - 1), getL_cons, getL_cons, if_pos h.1]
      by_cases e : k = key
      · rw [if_pos e, if_pos e]
        obtain ⟨q, rfl⟩ : ∃ q, g = q + 1 := ⟨g - 1, by omega⟩
        rfl
      · rw [if_neg e, if_neg e, if_neg (fun e2 => e (e2.symm.trans h.1))]
    · rw [if_neg h, getL_cons, getL_trim1 r key k g, getL_cons, getL_cons]
      by_cases e : k = key
      · subst e
        rw [if_pos rfl, if_pos rfl]
        by_cases hk : p.1 = k
        · have : g = 0 := by
            rcases Nat.eq_zero_or_pos g with h9 | h9
            · exact h9
            · exact absurd ⟨hk, h9⟩ h
          subst this
          rw [if_pos hk, if_pos hk]; rfl
        · rw [if_neg hk, if_neg hk]
      · rw [if_neg e, if_neg e]
theorem getL_trim (l : List Kp) (key : ByteArray) (g : Nat) : getL (trimL l key g) = updC (getL l) key ((getL l key).drop g) := by
  funext k
  rw [getL_trim1]
  rfl
theorem getL_nil : getL [] = fun _ => [] := rfl
end
end Go.Proofs.YthdicfcgkbepdaaGreatDoor
