/- What is written is read: Encode and Decode, plain. -/
import Derived.Test.YtgcnohejmofhkaaDoorWrL
namespace Go.Proofs.YtgcnohejmofhkaaDoor
section
open Go.RowKit

theorem sb_nats (s : ByteArray) (i : Nat) : sb s i = (Sm.nats s)[i]?.getD 0 := by
  unfold sb Sm.nats
  rw [List.getElem?_map]
  cases s.data.toList[i]? <;> rfl
theorem nats_drop (s : ByteArray) (i : Nat) (h : i ≤ s.size) : Sm.nats (s.extract i s.size) = (Sm.nats s).drop i := by
  have h1 := nats_extract s i
  have h2 : (Sm.nats s).drop i = ((Sm.nats s).take i ++ Sm.nats (s.extract i s.size)).drop i := by rw [← h1]
  rw [h2, List.drop_left' (by rw [List.length_take, Sm.nats_length]; omega)]
theorem nats_inj {a b : ByteArray} (h : Sm.nats a = Sm.nats b) : a = b := by rw [← strOf_nats' a, ← strOf_nats' b, h]
theorem eyeN_of {s : ByteArray} {k : Nat} {l : List Nat} (h : Sm.nats s = nbytes (k : Int) ++ l) (hk : k < 9223372036854775808) : ∃ r, eyeN s = some (k, r) ∧ Sm.nats r = l := by
  have hz : s.size = 8 + l.length := by rw [← Sm.nats_length, h, List.length_append]; rfl
  refine ⟨s.extract 8 s.size, ?_, by rw [nats_drop s 8 (by omega), h]; rfl⟩
  have e : ∀ i, i < 8 → sb s i = (nbytes (k : Int))[i]?.getD 0 := fun i hi => by
    rw [sb_nats, h, List.getElem?_append_left (by exact hi)]
  have e0 : sb s 0 = k / 72057594037927936 % 256 := (e 0 (by omega)).trans (nbyte_nat k 7)
  have e1 : sb s 1 = k / 281474976710656 % 256 := (e 1 (by omega)).trans (nbyte_nat k 6)
  have e2 : sb s 2 = k / 1099511627776 % 256 := (e 2 (by omega)).trans (nbyte_nat k 5)
  have e3 : sb s 3 = k / 4294967296 % 256 := (e 3 (by omega)).trans (nbyte_nat k 4)
  have e4 : sb s 4 = k / 16777216 % 256 := (e 4 (by omega)).trans (nbyte_nat k 3)
  have e5 : sb s 5 = k / 65536 % 256 := (e 5 (by omega)).trans (nbyte_nat k 2)
  have e6 : sb s 6 = k / 256 % 256 := (e 6 (by omega)).trans (nbyte_nat k 1)
  have e7 : sb s 7 = k % 256 := (e 7 (by omega)).trans ((nbyte_nat k 0).trans (by simp))
  unfold eyeN
  rw [if_pos ⟨by omega, by omega⟩]
  have hb : beN s 8 = k := by
    simp only [beN]
    omega
  rw [hb]
theorem eyeT_of {s t : ByteArray} {l : List Nat} (h : Sm.nats s = tbytes t ++ l) (ht : t.size ≤ maxLen) : ∃ r, eyeT s = some (t, r) ∧ Sm.nats r = l := by
  unfold tbytes at h
  rw [List.append_assoc] at h
  unfold maxLen at ht
  obtain ⟨q, hq, hn⟩ := eyeN_of h (by omega)
  have hz : q.size = t.size + l.length := by rw [← Sm.nats_length, hn, List.length_append, Sm.nats_length]
  refine ⟨q.extract t.size q.size, ?_, ?_⟩
  · unfold eyeT
    rw [hq]
    dsimp only
    rw [if_pos (by omega)]
    congr 2
    apply nats_inj
    rw [nats_take, hn, List.take_left' (Sm.nats_length t)]
  · rw [nats_drop q _ (by omega), hn, List.drop_left' (Sm.nats_length t)]
theorem neg_all {zs : List Int} (h : neg zs = false) : ∀ z ∈ zs, 0 ≤ z := fun z hz => by
  unfold neg at h
  rw [List.any_eq_false] at h
  have := h z hz
  simp at this
  exact this
theorem eyeV_of {s : ByteArray} {x : Ver} {l : List Nat} (h : Sm.nats s = vbytes x ++ l) (hx : VerOk x) (hn : neg (vints x) = false) : ∃ r, eyeV s = some (x, r) ∧ Sm.nats r = l := by
  obtain ⟨a, b, c, d, t⟩ := x
  obtain ⟨oa, ob, oc, od, ot⟩ := hx
  have hz := neg_all hn
  unfold vints at hz
  dsimp only at hz oa ob oc od ot
  obtain ⟨a, rfl⟩ := Int.eq_ofNat_of_zero_le (hz a (by simp))
  obtain ⟨b, rfl⟩ := Int.eq_ofNat_of_zero_le (hz b (by simp))
  obtain ⟨c, rfl⟩ := Int.eq_ofNat_of_zero_le (hz c (by simp))
  obtain ⟨d, rfl⟩ := Int.eq_ofNat_of_zero_le (hz d (by simp))
  unfold Int64 at oa ob oc od
  have h' : Sm.nats s = nbytes (a : Int) ++ (nbytes (b : Int) ++ (nbytes (c : Int) ++ (nbytes (d : Int) ++ (tbytes t ++ l)))) := by
    rw [h]; simp [vbytes, vints]
  obtain ⟨s1, e1, n1⟩ := eyeN_of h' (by omega)
  obtain ⟨s2, e2, n2⟩ := eyeN_of n1 (by omega)
  obtain ⟨s3, e3, n3⟩ := eyeN_of n2 (by omega)
  obtain ⟨s4, e4, n4⟩ := eyeN_of n3 (by omega)
  obtain ⟨s5, e5, n5⟩ := eyeT_of n4 ot
  refine ⟨s5, ?_, n5⟩
  unfold eyeV
  rw [e1]; dsimp only
  rw [e2]; dsimp only
  rw [e3]; dsimp only
  rw [e4]; dsimp only
  rw [e5]
theorem eyeL_of : ∀ {L : List Ver} {s : ByteArray} {l : List Nat}, Sm.nats s = L.flatMap vbytes ++ l → (∀ x ∈ L, VerOk x) → vneg L = false → ∃ r, eyeL L.length s = some (L, r) ∧ Sm.nats r = l
  | [], s, l, h, _, _ => ⟨s, rfl, h⟩
  | x :: L, s, l, h, hx, hn => by
    rw [List.flatMap_cons, List.append_assoc] at h
    unfold vneg at hn
    rw [List.any_cons, Bool.or_eq_false_iff] at hn
    obtain ⟨r, e1, n1⟩ := eyeV_of h (hx x (List.mem_cons_self ..)) hn.1
    obtain ⟨q, e2, n2⟩ := eyeL_of n1 (fun y hy => hx y (List.mem_cons_of_mem _ hy)) hn.2
    refine ⟨q, ?_, n2⟩
    rw [List.length_cons]
    simp only [eyeL]
    rw [e1]; dsimp only
    rw [e2]
theorem decB_of {s : ByteArray} {m : Msg} (h : Sm.nats s = encB m) (hm : MsgOk m) (hn : encBad m = false) (hl : m.L.length ≤ maxLen) : decB s = some m := by
  obtain ⟨fr, dst, kind, key, op, cf, sl, L⟩ := m
  obtain ⟨h1, h2, h3, h4, h5, h6, h7⟩ := hm
  dsimp only at h1 h2 h3 h4 h5 h6 h7 hl
  unfold encBad at hn
  rw [Bool.or_eq_false_iff] at hn
  dsimp only at hn
  have hz := neg_all hn.1
  unfold hints at hz
  dsimp only at hz
  obtain ⟨op, rfl⟩ := Int.eq_ofNat_of_zero_le (hz op (by simp))
  obtain ⟨cf, rfl⟩ := Int.eq_ofNat_of_zero_le (hz cf (by simp))
  obtain ⟨k, hk, hk2, hk3⟩ : ∃ k : Nat, (if sl = true then (1 : Int) else 0) = (k : Int) ∧ k < 2 ∧ decide (k = 1) = sl := by
    cases sl
    · exact ⟨0, by simp, by omega, by simp⟩
    · exact ⟨1, by simp, by omega, by simp⟩
  unfold Int64 at h5 h6
  unfold maxLen at hl
  have h' : Sm.nats s = tbytes fr ++ (tbytes dst ++ (tbytes kind ++ (tbytes key ++ (nbytes (op : Int) ++ (nbytes (cf : Int) ++ (nbytes (k : Int) ++ (nbytes ((L.length : Nat) : Int) ++ (L.flatMap vbytes ++ [])))))))) := by
    rw [h]; unfold encB encH hints; dsimp only; rw [hk]; simp
  obtain ⟨s1, e1, n1⟩ := eyeT_of h' h1
  obtain ⟨s2, e2, n2⟩ := eyeT_of n1 h2
  obtain ⟨s3, e3, n3⟩ := eyeT_of n2 h3
  obtain ⟨s4, e4, n4⟩ := eyeT_of n3 h4
  obtain ⟨s5, e5, n5⟩ := eyeN_of n4 (by omega)
  obtain ⟨s6, e6, n6⟩ := eyeN_of n5 (by omega)
  obtain ⟨s7, e7, n7⟩ := eyeN_of n6 (by omega)
  obtain ⟨s8, e8, n8⟩ := eyeN_of n7 (by omega)
  obtain ⟨s9, e9, n9⟩ := eyeL_of n8 h7 hn.2
  have hs9 : s9.size = 0 := by rw [← Sm.nats_length, n9]; rfl
  unfold decB
  rw [e1]; dsimp only
  rw [e2]; dsimp only
  rw [e3]; dsimp only
  rw [e4]; dsimp only
  rw [e5]; dsimp only
  rw [e6]; dsimp only
  rw [e7]; dsimp only
  rw [if_pos hk2, e8]; dsimp only
  rw [e9]; dsimp only
  rw [if_pos hs9, hk3]
theorem strOf_size (l : List Nat) : (strOf l).size = l.length := by
  unfold strOf
  show (l.map UInt8.ofNat).toArray.size = _
  simp
theorem nats_strOf {l : List Nat} (h : ∀ x ∈ l, x < 256) : Sm.nats (strOf l) = l := by
  unfold Sm.nats strOf
  simp only [List.map_map]
  apply List.ext_getElem (by simp)
  intro i h1 h2
  simp only [List.getElem_map, Function.comp]
  exact UInt8.toNat_ofNat_of_lt' (h _ (List.getElem_mem _))
/-- what is written, as Encode packs it. -/
def packB (m : Msg) : ByteArray := strOf (encB m) ++ fourS (Sm.crc (Sm.nats (strOf (encB m))))
theorem decodeB_pack {m : Msg} (hm : MsgOk m) (hn : encBad m = false) (hl : ¬ 3996 < (encB m).length) (hl2 : m.L.length ≤ maxLen) : decodeB (packB m) = (m, none) := by
  have h1 : bodyOf (packB m) = strOf (encB m) := bodyOf_append (fourS_size _)
  have h2 : tailOf (packB m) = fourS (Sm.crc (Sm.nats (strOf (encB m)))) := tailOf_append (fourS_size _)
  have h3 : (packB m).size = (encB m).length + 4 := by unfold packB; rw [ByteArray.size_append, strOf_size, fourS_size]
  unfold decodeB
  rw [h3, if_neg (by omega), if_neg (by omega), h1, h2, if_pos rfl, decB_of (nats_strOf (encB_lt m)) hm hn hl2]
  rfl
end
end Go.Proofs.YtgcnohejmofhkaaDoor
