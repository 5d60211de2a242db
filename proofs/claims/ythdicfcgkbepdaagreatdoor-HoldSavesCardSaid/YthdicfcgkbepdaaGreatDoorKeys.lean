/- The walk of a hold's Keys: slices.Sorted of maps.Keys. -/
import Derived.Test.YthdicfcgkbepdaaGreatDoorIter
import Derived.Test.YthdicfcgkbepdaaGreatDoorHld
import Derived.Test.YthdicfcgkbepdaaGreatDoorTxs
import Derived.Sort.KeysCollected
namespace Go.Proofs.YthdicfcgkbepdaaGreatDoor
open Go.RowKit Go.Maps Go.Sort Go.Shelf

abbrev fK : FuncId := 55
abbrev fS : FuncId := 54
abbrev fI : FuncId := 82
theorem sortsK (m : Nat) : AnyZ.SortsIn Tryz.prog Tryz.sorted54_ren Fence.wide m :=
  ⟨fun blk off cap ss W hH hblk hsz => callsIn_wide.2 (AnyM.slices_Sort_string Tryz.sort81 blk off cap ss W hH hblk hsz),
   fun p cap W => callsIn_wide.2 (AnyM.slices_Sort_string_none Tryz.sort81 p cap W)⟩
theorem keys_any (mb : Option Nat) (W : World) : CallsIn Fence.wide 5 Tryz.prog fK #[.map mb] W fun e w' => e = .returned (.func (.func fI) #[] #[.pointer (some ⟨W.heap.size, 0, none⟩)]) ∧ w' = W.alloc (.cells #[.map mb] 36) :=
  AnyZ.keys_in Tryz.keys55 Fence.wide 5 trivial rfl mb W
set_option maxHeartbeats 1000000 in
theorem sorted_any {H : Type} (b nn : Nat) (D0 : DataW H) (R : Value → Option (DataW H × List MemPlace)) (w : World) (hown : w.ownsMap Tryz.prog 9 R b nn D0) (hmax : Maps.size D0 ≤ maxLen) (hbytes : Maps.size D0 * 16 ≤ 140737488355328) :
    CallsIn Fence.wide 5 Tryz.prog fS #[.func (.func fI) #[] #[.pointer (some ⟨w.heap.size, 0, none⟩)]] (w.alloc (.cells #[.map (some b)] 36)) fun e w' => ∃ (v : Value) (ss : List (List UInt8)), e = .returned v ∧ ss.Perm (strKeys D0) ∧
      w'.ownsRow (w.alloc (.cells #[.map (some b)] 36)).heap.size 9 1 v ss.length ((ss.mergeSort (fun x y => decide (x ≤ y))).map encStr) ∧ (v = .slice none 0 0 ↔ ss = []) ∧ Below (w.alloc (.cells #[.map (some b)] 36)).heap.size (w.alloc (.cells #[.map (some b)] 36)) w' := by
  have hbl := hown.lt
  have hseq : SeqGives Fence.wide 2 Tryz.prog fI #[.pointer (some ⟨w.heap.size, 0, none⟩)] encStr (fun ss => ss.Perm (strKeys D0)) (Maps.size D0) (w.alloc (.cells #[.map (some b)] 36)) :=
    AnyZ.keys_gives (ρ := Tryz.keys55_ren) { Tryz.keys55 with } Fence.wide _ trivial rfl (by omega) w.heap.size b nn D0 _ (by simp) (by simp) (by
      obtain ⟨es, clock, hb, Ft, hs, hD⟩ := hown
      exact ⟨es, clock, (Below.heap_alloc _ _ b hbl).trans hb, Ft, hs, hD⟩)
  exact AnyZ.sorted_in Tryz.sorted54 Fence.wide 5 trivial trivial trivial trivial rfl (by omega) (sortsK _) (enters_of Tryz.func81 (by kernel_rfl) rfl) fI #[.pointer (some ⟨w.heap.size, 0, none⟩)] trivial (enters_of Tryz.func82 (by kernel_rfl) rfl) _ _ hmax hbytes _ hseq
set_option maxHeartbeats 1000000 in
theorem sorted_nil (w : World) :
    CallsIn Fence.wide 5 Tryz.prog fS #[.func (.func fI) #[] #[.pointer (some ⟨w.heap.size, 0, none⟩)]] (w.alloc (.cells #[.map none] 36)) fun e w' => ∃ (v : Value) (ss : List (List UInt8)), e = .returned v ∧ ss = [] ∧
      w'.ownsRow (w.alloc (.cells #[.map none] 36)).heap.size 9 1 v ss.length ((ss.mergeSort (fun x y => decide (x ≤ y))).map encStr) ∧ (v = .slice none 0 0 ↔ ss = []) ∧ Below (w.alloc (.cells #[.map none] 36)).heap.size (w.alloc (.cells #[.map none] 36)) w' := by
  have hseq : SeqGives Fence.wide 2 Tryz.prog fI #[.pointer (some ⟨w.heap.size, 0, none⟩)] encStr (fun ss : List (List UInt8) => ss = []) 0 (w.alloc (.cells #[.map none] 36)) :=
    AnyZ.keys_gives_nil (ρ := Tryz.keys55_ren) { Tryz.keys55 with } Fence.wide _ trivial rfl w.heap.size _ (by simp) (by simp)
  exact AnyZ.sorted_in Tryz.sorted54 Fence.wide 5 trivial trivial trivial trivial rfl (by omega) (sortsK _) (enters_of Tryz.func81 (by kernel_rfl) rfl) fI #[.pointer (some ⟨w.heap.size, 0, none⟩)] trivial (enters_of Tryz.func82 (by kernel_rfl) rfl) _ 0 (Nat.zero_le _) (by omega) _ hseq
/-- keys in order. -/
def sortK (ks : List ByteArray) : List ByteArray := ((ks.map fun k => k.data.toList).mergeSort fun x y => decide (x ≤ y)).map fun l => ⟨l.toArray⟩
theorem ba_inj {a b : ByteArray} (h : a.data.toList = b.data.toList) : a = b := by
  cases a; cases b
  simpa using h
theorem keys_perm {H : Type} {D : DataW H} {ks : List ByteArray} (ht : Maps.Tidy D) (hk : ∃ es, D = .map es ∧ ∀ p ∈ es, ∃ x, p.1 = .string x) (hnd : ks.Nodup) (hh : ∀ k, Maps.has D (litS k) = decide (k ∈ ks)) : (ks.map fun k => k.data.toList).Perm (strKeys D) := by
  obtain ⟨es, rfl, hp⟩ := ht
  obtain ⟨es', he, hs⟩ := hk
  cases he
  refine perm_strKeys hp hs ?_ (fun x => ?_)
  · exact List.pairwise_map.2 (hnd.imp (fun {a b} hne e => hne (ba_inj e)))
  · have h1 := hh ⟨x.toArray⟩
    have e1 : litS ⟨x.toArray⟩ = .string x := rfl
    rw [e1] at h1
    rw [h1, decide_eq_true_eq, List.mem_map]
    constructor
    · rintro ⟨k, hk, rfl⟩
      have e : (⟨k.data.toList.toArray⟩ : ByteArray) = k := ba_inj rfl
      rw [e]; exact hk
    · intro h
      exact ⟨_, h, rfl⟩
theorem sortK_row {ks : List ByteArray} {ss : List (List UInt8)} (h : ss.Perm (ks.map fun k => k.data.toList)) : (ss.mergeSort (fun x y => decide (x ≤ y))).map encStr = (sortK ks).map Value.string ∧ ss.length = (sortK ks).length := by
  have e := mergeSort_of_perm h
  have e2 : ss.mergeSort (fun x y => decide (x ≤ y)) = (ks.map fun k => k.data.toList).mergeSort (fun x y => decide (x ≤ y)) := e
  unfold sortK
  rw [e2, List.map_map]
  refine ⟨rfl, ?_⟩
  rw [List.length_map, List.length_mergeSort, h.length_eq]
set_option maxRecDepth 100000 in
set_option maxHeartbeats 2000000 in
theorem hkeys_walk (F : Nat → Prop) (w : World) (hb : Nat) (sd : Bool) (C : ByteArray → List Ver) (ks : List ByteArray) (S : ByteArray → Value) (h : HoldAt F w hb sd C ks S) (hl : ks.length ≤ 1000) :
    Calls Tryz.prog 27 #[.pointer (some ⟨hb, 0, none⟩)] w fun e w' => (∃ v, e = .returned v ∧ OwnT w.heap.size w' v (sortK ks)) ∧ Below w.heap.size w w' := by
  refine (callsIn_wide (n := 6)).1 ?_
  have hfK : Fence.wide.fn fK := trivial
  have hfS : Fence.wide.fn fS := trivial
  rcases h.map with ⟨c0, h2⟩ | ⟨bm, D, c0, _, _, hown, hat, hhas, _, hsz⟩
  · subst h2
    have Hk := Lib.hid (keys_any none w)
    have Hs := Lib.hid (sorted_nil w)
    clear h hl
    refine callsIn_of_wp Tryz.func27 rfl trivial ?_ rfl
    simp only [Tryz.ntmps27, List.size_toArray, List.length_cons, List.length_nil, Nat.reduceAdd, Nat.reduceSub, Array.replicate_succ, Array.replicate_zero, List.push_toArray, List.append_toArray, List.nil_append, List.cons_append]
    gi_wp2_with (first
      | (gi_at_call 55; refine Hk.out.mono ?_; rintro e w' ⟨rfl, rfl⟩)
      | (gi_at_call 54; refine Hs.out.mono ?_; rintro e w' ⟨v, ss, rfl, hS, hrow, hnil, hb⟩))
    go_ret
    subst hS
    have hv := hnil.2 rfl
    subst hv
    have e0 : sortK [] = [] := by simp [sortK]
    rw [e0]
    exact ⟨⟨.slice none 0 0, rfl, OwnT.nil _ _⟩, ((Below.refl _ w).alloc (Nat.le_refl _) _).trans (hb.mono (by simp))⟩
  · have hkm : ∃ es, D = .map es ∧ ∀ p ∈ es, ∃ x, p.1 = .string x := by
      obtain ⟨es, he, hk⟩ := hown.keysOf
      refine ⟨es, he, fun p hp => ?_⟩
      obtain ⟨key, hkey⟩ := hk p hp
      obtain ⟨x, _, h2, _⟩ := Maps.keyOf_str Tryz.underlying9 hkey
      exact ⟨x, h2⟩
    have hperm := keys_perm (hown.tidy keyedS) hkm h.nodup hhas
    have Hp := Lib.hid hperm
    have Hk := Lib.hid (keys_any (some bm) w)
    have Hs := Lib.hid (sorted_any bm ks.length D Rv w hown (by rw [hsz]; unfold maxLen; omega) (by rw [hsz]; omega))
    clear h hl hkm hperm hown hat hhas hsz
    refine callsIn_of_wp Tryz.func27 rfl trivial ?_ rfl
    simp only [Tryz.ntmps27, List.size_toArray, List.length_cons, List.length_nil, Nat.reduceAdd, Nat.reduceSub, Array.replicate_succ, Array.replicate_zero, List.push_toArray, List.append_toArray, List.nil_append, List.cons_append]
    gi_wp2_with (first
      | (gi_at_call 55; refine Hk.out.mono ?_; rintro e w' ⟨rfl, rfl⟩)
      | (gi_at_call 54; refine Hs.out.mono ?_; rintro e w' ⟨v, ss, rfl, hS, hrow, hnil, hb⟩))
    go_ret
    have hB := ((Below.refl w.heap.size w).alloc (Nat.le_refl _) (.cells #[.map (some bm)] 36)).trans (hb.mono (by simp))
    obtain ⟨e1, e2⟩ := sortK_row (hS.trans Hp.out.symm)
    rw [e1, e2] at hrow
    refine ⟨⟨_, rfl, ?_⟩, hB⟩
    unfold OwnT Own1
    rw [List.length_map]
    exact ownsRow_base_a hrow (by simp)
end Go.Proofs.YthdicfcgkbepdaaGreatDoor
