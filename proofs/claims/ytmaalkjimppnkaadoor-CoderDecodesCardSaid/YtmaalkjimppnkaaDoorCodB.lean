/- The walk of coder.Encode. -/
import Derived.Test.YtmaalkjimppnkaaDoorCodA
import Derived.Test.YtmaalkjimppnkaaDoorShards
import Derived.Test.YtmaalkjimppnkaaDoorShelf
namespace Go.Proofs.YtmaalkjimppnkaaDoor
open Go.RowKit

theorem wide_facts (k size : Nat) (hk : 1 ≤ k) : size ≤ k * wideN k size ∧ k * wideN k size ≤ size + k - 1 := by
  unfold wideN
  have h1 := Nat.div_add_mod (size + k - 1) k
  have h2 := Nat.mod_lt (size + k - 1) (show k > 0 by omega)
  omega
theorem wide_le (k size : Nat) (hk : 1 ≤ k) : wideN k size ≤ size + k - 1 := by
  have h := (wide_facts k size hk).2
  have : 1 * wideN k size ≤ k * wideN k size := Nat.mul_le_mul_right _ hk
  omega
theorem sb_append (s z : ByteArray) (hz : ∀ i, sb z i = 0) (i : Nat) : sb (s ++ z) i = sb s i := by
  unfold sb
  have e : (s ++ z).data.toList = s.data.toList ++ z.data.toList := by
    simp
  rw [e]
  by_cases h : i < s.data.toList.length
  · rw [List.getElem?_append_left h]
  · rw [List.getElem?_append_right (by omega), List.getElem?_eq_none (l := s.data.toList) (by omega)]
    have := hz (i - s.data.toList.length)
    unfold sb at this
    exact this
theorem sb_extract (s : ByteArray) (a b c : Nat) (hc : a + c < b) : sb (s.extract a b) c = sb s (a + c) := by
  unfold sb
  have e : (s.extract a b).data.toList = (s.data.toList.drop a).take (b - a) := by
    simp [ByteArray.data_extract, Array.toList_extract, List.extract_eq_take_drop]
  rw [e, List.getElem?_take, if_pos (by omega), List.getElem?_drop]
/-- what a shard holds. -/
def encF (k : Nat) (s : ByteArray) (i c : Nat) : Nat := Mx.dot (Mx.spr k i) (fun l => sb s (l * wideN k s.size + c)) k
theorem encF_lt (k : Nat) (s : ByteArray) (i c : Nat) : encF k s i c < 256 := Mx.dot_lt (Mx.by_spr k i) k
/-- the text of shard i. -/
def encT (k : Nat) (s : ByteArray) (i : Nat) : ByteArray := ⟨(rowText (encF k s i) (wideN k s.size)).toArray⟩
theorem encT_size (k : Nat) (s : ByteArray) (i : Nat) : (encT k s i).size = wideN k s.size := by
  show (rowText _ _).toArray.size = _
  simp [rowText]
theorem sb_encT (k : Nat) (s : ByteArray) (i : Nat) {c : Nat} (hc : c < wideN k s.size) : sb (encT k s i) c = encF k s i c := by
  unfold sb encT rowText
  simp [hc]
  exact encF_lt k s i c
/-- all shards of an object. -/
def encL (n k : Nat) (s : ByteArray) : List Sh := (List.range n).map fun i : Nat => ((i : Int), encT k s i)
theorem encL_length (n k : Nat) (s : ByteArray) : (encL n k s).length = n := by simp [encL]
/-- part j of an object. -/
def objT (s : ByteArray) (W j : Nat) : ByteArray := s.extract (j * W) ((j + 1) * W)
theorem prod_enc {k : Nat} {s s2 : ByteArray} (h : ∀ i, sb s2 i = sb s i) (i : Nat) : prodT (Mx.spr k) (objT s2 (wideN k s.size)) k (wideN k s.size) i = encT k s i := by
  unfold prodT encT
  have e : rowText (prodN (Mx.spr k) (objT s2 (wideN k s.size)) i k) (wideN k s.size) = rowText (encF k s i) (wideN k s.size) := by
    unfold rowText
    refine List.map_congr_left fun c hc => ?_
    have hc := List.mem_range.1 hc
    congr 1
    unfold prodN encF
    refine Mx.dot_congr (fun _ _ => rfl) (fun l _ => ?_)
    unfold objT
    rw [sb_extract _ _ _ _ (by rw [Nat.add_mul]; omega), h]
  rw [e]
theorem sb_zeros (m : Nat) (i : Nat) : sb ⟨(Lib.repeatL [0] m).toArray⟩ i = 0 := by
  have e : Lib.repeatL [0] m = List.replicate m 0 := by
    have := Lib.repeatL_replicate 0 1 m
    simpa using this
  unfold sb
  rw [e]
  simp [List.getElem?_replicate]
  split <;> rfl

set_option maxRecDepth 100000 in
set_option maxHeartbeats 4000000 in
theorem encode_walk (n k : Nat) (s : ByteArray) (w : World) (E : Nat → Addr) (hE : ErrEz w E) (hk : 1 ≤ k) (hkn : k ≤ n) (hn : n ≤ 12) (hs : s.size ≤ 1000) :
    Calls Tryd.prog 91 #[.int .i64 n, .int .i64 k, .string s] w fun e w' => (∃ v, e = .returned (.tuple #[v, .nilIface]) ∧ OwnS w.heap.size w' v (encL n k s)) ∧ Below w.heap.size w w' := by
  have HE := Lib.hid hE; clear hE
  have hwf := wide_facts k s.size hk
  have hwl := wide_le k s.size hk
  obtain ⟨P, hP⟩ : ∃ P, k * wideN k s.size = P := ⟨_, rfl⟩
  rw [hP] at hwf
  have hwk := fun V => wide_walk2 k s.size V hk (by omega) (by omega)
  have hpe := fun (s2 : ByteArray) h1 i => prod_enc (k := k) (s := s) (s2 := s2) h1 i
  obtain ⟨W, hW⟩ : ∃ W, wideN k s.size = W := ⟨_, rfl⟩
  rw [hW] at hwk hwl hP hpe
  have hPi : (k : Int) * (W : Int) = (P : Int) := by rw [← hP]; push_cast; rfl
  have HP := Lib.hid hP
  have Hpe := Lib.hid hpe
  have Hwk := Lib.hid hwk
  clear hW hwk hP hpe
  have hsl : ¬ (1000 : Int) < s.size := by omega
  go_enter Tryd.func91, Tryd.ntmps91
  go_wp2_with fail
  refine (spread_walk n k w E HE.out hk hkn hn).mono ?_
  rintro e w1 ⟨⟨v1, bs1, cp1, rfl, hm1⟩, hb1⟩
  obtain ⟨g1, c1, hve, _, _, hV1⟩ := hm1.mat (by omega)
  rw [hve]
  have H1 := Lib.hid hb1
  have HV1 := Lib.hid (hV1.read (by omega) (by omega))
  clear hve hV1 hm1 hb1
  go_wp2_with fail
  refine (Hwk.out _).mono ?_
  rintro e w' ⟨rfl, rfl⟩
  go_wp2_with fail
  have hrep := Tryd.strings_Repeat ⟨#[0]⟩ (P - s.size) w1 (by omega) (by show 1 * (P - s.size) ≤ _; omega)
  have ecs : ((P : Int) - s.size) = ((P - s.size : Nat) : Int) := by omega
  rw [ecs]
  refine hrep.mono ?_
  rintro e w2 ⟨rfl, hb2⟩
  have hz0 : ∀ i, sb ⟨(Lib.repeatL [0] (P - s.size)).toArray⟩ i = 0 := sb_zeros _
  have hz1 : (⟨(Lib.repeatL [0] (P - s.size)).toArray⟩ : ByteArray).size = P - s.size := by
    show (Lib.repeatL [0] (P - s.size)).toArray.size = _
    simp [Lib.repeatL_length]
  have hzd : (⟨#[0]⟩ : ByteArray).data.toList = [0] := rfl
  rw [hzd]
  obtain ⟨z, hz⟩ : ∃ z, (⟨(Lib.repeatL [0] (P - s.size)).toArray⟩ : ByteArray) = z := ⟨_, rfl⟩
  rw [hz] at hz0 hz1 ⊢
  have hz2 : P ≤ s.size + z.size := by omega
  have hz3 : s.size + z.size ≤ P := by omega
  have H2 := Lib.hid (H1.out.trans (hb2.mono H1.out.size))
  have HV2 := Lib.hid ((HV1.out.below hb2).mono hb2.size)
  have Hz0 := Lib.hid hz0
  have Hpe2 := Lib.hid (Hpe.out (s ++ z) (sb_append s z hz0))
  clear hz hz0 hz1 hzd hrep hb2 ecs HV1
  go_wp2
  go_loopw [11, 43] (fun vo vi wr => ∃ i : Nat, i ≤ k ∧ vi = .int .i64 i ∧ Hid (Own1 9 w2.heap.size wr vo ((List.range i).map fun j => Value.string (objT (s ++ z) W j)) ∧ Below w2.heap.size w2 wr)) (fun _ i _ => k - (intOf i).toNat)
  case atStart => exact ⟨0, by omega, rfl, Lib.hid ⟨Own1.nil _ _ _, Below.refl _ _⟩⟩
  case round =>
    obtain ⟨i, hi, rfl, H⟩ := hrel
    have hi2 : i < k ∨ i = k := by omega
    rcases hi2 with hlt | rfl
    · have hlt2 : (i : Int) < k := by omega
      obtain ⟨a, ha⟩ : ∃ a, i * W = a := ⟨_, rfl⟩
      obtain ⟨b, hb⟩ : ∃ b, (i + 1) * W = b := ⟨_, rfl⟩
      have hab : a ≤ b := by rw [← ha, ← hb]; exact Nat.mul_le_mul_right _ (by omega)
      have hbP : b ≤ P := by rw [← hb, ← HP.out]; exact Nat.mul_le_mul_right _ (by omega)
      have hai : (i : Int) * (W : Int) = (a : Int) := by rw [← ha]; push_cast; rfl
      have hbi : ((i : Int) + 1) * (W : Int) = (b : Int) := by rw [← hb]; push_cast; rfl
      have hobj : objT (s ++ z) W i = (s ++ z).extract a b := by unfold objT; rw [ha, hb]
      have Hobj := Lib.hid hobj
      have hul : ((List.range i).map fun j => Value.string (objT (s ++ z) W j)).length ≤ 1000000 := by simp; omega
      have hsz1 := H.out.2.size
      clear ha hb hobj
      go_wp2_with (at_builtin; refine append_str 46 56 rfl rfl w2.heap.size _ _ ((s ++ z).extract a b) rfl rfl H.out.1 hul hsz1 ?_)
      intro v' w' k1 k2 k3
      have hb2 : Below w2.heap.size w2 w' := (H.out.2.alloc hsz1 _).grown k2 (by simp; omega) (fun j e => (H.out.1.lt j e).1)
      have hm3 : Own1 9 w2.heap.size w' v' ((List.range (i + 1)).map fun j => Value.string (objT (s ++ z) W j)) := by
        rw [List.range_succ, List.map_append, List.map_cons, List.map_nil, Hobj.out]; exact k1
      have HR := Lib.hid (And.intro hm3 hb2)
      clear hb2 hm3 k1 k2 k3
      go_wp2
      go_roundw
      case rel => exact ⟨i + 1, by omega, by go_num, HR⟩
      case measure => simp [intOf]; omega
    · have hobs : ∀ j, j < i → (objT (s ++ z) W j).size = W := fun j hj => by
        have h1 : (j + 1) * W ≤ P := by rw [← HP.out]; exact Nat.mul_le_mul_right _ (by omega)
        unfold objT
        rw [ByteArray.size_extract, ByteArray.size_append, Nat.add_mul]
        rw [Nat.add_mul] at h1
        omega
      obtain ⟨gt, ct, hve, _, _, hTx⟩ := txt_of_own H.out.1 (by omega) hobs
      rw [hve]
      have hMx := (HV2.out.below H.out.2).mono H.out.2.size
      have Hpr := Lib.hid (product_walk wr.heap.size g1 0 n i c1 gt 0 ct W bs1 (fun _ => 0) cp1 (Mx.spr i) (objT (s ++ z) W) wr (Nat.le_refl _) hMx (Mx.by_spr i) hTx (by omega) hk (by omega) (by omega))
      have HB := Lib.hid (H2.out.trans (H.out.2.mono H2.out.size))
      clear hve hTx hMx hobs
      go_wp2_with fail
      refine Hpr.out.mono ?_
      rintro e w3 ⟨⟨v3, rfl, hv3⟩, hb3⟩
      have hsame : ((List.range n).map fun j => Value.string (prodT (Mx.spr i) (objT (s ++ z) W) i W j)) = (List.range n).map fun j => Value.string (encT i s j) :=
        List.map_congr_left fun j _ => by rw [Hpe2.out j]
      rw [hsame] at hv3
      obtain ⟨gp, cp, hve, _, _, hTp⟩ := txt_of_own hv3 (by omega) (fun j _ => encT_size i s j)
      rw [hve]
      have H3 := Lib.hid (HB.out.trans (hb3.mono HB.out.size))
      have HTp := Lib.hid hTp
      clear hve hv3 hTp hb3 hsame Hpr
      go_wp2
      go_loopw [13, 63] (fun vo vi wr => ∃ j : Nat, j ≤ n ∧ vi = .int .i64 j ∧ Hid (OwnS w3.heap.size wr vo (encL j i s) ∧ Below w3.heap.size w3 wr)) (fun _ i _ => n - (intOf i).toNat)
      case atStart => exact ⟨0, by omega, rfl, Lib.hid ⟨OwnS.nil _ _, Below.refl _ _⟩⟩
      case round =>
        obtain ⟨j, hj, rfl, H4⟩ := hrel
        have hj2 : j < n ∨ j = n := by omega
        rcases hj2 with hjl | rfl
        · have hjl2 : (j : Int) < n := by omega
          have hc1 := (HTp.out.below H4.out.2).cell j hjl
          rw [Nat.zero_add] at hc1
          obtain ⟨tx, htx⟩ : ∃ tx, encT i s j = tx := ⟨_, rfl⟩
          rw [htx] at hc1
          have Htx := Lib.hid htx
          have hul : (encL j i s).length ≤ 1000000 := by rw [encL_length]; omega
          have hsz4 := H4.out.2.size
          clear htx
          go_wp2_with (at_builtin; refine append_shard 68 72 rfl rfl w3.heap.size _ _ (j : Int) tx rfl rfl H4.out.1 hul hsz4 ?_)
          intro v' w' k1 k2 k3
          have hb5 : Below w3.heap.size w3 w' := (H4.out.2.alloc hsz4 _).grown k2 (by simp; omega) (fun q e => (H4.out.1.lt q e).1)
          have hm5 : OwnS w3.heap.size w' v' (encL (j + 1) i s) := by
            unfold encL at k1 ⊢
            rw [List.range_succ, List.map_append, List.map_cons, List.map_nil, Htx.out]; exact k1
          have HR := Lib.hid (And.intro hm5 hb5)
          clear hb5 hm5 k1 k2 k3
          go_wp2
          go_roundw
          case rel => exact ⟨j + 1, by omega, by go_num, HR⟩
          case measure => simp [intOf]; omega
        · go_wp2
          go_ret2
          exact ⟨⟨_, rfl, H4.out.1.lower H3.out.size⟩, H3.out.trans (H4.out.2.mono H3.out.size)⟩

set_option maxHeartbeats 1000000 in
/-- Encode where it is refused. -/
theorem encode_bad (n k : Int) (s : ByteArray) (w : World) (E : Nat → Addr) (hE : ErrEz w E) (h : ¬ (1 ≤ k ∧ k ≤ n ∧ n ≤ 12) ∨ 1000 < s.size) :
    Calls Tryd.prog 91 #[.int .i64 n, .int .i64 k, .string s] w fun e w' => e = .returned (.tuple #[.slice none 0 0, errV (E 1)]) ∧ Below w.heap.size w w' := by
  have HE := Lib.hid hE; clear hE
  by_cases hs : 1 ≤ k ∧ k ≤ n ∧ n ≤ 12
  · have hsz : (1000 : Int) < s.size := by omega
    obtain ⟨k, rfl⟩ := Int.eq_ofNat_of_zero_le (show 0 ≤ k by omega)
    obtain ⟨n, rfl⟩ := Int.eq_ofNat_of_zero_le (show 0 ≤ n by omega)
    obtain ⟨h1, h2, h3⟩ := hs
    clear h
    go_enter Tryd.func91, Tryd.ntmps91
    go_wp2_with fail
    refine (spread_walk n k w E HE.out (by omega) (by omega) (by omega)).mono ?_
    rintro e w1 ⟨⟨v1, bs1, cp1, rfl, hm1⟩, hb1⟩
    have he := (HE.out.below hb1 (Nat.le_refl _)).c1
    have HB := Lib.hid hb1
    clear hm1 hb1
    go_wp2
    go_quiet (fail)
    go_wp2
    go_ret2
    exact ⟨rfl, HB.out.trans (same_below' _ nq)⟩
  · have Hs := Lib.hid hs
    clear h hs
    go_enter Tryd.func91, Tryd.ntmps91
    go_wp2_with fail
    refine (spread_bad n k w (E 1) HE.out.c1 Hs.out).mono ?_
    rintro e w1 ⟨rfl, q, rfl⟩
    go_wp2
    go_ret2
    exact ⟨rfl, same_below' _ q⟩
end Go.Proofs.YtmaalkjimppnkaaDoor
