/- The walk of coder.Encode. -/
import Derived.Shelf.Strings.Repeat
import Derived.Test.YtolbdcmoblcakaaGreatDoorKRepairAll20
import Derived.Test.YtolbdcmoblcakaaGreatDoorShelf
import Derived.Test.YtolbdcmoblcakaaGreatDoorKRepairAll13
namespace Go.Proofs.YtolbdcmoblcakaaGreatDoor
open Go.RowKit

theorem wide_facts (k size : Nat) (hk : 1 ≤ k) : size ≤ k * wideN k size ∧ k * wideN k size ≤ size + k - 1 := by
  unfold wideN
  have h1 := Nat.div_add_mod (size + k - 1) k
  have h2 := Nat.mod_lt (size + k - 1) (show k > 0 by omega)
  omega
theorem wide_le (k size : Nat) (hk : 1 ≤ k) : wideN k size ≤ size + k - 1 := by
  have h := (wide_facts k size hk).2
  have : 1 * wideN k size ≤ k * wideN k size := Nat.mul_le_mul_right _ hk
  omega
theorem sb_append (s z : ByteArray) (hz : ∀ i, sb z i = 0) (i : Nat) : sb (s ++ z) i = sb s i := by
  unfold sb
  have e : (s ++ z).data.toList = s.data.toList ++ z.data.toList := by
    simp
  rw [e]
  by_cases h : i < s.data.toList.length
  · rw [List.getElem?_append_left h]
  · rw [List.getElem?_append_right (by omega), List.getElem?_eq_none (l := s.data.toList) (by omega)]
    have := hz (i - s.data.toList.length)
    unfold sb at this
    exact this
theorem sb_extract (s : ByteArray) (a b c : Nat) (hc : a + c < b) : sb (s.extract a b) c = sb s (a + c) := by
  unfold sb
  have e : (s.extract a b).data.toList = (s.data.toList.drop a).take (b - a) := by
    simp [ByteArray.data_extract, Array.toList_extract, List.extract_eq_take_drop]
  rw [e, List.getElem?_take, if_pos (by omega), List.getElem?_drop]
/-- what a shard holds. -/
def encF (k : Nat) (s : ByteArray) (i c : Nat) : Nat := Mx.dot (Mx.spr k i) (fun l => sb s (l * wideN k s.size + c)) k
theorem encF_lt (k : Nat) (s : ByteArray) (i c : Nat) : encF k s i c < 256 := Mx.dot_lt (Mx.by_spr k i) k
/-- the text of shard i. -/
def encT (k : Nat) (s : ByteArray) (i : Nat) : ByteArray := ⟨(rowText (encF k s i) (wideN k s.size)).toArray⟩
theorem encT_size (k : Nat) (s : ByteArray) (i : Nat) : (encT k s i).size = wideN k s.size := by
  show (rowText _ _).toArray.size = _
  simp [rowText]
theorem sb_encT (k : Nat) (s : ByteArray) (i : Nat) {c : Nat} (hc : c < wideN k s.size) : sb (encT k s i) c = encF k s i c := by
  unfold sb encT rowText
  simp [hc]
  exact encF_lt k s i c
/-- all shards of an object. -/
def encL (n k : Nat) (s : ByteArray) : List Sh := (List.range n).map fun i : Nat => ((i : Int), encT k s i)
theorem encL_length (n k : Nat) (s : ByteArray) : (encL n k s).length = n := by simp [encL]
/-- part j of an object. -/
def objT (s : ByteArray) (W j : Nat) : ByteArray := s.extract (j * W) ((j + 1) * W)
theorem prod_enc {k : Nat} {s s2 : ByteArray} (h : ∀ i, sb s2 i = sb s i) (i : Nat) : prodT (Mx.spr k) (objT s2 (wideN k s.size)) k (wideN k s.size) i = encT k s i := by
  unfold prodT encT
  have e : rowText (prodN (Mx.spr k) (objT s2 (wideN k s.size)) i k) (wideN k s.size) = rowText (encF k s i) (wideN k s.size) := by
    unfold rowText
    refine List.map_congr_left fun c hc => ?_
    have hc := List.mem_range.1 hc
    congr 1
    unfold prodN encF
    refine Mx.dot_congr (fun _ _ => rfl) (fun l _ => ?_)
    unfold objT
    rw [sb_extract _ _ _ _ (by rw [Nat.add_mul]; omega), h]
  rw [e]
theorem sb_zeros (m : Nat) (i : Nat) : sb ⟨(Lib.repeatL [0] m).toArray⟩ i = 0 := by
  have e : Lib.repeatL [0] m = List.replicate m 0 := by
    have := Lib.repeatL_replicate 0 1 m
    simpa using this
  unfold sb
  rw [e]
  simp [List.getElem?_replicate]
  split <;> rfl

set_option maxRecDepth 100000 in
set_option maxHeartbeats 4000000 in
theorem encode_walk (n k : Nat) (s : ByteArray) (w : World) (E : Nat → Addr) (hE : ErrEz w E) (hk : 1 ≤ k) (hkn : k ≤ n) (hn : n ≤ 12) (hs : s.size ≤ 1000) :
    Calls Tryz.prog 46 #[.int .i64 n, .int .i64 k, .string s] w fun e w' => (∃ v, e = .returned (.tuple #[v, .nilIface]) ∧ OwnS w.heap.size w' v (encL n k s)) ∧ Below w.heap.size w w' := by
  have HE := Lib.hid hE; clear hE
  have hwf := wide_facts k s.size hk
  have hwl := wide_le k s.size hk
  obtain ⟨P, hP⟩ : ∃ P, k * wideN k s.size = P := ⟨_, rfl⟩
  rw [hP] at hwf
  have hwk := fun V => wide_walk2 k s.size V hk (by omega) (by omega)
  have hpe := fun (s2 : ByteArray) h1 i => prod_enc (k := k) (s := s) (s2 := s2) h1 i
  obtain ⟨W, hW⟩ : ∃ W, wideN k s.size = W := ⟨_, rfl⟩
  rw [hW] at hwk hwl hP hpe
  have hPi : (k : Int) * (W : Int) = (P : Int) := by rw [← hP]; push_cast; rfl
  have HP := Lib.hid hP
  have Hpe := Lib.hid hpe
  have Hwk := Lib.hid hwk
  clear hW hwk hP hpe
  have hsl : ¬ (1000 : Int) < s.size := by omega
  go_enter Tryz.func46, Tryz.ntmps46
  go_wp2_with fail
  refine (spread_walk n k w E HE.out hk hkn hn).mono ?_
  rintro e w1 ⟨⟨v1, bs1, cp1, rfl, hm1⟩, hb1⟩
  obtain ⟨g1, c1, hve, _, _, hV1⟩ := hm1.mat (by omega)
  rw [hve]
  have H1 := Lib.hid hb1
  have HV1 := Lib.hid (hV1.read (by omega) (by omega))
  clear hve hV1 hm1 hb1
  go_wp2_with fail
  refine (Hwk.out _).mono ?_
  rintro e w' ⟨rfl, rfl⟩
  go_wp2_with fail
  have hrep := Tryz.strings_Repeat ⟨#[0]⟩ (P - s.size) w1 (by omega) (by show 1 * (P - s.size) ≤ _; omega)
  have ecs : ((P : Int) - s.size) = ((P - s.size : Nat) : Int) := by omega
  rw [ecs]
  refine hrep.mono ?_
  rintro e w2 ⟨rfl, hb2⟩
  have hz0 : ∀ i, sb ⟨(Lib.repeatL [0] (P - s.size)).toArray⟩ i = 0 := sb_zeros _
  have hz1 : (⟨(Lib.repeatL [0] (P - s.size)).toArray⟩ : ByteArray).size = P - s.size := by
    show (Lib.repeatL [0] (P - s.size)).toArray.size = _
    simp [Lib.repeatL_length]
  have hzd : (⟨#[0]⟩ : ByteArray).data.toList = [0] := rfl
  rw [hzd]
  obtain ⟨z, hz⟩ : ∃ z, (⟨(Lib.repeatL [0] (P - s.size)).toArray⟩ : ByteArray) = z := ⟨_, rfl⟩
  rw [hz] at hz0 hz1 ⊢
  have hz2 : P ≤ s.size + z.size := by omega
  have hz3 : s.size + z.size ≤ P := by omega
  have H2 := Lib.hid (H1.out.trans (hb2.mono H1.out.size))
  have HV2 := Lib.hid ((HV1.out.below hb2).mono hb2.size)
  have Hz0 := Lib.hid hz0
  have Hpe2 := Lib.hid (Hpe.out (s ++ z) (sb_append s z hz0))
  clear hz hz0 hz1 hzd hrep hb2 ecs HV1
  go_wp2
  go_loopw [11, 43] (fun vo vi wr => ∃ i : Nat, i ≤ k ∧ vi = .int .i64 i ∧ Hid (Own1 9 w2.heap.size wr vo ((List.range i).map fun j => Value.string (objT (s ++ z) W j)) ∧ Below w2.heap.size w2 wr)) (fun _ i _ => k - (intOf i).toNat)
  case atStart => exact ⟨0, by omega, rfl, Lib.hid ⟨Own1.nil _ _ _, Below.refl _ _⟩⟩
  case round =>
    obtain ⟨i, hi, rfl, H⟩ := hrel
    have hi2 : i < k ∨ i = k := by omega
    rcases hi2 with hlt | rfl
    · have hlt2 : (i : Int) < k := by omega
      obtain ⟨a, ha⟩ : ∃ a, i * W = a := ⟨_, rfl⟩
      obtain ⟨b, hb⟩ : ∃ b, (i + 1) * W = b := ⟨_, rfl⟩
      have hab : a ≤ b := by rw [← ha, ← hb]; exact Nat.mul_le_mul_right _ (by omega)
      have hbP : b ≤ P := by rw [← hb, ← HP.out]; exact Nat.mul_le_mul_right _ (by omega)
      have hai : (i : Int) * (W : Int) = (a : Int) := by rw [← ha]; push_cast; rfl
      have hbi : ((i : Int) + 1) * (W : Int) = (b : Int) := by rw [← hb]; push_cast; rfl
      have hobj : objT (s ++ z) W i = (s ++ z).extract a b := by unfold objT; rw [ha, hb]
      have Hobj := Lib.hid hobj
      have hul : ((List.range i).map fun j => Value.string (objT (s ++ z) W j)).length ≤ 1000000 := by simp; omega
      have hsz1 := H.out.2.size
      clear ha hb hobj
      go_wp2_with (at_builtin; refine append_str 46 56 rfl rfl w2.heap.size _ _ ((s ++ z).extract a b) rfl rfl H.out.1 hul hsz1 ?_)
      intro v' w' k1 k2 k3
      have hb2 : Below w2.heap.size w2 w' := (H.out.2.alloc hsz1 _).grown k2 (by simp; omega) (fun j e => (H.out.1.lt j e).1)
      have hm3 : Own1 9 w2.heap.size w' v' ((List.range (i + 1)).map fun j => Value.string (objT (s ++ z) W j)) := by
        rw [List.range_succ, List.map_append, List.map_cons, List.map_nil, Hobj.out]; exact k1
      have HR := Lib.hid (And.intro hm3 hb2)
      clear hb2 hm3 k1 k2 k3
      go_wp2
      go_roundw
      case rel => exact ⟨i + 1, by omega, by go_num, HR⟩
      case measure => simp [intOf]; omega
    · have hobs : ∀ j, j < i → (objT (s ++ z) W j).size = W := fun j hj => by
        have h1 : (j + 1) * W ≤ P := by rw [← HP.out]; exact Nat.mul_le_mul_right _ (by omega)
        unfold objT
        rw [ByteArray.size_extract, ByteArray.size_append, Nat.add_mul]
        rw [Nat.add_mul] at h1
        omega
      obtain ⟨gt, ct, hve, _, _, hTx⟩ := txt_of_own H.out.1 (by omega) hobs
      rw [hve]
      have hMx := (HV2.out.below H.out.2).mono H.out.2.size
      have Hpr := Lib.hid (product_walk wr.heap.size g1 0 n i c1 gt 0 ct W bs1 (fun _ => 0) cp1 (Mx.spr i) (objT (s ++ z) W) wr (Nat.le_refl _) hMx (Mx.by_spr i) hTx (by omega) hk (by omega) (by omega))
      have HB := Lib.hid (H2.out.trans (H.out.2.mono H2.out.size))
      clear hve hTx hMx hobs
      go_wp2_with fail
      refine Hpr.out.mono ?_
      rintro e w3 ⟨⟨v3, rfl, hv3⟩, hb3⟩
      have hsame : ((List.range n).map fun j => Value.string (prodT (Mx.spr i) (objT (s ++ z) W) i W j)) = (List.range n).map fun j => Value.string (encT i s j) :=
        List.map_congr_left fun j _ => by rw [Hpe2.out j]
      rw [hsame] at hv3
      obtain ⟨gp, cp, hve, _, _, hTp⟩ := txt_of_own hv3 (by omega) (fun j _ => encT_size i s j)
      rw [hve]
      have H3 := Lib.hid (HB.out.trans (hb3.mono HB.out.size))
      have HTp := Lib.hid hTp
      clear hve hv3 hTp hb3 hsame Hpr
      go_wp2
      go_loopw [13, 63] (fun vo vi wr => ∃ j : Nat, j ≤ n ∧ vi = .int .i64 j ∧ Hid (OwnS w3.heap.size wr vo (encL j i s) ∧ Below w3.heap.size w3 wr)) (fun _ i _ => n - (intOf i).toNat)
      case atStart => exact ⟨0, by omega, rfl, Lib.hid ⟨OwnS.nil _ _, Below.refl _ _⟩⟩
      case round =>
        obtain ⟨j, hj, rfl, H4⟩ := hrel
        have hj2 : j < n ∨ j = n := by omega
        rcases hj2 with hjl | rfl
        · have hjl2 : (j : Int) < n := by omega
          have hc1 := (HTp.out.below H4.out.2).cell j hjl
          rw [Nat.zero_add] at hc1
          obtain ⟨tx, htx⟩ : ∃ tx, encT i s j = tx := ⟨_, rfl⟩
          rw [htx] at hc1
          have Htx := Lib.hid htx
          have hul : (encL j i s).length ≤ 1000000 := by rw [encL_length]; omega
          have hsz4 := H4.out.2.size
          clear htx
          go_wp2_with (at_builtin; refine append_shard 68 72 rfl rfl w3.heap.size _ _ (j : Int) tx rfl rfl H4.out.1 hul hsz4 ?_)
          intro v' w' k1 k2 k3
          have hb5 : Below w3.heap.size w3 w' := (H4.out.2.alloc hsz4 _).grown k2 (by simp; omega) (fun q e => (H4.out.1.lt q e).1)
          have hm5 : OwnS w3.heap.size w' v' (encL (j + 1) i s) := by
            unfold encL at k1 ⊢
            rw [List.range_succ, List.map_append, List.map_cons, List.map_nil, Htx.out]; exact k1
          have HR := Lib.hid (And.intro hm5 hb5)
          clear hb5 hm5 k1 k2 k3
          go_wp2
          go_roundw
          case rel => exact ⟨j + 1, by omega, by go_num, HR⟩
          case measure => simp [intOf]; omega
        · go_wp2
          go_ret2
          exact ⟨⟨_, rfl, H4.out.1.lower H3.out.size⟩, H3.out.trans (H4.out.2.mono H3.out.size)⟩

set_option maxHeartbeats 1000000 in
/-- Encode where it is refused. -/
theorem encode_bad (n k : Int) (s : ByteArray) (w : World) (E : Nat → Addr) (hE : ErrEz w E) (h : ¬ (1 ≤ k ∧ k ≤ n ∧ n ≤ 12) ∨ 1000 < s.size) :
    Calls Tryz.prog 46 #[.int .i64 n, .int .i64 k, .string s] w fun e w' => e = .returned (.tuple #[.slice none 0 0, errV (E 1)]) ∧ Below w.heap.size w w' := by
  have HE := Lib.hid hE; clear hE
  by_cases hs : 1 ≤ k ∧ k ≤ n ∧ n ≤ 12
  · have hsz : (1000 : Int) < s.size := by omega
    obtain ⟨k, rfl⟩ := Int.eq_ofNat_of_zero_le (show 0 ≤ k by omega)
    obtain ⟨n, rfl⟩ := Int.eq_ofNat_of_zero_le (show 0 ≤ n by omega)
    obtain ⟨h1, h2, h3⟩ := hs
    clear h
    go_enter Tryz.func46, Tryz.ntmps46
    go_wp2_with fail
    refine (spread_walk n k w E HE.out (by omega) (by omega) (by omega)).mono ?_
    rintro e w1 ⟨⟨v1, bs1, cp1, rfl, hm1⟩, hb1⟩
    have he := (HE.out.below hb1 (Nat.le_refl _)).c1
    have HB := Lib.hid hb1
    clear hm1 hb1
    go_wp2
    go_quiet (fail)
    go_wp2
    go_ret2
    exact ⟨rfl, HB.out.trans (same_below' _ nq)⟩
  · have Hs := Lib.hid hs
    clear h hs
    go_enter Tryz.func46, Tryz.ntmps46
    go_wp2_with fail
    refine (spread_bad n k w (E 1) HE.out.c1 Hs.out).mono ?_
    rintro e w1 ⟨rfl, q, rfl⟩
    go_wp2
    go_ret2
    exact ⟨rfl, same_below' _ q⟩
end Go.Proofs.YtolbdcmoblcakaaGreatDoor
/- Racks: holds and their models, many in one memory, each pair apart from all others. -/
namespace Go.Proofs.YtolbdcmoblcakaaGreatDoor
section
open Go.RowKit

/-- a place: no hold, or where the hold and its model lie, and what each has. -/
abbrev Slot := Option (Nat × Nat × List Kp × List Kp)
def ptrsH (sl : List Slot) : List (Option Addr) := sl.map fun s => s.map fun x => (⟨x.1, 0, none⟩ : Addr)
def ptrsM (sl : List Slot) : List (Option Addr) := sl.map fun s => s.map fun x => (⟨x.2.1, 0, none⟩ : Addr)
def consH (sl : List Slot) : List (Option (List Kp)) := sl.map fun s => s.map fun x => x.2.2.1
def consM (sl : List Slot) : List (Option (List Kp)) := sl.map fun s => s.map fun x => x.2.2.2
/-- a rack; no block of Z is one of its. -/
structure RackAt (Z : Nat → Prop) (w : World) (sl : List Slot) : Prop where
  hZ : ∀ b, Z b → b < w.heap.size
  ex : ∃ B : Nat → Nat → Prop, (∀ i b, B i b → b < w.heap.size ∧ ¬ Z b) ∧ (∀ i j b, i ≠ j → B i b → ¬ B j b) ∧
    ∀ i hb mb l1 l2, sl[i]? = some (some (hb, mb, l1, l2)) → Two (fun b => B i b ∨ w.heap.size ≤ b) w hb mb false l1 false l2 ∧ Fine l1 ∧ Fine l2
theorem RackAt.nil {Z : Nat → Prop} {w : World} (h : ∀ b, Z b → b < w.heap.size) : RackAt Z w [] := ⟨h, fun _ _ => False, fun _ _ h => h.elim, fun _ _ _ _ h => h.elim, fun i hb mb l1 l2 h => by simp at h⟩
theorem RackAt.lessZ {Z Z' : Nat → Prop} {w : World} {sl : List Slot} (h : RackAt Z w sl) (hz : ∀ b, Z' b → Z b) : RackAt Z' w sl := by
  obtain ⟨h1, B, h2, h3, h4⟩ := h
  exact ⟨fun b hb => h1 b (hz b hb), B, fun i b hb => ⟨(h2 i b hb).1, fun e => (h2 i b hb).2 (hz b e)⟩, h3, h4⟩
theorem Two.kept {P K : Nat → Prop} {w w' : World} {hb mb : Nat} {s1 s2 : Bool} {l1 l2 : List Kp} (h : Two P w hb mb s1 l1 s2 l2) (hk : KeptBut K w w') (hK : ∀ b, b < w.heap.size → P b → ¬ K b) : Two (fun b => (P b ∧ b < w.heap.size) ∨ w'.heap.size ≤ b) w' hb mb s1 l1 s2 l2 := by
  obtain ⟨F, G, ks, S, h1, h2, h3, h4, h5, hB⟩ := h
  exact ⟨F, G, ks, S, h1.kept hk (fun b hb hf => hK b hb (h4 b hf).1), h2.kept hk (fun b hb hf => hK b hb (h5 b hf).1), h3,
    fun b hb => ⟨.inl (h4 b hb), Nat.lt_of_lt_of_le (h4 b hb).2 hk.size⟩, fun b hb => ⟨.inl (h5 b hb), Nat.lt_of_lt_of_le (h5 b hb).2 hk.size⟩, fun b hb => .inr hb⟩
/-- blocks of Z turn, and new ones come: all new ones are of Z from now on. -/
theorem RackAt.turn {Z K : Nat → Prop} {w w' : World} {sl : List Slot} (h : RackAt Z w sl) (hk : KeptBut K w w') (hK : ∀ b, b < w.heap.size → K b → Z b) : RackAt (fun b => Z b ∨ (w.heap.size ≤ b ∧ b < w'.heap.size)) w' sl := by
  obtain ⟨h1, B, h2, h3, h4⟩ := h
  refine ⟨fun b hb => ?_, B, fun i b hb => ⟨Nat.lt_of_lt_of_le (h2 i b hb).1 hk.size, ?_⟩, h3, fun i hb mb l1 l2 hi => ?_⟩
  · rcases hb with hb | hb
    · exact Nat.lt_of_lt_of_le (h1 b hb) hk.size
    · exact hb.2
  · rintro (h9 | h9)
    · exact (h2 i b hb).2 h9
    · have := (h2 i b hb).1; omega
  · obtain ⟨t1, t2⟩ := h4 i hb mb l1 l2 hi
    refine ⟨(t1.kept hk (fun b hb hp hkb => ?_)).mono (fun b hp => ?_), t2⟩
    · rcases hp with hp | hp
      · exact (h2 i b hp).2 (hK b hb hkb)
      · omega
    · rcases hp with ⟨hp | hp, hlt⟩ | hp
      · exact .inl hp
      · omega
      · exact .inr hp
theorem RackAt.below {Z : Nat → Prop} {w w' : World} {sl : List Slot} (h : RackAt Z w sl) {n : Nat} (hk : Below n w w') (hn : w.heap.size ≤ n) : RackAt (fun b => Z b ∨ (w.heap.size ≤ b ∧ b < w'.heap.size)) w' sl :=
  h.turn (KeptBut.of_below (F := fun b => n ≤ b) hk (fun _ _ h => h)) (fun b hb h9 => by omega)
theorem RackAt.below' {Z : Nat → Prop} {w w' : World} {sl : List Slot} (h : RackAt Z w sl) {n : Nat} (hk : Below n w w') (hn : w.heap.size ≤ n) : RackAt Z w' sl := (h.below hk hn).lessZ fun _ h => .inl h
/-- an act on one pair. -/
theorem RackAt.act {Z : Nat → Prop} {w : World} {sl : List Slot} (h : RackAt Z w sl) {i hb mb : Nat} {l1 l2 : List Kp} (hi : sl[i]? = some (some (hb, mb, l1, l2))) :
    Fine l1 ∧ Fine l2 ∧ ∃ P : Nat → Prop, Two P w hb mb false l1 false l2 ∧ (∀ b, P b → ¬ Z b) ∧ ∀ w' l1' l2', Two P w' hb mb false l1' false l2' → KeptBut P w w' → Fine l1' → Fine l2' → RackAt Z w' (sl.set i (some (hb, mb, l1', l2'))) := by
  obtain ⟨h1, B, h2, h3, h4⟩ := h
  obtain ⟨t1, t2, t3⟩ := h4 i hb mb l1 l2 hi
  refine ⟨t2, t3, _, t1, fun b hp hz => ?_, fun w' l1' l2' ht hk f1 f2 => ?_⟩
  · rcases hp with hp | hp
    · exact (h2 i b hp).2 hz
    · have := h1 b hz; omega
  · refine ⟨fun b hb => Nat.lt_of_lt_of_le (h1 b hb) hk.size, fun j b => if j = i then (B i b ∨ w.heap.size ≤ b) ∧ b < w'.heap.size else B j b, fun j b hb => ?_, fun j k b hne hj => ?_, fun j hb' mb' m1 m2 hj => ?_⟩
    · by_cases e : j = i
      · simp only [e, if_true] at hb
        refine ⟨hb.2, fun hz => ?_⟩
        rcases hb.1 with hp | hp
        · exact (h2 i b hp).2 hz
        · have := h1 b hz; omega
      · simp only [e, if_false] at hb
        exact ⟨Nat.lt_of_lt_of_le (h2 j b hb).1 hk.size, (h2 j b hb).2⟩
    · by_cases e : j = i
      · have e2 : ¬ k = i := fun h9 => hne (by rw [e, h9])
        simp only [e, if_true] at hj
        simp only [e2, if_false]
        intro hkb
        rcases hj.1 with hp | hp
        · exact h3 i k b (fun h9 => e2 h9.symm) hp hkb
        · have := (h2 k b hkb).1; omega
      · simp only [e, if_false] at hj
        by_cases e2 : k = i
        · simp only [e2, if_true]
          rintro ⟨hp | hp, _⟩
          · exact h3 i j b (fun h9 => e h9.symm) hp hj
          · have := (h2 j b hj).1; omega
        · simp only [e2, if_false]
          exact h3 j k b hne hj
    · by_cases e : j = i
      · subst e
        have hlt : j < sl.length := by
          rcases Nat.lt_or_ge j sl.length with h9 | h9
          · exact h9
          · rw [List.getElem?_eq_none h9] at hi; cases hi
        rw [List.getElem?_set_self hlt] at hj
        simp only [Option.some.injEq, Prod.mk.injEq] at hj
        obtain ⟨rfl, rfl, rfl, rfl⟩ := hj
        simp only [if_true]
        refine ⟨?_, f1, f2⟩
        obtain ⟨F, G, ks, S, q1, q2, q3, q4, q5, qB⟩ := ht
        exact ⟨F, G, ks, S, q1, q2, q3, fun b hb => ⟨.inl (q4 b hb), (q4 b hb).2⟩, fun b hb => ⟨.inl (q5 b hb), (q5 b hb).2⟩, fun b hb => .inr hb⟩
      · rw [List.getElem?_set_ne (fun h9 => e h9.symm)] at hj
        obtain ⟨u1, u2⟩ := h4 j hb' mb' m1 m2 hj
        simp only [e, if_false]
        refine ⟨(u1.kept hk (fun b hb hp hkb => ?_)).mono (fun b hp => ?_), u2⟩
        · rcases hp with hp | hp
          · rcases hkb with h9 | h9
            · exact h3 j i b e hp h9
            · omega
          · omega
        · rcases hp with ⟨hp | hp, hlt⟩ | hp
          · exact .inl hp
          · omega
          · exact .inr hp
theorem RackAt.pushNone {Z : Nat → Prop} {w : World} {sl : List Slot} (h : RackAt Z w sl) : RackAt Z w (sl ++ [none]) := by
  obtain ⟨h1, B, h2, h3, h4⟩ := h
  refine ⟨h1, B, h2, h3, fun i hb mb l1 l2 hi => h4 i hb mb l1 l2 ?_⟩
  rcases Nat.lt_or_ge i sl.length with h9 | h9
  · rwa [List.getElem?_append_left h9] at hi
  · rw [List.getElem?_append_right h9] at hi
    rcases Nat.eq_zero_or_pos (i - sl.length) with h8 | h8
    · rw [h8] at hi; simp at hi
    · rw [List.getElem?_eq_none (by simp; omega)] at hi; cases hi
/-- a pair more, both of which are new and empty. -/
theorem RackAt.push {Z : Nat → Prop} {w w' : World} {sl : List Slot} {hb mb : Nat} (h : RackAt Z w sl) (hk : Below w.heap.size w w') (ht : Two (fun b => w.heap.size ≤ b) w' hb mb false [] false []) : RackAt Z w' (sl ++ [some (hb, mb, [], [])]) := by
  obtain ⟨h1, B, h2, h3, h4⟩ := h
  refine ⟨fun b hb => Nat.lt_of_lt_of_le (h1 b hb) hk.size, fun j b => if j = sl.length then w.heap.size ≤ b ∧ b < w'.heap.size else if j < sl.length then B j b else False, fun j b hb => ?_, fun j k b hne hj hkb => ?_, fun j hb' mb' m1 m2 hj => ?_⟩
  · by_cases e : j = sl.length
    · simp only [e, if_true] at hb
      exact ⟨hb.2, fun hz => by have := h1 b hz; omega⟩
    · simp only [e, if_false] at hb
      split at hb
      · exact ⟨Nat.lt_of_lt_of_le (h2 j b hb).1 hk.size, (h2 j b hb).2⟩
      · exact hb.elim
  · by_cases e : j = sl.length
    · have e2 : ¬ k = sl.length := fun h9 => hne (by rw [e, h9])
      simp only [e, if_true] at hj
      simp only [e2, if_false] at hkb
      split at hkb
      · have := (h2 k b hkb).1; omega
      · exact hkb
    · simp only [e, if_false] at hj
      split at hj
      · by_cases e2 : k = sl.length
        · simp only [e2, if_true] at hkb
          have := (h2 j b hj).1; omega
        · simp only [e2, if_false] at hkb
          split at hkb
          · exact h3 j k b hne hj hkb
          · exact hkb
      · exact hj
  · rcases Nat.lt_or_ge j sl.length with h9 | h9
    · rw [List.getElem?_append_left h9] at hj
      obtain ⟨u1, u2⟩ := h4 j hb' mb' m1 m2 hj
      have e : ¬ j = sl.length := by omega
      simp only [e, if_false, h9, if_true]
      refine ⟨((u1.kept (KeptBut.of_below (F := fun b => w.heap.size ≤ b) hk (fun _ _ h => h)) (fun b hb hp hkb => ?_))).mono (fun b hp => ?_), u2⟩
      · omega
      · rcases hp with ⟨hp | hp, hlt⟩ | hp
        · exact .inl hp
        · omega
        · exact .inr hp
    · rw [List.getElem?_append_right h9] at hj
      have h8 : j = sl.length := by
        rcases Nat.eq_zero_or_pos (j - sl.length) with h8 | h8
        · omega
        · rw [List.getElem?_eq_none (by simp; omega)] at hj; cases hj
      subst h8
      simp at hj
      obtain ⟨rfl, rfl, rfl, rfl⟩ := hj
      simp only [if_true]
      refine ⟨?_, Fine.nil, Fine.nil⟩
      obtain ⟨F, G, ks, S, q1, q2, q3, q4, q5, qB⟩ := ht
      exact ⟨F, G, ks, S, q1, q2, q3, fun b hb => ⟨.inl (q4 b hb), (q4 b hb).2⟩, fun b hb => ⟨.inl (q5 b hb), (q5 b hb).2⟩, fun b hb => .inr hb⟩
/-- a hold and a model, just made. -/
theorem two_new {w' : World} {n hb mb : Nat} (hh : w'.heap[hb]? = some (.cells #[.map none, .bool false] 68 (0, 0))) (hm : w'.heap[mb]? = some (.cells #[.slice none 0 0, .bool false] 75 (0, 0))) (h1 : n ≤ hb) (h2 : n ≤ mb) (hne : hb ≠ mb) (hn : n ≤ w'.heap.size) : Two (fun b => n ≤ b) w' hb mb false [] false [] := by
  have c0 : w'.cell? ⟨hb, 0, none⟩ = some (.map none) := cell_of_heap hh 0
  have c1 : w'.cell? ⟨hb, 1, none⟩ = some (.bool false) := cell_of_heap hh 1
  have d0 : w'.cell? ⟨mb, 0, none⟩ = some (.slice none 0 0) := cell_of_heap hm 0
  have d1 : w'.cell? ⟨mb, 1, none⟩ = some (.bool false) := cell_of_heap hm 1
  refine ⟨fun b => b = hb, fun b => b = mb, [], fun _ => .slice none 0 0, ?_, ?_, fun b e1 e2 => hne (e1.symm.trans e2), fun b e => ?_, fun b e => ?_, fun b e => by omega⟩
  · rw [getL_nil]
    exact HoldAt.empty rfl c0 c1 (frozen_of_heap hh 0) (frozen_of_heap hh 1)
  · exact ⟨rfl, lt_of_cell d0, d1, frozen_of_heap hm 0, frozen_of_heap hm 1, none, 0, d0, Nat.le_refl _, by simp [maxLen], fun _ => rfl, fun x e => (by cases e), .inl rfl⟩
  · subst e; exact ⟨h1, lt_of_cell c0⟩
  · subst e; exact ⟨h2, lt_of_cell d0⟩
theorem RackAt.hold {Z : Nat → Prop} {w : World} {sl : List Slot} (h : RackAt Z w sl) {i hb mb : Nat} {l1 l2 : List Kp} (hi : sl[i]? = some (some (hb, mb, l1, l2))) : Fine l1 ∧ ∃ F ks S, HoldAt F w hb false (getL l1) ks S := by
  obtain ⟨f1, _, P, ⟨F, G, ks, S, h1, _⟩, _⟩ := h.act hi
  exact ⟨f1, F, ks, S, h1⟩
theorem RackAt.model {Z : Nat → Prop} {w : World} {sl : List Slot} (h : RackAt Z w sl) {i hb mb : Nat} {l1 l2 : List Kp} (hi : sl[i]? = some (some (hb, mb, l1, l2))) : Fine l2 ∧ ∃ G, MHAt G w mb false l2 := by
  obtain ⟨_, f2, P, ⟨F, G, ks, S, _, h2, _⟩, _⟩ := h.act hi
  exact ⟨f2, G, h2⟩
theorem ptrsH_set {sl : List Slot} {i hb mb : Nat} {l1 l2 m1 m2 : List Kp} (hi : sl[i]? = some (some (hb, mb, l1, l2))) : ptrsH (sl.set i (some (hb, mb, m1, m2))) = ptrsH sl := by
  unfold ptrsH
  rw [List.map_set]
  refine List.ext_getElem? fun j => ?_
  rw [List.getElem?_set]
  split
  · rename_i e; subst e
    rw [List.getElem?_map, hi]
    split
    · rfl
    · rename_i h9
      simp at h9
      rw [List.getElem?_eq_none h9] at hi; cases hi
  · rfl
theorem ptrsM_set {sl : List Slot} {i hb mb : Nat} {l1 l2 m1 m2 : List Kp} (hi : sl[i]? = some (some (hb, mb, l1, l2))) : ptrsM (sl.set i (some (hb, mb, m1, m2))) = ptrsM sl := by
  unfold ptrsM
  rw [List.map_set]
  refine List.ext_getElem? fun j => ?_
  rw [List.getElem?_set]
  split
  · rename_i e; subst e
    rw [List.getElem?_map, hi]
    split
    · rfl
    · rename_i h9
      simp at h9
      rw [List.getElem?_eq_none h9] at hi; cases hi
  · rfl
theorem set_same {α : Type} {l : List α} {i : Nat} {x : α} (h : l[i]? = some x) : l.set i x = l := by
  refine List.ext_getElem? fun j => ?_
  rw [List.getElem?_set]
  split
  · rename_i e; subst e
    split
    · exact h.symm
    · rename_i h9
      rw [List.getElem?_eq_none (by omega)] at h; cases h
  · rfl
theorem consH_set {sl : List Slot} {i hb mb : Nat} {m1 m2 : List Kp} : consH (sl.set i (some (hb, mb, m1, m2))) = (consH sl).set i (some m1) := by
  unfold consH; rw [List.map_set]; rfl
theorem consM_set {sl : List Slot} {i hb mb : Nat} {m1 m2 : List Kp} : consM (sl.set i (some (hb, mb, m1, m2))) = (consM sl).set i (some m2) := by
  unfold consM; rw [List.map_set]; rfl
theorem consH_at {sl : List Slot} {i hb mb : Nat} {m1 m2 : List Kp} (h : sl[i]? = some (some (hb, mb, m1, m2))) : (consH sl)[i]? = some (some m1) := by
  unfold consH; rw [List.getElem?_map, h]; rfl
theorem consM_at {sl : List Slot} {i hb mb : Nat} {m1 m2 : List Kp} (h : sl[i]? = some (some (hb, mb, m1, m2))) : (consM sl)[i]? = some (some m2) := by
  unfold consM; rw [List.getElem?_map, h]; rfl
/-- what is told by each: nothing where there is no hold. -/
def conT (key : ByteArray) : Option (List Kp) → List Ver
  | none => []
  | some l => getL l key
def toldC (key : ByteArray) (cs : List (Option (List Kp))) : List (List Ver) := cs.map (conT key)
/-- what each must have. -/
def mustL (n k : Nat) (t : Int × Int) (s : ByteArray) : List Ver := (encL n k s).map fun x => (t.1, t.2, (s.size : Int), x.1, x.2)
/-- is it one of them? -/
def inV (x : Ver) (l : List Ver) : Bool := l.any fun y => decide (y = x)
theorem inV_iff {x : Ver} {l : List Ver} : inV x l = true ↔ x ∈ l := by
  unfold inV
  rw [List.any_eq_true]
  constructor
  · rintro ⟨y, hy, e⟩
    rw [decide_eq_true_eq] at e
    exact e ▸ hy
  · intro h
    exact ⟨x, h, decide_eq_true rfl⟩
/-- who lacks it. -/
def lackL (must : List Ver) (told : List (List Ver)) : List Nat := (List.range must.length).filter fun i => !inV (must[i]?.getD ver0) (told[i]?.getD [])
/-- those are mended, one after the other: what each has then, an error's number, how many. -/
def mendF (key : ByteArray) (must : List Ver) : List Nat → List (Option (List Kp)) → Nat → List (Option (List Kp)) × Int × Nat
  | [], cs, d => (cs, 0, d)
  | i :: r, cs, d => match cs[i]?.getD none with
    | none => mendF key must r cs d
    | some l => if putM (errM false l key (must[i]?.getD ver0)) = 0 then mendF key must r (cs.set i (some (afterP false l key (must[i]?.getD ver0)))) (d + 1) else (cs, putM (errM false l key (must[i]?.getD ver0)), d)
end
end Go.Proofs.YtolbdcmoblcakaaGreatDoor
/- The walk of the laws' single. -/
namespace Go.Proofs.YtolbdcmoblcakaaGreatDoor
open Go.RowKit

/-- shards of the call's own that are some: where they lie. -/
theorem OwnS.at_ {B : Nat} {w : World} {v : Value} {l : List Sh} (h : OwnS B w v l) (hl : 0 < l.length) : ∃ g cap, v = .slice (some ⟨g, 0, none⟩) l.length cap ∧ B ≤ g ∧ g < w.heap.size ∧ l.length ≤ cap ∧
    ∀ i, i < l.length → w.cell? ⟨g, i * 2, none⟩ = some (.int .i64 (l[i]?.getD (0, ⟨#[]⟩)).1) ∧ w.cell? ⟨g, i * 2 + 1, none⟩ = some (.string (l[i]?.getD (0, ⟨#[]⟩)).2) := by
  rcases h.2 with ⟨rfl, hn⟩ | ⟨g, cap, cur, rfl, hb, hg, hc, hm, hs, ht⟩
  · omega
  · have hh : w.ownsRow B 56 2 (.slice (some ⟨g, 0, none⟩) l.length cap) l.length (shV l) := ⟨h.1, .inr ⟨g, cap, cur, rfl, hb, hg, hc, hm, hs, ht⟩⟩
    refine ⟨g, cap, rfl, hb, (Array.getElem?_eq_some_iff.1 hg).1, hc, fun i hi => ?_⟩
    have h1 := shV_at l i hi
    have hlen := shV_length l
    exact ⟨(hh.cellAt (i * 2) (by omega)).trans h1.1, (hh.cellAt (i * 2 + 1) (by omega)).trans h1.2⟩
theorem encL_at (n k : Nat) (s : ByteArray) {i : Nat} (hi : i < n) : (encL n k s)[i]?.getD (0, ⟨#[]⟩) = ((i : Int), encT k s i) := by simp [encL, hi]
theorem enc_ab : encT 1 ⟨#[97, 98]⟩ 0 = ⟨#[97, 98]⟩ := by kernel_rfl

end Go.Proofs.YtolbdcmoblcakaaGreatDoor
/- The walk of coder.look: the first k shards that are unlike. -/
namespace Go.Proofs.YtolbdcmoblcakaaGreatDoor
open Go.RowKit

/-- one more is looked at. -/
def stepS (k : Nat) (out : List Sh) (s : Sh) : List Sh := if out.length < k ∧ out.any (fun x => decide (x.1 = s.1)) = false then out ++ [s] else out
/-- the first k that are unlike. -/
def pickS (k : Nat) (l : List Sh) : List Sh := l.foldl (stepS k) []
theorem pickS_snoc (k : Nat) (l : List Sh) (s : Sh) : pickS k (l ++ [s]) = stepS k (pickS k l) s := by simp [pickS]
/-- can a shard be one of them? -/
def GoodS (n W : Nat) (s : Sh) : Prop := 0 ≤ s.1 ∧ s.1 < n ∧ s.2.size = W

set_option maxRecDepth 100000 in
theorem look1_walk (x1 : Int) (x2 : ByteArray) (b : Nat) (s1 : Int) (w : World) (hb : w.cell? ⟨b, 0, none⟩ = some (.int .i64 s1)) :
    Calls Tryz.prog 112 #[.agg #[.int .i64 x1, .string x2], .pointer (some ⟨b, 0, none⟩)] w fun e w' => e = .returned (.bool (decide (x1 = s1))) ∧ Below w.heap.size w w' := by
  have hb2 : (w.alloc (.cells #[.int .i64 x1, .string x2] 56)).cell? ⟨b, 0, none⟩ = some (.int .i64 s1) := ((Below.refl _ w).alloc (Nat.le_refl _) _).cell (lt_of_cell hb) ▸ hb
  by_cases h : x1 = s1
  · subst h
    go_enter Tryz.func112, Tryz.ntmps112
    go_wp2
    go_ret
    exact ⟨by simp, (Below.refl _ w).alloc (Nat.le_refl _) _⟩
  · have h0 : (x1 == s1) = false := by simp [h]
    go_enter Tryz.func112, Tryz.ntmps112
    go_wp2
    go_ret
    exact ⟨by simp [h], (Below.refl _ w).alloc (Nat.le_refl _) _⟩
set_option maxRecDepth 100000 in
set_option maxHeartbeats 2000000 in
theorem lookI_walk (n₀ : Nat) (a : Option Addr) (cap b : Nat) (out : List Sh) (s1 : Int) (w : World) (hl : out.length ≤ maxLen) (hn : n₀ ≤ w.heap.size) (hI : ShR n₀ w a out) (hb : w.cell? ⟨b, 0, none⟩ = some (.int .i64 s1)) :
    Calls Tryz.prog 111 #[.slice a out.length cap, .func (.func 112) #[] #[.pointer (some ⟨b, 0, none⟩)]] w
      fun e w' => (((∀ x ∈ out, x.1 ≠ s1) ∧ e = .returned (.int .i64 (-1))) ∨ (∃ k : Nat, (∃ x ∈ out, x.1 = s1) ∧ e = .returned (.int .i64 k))) ∧ Below w.heap.size w w' := by
  obtain ⟨m, hm⟩ : ∃ m, out.length = m := ⟨_, rfl⟩
  have hm' : m ≤ 9223372036854775807 := by rw [← hm]; exact hl
  have Hm := Lib.hid hm
  have HI := Lib.hid hI
  have Hb := Lib.hid hb
  rw [hm]
  clear hm hI hl hb
  go_enter Tryz.func111, Tryz.ntmps111
  go_wp2
  go_loopw [8] (fun vi wr => ∃ k : Nat, k ≤ m ∧ vi = .int .i64 k ∧ Hid ((∀ j, j < k → (out[j]?.getD (0, ⟨#[]⟩)).1 ≠ s1) ∧ Below w.heap.size w wr)) (fun i _ => m - (intOf i).toNat)
  case atStart => exact ⟨0, by omega, rfl, Lib.hid ⟨fun j hj => by omega, Below.refl _ _⟩⟩
  case round =>
    obtain ⟨k, hk, rfl, H⟩ := hrel
    have hk2 : k < m ∨ k = m := by omega
    rcases hk2 with hlt | hkm
    · have hlt2 : (k : Int) < m := by omega
      rcases (HI.out.mono hn).below H.out.2 with he | ⟨g, off, rfl, hg, hc⟩
      · exfalso
        have := Hm.out
        rw [he] at this
        simp at this; omega
      obtain ⟨h1, h2⟩ := hc k (by have := Hm.out; omega)
      clear hc
      obtain ⟨x, hx⟩ : ∃ x, out[k]?.getD (0, ⟨#[]⟩) = x := ⟨_, rfl⟩
      rw [hx] at h1 h2
      have Hx := Lib.hid hx
      clear hx
      obtain ⟨x1, x2⟩ := x
      have Hp := Lib.hid (look1_walk x1 x2 b s1 wr ((H.out.2.cell (lt_of_cell Hb.out)).trans Hb.out))
      by_cases he : x1 = s1
      · have e1 : decide (x1 = s1) = true := by simp [he]
        rw [e1] at Hp
        have He := Lib.hid he
        clear he e1
        go_wp2_with fail
        refine Hp.out.mono ?_
        rintro e w' ⟨rfl, hb2⟩
        have HB := Lib.hid (H.out.2.trans (hb2.mono H.out.2.size))
        clear hb2
        go_wp2
        go_ret
        refine ⟨.inr ⟨k, ⟨(x1, x2), ?_, He.out⟩, rfl⟩, HB.out⟩
        have hkl : k < out.length := by have := Hm.out; omega
        have := Hx.out
        rw [List.getElem?_eq_getElem hkl] at this
        simp at this
        rw [← this]; exact List.getElem_mem hkl
      · have e1 : decide (x1 = s1) = false := by simp [he]
        rw [e1] at Hp
        have He := Lib.hid he
        clear he e1
        go_wp2_with fail
        refine Hp.out.mono ?_
        rintro e w' ⟨rfl, hb2⟩
        have HB := Lib.hid (H.out.2.trans (hb2.mono H.out.2.size))
        clear hb2
        go_wp2
        go_roundw
        case rel => exact ⟨k + 1, by omega, by go_num, Lib.hid ⟨fun j hj => by
          by_cases e : j = k
          · rw [e, Hx.out]; exact He.out
          · exact H.out.1 j (by omega), HB.out⟩⟩
        case measure => simp [intOf]; omega
    · subst hkm
      go_wp2
      go_ret
      refine ⟨.inl ⟨fun x hx => ?_, rfl⟩, H.out.2⟩
      obtain ⟨j, hj, rfl⟩ := List.getElem_of_mem hx
      have := H.out.1 j (by have := Hm.out; omega)
      rw [List.getElem?_eq_getElem hj] at this
      exact this
set_option maxRecDepth 100000 in
theorem lookC_walk (n₀ : Nat) (a : Option Addr) (cap b : Nat) (out : List Sh) (s1 : Int) (w : World) (hl : out.length ≤ maxLen) (hn : n₀ ≤ w.heap.size) (hI : ShR n₀ w a out) (hb : w.cell? ⟨b, 0, none⟩ = some (.int .i64 s1)) :
    Calls Tryz.prog 92 #[.slice a out.length cap, .func (.func 112) #[] #[.pointer (some ⟨b, 0, none⟩)]] w
      fun e w' => e = .returned (.bool (out.any (fun x => decide (x.1 = s1)))) ∧ Below w.heap.size w w' := by
  have H := Lib.hid (lookI_walk n₀ a cap b out s1 w hl hn hI hb)
  clear hI hb hl
  obtain ⟨r, hr⟩ : ∃ r, out.any (fun x => decide (x.1 = s1)) = r := ⟨_, rfl⟩
  have Hr := Lib.hid hr
  rw [hr]
  clear hr
  go_enter Tryz.func92, Tryz.ntmps92
  go_wp2_with fail
  refine H.out.mono ?_
  rintro e w' ⟨hres, hb⟩
  have HB := Lib.hid hb
  clear hb
  rcases hres with ⟨hz, rfl⟩ | ⟨k, hx, rfl⟩
  · have hrf : r = false := by
      rw [← Hr.out, List.any_eq_false]
      intro x hx
      simpa using hz x hx
    subst hrf
    clear hz
    go_wp2
    go_ret
    exact ⟨rfl, HB.out⟩
  · have hrt : r = true := by
      rw [← Hr.out, List.any_eq_true]
      obtain ⟨x, h1, h2⟩ := hx
      exact ⟨x, h1, by simpa using h2⟩
    subst hrt
    have hk0 : (0 : Int) ≤ (k : Int) := by omega
    clear hx
    go_wp2
    go_ret
    exact ⟨by simp, HB.out⟩
end Go.Proofs.YtolbdcmoblcakaaGreatDoor
