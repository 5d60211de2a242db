/- The walk of the law CoderWrong. -/
import Derived.Test.YtfojimaafhpgbaaDoorCodJ
import Derived.Test.YtfojimaafhpgbaaDoorEnv
namespace Go.Proofs.YtfojimaafhpgbaaDoor
open Go.RowKit

namespace coderWrong
/-- an object's shards, of which one has another text. -/
def wrongL (n k : Nat) (s : ByteArray) (a : Nat) (T : ByteArray) : List Sh := (encL n k s).set a ((a : Int), T)
theorem wrongL_length (n k : Nat) (s : ByteArray) (a : Nat) (T : ByteArray) : (wrongL n k s a T).length = n := by simp [wrongL, encL]
theorem wrongL_get {n k : Nat} {s : ByteArray} {a : Nat} {T : ByteArray} {i : Nat} (hi : i < n) : (wrongL n k s a T)[i]? = some ((i : Int), if i = a then T else encT k s i) := by
  unfold wrongL
  rw [List.getElem?_set]
  by_cases e : a = i
  · subst e
    simp [encL, hi]
  · simp [encL, hi, e, Ne.symm e]
theorem wrongL_mem {n k : Nat} {s : ByteArray} {a : Nat} {T : ByteArray} {x : Sh} (hx : x ∈ wrongL n k s a T) : ∃ i, i < n ∧ x = ((i : Int), if i = a then T else encT k s i) := by
  obtain ⟨i, hi, rfl⟩ := List.getElem_of_mem hx
  have hin : i < n := by rwa [wrongL_length] at hi
  have := wrongL_get (k := k) (s := s) (a := a) (T := T) hin
  rw [List.getElem?_eq_getElem hi] at this
  exact ⟨i, hin, Option.some.inj this⟩
theorem wrong_good {n k : Nat} {s : ByteArray} {a : Nat} {T : ByteArray} (hT : T.size = wideN k s.size) : ∀ x ∈ wrongL n k s a T, GoodS n (wideN k s.size) x := fun x hx => by
  obtain ⟨i, hi, rfl⟩ := wrongL_mem hx
  refine ⟨by simp, by simpa using hi, ?_⟩
  by_cases e : i = a
  · rw [if_pos e]; exact hT
  · rw [if_neg e]; exact encT_size _ _ _
theorem wrong_pick {n k : Nat} {s : ByteArray} {a : Nat} {T : ByteArray} (hkn : k ≤ n) : (pickS k (wrongL n k s a T)).length = k := by
  have hu : UnlikeS (wrongL n k s a T) := by
    unfold UnlikeS
    rw [List.pairwise_iff_getElem]
    intro i j hi hj hij
    have h1 := wrongL_get (k := k) (s := s) (a := a) (T := T) (show i < n by rwa [wrongL_length] at hi)
    have h2 := wrongL_get (k := k) (s := s) (a := a) (T := T) (show j < n by rwa [wrongL_length] at hj)
    rw [List.getElem?_eq_getElem hi] at h1
    rw [List.getElem?_eq_getElem hj] at h2
    rw [Option.some.inj h1, Option.some.inj h2]
    show (i : Int) ≠ j
    omega
  rw [pickS_all hu, List.length_take, wrongL_length]
  omega
theorem wrong_differs {n k : Nat} {s : ByteArray} {a : Nat} {T : ByteArray} (hk : 1 ≤ k) (hkn : k < n) (hn : n ≤ 12) (ha : a < n) (hT : T ≠ encT k s a) {t : ByteArray} (ht : t.size = s.size) : agreeB (wrongL n k s a T) (encT k t) = false := by
  cases h : agreeB (wrongL n k s a T) (encT k t) with
  | false => rfl
  | true =>
    unfold agreeB at h
    rw [List.all_eq_true] at h
    have hall : ∀ i, i < n → encT k t i = if i = a then T else encT k s i := fun i hi => by
      have := h _ (List.mem_of_getElem? (wrongL_get (k := k) (s := s) (a := a) (T := T) hi))
      simpa using this
    have e : t = s := tells hk (by omega) ht (skipL_length k a) (fun x hx => by have := (skipL_mem hx).2; omega) (skipL_unlike k a) (fun x hx => by
      have h1 := skipL_mem hx
      rw [hall x (by omega), if_neg h1.1])
    rw [e] at hall
    have := hall a ha
    rw [if_pos rfl] at this
    exact absurd this.symm hT

set_option maxRecDepth 100000 in
set_option maxHeartbeats 2000000 in
theorem walk_out (n k : Int) (s : ByteArray) (a p b : Int) (w : World) (E : Nat → Addr) (hE : ErrEz w E) (h : ¬ (1 ≤ k ∧ k < n ∧ n ≤ 12 ∧ 1 ≤ s.size ∧ s.size ≤ 100 ∧ 0 ≤ a ∧ a < n ∧ b ≠ 0)) :
    Calls Tryd.prog 17 #[.int .i64 n, .int .i64 k, .string s, .int .i64 a, .int .i64 p, .int .u8 b] w fun e w' => e = .returned (.bool true) ∧ Below w.heap.size w w' := by
  have Hu := Lib.hid (single_walk w E hE)
  clear hE
  by_cases h1 : k < 1
  · clear h
    go_enter Tryd.func17, Tryd.ntmps17
    go_wp2_with fail
    refine Hu.out.mono ?_
    rintro e w1 ⟨rfl, hb⟩
    go_wp2
    go_ret
    exact ⟨rfl, hb⟩
  by_cases h2 : n ≤ k
  · clear h
    go_enter Tryd.func17, Tryd.ntmps17
    go_wp2_with fail
    refine Hu.out.mono ?_
    rintro e w1 ⟨rfl, hb⟩
    go_wp2
    go_ret
    exact ⟨rfl, hb⟩
  by_cases h3 : 12 < n
  · clear h
    go_enter Tryd.func17, Tryd.ntmps17
    go_wp2_with fail
    refine Hu.out.mono ?_
    rintro e w1 ⟨rfl, hb⟩
    go_wp2
    go_ret
    exact ⟨rfl, hb⟩
  by_cases h4 : (s.size : Int) < 1
  · clear h
    go_enter Tryd.func17, Tryd.ntmps17
    go_wp2_with fail
    refine Hu.out.mono ?_
    rintro e w1 ⟨rfl, hb⟩
    go_wp2
    go_ret
    exact ⟨rfl, hb⟩
  by_cases h5 : (100 : Int) < s.size
  · clear h
    go_enter Tryd.func17, Tryd.ntmps17
    go_wp2_with fail
    refine Hu.out.mono ?_
    rintro e w1 ⟨rfl, hb⟩
    go_wp2
    go_ret
    exact ⟨rfl, hb⟩
  by_cases h6 : a < 0
  · clear h
    go_enter Tryd.func17, Tryd.ntmps17
    go_wp2_with fail
    refine Hu.out.mono ?_
    rintro e w1 ⟨rfl, hb⟩
    go_wp2
    go_ret
    exact ⟨rfl, hb⟩
  by_cases h7 : n ≤ a
  · clear h
    go_enter Tryd.func17, Tryd.ntmps17
    go_wp2_with fail
    refine Hu.out.mono ?_
    rintro e w1 ⟨rfl, hb⟩
    go_wp2
    go_ret
    exact ⟨rfl, hb⟩
  have h8 : b = 0 := by omega
  subst h8
  clear h
  go_enter Tryd.func17, Tryd.ntmps17
  go_wp2_with fail
  refine Hu.out.mono ?_
  rintro e w1 ⟨rfl, hb⟩
  go_wp2
  go_ret
  exact ⟨rfl, hb⟩

set_option maxRecDepth 100000 in
set_option maxHeartbeats 8000000 in
theorem walk_in (n k : Nat) (s : ByteArray) (a : Nat) (p : Int) (b : Nat) (w : World) (E : Nat → Addr) (hE : ErrEf w E) (hk : 1 ≤ k) (hkn : k < n) (hn : n ≤ 12) (hs1 : 1 ≤ s.size) (hs2 : s.size ≤ 100) (ha : a < n) (hb0 : b ≠ 0) (hb : b < 256) :
    Calls Tryd.prog 17 #[.int .i64 n, .int .i64 k, .string s, .int .i64 a, .int .i64 p, .int .u8 b] w fun e w' => e = .returned (.bool true) ∧ Below w.heap.size w w' := by
  have Hu := Lib.hid (single_walk w E hE.ez)
  have HE := Lib.hid hE
  clear hE
  obtain ⟨len, hlen⟩ : ∃ len, s.size = len := ⟨_, rfl⟩
  have Hlen := Lib.hid hlen
  rw [hlen] at hs1 hs2
  have hbi : ((b : Int) == 0) = false := by simp; omega
  have g1 : ¬ (k : Int) < 1 := by omega
  have g2 : ¬ (n : Int) ≤ k := by omega
  have g2d : decide (n ≤ k) = false := by simp; omega
  have g3 : ¬ (12 : Int) < n := by omega
  have g4 : ¬ (100 : Int) < len := by omega
  have g5 : ¬ (len : Int) < 1 := by omega
  have g6 : ¬ (a : Int) < 0 := by omega
  have g7 : ¬ (n : Int) ≤ a := by omega
  have g7d : decide (n ≤ a) = false := by simp; omega
  go_enter Tryd.func17, Tryd.ntmps17
  go_wp2_with fail
  refine Hu.out.mono ?_
  rintro e w1 ⟨rfl, hb1⟩
  have H1 := Lib.hid hb1
  clear hb1
  go_wp2_with fail
  refine (encode_walk n k s w1 E (HE.out.below H1.out (Nat.le_refl _)).ez hk (by omega) hn (by have := Hlen.out; omega)).mono ?_
  rintro e w2 ⟨⟨v, rfl, hv⟩, hb2⟩
  obtain ⟨g, c, hve, hg1, hg2, _, hc⟩ := hv.at_ (by rw [encL_length]; omega)
  rw [encL_length] at hve hc
  rw [hve] at hv
  have hv' : w2.ownsRow w1.heap.size 85 2 (.slice (some ⟨g, 0, none⟩) n c) (encL n k s).length (shV (encL n k s)) := hv
  rw [encL_length] at hv'
  have hfz := fun j => World.ownsRow.frozenAt hv' j
  have H2 := Lib.hid (And.intro (H1.out.trans (hb2.mono H1.out.size)) (And.intro hc (And.intro hg1 (And.intro hg2 hfz))))
  have htx := (hc a ha).2
  have htf := hfz (a * 2 + 1)
  rw [encL_at _ _ _ ha] at htx
  have hTs := encT_size k s a
  obtain ⟨T, hT⟩ : ∃ T, encT k s a = T := ⟨_, rfl⟩
  rw [hT] at htx hTs
  have HT := Lib.hid (And.intro hT hTs)
  rw [hve]
  have hcv := run_bytes_of_string (P := Tryd.prog) w2 9 28 5 T Tryd.underlying9 Tryd.underlying28 Tryd.underlying5
  obtain ⟨w3, hw3⟩ : ∃ w3, w3 = (w2.drew.alloc (.cells (bytesRow T (grownCap w2 T.size 0 5)) 5 ((bytesRow T (grownCap w2 T.size 0 5)).size, (bytesRow T (grownCap w2 T.size 0 5)).size + 1))) := ⟨_, rfl⟩
  rw [← hw3] at hcv
  have hc3 : ∀ j, j < T.size → w3.cell? ⟨w2.heap.size, j, none⟩ = some (.int .u8 ((sb T j : Nat) : Int)) := by
    intro j hj
    have hj' : j < T.data.size := hj
    rw [hw3]
    have := World.cell?_alloc_mark w2.drew (bytesRow T (grownCap w2 T.size 0 5)) 5 ((bytesRow T (grownCap w2 T.size 0 5)).size, (bytesRow T (grownCap w2 T.size 0 5)).size + 1) j
    rw [show w2.drew.heap.size = w2.heap.size from rfl] at this
    rw [this, bytesRow_at _ _ _ hj', sb_get T j hj]
    rfl
  have hf3 : ∀ j, j < T.size → w3.frozen? ⟨w2.heap.size, j, none⟩ = false := by
    intro j hj
    rw [hw3]
    have := World.frozen?_alloc_mark w2.drew (bytesRow T (grownCap w2 T.size 0 5)) 5 (bytesRow T (grownCap w2 T.size 0 5)).size ((bytesRow T (grownCap w2 T.size 0 5)).size + 1) j
    rw [show w2.drew.heap.size = w2.heap.size from rfl] at this
    rw [this]
    have hj' : j < T.data.size := hj
    have : T.data.size ≤ (bytesRow T (grownCap w2 T.size 0 5)).size := by unfold bytesRow; simp
    simp
    omega
  have hb23 : Below w2.heap.size w2 w3 := hw3 ▸ ((Below.refl _ w2).drew).alloc (Nat.le_refl _) _
  obtain ⟨d, hd⟩ : ∃ d, w2.heap.size = d := ⟨_, rfl⟩
  generalize grownCap w2 T.size 0 5 = cap at hcv
  have Hd := Lib.hid hd
  have H3 := Lib.hid (And.intro hc3 (And.intro hf3 hb23))
  rw [hd] at hcv
  clear hw3 hv hv' hve hg1 hg2 hc hfz hb2 hT hTs hc3 hf3 hb23 hd
  by_cases hp : 0 ≤ p ∧ p < T.size
  · obtain ⟨hp0, hp1⟩ := hp
    obtain ⟨p, rfl⟩ := Int.eq_ofNat_of_zero_le hp0
    have hp2 : p < T.size := by omega
    have hx := H3.out.1 p hp2
    have hxf := H3.out.2.1 p hp2
    rw [Hd.out] at hx hxf
    obtain ⟨f, hfd⟩ : ∃ f : Nat → Nat, f = fun j => if j = p then sb T j ^^^ b else sb T j := ⟨_, rfl⟩
    have hf : ∀ j, f j < 256 := fun j => by
      rw [hfd]
      show (if j = p then _ else _) < 256
      split
      · exact Gf.xor_lt (sb_lt _ _) hb
      · exact sb_lt _ _
    have hxr : bits .xor .u8 ((sb T p : Nat) : Int) (b : Int) = ((f p : Nat) : Int) := by
      rw [u8_xor_nat _ _ (sb_lt _ _) hb, hfd]
      show _ = ((if p = p then sb T p ^^^ b else sb T p : Nat) : Int)
      rw [if_pos rfl]
    have hgd : g < d := by have := H2.out.2.2.2.1; have := Hd.out; omega
    have hdg : d ≠ g := by omega
    obtain ⟨X, hX⟩ : ∃ X, bits .xor .u8 ((sb T p : Nat) : Int) (b : Int) = X := ⟨_, rfl⟩
    have hXf : X = ((f p : Nat) : Int) := by rw [← hX]; exact hxr
    have hc4 : ∀ j, j < T.size → (w3.setCell ⟨d, p, none⟩ (.int .u8 X)).cell? ⟨d, j, none⟩ = some (.int .u8 ((f j : Nat) : Int)) := fun j hj => by
      have h3 := H3.out.1 j hj
      rw [Hd.out] at h3
      by_cases e : j = p
      · subst e; rw [World.cell?_setCell_same _ _ _ h3, hXf]
      · have hne : (⟨d, p, none⟩ : Addr) ≠ ⟨d, j, none⟩ := fun h => by have := (Addr.mk.inj h).2.1; omega
        rw [World.cell?_setCell_other _ _ _ _ hne, h3, hfd]
        show _ = some (Value.int .u8 ((if j = p then _ else sb T j : Nat) : Int))
        rw [if_neg e]
    have hcv2 := conv_row (w3.setCell ⟨d, p, none⟩ (.int .u8 X)) d 0 T.size cap f hf (fun j hj => by rw [Nat.zero_add]; exact hc4 j hj)
    have hpt : (⟨(rowText f T.size).toArray⟩ : ByteArray) = textOf f T.size := rfl
    rw [hpt] at hcv2
    have hTs2 := textOf_size f T.size
    have hTp := sb_textOf hf T.size p
    rw [if_pos hp2] at hTp
    obtain ⟨T', hT'⟩ : ∃ T', textOf f T.size = T' := ⟨_, rfl⟩
    rw [hT'] at hcv2 hTs2 hTp
    have hTne : T' ≠ encT k s a := fun e => by
      rw [HT.out.1] at e
      rw [e, hfd] at hTp
      have h9 : sb T p = sb T p ^^^ b := by
        have : (if p = p then sb T p ^^^ b else sb T p) = sb T p ^^^ b := if_pos rfl
        exact hTp.trans this
      have h8 : sb T p ^^^ sb T p = sb T p ^^^ (sb T p ^^^ b) := by rw [← h9]
      rw [← Nat.xor_assoc, Nat.xor_self, Nat.zero_xor] at h8
      exact hb0 h8.symm
    have hb23 := H3.out.2.2
    have hb3 : Below w.heap.size w w3 := H2.out.1.trans (hb23.mono H2.out.1.size)
    have hwg : w.heap.size ≤ g := Nat.le_trans H1.out.size H2.out.2.2.1
    have hb4 : Below w.heap.size w (w3.setCell ⟨d, p, none⟩ (.int .u8 X)) := hb3.setCell (p := ⟨d, p, none⟩) (by show w.heap.size ≤ d; omega) _
    have hb5 : Below w.heap.size w ((w3.setCell ⟨d, p, none⟩ (.int .u8 X)).setCell ⟨g, a * 2 + 1, none⟩ (.string T')) := hb4.setCell (p := ⟨g, a * 2 + 1, none⟩) hwg _
    have htx3 : w3.cell? ⟨g, a * 2 + 1, none⟩ = some (.string T) := (hb23.cell (p := ⟨g, a * 2 + 1, none⟩) H2.out.2.2.2.1).trans htx
    have htx4 : (w3.setCell ⟨d, p, none⟩ (.int .u8 X)).cell? ⟨g, a * 2 + 1, none⟩ = some (.string T) := by
      rw [World.cell?_setCell_other _ _ _ _ (fun h => hdg (Addr.mk.inj h).1)]; exact htx3
    have htf3 : w3.frozen? ⟨g, a * 2 + 1, none⟩ = false := by
      have := hb23.block g H2.out.2.2.2.1
      unfold World.frozen? at htf ⊢
      rw [this]; exact htf
    have htf4 : (w3.setCell ⟨d, p, none⟩ (.int .u8 X)).frozen? ⟨g, a * 2 + 1, none⟩ = false := by rw [World.frozen?_setCell]; exact htf3
    have hI : ShR ((w3.setCell ⟨d, p, none⟩ (.int .u8 X)).setCell ⟨g, a * 2 + 1, none⟩ (.string T')).heap.size ((w3.setCell ⟨d, p, none⟩ (.int .u8 X)).setCell ⟨g, a * 2 + 1, none⟩ (.string T')) (some ⟨g, 0, none⟩) (wrongL n k s a T') := by
      refine .inr ⟨g, 0, rfl, ?_, fun i hi => ?_⟩
      · have := hb23.size
        have := H2.out.2.2.2.1
        simp [World.setCell]; omega
      · rw [wrongL_length] at hi
        have h2 := H2.out.2.1 i hi
        rw [encL_at _ _ _ hi] at h2
        rw [wrongL_get hi, Nat.zero_add]
        have hne1 : (⟨g, a * 2 + 1, none⟩ : Addr) ≠ ⟨g, i * 2, none⟩ := fun h => by have := (Addr.mk.inj h).2.1; omega
        constructor
        · rw [World.cell?_setCell_other _ _ _ _ hne1, World.cell?_setCell_other _ _ _ _ (fun h => hdg (Addr.mk.inj h).1)]
          exact (hb23.cell (p := ⟨g, i * 2, none⟩) H2.out.2.2.2.1).trans h2.1
        · by_cases e : i = a
          · subst e
            rw [World.cell?_setCell_same _ _ _ htx4]
            simp
          · have hne2 : (⟨g, a * 2 + 1, none⟩ : Addr) ≠ ⟨g, i * 2 + 1, none⟩ := fun h => by have := (Addr.mk.inj h).2.1; omega
            rw [World.cell?_setCell_other _ _ _ _ hne2, World.cell?_setCell_other _ _ _ _ (fun h => hdg (Addr.mk.inj h).1)]
            simp only [Option.getD_some, if_neg e]
            exact (hb23.cell (p := ⟨g, i * 2 + 1, none⟩) H2.out.2.2.2.1).trans h2.2
    have hag := agree_walk _ n k len (some ⟨g, 0, none⟩) c (wrongL n k s a T') _ E (HE.out.below hb5 (Nat.le_refl _)) hk (by omega) hn (by omega) (by rw [wrongL_length]; unfold maxLen; omega) (Nat.le_refl _) hI
    rw [wrongL_length] at hag
    have HB := Lib.hid hb5
    have HR := Lib.hid (And.intro hTne (hTs2.trans HT.out.2))
    have Hag := Lib.hid hag
    clear hfd hf hxr hXf hc4 hpt hTs2 hTp hTne hT' hb23 hb3 hwg hb4 hb5 hI hag hgd htf
    rw [← hX] at htx4 htf4 hcv2 Hag HB
    clear hX
    go_wp2_with fail
    refine Hag.out.mono ?_
    rintro e w6 ⟨hb6, hres⟩
    have HC := Lib.hid (HB.out.trans (hb6.mono HB.out.size))
    have hwz : wideN k len = wideN k s.size := by rw [Hlen.out]
    rcases hres with ⟨hbad, rfl⟩ | ⟨_, hfew, rfl⟩ | ⟨_, _, rfl⟩
    · rw [hwz] at hbad
      exact absurd (wrong_good HR.out.2) hbad
    · rw [wrong_pick (by omega)] at hfew
      omega
    · rw [wrong_differs hk hkn hn ha HR.out.1 (by rw [decT_size, Hlen.out])]
      clear hwz hb6
      go_wp2
      go_ret
      exact ⟨rfl, HC.out⟩
  · have hp2 : p < 0 ∨ ¬ p < 0 ∧ (T.size : Int) ≤ p := by omega
    clear hp
    have hbw : Below w.heap.size w w3 := H2.out.1.trans (H3.out.2.2.mono H2.out.1.size)
    have HB := Lib.hid hbw
    clear hbw
    rcases hp2 with hp2 | ⟨hp2, hp3⟩
    all_goals
      go_wp2
      go_ret
      exact ⟨rfl, HB.out⟩

theorem ef_of_laid {W : World} (h : laidMetH Tryd.prog Rows.coderWrongRow.laid W) : ∃ E, ErrEf W E := by
  obtain ⟨a1, h1⟩ := err_of_laid h (n := "shardkeep/api.ErrBound") (g := 1) (text := errText 1) (List.mem_cons_self) (by kernel_rfl) (by kernel_rfl)
  obtain ⟨a2, h2⟩ := err_of_laid h (n := "shardkeep/api.ErrShape") (g := 2) (text := errText 2) (List.mem_cons_of_mem _ List.mem_cons_self) (by kernel_rfl) (by kernel_rfl)
  obtain ⟨a7, h7⟩ := err_of_laid h (n := "shardkeep/api.ErrFew") (g := 7) (text := errText 7) (List.mem_cons_of_mem _ (List.mem_cons_of_mem _ List.mem_cons_self)) (by kernel_rfl) (by kernel_rfl)
  obtain ⟨a3, h3⟩ := err_of_laid h (n := "shardkeep/api.ErrZero") (g := 11) (text := errText 11) (List.mem_cons_of_mem _ (List.mem_cons_of_mem _ (List.mem_cons_of_mem _ List.mem_cons_self))) (by kernel_rfl) (by kernel_rfl)
  exact ⟨fun i => if i = 1 then a1 else if i = 2 then a2 else if i = 7 then a7 else a3, ⟨h1.cell, h2.cell, h3.cell⟩, h7.cell⟩

theorem walk (n k : Int) (s : ByteArray) (a p b : Int) (w : World) (_w0 : (Lit.int .i64 n).wf = true) (_w1 : (Lit.int .i64 k).wf = true) (_w2 : s.size ≤ maxLen) (_w3 : (Lit.int .i64 a).wf = true) (_w4 : (Lit.int .i64 p).wf = true) (w5 : (Lit.int .u8 b).wf = true) (hL : laidMetH Tryd.prog Rows.coderWrongRow.laid w) :
    Calls Tryd.prog 17 #[.int .i64 n, .int .i64 k, .string s, .int .i64 a, .int .i64 p, .int .u8 b] w fun e w' => e = .returned (.bool true) ∧ Below w.heap.size w w' := by
  obtain ⟨E, hE⟩ := ef_of_laid hL
  by_cases h : 1 ≤ k ∧ k < n ∧ n ≤ 12 ∧ 1 ≤ s.size ∧ s.size ≤ 100 ∧ 0 ≤ a ∧ a < n ∧ b ≠ 0
  · obtain ⟨hb0, hb1⟩ := bounds_u8 w5
    obtain ⟨k, rfl⟩ := Int.eq_ofNat_of_zero_le (show 0 ≤ k by omega)
    obtain ⟨n, rfl⟩ := Int.eq_ofNat_of_zero_le (show 0 ≤ n by omega)
    obtain ⟨a, rfl⟩ := Int.eq_ofNat_of_zero_le (show 0 ≤ a by omega)
    obtain ⟨b, rfl⟩ := Int.eq_ofNat_of_zero_le (show 0 ≤ b by omega)
    exact walk_in n k s a p b w E hE (by omega) (by omega) (by omega) h.2.2.2.1 h.2.2.2.2.1 (by omega) (by omega) (by omega)
  · exact walk_out n k s a p b w E hE.ez h
end coderWrong
end Go.Proofs.YtfojimaafhpgbaaDoor
