/- The walk of the law WireReads. -/
import Derived.Test.YtgcnohejmofhkaaDoorWrL
import Derived.Test.YtgcnohejmofhkaaDoorFl2
import Derived.Test.YtgcnohejmofhkaaDoorEnv
namespace Go.Proofs.YtgcnohejmofhkaaDoor.wireReads
open Go.Proofs.YtgcnohejmofhkaaDoor
open Go.RowKit

set_option maxRecDepth 100000 in
set_option maxHeartbeats 8000000 in
theorem walk_long (w : World) (E : Nat → Addr) (hE : ErrEnv w E) (s : ByteArray) (sl : Bool) (hs : 4100 < s.size) :
    Calls Tryd.prog 4 #[.string s, .bool sl] w fun e w' => e = .returned (.bool true) ∧ Below w.heap.size w w' := by
  have hsi : (4100 : Int) < s.size := by omega
  have hsd : decide ((4100 : Int) < s.size) = true := decide_eq_true hsi
  have Hw := Lib.hid (wired_walk w E hE)
  clear hE
  go_enter Tryd.func4, Tryd.ntmps4
  go_wp2_with fail
  refine Hw.out.mono ?_
  rintro e W1 ⟨rfl, hb1⟩
  go_wp2
  go_ret
  exact ⟨rfl, hb1⟩
theorem dec_named {E : Nat → Addr} {w w' : World} {r : Msg × Option Nat} {e : Ending} (h : DecP E w w' r e) : ∃ ev, ((r.2 = none ∧ ev = .nilIface) ∨ ∃ i, r.2 = some i ∧ ev = errV (E i)) ∧ Below w.heap.size w w' ∧ ∃ v, e = .returned (.tuple #[.agg #[.string r.1.fr, .string r.1.dst, .string r.1.kind, .string r.1.key, .int .i64 r.1.op, .int .i64 r.1.cf, .bool r.1.sl, v], ev]) ∧ OwnV w.heap.size w' v r.1.L := by
  obtain ⟨m, o⟩ := r
  obtain ⟨hb, v, he, hv⟩ := h
  cases o with
  | none => exact ⟨_, .inl ⟨rfl, rfl⟩, hb, v, he, hv⟩
  | some i => exact ⟨_, .inr ⟨i, rfl, rfl⟩, hb, v, he, hv⟩
def errOf2 (E : Nat → Addr) (c : Nat) (v : Value) : Prop := (c = 0 ∧ v = .nilIface) ∨ ∃ i : Nat, i < 12 ∧ c = i + 1 ∧ v = errV (E i)
theorem coded2_is (E : Nat → Addr) (c : Nat) (v : Value) (w : World) (hE : ErrEnv w E) (h : errOf2 E c v) :
    Calls Tryd.prog 10 #[v, .int .i64 (c : Int)] w fun e w' => e = .returned (.bool true) ∧ Below w.heap.size w w' := by
  rcases h with ⟨rfl, rfl⟩ | ⟨i, hi, rfl, rfl⟩
  · exact (coded2_nil 0 w).mono fun e w' h => ⟨h.1, h.2 ▸ Below.refl _ _⟩
  · exact (coded2_err E i hi ((i + 1 : Nat) : Int) w hE).mono fun e w' h => ⟨by rw [h.1]; simp, h.2⟩
theorem decodeB_err {s : ByteArray} {i : Nat} (h : (decodeB s).2 = some i) : i < 12 := by
  unfold decodeB at h
  by_cases h1 : 4000 < s.size
  · rw [if_pos h1] at h; cases h; omega
  · rw [if_neg h1] at h
    by_cases h2 : s.size < 4
    · rw [if_pos h2] at h; cases h; omega
    · rw [if_neg h2] at h
      by_cases h3 : fourS (Sm.crc (Sm.nats (bodyOf s))) = tailOf s
      · rw [if_pos h3] at h
        cases hd : decB (bodyOf s) with
        | none => rw [hd] at h; cases h; omega
        | some m => rw [hd] at h; cases h
      · rw [if_neg h3] at h; cases h; omega
theorem flat_len : ∀ L : List Ver, L.length ≤ (L.flatMap vbytes).length
  | [] => by simp
  | x :: L => by
    have h := flat_len L
    have h2 : 1 ≤ (vbytes x).length := by simp [vbytes, tbytes_length]; omega
    simp only [List.length_cons, List.flatMap_cons, List.length_append]
    omega
theorem again {s : ByteArray} (h : (decodeB s).2 = none) (E : Nat → Addr) : encE E (decodeB s).1 = .returned (.tuple #[.string s, .nilIface]) ∧ (encB (decodeB s).1).length ≤ 4000 ∧ (decodeB s).1.L.length ≤ 4000 := by
  unfold decodeB at h ⊢
  by_cases h1 : 4000 < s.size
  · rw [if_pos h1] at h; cases h
  · rw [if_neg h1] at h ⊢
    by_cases h2 : s.size < 4
    · rw [if_pos h2] at h; cases h
    · rw [if_neg h2] at h ⊢
      by_cases h3 : fourS (Sm.crc (Sm.nats (bodyOf s))) = tailOf s
      · rw [if_pos h3] at h ⊢
        cases hd : decB (bodyOf s) with
        | none => rw [hd] at h; cases h
        | some m =>
          have hz : (bodyOf s).size = s.size - 4 := by unfold bodyOf; simp [ByteArray.size_extract]
          have hl : (encB m).length ≤ 4000 := by rw [← (decB_nats hd).1, Sm.nats_length]; omega
          have hf := flat_len m.L
          refine ⟨recode E s h1 h2 h3 hd, hl, ?_⟩
          have : (encB m).length = (encH m).length + (m.L.flatMap vbytes).length := by unfold encB; simp
          show m.L.length ≤ 4000
          omega
      · rw [if_neg h3] at h; cases h
set_option maxRecDepth 100000 in
set_option maxHeartbeats 8000000 in
theorem walk_in (w : World) (E : Nat → Addr) (hE : ErrEnv w E) (s : ByteArray) (hs : s.size ≤ 4100) :
    Calls Tryd.prog 4 #[.string s, .bool false] w fun e w' => e = .returned (.bool true) ∧ Below w.heap.size w w' := by
  have hsi : ¬ (4100 : Int) < s.size := by omega
  have hsd : decide ((4100 : Int) < s.size) = false := decide_eq_false hsi
  have Hw := Lib.hid (wired_walk w E hE)
  have HE := Lib.hid hE
  clear hE
  go_enter Tryd.func4, Tryd.ntmps4
  go_wp2_with fail
  refine Hw.out.mono ?_
  rintro e W1 ⟨rfl, hb1⟩
  have hE1 := HE.out.below hb1 (Nat.le_refl _)
  have HE1 := Lib.hid hE1
  have HB1 := Lib.hid hb1
  have Hd := Lib.hid (decode_walk W1 s E hE1)
  clear hb1 hE1
  go_wp2_with fail
  refine Hd.out.mono ?_
  intro e W2 hdp
  obtain ⟨r, hr⟩ : ∃ r, decodeB s = r := ⟨_, rfl⟩
  rw [hr] at hdp
  obtain ⟨ev, hev, hb2, v, rfl, hv⟩ := dec_named hdp
  obtain ⟨a, cap, rfl, hc1, hc2, hc3, hc4⟩ := hv.read
  have hx : ∀ i, r.2 = some i → i < 12 := fun i e => by rw [← hr] at e; exact decodeB_err e
  obtain ⟨M2, hM2⟩ : ∃ M, W2.alloc (.cells #[.string r.1.fr, .string r.1.dst, .string r.1.kind, .string r.1.key, .int .i64 r.1.op, .int .i64 r.1.cf, .bool r.1.sl, .slice a r.1.L.length cap] 31) = M := ⟨_, rfl⟩
  have Hu := Lib.hid (unwire_walk M2 s)
  rw [hr] at Hu
  have HM := Lib.hid hM2
  rw [← hM2] at Hu
  clear hM2
  go_wp2_with fail
  refine Hu.out.mono ?_
  rintro e W3 ⟨hb3, v2, rfl, hv2⟩
  obtain ⟨a2, cap2, rfl, hd1, hd2, hd3, hd4⟩ := hv2.read
  obtain ⟨c, hc⟩ : ∃ c, codeN r.2 = c := ⟨_, rfl⟩
  rw [hc]
  obtain ⟨M3, hM3⟩ : ∃ M, W3.alloc (.cells #[.string r.1.fr, .string r.1.dst, .string r.1.kind, .string r.1.key, .int .i64 r.1.op, .int .i64 r.1.cf, .bool r.1.sl, .slice a2 r.1.L.length cap2] 24) = M := ⟨_, rfl⟩
  have hbM : Below W2.heap.size W2 M2 := by rw [← HM.out]; exact (Below.refl _ _).alloc (Nat.le_refl _) _
  have hmM : M2.heap[W2.heap.size]? = some (.cells #[.string r.1.fr, .string r.1.dst, .string r.1.kind, .string r.1.key, .int .i64 r.1.op, .int .i64 r.1.cf, .bool r.1.sl, .slice a r.1.L.length cap] 31 (0, 0)) := by rw [← HM.out]; exact heap_alloc_new _ _
  rw [HM.out] at hb3
  have hb4 : Below W3.heap.size W3 M3 := by rw [← hM3]; exact (Below.refl _ _).alloc (Nat.le_refl _) _
  have hn4 : M3.heap[W3.heap.size]? = some (.cells #[.string r.1.fr, .string r.1.dst, .string r.1.kind, .string r.1.key, .int .i64 r.1.op, .int .i64 r.1.cf, .bool r.1.sl, .slice a2 r.1.L.length cap2] 24 (0, 0)) := by rw [← hM3]; exact heap_alloc_new _ _
  have hbX : Below M2.heap.size M2 M3 := hb3.trans (hb4.mono hb3.size)
  have hm4 : M3.heap[W2.heap.size]? = _ := (hbX.block W2.heap.size (Array.getElem?_eq_some_iff.1 hmM).1).trans hmM
  have hB4 : Below w.heap.size w M3 := ((HB1.out.trans (hb2.mono HB1.out.size)).trans (hbM.mono (HB1.out.trans (hb2.mono HB1.out.size)).size)).trans (hbX.mono ((HB1.out.trans (hb2.mono HB1.out.size)).trans (hbM.mono (HB1.out.trans (hb2.mono HB1.out.size)).size)).size)
  have hE4 : ErrEnv M3 E := HE.out.below hB4 (Nat.le_refl _)
  have H4 := Lib.hid (And.intro hm4 (And.intro hn4 (And.intro hB4 hE4)))
  have hLm : VrR W2.heap.size M3 a r.1.L := (hc4.below (hbM.trans (hbX.mono hbM.size)))
  have hLn : VrR W3.heap.size M3 a2 r.1.L := hd4.below hb4
  have herr : errOf2 E c ev := by
    rw [← hc]
    rcases hev with ⟨h1, h2⟩ | ⟨i, h1, h2⟩
    · exact .inl ⟨by rw [h1]; rfl, h2⟩
    · exact .inr ⟨i, hx i h1, by rw [h1]; rfl, h2⟩
  have Ca := fun d os => Calls.regrown_of (coded2_is E c ev (Go.Sort.grow (redrawn M3 d) os) (hE4.below (below_regrown M3 d os) (Nat.le_refl _)) herr)
  have Cb := fun d os => Calls.regrown_of ((backwire_walk (Go.Sort.grow (redrawn M3 d) os) r.1.fr r.1.dst r.1.kind r.1.key r.1.op r.1.cf r.1.sl a r.1.L.length cap).mono fun e w' h => ⟨h.2, h.1⟩)
  have Cc := fun d os => Calls.regrown_of (samem_same (Go.Sort.grow (redrawn M3 d) os) M3.heap.size r.1.fr r.1.dst r.1.kind r.1.key r.1.op r.1.cf r.1.sl a a2 r.1.L.length cap cap2 r.1.L rfl (by omega) ((hLm.mono (hbM.trans (hbX.mono hbM.size)).size).below (below_regrown M3 d os)) ((hLn.mono hb4.size).below (below_regrown M3 d os)) (below_regrown M3 d os).size)
  have k0 := cell_regrown ((cell_of_heap hm4 0).trans rfl)
  have k1 := cell_regrown ((cell_of_heap hm4 1).trans rfl)
  have k2 := cell_regrown ((cell_of_heap hm4 2).trans rfl)
  have k3 := cell_regrown ((cell_of_heap hm4 3).trans rfl)
  have k4 := cell_regrown ((cell_of_heap hm4 4).trans rfl)
  have k5 := cell_regrown ((cell_of_heap hm4 5).trans rfl)
  have k6 := cell_regrown ((cell_of_heap hm4 6).trans rfl)
  have k7 := cell_regrown ((cell_of_heap hm4 7).trans rfl)
  have l0 := cell_regrown ((cell_of_heap hn4 0).trans rfl)
  have l1 := cell_regrown ((cell_of_heap hn4 1).trans rfl)
  have l2 := cell_regrown ((cell_of_heap hn4 2).trans rfl)
  have l3 := cell_regrown ((cell_of_heap hn4 3).trans rfl)
  have l4 := cell_regrown ((cell_of_heap hn4 4).trans rfl)
  have l5 := cell_regrown ((cell_of_heap hn4 5).trans rfl)
  have l6 := cell_regrown ((cell_of_heap hn4 6).trans rfl)
  have l7 := cell_regrown ((cell_of_heap hn4 7).trans rfl)
  have Hrest := Lib.hid (And.intro hLm hLn)
  clear hLm hLn hm4 hn4 hB4 hE4 hbX hb4 hb3 hbM hmM hd4 hc4 hv2 hv hb2 hdp
  go_wp2_with fail
  refine wp_region_quiet_below (by kernel_rfl) (by kernel_rfl) ?_
  repeat (go_big_quiet_step (first | (with_reducible exact Ca _ _) | (with_reducible exact Cb _ _) | (with_reducible exact Cc _ _)))
  refine wpQuiet_nil ?_
  intro w3 hw'
  obtain ⟨⟨dq, osq⟩, hw3⟩ := hw'
  have hb5 : Below M3.heap.size M3 w3 := by rw [hw3]; exact below_regrown M3 dq osq
  have hm5 := (hb5.block W2.heap.size (Array.getElem?_eq_some_iff.1 H4.out.1).1).trans H4.out.1
  have hB5 : Below w.heap.size w w3 := H4.out.2.2.1.trans (hb5.mono H4.out.2.2.1.size)
  have hE5 : ErrEnv w3 E := HE.out.below hB5 (Nat.le_refl _)
  have hL5 := Hrest.out.1.below (hb5.mono ((Nat.le_of_lt (Array.getElem?_eq_some_iff.1 H4.out.1).1)))
  have H5 := Lib.hid (And.intro hm5 (And.intro hB5 (And.intro hE5 hL5)))
  clear hm5 hB5 hE5 hL5 hb5 hw3 k0 k1 k2 k3 k4 k5 k6 k7 l0 l1 l2 l3 l4 l5 l6 l7 Ca Cb Cc
  by_cases hc0 : 0 < c
  · have hci : (0 : Int) < c := by omega
    go_wp2
    go_ret
    exact ⟨rfl, H5.out.2.1⟩
  · have hc9 : c = 0 := by omega
    subst hc9
    have hr2 : r.2 = none := by
      cases h : r.2 with
      | none => rfl
      | some i => rw [h] at hc; simp [codeN] at hc
    obtain ⟨g1, g2, g3⟩ := again (s := s) (by rw [hr]; exact hr2) E
    rw [hr] at g1 g2 g3
    obtain ⟨hm5, hB5, hE5, hL5⟩ := H5.out
    have hlt5 := (Array.getElem?_eq_some_iff.1 hm5).1
    have He := Lib.hid (encode_walk w3 r.1.fr r.1.dst r.1.kind r.1.key r.1.op r.1.cf r.1.sl a r.1.L.length cap r.1.L E hE5 rfl (by omega) (hL5.mono (Nat.le_of_lt hlt5)) (Nat.le_trans g2 (by omega)))
    have G1 := Lib.hid g1
    have k0 := (cell_of_heap hm5 0).trans rfl
    have k1 := (cell_of_heap hm5 1).trans rfl
    have k2 := (cell_of_heap hm5 2).trans rfl
    have k3 := (cell_of_heap hm5 3).trans rfl
    have k4 := (cell_of_heap hm5 4).trans rfl
    have k5 := (cell_of_heap hm5 5).trans rfl
    have k6 := (cell_of_heap hm5 6).trans rfl
    have k7 := (cell_of_heap hm5 7).trans rfl
    clear hm5 hB5 hE5 hL5 hlt5 g1 g2 g3
    go_wp2_with fail
    refine He.out.mono ?_
    rintro e W9 ⟨he, hb9⟩
    have he2 := he.trans G1.out
    subst he2
    clear he
    go_wp2
    go_ret
    exact ⟨by simp, H5.out.2.1.trans (hb9.mono H5.out.2.1.size)⟩
set_option maxRecDepth 100000 in
set_option maxHeartbeats 8000000 in
theorem walk_sealed (w : World) (E : Nat → Addr) (hE : ErrEnv w E) (s : ByteArray) (hs : s.size ≤ 4100) :
    Calls Tryd.prog 4 #[.string s, .bool true] w fun e w' => e = .returned (.bool true) ∧ Below w.heap.size w w' := by
  have hsi : ¬ (4100 : Int) < s.size := by omega
  have hsd : decide ((4100 : Int) < s.size) = false := decide_eq_false hsi
  have Hw := Lib.hid (wired_walk w E hE)
  have HE := Lib.hid hE
  clear hE
  go_enter Tryd.func4, Tryd.ntmps4
  go_wp2_with fail
  refine Hw.out.mono ?_
  rintro e W0 ⟨rfl, hb0⟩
  have Hse := Lib.hid (seal_walk s W0 (by omega))
  go_wp2_with fail
  refine Hse.out.mono ?_
  obtain ⟨x, hx0⟩ : ∃ x, s ++ ⟨(fourL (Sm.crc (Sm.nats s))).toArray⟩ = x := ⟨_, rfl⟩
  rw [hx0]
  rintro e W1 ⟨rfl, hb01⟩
  have hb1 : Below w.heap.size w W1 := hb0.trans (hb01.mono hb0.size)
  have hE1 := HE.out.below hb1 (Nat.le_refl _)
  have HE1 := Lib.hid hE1
  have HB1 := Lib.hid hb1
  have Hd := Lib.hid (decode_walk W1 x E hE1)
  clear hb1 hE1
  go_wp2_with fail
  refine Hd.out.mono ?_
  intro e W2 hdp
  obtain ⟨r, hr⟩ : ∃ r, decodeB x = r := ⟨_, rfl⟩
  rw [hr] at hdp
  obtain ⟨ev, hev, hb2, v, rfl, hv⟩ := dec_named hdp
  obtain ⟨a, cap, rfl, hc1, hc2, hc3, hc4⟩ := hv.read
  have hx : ∀ i, r.2 = some i → i < 12 := fun i e => by rw [← hr] at e; exact decodeB_err e
  obtain ⟨M2, hM2⟩ : ∃ M, W2.alloc (.cells #[.string r.1.fr, .string r.1.dst, .string r.1.kind, .string r.1.key, .int .i64 r.1.op, .int .i64 r.1.cf, .bool r.1.sl, .slice a r.1.L.length cap] 31) = M := ⟨_, rfl⟩
  have Hu := Lib.hid (unwire_walk M2 x)
  rw [hr] at Hu
  have HM := Lib.hid hM2
  rw [← hM2] at Hu
  clear hM2
  go_wp2_with fail
  refine Hu.out.mono ?_
  rintro e W3 ⟨hb3, v2, rfl, hv2⟩
  obtain ⟨a2, cap2, rfl, hd1, hd2, hd3, hd4⟩ := hv2.read
  obtain ⟨c, hc⟩ : ∃ c, codeN r.2 = c := ⟨_, rfl⟩
  rw [hc]
  obtain ⟨M3, hM3⟩ : ∃ M, W3.alloc (.cells #[.string r.1.fr, .string r.1.dst, .string r.1.kind, .string r.1.key, .int .i64 r.1.op, .int .i64 r.1.cf, .bool r.1.sl, .slice a2 r.1.L.length cap2] 24) = M := ⟨_, rfl⟩
  have hbM : Below W2.heap.size W2 M2 := by rw [← HM.out]; exact (Below.refl _ _).alloc (Nat.le_refl _) _
  have hmM : M2.heap[W2.heap.size]? = some (.cells #[.string r.1.fr, .string r.1.dst, .string r.1.kind, .string r.1.key, .int .i64 r.1.op, .int .i64 r.1.cf, .bool r.1.sl, .slice a r.1.L.length cap] 31 (0, 0)) := by rw [← HM.out]; exact heap_alloc_new _ _
  rw [HM.out] at hb3
  have hb4 : Below W3.heap.size W3 M3 := by rw [← hM3]; exact (Below.refl _ _).alloc (Nat.le_refl _) _
  have hn4 : M3.heap[W3.heap.size]? = some (.cells #[.string r.1.fr, .string r.1.dst, .string r.1.kind, .string r.1.key, .int .i64 r.1.op, .int .i64 r.1.cf, .bool r.1.sl, .slice a2 r.1.L.length cap2] 24 (0, 0)) := by rw [← hM3]; exact heap_alloc_new _ _
  have hbX : Below M2.heap.size M2 M3 := hb3.trans (hb4.mono hb3.size)
  have hm4 : M3.heap[W2.heap.size]? = _ := (hbX.block W2.heap.size (Array.getElem?_eq_some_iff.1 hmM).1).trans hmM
  have hB4 : Below w.heap.size w M3 := ((HB1.out.trans (hb2.mono HB1.out.size)).trans (hbM.mono (HB1.out.trans (hb2.mono HB1.out.size)).size)).trans (hbX.mono ((HB1.out.trans (hb2.mono HB1.out.size)).trans (hbM.mono (HB1.out.trans (hb2.mono HB1.out.size)).size)).size)
  have hE4 : ErrEnv M3 E := HE.out.below hB4 (Nat.le_refl _)
  have H4 := Lib.hid (And.intro hm4 (And.intro hn4 (And.intro hB4 hE4)))
  have hLm : VrR W2.heap.size M3 a r.1.L := (hc4.below (hbM.trans (hbX.mono hbM.size)))
  have hLn : VrR W3.heap.size M3 a2 r.1.L := hd4.below hb4
  have herr : errOf2 E c ev := by
    rw [← hc]
    rcases hev with ⟨h1, h2⟩ | ⟨i, h1, h2⟩
    · exact .inl ⟨by rw [h1]; rfl, h2⟩
    · exact .inr ⟨i, hx i h1, by rw [h1]; rfl, h2⟩
  have Ca := fun d os => Calls.regrown_of (coded2_is E c ev (Go.Sort.grow (redrawn M3 d) os) (hE4.below (below_regrown M3 d os) (Nat.le_refl _)) herr)
  have Cb := fun d os => Calls.regrown_of ((backwire_walk (Go.Sort.grow (redrawn M3 d) os) r.1.fr r.1.dst r.1.kind r.1.key r.1.op r.1.cf r.1.sl a r.1.L.length cap).mono fun e w' h => ⟨h.2, h.1⟩)
  have Cc := fun d os => Calls.regrown_of (samem_same (Go.Sort.grow (redrawn M3 d) os) M3.heap.size r.1.fr r.1.dst r.1.kind r.1.key r.1.op r.1.cf r.1.sl a a2 r.1.L.length cap cap2 r.1.L rfl (by omega) ((hLm.mono (hbM.trans (hbX.mono hbM.size)).size).below (below_regrown M3 d os)) ((hLn.mono hb4.size).below (below_regrown M3 d os)) (below_regrown M3 d os).size)
  have k0 := cell_regrown ((cell_of_heap hm4 0).trans rfl)
  have k1 := cell_regrown ((cell_of_heap hm4 1).trans rfl)
  have k2 := cell_regrown ((cell_of_heap hm4 2).trans rfl)
  have k3 := cell_regrown ((cell_of_heap hm4 3).trans rfl)
  have k4 := cell_regrown ((cell_of_heap hm4 4).trans rfl)
  have k5 := cell_regrown ((cell_of_heap hm4 5).trans rfl)
  have k6 := cell_regrown ((cell_of_heap hm4 6).trans rfl)
  have k7 := cell_regrown ((cell_of_heap hm4 7).trans rfl)
  have l0 := cell_regrown ((cell_of_heap hn4 0).trans rfl)
  have l1 := cell_regrown ((cell_of_heap hn4 1).trans rfl)
  have l2 := cell_regrown ((cell_of_heap hn4 2).trans rfl)
  have l3 := cell_regrown ((cell_of_heap hn4 3).trans rfl)
  have l4 := cell_regrown ((cell_of_heap hn4 4).trans rfl)
  have l5 := cell_regrown ((cell_of_heap hn4 5).trans rfl)
  have l6 := cell_regrown ((cell_of_heap hn4 6).trans rfl)
  have l7 := cell_regrown ((cell_of_heap hn4 7).trans rfl)
  have Hrest := Lib.hid (And.intro hLm hLn)
  clear hLm hLn hm4 hn4 hB4 hE4 hbX hb4 hb3 hbM hmM hd4 hc4 hv2 hv hb2 hdp
  go_wp2_with fail
  refine wp_region_quiet_below (by kernel_rfl) (by kernel_rfl) ?_
  repeat (go_big_quiet_step (first | (with_reducible exact Ca _ _) | (with_reducible exact Cb _ _) | (with_reducible exact Cc _ _)))
  refine wpQuiet_nil ?_
  intro w3 hw'
  obtain ⟨⟨dq, osq⟩, hw3⟩ := hw'
  have hb5 : Below M3.heap.size M3 w3 := by rw [hw3]; exact below_regrown M3 dq osq
  have hm5 := (hb5.block W2.heap.size (Array.getElem?_eq_some_iff.1 H4.out.1).1).trans H4.out.1
  have hB5 : Below w.heap.size w w3 := H4.out.2.2.1.trans (hb5.mono H4.out.2.2.1.size)
  have hE5 : ErrEnv w3 E := HE.out.below hB5 (Nat.le_refl _)
  have hL5 := Hrest.out.1.below (hb5.mono ((Nat.le_of_lt (Array.getElem?_eq_some_iff.1 H4.out.1).1)))
  have H5 := Lib.hid (And.intro hm5 (And.intro hB5 (And.intro hE5 hL5)))
  clear hm5 hB5 hE5 hL5 hb5 hw3 k0 k1 k2 k3 k4 k5 k6 k7 l0 l1 l2 l3 l4 l5 l6 l7 Ca Cb Cc
  by_cases hc0 : 0 < c
  · have hci : (0 : Int) < c := by omega
    go_wp2
    go_ret
    exact ⟨rfl, H5.out.2.1⟩
  · have hc9 : c = 0 := by omega
    subst hc9
    have hr2 : r.2 = none := by
      cases h : r.2 with
      | none => rfl
      | some i => rw [h] at hc; simp [codeN] at hc
    obtain ⟨g1, g2, g3⟩ := again (s := x) (by rw [hr]; exact hr2) E
    rw [hr] at g1 g2 g3
    obtain ⟨hm5, hB5, hE5, hL5⟩ := H5.out
    have hlt5 := (Array.getElem?_eq_some_iff.1 hm5).1
    have He := Lib.hid (encode_walk w3 r.1.fr r.1.dst r.1.kind r.1.key r.1.op r.1.cf r.1.sl a r.1.L.length cap r.1.L E hE5 rfl (by omega) (hL5.mono (Nat.le_of_lt hlt5)) (Nat.le_trans g2 (by omega)))
    have G1 := Lib.hid g1
    have k0 := (cell_of_heap hm5 0).trans rfl
    have k1 := (cell_of_heap hm5 1).trans rfl
    have k2 := (cell_of_heap hm5 2).trans rfl
    have k3 := (cell_of_heap hm5 3).trans rfl
    have k4 := (cell_of_heap hm5 4).trans rfl
    have k5 := (cell_of_heap hm5 5).trans rfl
    have k6 := (cell_of_heap hm5 6).trans rfl
    have k7 := (cell_of_heap hm5 7).trans rfl
    clear hm5 hB5 hE5 hL5 hlt5 g1 g2 g3
    go_wp2_with fail
    refine He.out.mono ?_
    rintro e W9 ⟨he, hb9⟩
    have he2 := he.trans G1.out
    subst he2
    clear he
    go_wp2
    go_ret
    exact ⟨by simp, H5.out.2.1.trans (hb9.mono H5.out.2.1.size)⟩
theorem walk_all (w : World) (E : Nat → Addr) (hE : ErrEnv w E) (s : ByteArray) (sl : Bool) :
    Calls Tryd.prog 4 #[.string s, .bool sl] w fun e w' => e = .returned (.bool true) ∧ Below w.heap.size w w' := by
  by_cases hs : 4100 < s.size
  · exact walk_long w E hE s sl hs
  · cases sl with
    | false => exact walk_in w E hE s (by omega)
    | true => exact walk_sealed w E hE s (by omega)
theorem walk (s : ByteArray) (sl : Bool) (w : World) (_w0 : s.size ≤ maxLen) (hL : laidMetH Tryd.prog Rows.wireReadsRow.laid w) :
    Calls Tryd.prog 4 #[.string s, .bool sl] w fun e w' => e = .returned (.bool true) ∧ Below w.heap.size w w' := by
  obtain ⟨E, hE⟩ := env_of_laid hL
  exact walk_all w E hE s sl
end Go.Proofs.YtgcnohejmofhkaaDoor.wireReads
