/- The walk of the law FieldThrough. -/
import Derived.Test.YtfojimaafhpgbaaDoorPoly
import Derived.Test.YtfojimaafhpgbaaDoorEval
import Derived.Test.YtfojimaafhpgbaaDoorErr
namespace Go.Proofs.YtfojimaafhpgbaaDoor.fieldThrough
open Go.RowKit

set_option maxHeartbeats 400000 in
theorem walk_out (a : Option Addr) (len cap : Nat) (f x : Int) (w : World) (h : (len : Int) < 1 ∨ (20 : Int) < (len : Int)) :
    Calls Tryd.prog 4 #[.slice a len cap, .int .u8 f, .int .u8 x] w fun e w' => e = .returned (.bool true) ∧ w = w' := by
  rcases h with h | h
  · go_enter Tryd.func4, Tryd.ntmps4
    go_wp2_with (go_at_call 21; refine (double_walk _).mono ?_; rintro e w' ⟨rfl, rfl⟩)
    go_ret
    exact ⟨rfl, rfl⟩
  · have h0 : ¬ (len : Int) < 1 := by omega
    go_enter Tryd.func4, Tryd.ntmps4
    go_wp2_with (go_at_call 21; refine (double_walk _).mono ?_; rintro e w' ⟨rfl, rfl⟩)
    go_ret
    exact ⟨rfl, rfl⟩

/-- the places: from f on, modulo 256. -/
def places (f k : Nat) : List Nat := (List.range k).map fun j => (f + j) % 256
/-- the values there. -/
def vals (p : List Nat) (f k : Nat) : List Nat := (List.range k).map fun j => Gf.horner ((f + j) % 256) p
theorem places_succ (f k : Nat) : places f (k + 1) = places f k ++ [(f + k) % 256] := by simp [places, List.range_succ]
theorem vals_succ (p : List Nat) (f k : Nat) : vals p f (k + 1) = vals p f k ++ [Gf.horner ((f + k) % 256) p] := by simp [vals, List.range_succ]
theorem places_length (f k : Nat) : (places f k).length = k := by simp [places]
theorem vals_length (p : List Nat) (f k : Nat) : (vals p f k).length = k := by simp [vals]
theorem places_bytes (f k : Nat) : Bytes (places f k) := by
  intro x hx
  simp only [places, List.mem_map] at hx
  obtain ⟨j, _, rfl⟩ := hx
  omega
theorem vals_bytes {p : List Nat} (hp : Bytes p) (f k : Nat) : Bytes (vals p f k) := by
  intro x hx
  simp only [vals, List.mem_map] at hx
  obtain ⟨j, _, rfl⟩ := hx
  exact Gf.horner_lt hp _
theorem places_at {f k j : Nat} (h : j < k) : (places f k)[j]?.getD 0 = (f + j) % 256 := by simp [places, h]
theorem vals_at {p : List Nat} {f k j : Nat} (h : j < k) : (vals p f k)[j]?.getD 0 = Gf.horner ((f + j) % 256) p := by simp [vals, h]
theorem places_unlike {f k : Nat} (hk : k ≤ 256) : Unlike (places f k) := by
  intro i j hi hj hij
  rw [places_length] at hi hj
  rw [places_at hi, places_at hj]
  omega

set_option maxRecDepth 100000 in
set_option maxHeartbeats 1000000 in
theorem walk_in (a : Option Addr) (len cap : Nat) (p : List Nat) (f x : Nat) (w : World) (hl : p.length = len) (h1 : (1 : Int) ≤ (len : Int)) (h2 : (len : Int) ≤ 20) (hp : Bytes p) (hI : RowAt w.heap.size w a p) (hx : x < 256) :
    Calls Tryd.prog 4 #[.slice a len cap, .int .u8 f, .int .u8 x] w fun e w' => e = .returned (.bool true) ∧ Below w.heap.size w w' := by
  have hn1 : ¬ (len : Int) < 1 := by omega
  have hn2 : ¬ (20 : Int) < (len : Int) := by omega
  have Hl := Lib.hid hl; clear hl
  go_enter Tryd.func4, Tryd.ntmps4
  go_wp2_with fail
  refine (double_walk _).mono ?_
  rintro e w' ⟨rfl, rfl⟩
  go_wp2_with fail
  go_loopw [10, 8, 9, 11] (fun vi v u _ wr => ∃ k : Nat, k ≤ len ∧ vi = .int .i64 k ∧ OwnB w.heap.size wr v (places f k) ∧ OwnB w.heap.size wr u (vals p f k) ∧ Sep v u ∧ Below w.heap.size w wr)
    (fun i _ _ _ _ => len - (intOf i).toNat)
  case atStart => exact ⟨0, by omega, rfl, OwnB.nil _ _, OwnB.nil _ _, Sep.nil _, Below.refl _ _⟩
  case round =>
    rename_i wr
    obtain ⟨k, hk, rfl, ho, hu, hsep, hB⟩ := hrel
    by_cases hlt : k < len
    · obtain ⟨c, hc⟩ : ∃ c : Nat, ((f : Int) + (k : Int)) % 256 = (c : Int) := ⟨(f + k) % 256, by omega⟩
      have hcl : c < 256 := by omega
      have hce : c = (f + k) % 256 := by omega
      have Hce := Lib.hid hce; clear hce
      have hk1 : (k : Int) < 256 := by omega
      have hpl := places_length f k
      have hvl := vals_length p f k
      have hsz := hB.size
      clear hpl hvl
      have hl1 : (places f k).length + 1 ≤ 140737488355328 := by rw [places_length]; omega
      have hl2 : (vals p f k).length + 1 ≤ 140737488355328 := by rw [vals_length]; omega
      go_wp2_with (first
        | (at_builtin; refine append_byte 38 40 rfl rfl w.heap.size _ _ c rfl rfl ho hl1 hsz ?_))
      intro v' w1 ho1 hg1 hat1
      have hB1 : Below w.heap.size w w1 := (hB.alloc hsz _).grown hg1 (by simp; omega) (fun j e => (ho.lt j e).1)
      have hu1 : OwnB w.heap.size w1 u9 (vals p f k) := Own1.other hu hsep hg1
      have hs1 : Sep v' u9 := Sep.other hu hsep hat1
      have hs1z := hB1.size
      clear ho hu hsep hB hg1 hat1 hsz hl1
      have hev := eval_walk a cap p hp (by have := Hl.out; omega) c hcl w1 ((hI.below hB1).mono hs1z)
      rw [Hl.out] at hev
      have Hev := Lib.hid hev; clear hev
      go_wp2_with fail
      refine Hev.out.mono ?_
      rintro e w2 ⟨rfl, hb2⟩
      have ho2 : OwnB w.heap.size w2 v' (places f k ++ [c]) := Own1.below ho1 hb2 (Nat.le_refl _)
      have hu2 : OwnB w.heap.size w2 u9 (vals p f k) := Own1.below hu1 hb2 (Nat.le_refl _)
      have hB2 : Below w.heap.size w w2 := hB1.trans (hb2.mono hs1z)
      have hs2z := hB2.size
      clear ho1 hu1 hB1 hs1z hb2
      go_wp2_with (first
        | (at_builtin; refine append_byte 42 46 rfl rfl w.heap.size _ _ (Gf.horner c p) rfl rfl hu2 hl2 hs2z ?_))
      intro u' w3 hu3 hg3 hat3
      have hB3 : Below w.heap.size w w3 := (hB2.alloc hs2z _).grown hg3 (by simp; omega) (fun j e => (hu2.lt j e).1)
      have ho3 : OwnB w.heap.size w3 v' (places f k ++ [c]) := Own1.other ho2 hs1.symm hg3
      have hs3 : Sep u' v' := Sep.other ho2 hs1.symm hat3
      clear ho2 hu2 hs1 hB2 hs2z hg3 hat3 hl2
      go_wp2
      go_roundw
      case rel => exact ⟨k + 1, by omega, by go_num, by rw [places_succ, ← Hce.out]; exact ho3, by rw [vals_succ, ← Hce.out]; exact hu3, hs3.symm, hB3⟩
      case measure => simp [intOf]; omega
    · obtain rfl : k = len := by omega
      obtain ⟨av, cv, rfl, hcv, hcm, hrv⟩ := ho.row
      obtain ⟨au, cu, rfl, _, _, hru⟩ := hu.row
      rw [places_length] at hcv ⊢
      rw [vals_length] at ⊢
      have hdist := places_unlike (f := f) (k := k) (by omega)
      have hbp := places_bytes f k
      have hbv := vals_bytes hp f k
      have hpl := places_length f k
      have hvl := vals_length p f k
      have hbw := between_walk wr.heap.size av au cv cu (places f k) (vals p f k) x wr hbp hbv hx (by rw [hpl]; simp [maxLen]; omega) (by rw [hpl]; exact hcv) (by rw [hpl, hvl]) hrv hru
        (fun i hi hm => by
          obtain ⟨j, hj, e⟩ := List.getElem_of_mem hm
          simp at hj
          refine hdist i j hi (by omega) (by omega) ?_
          rw [← e, List.getElem_take, List.getElem?_eq_getElem (by omega)]; rfl)
        (fun i hi => (lagN_down hbp hdist hi _ (Nat.le_refl _)).1)
      have hlag := lagrange (x := x) hbp hbv hdist hp (by rw [Hl.out, hpl]) (fun j hj => by rw [hpl] at hj; rw [vals_at hj, places_at hj]) hx
      rw [hpl] at hlag
      rw [hpl, hlag] at hbw
      have Hbw := Lib.hid hbw; clear hbw
      have hev := eval_walk a cap p hp (by have := Hl.out; omega) x hx wr ((hI.below hB).mono hB.size)
      rw [Hl.out] at hev
      have Hev := Lib.hid hev; clear hev
      have Hlag := Lib.hid hlag
      clear hlag hdist hpl hvl ho hu hsep hrv hru hbp hbv hcv hcm hp hI hlt
      go_wp2_with fail
      refine Hbw.out.mono ?_
      rintro e w' ⟨rfl, rfl⟩
      go_wp2_with fail
      refine Hev.out.mono ?_
      rintro e w2 ⟨rfl, hb2⟩
      go_wp2
      go_ret
      exact ⟨rfl, hB.trans (hb2.mono hB.size)⟩

theorem walk (a : Option Addr) (len cap : Nat) (z : List Int) (f x : Int) (w : World) (w0 : IsRow .u8 w a len cap z) (w1 : (Lit.int .u8 f).wf = true) (w2 : (Lit.int .u8 x).wf = true) (_hL : laidMetH Tryd.prog Rows.fieldThroughRow.laid w) :
    Calls Tryd.prog 4 #[.slice a len cap, .int .u8 f, .int .u8 x] w fun e w' => e = .returned (.bool true) ∧ Below w.heap.size w w' := by
  obtain ⟨b1, b2⟩ := bounds_u8 w1
  obtain ⟨f, rfl⟩ := Int.eq_ofNat_of_zero_le b1
  obtain ⟨b3, b4⟩ := bounds_u8 w2
  obtain ⟨x, rfl⟩ := Int.eq_ofNat_of_zero_le b3
  obtain ⟨l, hl, hb, hI, hm, hc⟩ := row_of_isRow w0
  by_cases h : (len : Int) < 1 ∨ (20 : Int) < (len : Int)
  · exact (walk_out a len cap f x w h).mono fun e w' ⟨he, hw⟩ => ⟨he, hw ▸ Below.refl _ _⟩
  · exact walk_in a len cap l f x w hl (by omega) (by omega) hb hI (by omega)
end Go.Proofs.YtfojimaafhpgbaaDoor.fieldThrough
