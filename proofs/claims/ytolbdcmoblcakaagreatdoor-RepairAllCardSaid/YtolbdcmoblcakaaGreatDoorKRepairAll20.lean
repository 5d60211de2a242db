/- Walks: matrix.Powers, matrix.Spread, the document's IsSpread; the law's unit. -/
import Derived.Test.YtolbdcmoblcakaaGreatDoorKRepairAll19
import Derived.Test.YtolbdcmoblcakaaGreatDoorKRepairAll15
import Derived.Test.YtolbdcmoblcakaaGreatDoorKRepairAll01
import Derived.Deep.SlicePairs
namespace Go.Proofs.YtolbdcmoblcakaaGreatDoor
open Go.RowKit

theorem powZ_nat {a j : Nat} (hj : j < 255) : powZ a (j : Int) = Gf.pow a j := by
  unfold powZ
  by_cases h : (j : Int) = 0
  · rw [if_pos h]
    obtain rfl : j = 0 := by omega
    rfl
  · rw [if_neg h]
    have e : ((j : Int) % 255).toNat = j := by omega
    rw [e]
    by_cases h0 : a = 0
    · rw [if_pos h0, h0]
      obtain ⟨m, rfl⟩ : ∃ m, j = m + 1 := ⟨j - 1, by omega⟩
      unfold Gf.pow
      first | rw [Gf.zero_mul] | rw [Gf.mul_zero]
    · rw [if_neg h0]

set_option maxHeartbeats 1000000 in
theorem powers_bad (n k : Int) (w : World) (eb : Value) (hb : w.cell? ⟨3, 0, none⟩ = some eb) (h : ¬ (1 ≤ k ∧ k ≤ n ∧ n ≤ 12)) :
    Calls Tryz.prog 64 #[.int .i64 n, .int .i64 k] w fun e w' => e = .returned (.tuple #[.slice none 0 0, eb]) ∧ ∃ q, w' = w.drewN q := by
  by_cases h1 : k < 1
  · go_enter Tryz.func64, Tryz.ntmps64
    go_wp2
    go_quiet (fail)
    go_wp2
    go_ret2
    exact ⟨rfl, _, rfl⟩
  · by_cases h2 : n < k
    · go_enter Tryz.func64, Tryz.ntmps64
      go_wp2
      go_quiet (fail)
      go_wp2
      go_ret2
      exact ⟨rfl, _, rfl⟩
    · have h3 : 12 < n := by omega
      go_enter Tryz.func64, Tryz.ntmps64
      go_wp2
      go_quiet (fail)
      go_wp2
      go_ret2
      exact ⟨rfl, _, rfl⟩
set_option maxRecDepth 100000 in
set_option maxHeartbeats 4000000 in
theorem powers_walk (n k : Nat) (w : World) (hk : 1 ≤ k) (hkn : k ≤ n) (hn : n ≤ 12) :
    Calls Tryz.prog 64 #[.int .i64 n, .int .i64 k] w fun e w' => (∃ v bs caps, e = .returned (.tuple #[v, .nilIface]) ∧ OwnM w.heap.size w' v n k bs caps Mx.vanderM) ∧ Below w.heap.size w w' := by
  have g1 : ¬ (k : Int) < 1 := by omega
  have g2 : ¬ (n : Int) < k := by omega
  have g3 : ¬ (12 : Int) < n := by omega
  go_enter Tryz.func64, Tryz.ntmps64
  go_wp2
  go_loopw [6, 25] (fun vo vi wr => ∃ (i : Nat) (bs cps : Nat → Nat), i ≤ n ∧ vi = .int .i64 i ∧ Hid (OwnM w.heap.size wr vo i k bs cps Mx.vanderM ∧ Below w.heap.size w wr)) (fun _ i _ => n - (intOf i).toNat)
  case atStart => exact ⟨0, fun _ => 0, fun _ => 0, by omega, rfl, Lib.hid ⟨OwnM.nil _ _ _ _ _ _, Below.refl _ _⟩⟩
  case round =>
    obtain ⟨i, bs, cps, hi, rfl, H⟩ := hrel
    have hi2 : i < n ∨ i = n := by omega
    rcases hi2 with hlt | rfl
    · have hlt2 : (i : Int) < n := by omega
      have hsz := H.out.2.size
      obtain ⟨wo, rfl⟩ : ∃ wo : World, wo = wr := ⟨_, rfl⟩
      go_wp2
      go_loopw [8, 29] (fun v vj wr => ∃ j : Nat, j ≤ k ∧ vj = .int .i64 j ∧ Hid (OwnB wo.heap.size wr v ((List.range j).map (Mx.vanderM i)) ∧ Below wo.heap.size wo wr)) (fun _ j _ => k - (intOf j).toNat)
      case atStart => exact ⟨0, by omega, rfl, Lib.hid ⟨OwnB.nil _ _, Below.refl _ _⟩⟩
      case round =>
        obtain ⟨j, hj, rfl, H2⟩ := hrel
        have hj2 : j < k ∨ j = k := by omega
        rcases hj2 with hjl | rfl
        · have hjl2 : (j : Int) < k := by omega
          have hp := pow_any i j wr (by omega) (by omega) (by omega) (by omega)
          rw [powZ_nat (by omega)] at hp
          have hv : Gf.pow i j = Mx.vanderM i j := by unfold Mx.vanderM; rw [Nat.mod_eq_of_lt (by omega)]
          rw [hv] at hp
          obtain ⟨x, hx⟩ : ∃ x, Mx.vanderM i j = x := ⟨_, rfl⟩
          rw [hx] at hp
          have Hp := Lib.hid hp
          have Hxx := Lib.hid hx
          have hl : ((List.range j).map (Mx.vanderM i)).length + 1 ≤ 140737488355328 := by simp; omega
          have hs2 := H2.out.2.size
          have hmod : (i : Int) % 256 = i := by omega
          clear hp hv hx
          go_wp2_with fail
          refine Hp.out.mono ?_
          rintro e w' ⟨rfl, rfl⟩
          go_wp2_with (at_builtin; refine append_byte 39 41 rfl rfl wo.heap.size _ _ x rfl rfl H2.out.1 hl hs2 ?_)
          intro v' w' k1 k2 k3
          have hb : Below wo.heap.size wo w' := (H2.out.2.alloc hs2 _).grown k2 (by simp; omega) (fun q e => (H2.out.1.lt q e).1)
          have hr : OwnB wo.heap.size w' v' ((List.range (j + 1)).map (Mx.vanderM i)) := by
            rw [List.range_succ, List.map_append, List.map_cons, List.map_nil, Hxx.out]; exact k1
          have HR := Lib.hid (And.intro hr hb)
          clear k1 k2 k3 hb hr
          go_wp2
          go_roundw
          case rel => exact ⟨j + 1, by omega, by go_num, HR⟩
          case measure => simp [intOf]; omega
        · obtain ⟨g, cg, hve, hg1, hg2, hg3, hg4, hrow⟩ := OwnB.copy H2.out.1 hk
          rw [hve]
          have hb3 : Below w.heap.size w wr := H.out.2.trans (H2.out.2.mono hsz)
          have hm2 : OwnM w.heap.size wr u6 i j bs cps Mx.vanderM := H.out.1.below H2.out.2 (Nat.le_refl _)
          have hne : ∀ i', i' < i → bs i' ≠ g := fun i' h e => by have := H.out.1.lt i' h; omega
          have hoff : u6.ownBlock ≠ some g := fun e => by have := (H.out.1.own.lt _ e).2; omega
          have hsz2 := hb3.size
          have hown := Lib.hid hm2.own
          have hul : ((List.range i).map fun i => Value.slice (some ⟨bs i, 0, none⟩) j (cps i)).length ≤ 1000000 := by simp; omega
          have Hx := Lib.hid (And.intro hm2 (And.intro hb3 (And.intro hne (And.intro hoff (And.intro hg1 (And.intro hg2 (And.intro hg3 (And.intro hg4 hrow))))))))
          clear hve hb3 hm2 hne hoff hg1 hg2 hg3 hg4 hrow
          go_wp2_with (at_builtin; refine append_rowv 44 46 rfl rfl w.heap.size _ _ (some ⟨g, 0, none⟩) j cg rfl rfl hown.out hul hsz2 ?_)
          intro v' w' k1 k2 k3
          obtain ⟨hm2, hb3, hne, hoff, hg1, hg2, hg3, hg4, hrow⟩ := Hx.out
          have hm3 := hm2.snoc hrow (by omega) hg2 hne hoff ⟨hg3, hg4⟩ k1 k2 k3
          have hb4 : Below w.heap.size w w' := (hb3.alloc hsz2 _).grown k2 (by simp; omega) (fun j e => (hm2.own.lt j e).1)
          have hm4 := hm3.congr (M' := Mx.vanderM) (fun i' hi' j hj => by
            unfold Mx.putR
            by_cases e : i' = i
            · rw [if_pos e, e]
            · rw [if_neg e])
          have HR := Lib.hid (And.intro hm4 hb4)
          clear hm2 hb3 hne hoff hg1 hg2 hg3 hg4 hrow hm3 hb4 hm4 k1 k2 k3 Hx hown
          go_wp2
          go_roundw
          case rel => exact ⟨i + 1, _, _, by omega, by go_num, HR⟩
          case measure => simp [intOf]; omega
    · go_wp2
      go_ret2
      exact ⟨⟨_, bs, cps, rfl, H.out.1⟩, H.out.2⟩
end Go.Proofs.YtolbdcmoblcakaaGreatDoor
/- Walks: matrix.Spread, the document's IsSpread; the law's unit. -/
namespace Go.Proofs.YtolbdcmoblcakaaGreatDoor
open Go.RowKit

/-- three errors of package api. -/
structure ErrEz (w : World) (E : Nat → Addr) : Prop where
  c1 : w.cell? ⟨3, 0, none⟩ = some (errV (E 1))
  c2 : w.cell? ⟨6, 0, none⟩ = some (errV (E 2))
  c11 : w.cell? ⟨11, 0, none⟩ = some (errV (E 11))
theorem ErrEz.below {n : Nat} {w w' : World} {E : Nat → Addr} (hb : Below n w w') (hn : w.heap.size ≤ n) (h : ErrEz w E) : ErrEz w' E := by
  have c : ∀ {p v}, w.cell? p = some v → w'.cell? p = some v := fun {p v} h => (hb.cell (Nat.lt_of_lt_of_le (lt_of_cell h) hn)).trans h
  exact ⟨c h.c1, c h.c2, c h.c11⟩
theorem ErrEnv.ez {w : World} {E : Nat → Addr} (h : ErrEnv w E) : ErrEz w E := ⟨h.c1, h.c2, h.c11⟩

namespace Mx
theorem ker_wide {M : Nat → Nat → Nat} {n : Nat} {v : Nat → Nat} : Ker (wide M n) n n v ↔ Ker M n n v :=
  ⟨fun h i hi => by rw [← h i hi]; exact dot_congr (fun j hj => by unfold wide; rw [if_pos hj]) (fun _ _ => rfl), fun h i hi => by rw [← h i hi]; exact dot_congr (fun j hj => by unfold wide; rw [if_pos hj]) (fun _ _ => rfl)⟩
/-- what turns nothing but 0 to 0 has an inverse. -/
theorem inv_full {M G : Nat → Nat → Nat} {n done : Nat} {L : Nat → Nat} (hG : ByM G) (h : RR G n n done L) (hk : ∀ d v, By v → (Ker G n d v ↔ Ker (wide M n) n d v)) (h0 : ∀ v, By v → Ker M n n v → ∀ j, j < n → v j = 0) : done = n :=
  h.ech.full hG (fun v hv hK => h0 v hv (ker_wide.1 ((hk n v hv).1 (h.ker.1 hK))))
theorem vander_full {k : Nat} (hk : k ≤ 200) {v : Nat → Nat} (hv : By v) (h : Ker vanderM k k v) : ∀ j, j < k → v j = 0 :=
  vander (xs := fun i => i) hk (fun i hi => by omega) (fun _ _ _ _ e => e) hv (fun i hi => by
    have := h i hi
    unfold vanderM at this
    rwa [Nat.mod_eq_of_lt (show i < 256 by omega)] at this)
end Mx

set_option maxHeartbeats 1000000 in
theorem spread_bad (n k : Int) (w : World) (a1 : Addr) (hb : w.cell? ⟨3, 0, none⟩ = some (errV a1)) (h : ¬ (1 ≤ k ∧ k ≤ n ∧ n ≤ 12)) :
    Calls Tryz.prog 69 #[.int .i64 n, .int .i64 k] w fun e w' => e = .returned (.tuple #[.slice none 0 0, errV a1]) ∧ ∃ q, w' = w.drewN q := by
  have H := Lib.hid (powers_bad n k w (errV a1) hb h)
  clear hb h
  go_enter Tryz.func69, Tryz.ntmps69
  go_wp2_with fail
  refine H.out.mono ?_
  rintro e w' ⟨rfl, q, rfl⟩
  go_wp2
  go_ret2
  exact ⟨rfl, q, rfl⟩
set_option maxRecDepth 100000 in
set_option maxHeartbeats 2000000 in
theorem spread_walk (n k : Nat) (w : World) (E : Nat → Addr) (hE : ErrEz w E) (hk : 1 ≤ k) (hkn : k ≤ n) (hn : n ≤ 12) :
    Calls Tryz.prog 69 #[.int .i64 n, .int .i64 k] w fun e w' => (∃ v bs caps, e = .returned (.tuple #[v, .nilIface]) ∧ OwnM w.heap.size w' v n k bs caps (Mx.spr k)) ∧ Below w.heap.size w w' := by
  have HE := Lib.hid hE; clear hE
  go_enter Tryz.func69, Tryz.ntmps69
  go_wp2_with fail
  refine (powers_walk n k w hk hkn hn).mono ?_
  rintro e w1 ⟨⟨v, bs, cps, rfl, hm⟩, hb1⟩
  obtain ⟨g, cg, hve, hg1, hg2, hV⟩ := hm.mat (by omega)
  rw [hve]
  have hR := hV.read (by omega) (by omega)
  have hE1 := HE.out.below hb1 (Nat.le_refl _)
  have hi := invert_walk w1.heap.size g 0 k cg bs (fun _ => 0) cps Mx.vanderM w1 _ _ (Nat.le_refl _) hE1.c2 hE1.c11 (hR.some_ hkn) Mx.by_vander hk (by omega)
  have Hi := Lib.hid hi
  have H1 := Lib.hid (And.intro hR (And.intro hb1 hE1))
  have hg3 : (k : Int) ≤ cg := by omega
  clear hi hR hb1 hE1 hV hm hve
  go_wp2_with fail
  refine Hi.out.mono ?_
  rintro e w2 ⟨done, L, G, hby, hrr, hker, hb2, hres⟩
  have hd := Mx.inv_full hby hrr hker (fun v hv hK => Mx.vander_full (by omega) hv hK)
  subst hd
  rcases hres with ⟨hlt, _⟩ | ⟨_, v2, bs2, cps2, rfl, hm2⟩
  · omega
  obtain ⟨g', cg', hve, hg4, hg5, hV2⟩ := hm2.mat (by omega)
  rw [hve]
  obtain ⟨hR, hb1, hE1⟩ := H1.out
  have hinv : Mx.Inv Mx.vanderM (Mx.right G done) done := Mx.inverse_of Mx.by_vander hby hrr (fun v hv => hker _ v hv)
  have hR2 := (hR.below hb2).mono hb2.size
  have hX := hV2.read (by omega) (by omega)
  have hE2 := hE1.below hb2 (Nat.le_refl _)
  have ht := times_walk w2.heap.size g 0 n done cg g' 0 done cg' bs (fun _ => 0) cps bs2 (fun _ => 0) cps2 Mx.vanderM (Mx.right G done) w2 _ (Nat.le_refl _) hE2.c2 hR2 hX Mx.by_vander hinv.by_ (by omega) (by omega) hk (by omega) hk (by omega)
  have Ht := Lib.hid ht
  have H2 := Lib.hid (And.intro hinv (hb1.trans (hb2.mono hb1.size)))
  clear ht hinv hR hb1 hE1 hR2 hX hE2 hV2 hm2 hve hrr hker hby hb2 H1
  go_wp2_with fail
  refine Ht.out.mono ?_
  rintro e w3 ⟨⟨v3, bs3, cps3, rfl, hm3⟩, hb3⟩
  obtain ⟨hinv, hb2⟩ := H2.out
  have hm4 : OwnM w.heap.size w3 v3 n done bs3 cps3 (Mx.spr done) := (hm3.congr (fun i hi j hj => Mx.spread_is (by omega) hinv (show i < 256 by omega) hj)).lower hb2.size
  have H3 := Lib.hid (And.intro hm4 (hb2.trans (hb3.mono hb2.size)))
  clear hinv hb2 hm3 hm4 hb3 H2
  go_wp2
  go_ret2
  exact ⟨⟨v3, bs3, cps3, rfl, H3.out.1⟩, H3.out.2⟩

/-- can so many shards be? -/
def isSpreadB (n k : Int) : Bool := decide (1 ≤ k ∧ k ≤ n ∧ n ≤ 12)
theorem isspread_walk (n k : Int) (w : World) :
    Calls Tryz.prog 27 #[.int .i64 n, .int .i64 k] w fun e w' => e = .returned (.bool (isSpreadB n k)) ∧ w = w' := by
  by_cases h1 : 1 ≤ k
  · by_cases h2 : k ≤ n
    · by_cases h3 : n ≤ 12
      · go_enter Tryz.func27, Tryz.ntmps27
        go_wp2
        go_ret
        exact ⟨by rw [show isSpreadB n k = true from decide_eq_true ⟨h1, h2, h3⟩]; rfl, rfl⟩
      · go_enter Tryz.func27, Tryz.ntmps27
        go_wp2
        go_ret
        exact ⟨by rw [show isSpreadB n k = false from decide_eq_false (by omega)]; rfl, rfl⟩
    · go_enter Tryz.func27, Tryz.ntmps27
      go_wp2
      go_ret
      exact ⟨by rw [show isSpreadB n k = false from decide_eq_false (by omega)]; rfl, rfl⟩
  · go_enter Tryz.func27, Tryz.ntmps27
    go_wp2
    go_ret
    exact ⟨by rw [show isSpreadB n k = false from decide_eq_false (by omega)]; rfl, rfl⟩

/-- the matrix with a 1 alone. -/
def oneM : Nat → Nat → Nat := fun _ _ => 1
end Go.Proofs.YtolbdcmoblcakaaGreatDoor
/- The walk of the document's Between: the three ways; and the program's Between where it is an error. -/
namespace Go.Proofs.YtolbdcmoblcakaaGreatDoor
open Go.RowKit

theorem basis_q (n₀ : Nat) (ax : Option Addr) (cap : Nat) (xs : List Nat) (i x : Nat) (w : World) (n : Nat) (hx : Bytes xs) (hu : Unlike xs) (hxx : x < 256) (hl : xs.length ≤ maxLen) (hi : i < xs.length) (hI : RowAt n₀ (w.drewN n) ax xs) :
    Calls Tryz.prog 56 #[.slice ax xs.length cap, .int .i64 i, .int .u8 x] (w.drewN n) fun e w'' => e = .returned (.int .u8 (bas xs i x : Nat)) ∧ ∃ m, w'' = w.drewN m :=
  Calls.quiet_of (basis_walk n₀ ax cap xs i x (w.drewN n) hx hu hxx hl hi hI)
theorem RowAt.drewN {n₀ : Nat} {w : World} {a : Option Addr} {l : List Nat} (n : Nat) (h : RowAt n₀ w a l) : RowAt n₀ (w.drewN n) a l := h

/-- the sum of the first i terms. -/
def rbtN (xs ys : List Nat) (x : Nat) : Nat → Nat
  | 0 => 0
  | i + 1 => rbtN xs ys x i ^^^ Gf.mul (ys[i]?.getD 0) (bas xs i x)
theorem rbtN_lt {xs ys : List Nat} (hy : Bytes ys) (x : Nat) : ∀ i, rbtN xs ys x i < 256
  | 0 => (by decide : 0 < 256)
  | i + 1 => Gf.xor_lt (rbtN_lt hy x i) (Gf.mul_lt _ (hy.at i))
theorem rbtN_eq {xs ys : List Nat} (hx : Bytes xs) (hy : Bytes ys) (hu : Unlike xs) {x : Nat} (hxx : x < 256) : ∀ i, i ≤ xs.length → rbtN xs ys x i = btwN xs ys x i
  | 0, _ => rfl
  | i + 1, hi => by
    show rbtN xs ys x i ^^^ _ = btwN xs ys x i ^^^ _
    rw [rbtN_eq hx hy hu hxx i (by omega), lagT_bas hx hy hu hxx (by omega)]

/-- the first of xs that stands there before, if there is one. -/
theorem first_dup (xs : List Nat) : (∀ i, i < xs.length → xs[i]?.getD 0 ∉ xs.take i) ∨ ∃ d, d < xs.length ∧ xs[d]?.getD 0 ∈ xs.take d ∧ ∀ i, i < d → xs[i]?.getD 0 ∉ xs.take i := by
  suffices h : ∀ n, n ≤ xs.length → (∀ i, i < n → xs[i]?.getD 0 ∉ xs.take i) ∨ ∃ d, d < xs.length ∧ xs[d]?.getD 0 ∈ xs.take d ∧ ∀ i, i < d → xs[i]?.getD 0 ∉ xs.take i from h xs.length (Nat.le_refl _)
  intro n
  induction n with
  | zero => intro _; left; intro i hi; omega
  | succ n ih =>
    intro hn
    rcases ih (by omega) with h | h
    · by_cases hm : xs[n]?.getD 0 ∈ xs.take n
      · exact .inr ⟨n, by omega, hm, h⟩
      · left
        intro i hi
        rcases Nat.lt_or_ge i n with h1 | h1
        · exact h i h1
        · obtain rfl : i = n := by omega
          exact hm
    · exact .inr h
theorem mem_take_iff {xs : List Nat} {v k : Nat} (hk : k ≤ xs.length) : v ∈ xs.take k ↔ ∃ j, j < k ∧ xs[j]?.getD 0 = v := by
  constructor
  · intro h
    obtain ⟨j, hj, e⟩ := List.getElem_of_mem h
    have hj1 : j < k := by simp at hj; omega
    have hj2 : j < xs.length := by simp at hj; omega
    refine ⟨j, hj1, ?_⟩
    rw [List.getElem?_eq_getElem hj2, ← e, List.getElem_take]; rfl
  · rintro ⟨j, hj, rfl⟩
    rw [List.getElem?_eq_getElem (by omega)]
    exact List.mem_iff_getElem.2 ⟨j, by simp; omega, by rw [List.getElem_take]; rfl⟩
theorem unlike_of {xs : List Nat} (h : ∀ i, i < xs.length → xs[i]?.getD 0 ∉ xs.take i) : Unlike xs := by
  intro i k hi hk hne e
  rcases Nat.lt_or_ge i k with h1 | h1
  · exact h k hk ((mem_take_iff (by omega)).2 ⟨i, h1, e⟩)
  · exact h i hi ((mem_take_iff (by omega)).2 ⟨k, by omega, e.symm⟩)

end Go.Proofs.YtolbdcmoblcakaaGreatDoor
/- Walks of the document's Times and SameMatrix; of the program's Times where they do not go together. -/
namespace Go.Proofs.YtolbdcmoblcakaaGreatDoor
open Go.RowKit

/-- the row while a column of it grows. -/
def growing (MA MB : Nat → Nat → Nat) (K i j k : Nat) : Nat → Nat := Mx.upd (firstK j (timesRow MA MB i K) (fun _ => 0)) j (timesRow MA MB i k j)

/-- a row as a text. -/
def rowText (f : Nat → Nat) (C : Nat) : List UInt8 := (List.range C).map fun j => UInt8.ofNat (f j)
theorem conv_row (w : World) (p o C cap : Nat) (f : Nat → Nat) (hf : ∀ j, f j < 256) (hc : ∀ j, j < C → w.cell? ⟨p, o + j, none⟩ = some (.int .u8 (f j : Nat))) :
    (convert 92 9 (.slice (some ⟨p, o, none⟩) C cap)).run Tryz.prog w = .ok (.string ⟨(rowText f C).toArray⟩) w := by
  have hl : (rowText f C).length = C := by simp [rowText]
  have h := run_convert_bytes_back (P := Tryz.prog) w 92 9 5 ⟨p, o, none⟩ cap (rowText f C) Tryz.underlying92 Tryz.underlying5 Tryz.underlying9 (fun j hj => by
    rw [Addr.add_lit, hc j (by rw [← hl]; exact hj)]
    have e : (rowText f C)[j] = UInt8.ofNat (f j) := by simp [rowText]
    rw [e, UInt8.toNat_ofNat_of_lt' (hf j)])
  rw [hl] at h
  exact h
end Go.Proofs.YtolbdcmoblcakaaGreatDoor
/- Walks of coder.wide and coder.product. -/
namespace Go.Proofs.YtolbdcmoblcakaaGreatDoor
open Go.RowKit

/-- how many bytes a shard has. -/
def wideN (k size : Nat) : Nat := (size + k - 1) / k
theorem wide_walk2 (k size : Nat) (w : World) (hk : 1 ≤ k) (hk2 : k ≤ 1000) (hs : size ≤ 100000) :
    Calls Tryz.prog 70 #[.int .i64 k, .int .i64 size] w fun e w' => e = .returned (.int .i64 (wideN k size : Nat)) ∧ w = w' := by
  have h1 : (0 : Int) ≤ (size : Int) + k - 1 := by omega
  have h2 : ((wideN k size : Nat) : Int) = ((size : Int) + k - 1) / k := by
    unfold wideN
    have : ((size + k - 1 : Nat) : Int) = (size : Int) + k - 1 := by omega
    rw [Int.natCast_ediv, this]
  have H2 := Lib.hid h2
  clear h2
  have hk3 : (1 : Int) ≤ k := by omega
  have hk4 : ((k : Int) == 0) = false := by simp; omega
  go_enter Tryz.func70, Tryz.ntmps70
  go_wp2
  go_ret
  exact ⟨by rw [H2.out]; rfl, rfl⟩

/-- row i of a product, the first j columns of it. -/
def prodN (M : Nat → Nat → Nat) (t : Nat → ByteArray) (i j : Nat) : Nat → Nat := fun c => Mx.dot (M i) (fun l => sb (t l) c) j
theorem prodN_lt {M : Nat → Nat → Nat} (hM : Mx.ByM M) (t : Nat → ByteArray) (i j c : Nat) : prodN M t i j c < 256 := Mx.dot_lt (hM i) j
/-- text i of a product. -/
def prodT (M : Nat → Nat → Nat) (t : Nat → ByteArray) (k W i : Nat) : ByteArray := ⟨(rowText (prodN M t i k) W).toArray⟩
theorem prodT_size (M : Nat → Nat → Nat) (t : Nat → ByteArray) (k W i : Nat) : (prodT M t k W i).size = W := by
  show (rowText (prodN M t i k) W).toArray.size = W
  simp [rowText]
theorem sb_prodT {M : Nat → Nat → Nat} (hM : Mx.ByM M) (t : Nat → ByteArray) (k W i : Nat) {c : Nat} (hc : c < W) : sb (prodT M t k W i) c = prodN M t i k c := by
  unfold sb prodT rowText
  simp [hc]
  exact prodN_lt hM t i k c

set_option maxRecDepth 100000 in
set_option maxHeartbeats 4000000 in
theorem product_walk (n₀ gm om n k cm gt ot ct W : Nat) (p o caps : Nat → Nat) (M : Nat → Nat → Nat) (t : Nat → ByteArray) (w : World) (hn₀ : n₀ ≤ w.heap.size)
    (hM : MatR n₀ w gm om n k p o caps M) (bM : Mx.ByM M) (hT : TxtR n₀ w gt ot k W t) (hn2 : n ≤ 16) (hk : 1 ≤ k) (hk2 : k ≤ 16) (hW : W ≤ 100000) :
    Calls Tryz.prog 72 #[.slice (some ⟨gm, om, none⟩) n cm, .slice (some ⟨gt, ot, none⟩) k ct] w fun e w' => (∃ v, e = .returned v ∧ Own1 9 w.heap.size w' v ((List.range n).map fun i => Value.string (prodT M t k W i))) ∧ Below w.heap.size w w' := by
  have hmk := fun (V : World) => run_make_row' (P := Tryz.prog) (w := V) 92 5 (.int .u8 0) 1 Tryz.underlying92 info_uint8 rfl .i64 .i64 W (by omega) (by omega)
  have Hmk := Lib.hid hmk
  have HM := Lib.hid hM
  have HT := Lib.hid hT
  clear hmk hM hT
  go_enter Tryz.func72, Tryz.ntmps72
  go_wp2
  go_loopw [5, 14] (fun vo vi wr => ∃ i : Nat, i ≤ n ∧ vi = .int .i64 i ∧ Hid (Own1 9 w.heap.size wr vo ((List.range i).map fun i => Value.string (prodT M t k W i)) ∧ Below w.heap.size w wr)) (fun _ i _ => n - (intOf i).toNat)
  case atStart => exact ⟨0, by omega, rfl, Lib.hid ⟨Own1.nil _ _ _, Below.refl _ _⟩⟩
  case round =>
    obtain ⟨i, hi, rfl, H⟩ := hrel
    have hi2 : i < n ∨ i = n := by omega
    rcases hi2 with hlt | rfl
    · have hlt2 : (i : Int) < n := by omega
      have hA1 := (HM.out.below (H.out.2.mono hn₀)).head i hlt
      have hB1 := (HT.out.below (H.out.2.mono hn₀)).cell 0 (by omega)
      rw [Nat.add_zero] at hB1
      have hsz0 := HT.out.size 0 (by omega)
      obtain ⟨t0, ht0⟩ : ∃ t0, t 0 = t0 := ⟨_, rfl⟩
      rw [ht0] at hB1 hsz0
      have hsz0' : (t0.size : Int) = W := by omega
      have hK3 : (0 : Int) < k := by omega
      have hmk := Hmk.out wr
      rw [← hsz0] at hmk
      clear ht0
      obtain ⟨wo, rfl⟩ : ∃ wo : World, wo = wr := ⟨_, rfl⟩
      have Hs0 := Lib.hid hsz0
      clear hsz0 hsz0'
      go_wp2
      rw [Hs0.out]
      have hsz := H.out.2.size
      have hrow := RowV.made wo W
      obtain ⟨W0, hW0⟩ : ∃ W0, (wo.alloc (.cells (madeCells #[.int .u8 0] W) 5)) = W0 := ⟨_, rfl⟩
      have hb0 : Below w.heap.size w W0 := by rw [← hW0]; exact H.out.2.alloc hsz _
      have hm0 : Own1 9 w.heap.size W0 u5 ((List.range i).map fun i => Value.string (prodT M t k W i)) := by rw [← hW0]; exact H.out.1.alloc _
      have hs0 : W0.heap.size = wo.heap.size + 1 := by rw [← hW0]; simp
      have ho0 : u5.ownBlock ≠ some wo.heap.size := fun e => by have := (H.out.1.lt _ e).2; omega
      rw [hW0] at hrow ⊢
      obtain ⟨g, hg⟩ : ∃ g, wo.heap.size = g := ⟨_, rfl⟩
      rw [hg] at hrow hs0 ho0 hsz ⊢
      have Hx := Lib.hid (And.intro hrow (And.intro hb0 (And.intro hm0 (And.intro hs0 ho0))))
      clear hrow hb0 hm0 hs0 ho0 hW0 hg hmk hA1 hB1
      go_loopw [25] (fun vt wr => ∃ j : Nat, j ≤ k ∧ vt = .int .i64 j ∧ Hid (OnlyB g W0 wr ∧ RowV wr g W (prodN M t i j))) (fun t _ => k - (intOf t).toNat)
      case atStart => exact ⟨0, by omega, rfl, Lib.hid ⟨OnlyB.refl _ _, Hx.out.1⟩⟩
      case round =>
        obtain ⟨j, hj, rfl, H2⟩ := hrel
        have hj2 : j < k ∨ j = k := by omega
        rcases hj2 with hjl | rfl
        · have hjl2 : (j : Int) < k := by omega
          have hA2 := (HM.out.below (Hx.out.2.1.mono hn₀))
          have hcA : wr.cell? ⟨p i, o i + j, none⟩ = some (.int .u8 (M i j : Nat)) := (H2.out.1.cell (p := ⟨p i, o i + j, none⟩) (by have := HM.out.plo i hlt; show p i ≠ g; omega)).trans (hA2.cell i hlt j hjl)
          have hx := bM i j
          obtain ⟨x, hxe⟩ : ∃ x, M i j = x := ⟨_, rfl⟩
          rw [hxe] at hcA hx
          have Hxe := Lib.hid hxe
          clear hxe hA2
          obtain ⟨wm, rfl⟩ : ∃ wm : World, wm = wr := ⟨_, rfl⟩
          go_wp2
          go_loopw [32] (fun vs wr => ∃ c : Nat, c ≤ W ∧ vs = .int .i64 c ∧ Hid (OnlyB g W0 wr ∧ RowV wr g W (firstK c (prodN M t i (j + 1)) (prodN M t i j)))) (fun s _ => W - (intOf s).toNat)
          case atStart => exact ⟨0, by omega, rfl, Lib.hid ⟨H2.out.1, H2.out.2.congr fun j _ => by unfold firstK; rw [if_neg (by omega)]⟩⟩
          case round =>
            obtain ⟨c, hc, rfl, H3⟩ := hrel
            have hc2 : c < W ∨ c = W := by omega
            rcases hc2 with hcl | rfl
            · have hcl2 : (c : Int) < W := by omega
              have hB2 := (HT.out.below (Hx.out.2.1.mono hn₀))
              have hcB : wr.cell? ⟨gt, ot + j, none⟩ = some (.string (t j)) := (H3.out.1.cell (p := ⟨gt, ot + j, none⟩) (by have := HT.out.lo; show gt ≠ g; omega)).trans (hB2.cell j hjl)
              have hcD : wr.cell? ⟨g, c, none⟩ = some (.int .u8 (prodN M t i j c : Nat)) := by
                have := H3.out.2.cell c hcl
                unfold firstK at this; rwa [if_neg (by omega)] at this
              have hfr := H3.out.2.free c hcl
              have hd : prodN M t i j c < 256 := prodN_lt bM t i j c
              have hts := HT.out.size j hjl
              have hcs : c < (t j).size := by omega
              have hsb := sb_get (t j) c hcs
              have hnew : prodN M t i (j + 1) c = prodN M t i j c ^^^ Gf.mul x (sb (t j) c) := by
                unfold prodN
                show Mx.dot _ _ j ^^^ Gf.mul (M i j) (sb (t j) c) = _
                rw [Hxe.out]
              rw [hsb] at hnew
              obtain ⟨tj, htj⟩ : ∃ tj, tj = t j := ⟨_, rfl⟩
              have hkey : ∃ (hcs' : c < tj.size), prodN M t i (j + 1) c = prodN M t i j c ^^^ Gf.mul x (tj[c]'hcs').toNat := by subst htj; exact ⟨hcs, hnew⟩
              rw [← htj] at hcB
              obtain ⟨hcs', hnew'⟩ := hkey
              have hy : (tj[c]'hcs').toNat < 256 := (tj[c]'hcs').toNat_lt
              obtain ⟨d, hde⟩ : ∃ d, prodN M t i j c = d := ⟨_, rfl⟩
              rw [hde] at hcD hd hnew'
              have hml := Gf.mul_lt (tj[c]'hcs').toNat hx
              have hz3 : bits .xor .u8 (d : Int) ((Gf.mul x (tj[c]'hcs').toNat : Nat) : Int) = ((d ^^^ Gf.mul x (tj[c]'hcs').toNat : Nat) : Int) := u8_xor_nat _ _ hd hml
              have hmq := fun V => mul_q x (tj[c]'hcs').toNat V hx hy
              obtain ⟨q, hqe⟩ : ∃ q, Gf.mul x (tj[c]'hcs').toNat = q := ⟨_, rfl⟩
              rw [hqe] at hz3 hmq hml hnew'
              have Hz3 := Lib.hid hz3
              have Hnew := Lib.hid hnew'
              have Hmq := Lib.hid hmq
              have hcs3 : (c : Int) < tj.size := by omega
              clear hz3 hnew hnew' hmq hsb htj hde hqe hB2 hts hcs
              go_wp2
              refine wp_region_still_tail 14 (by kernel_rfl) (by kernel_rfl) ?_
              simp only [List.take_succ_cons, List.take_zero, List.drop_succ_cons, List.drop_zero]
              repeat still_step
              still_call (Hmq.out _)
              repeat still_step
              refine wpStill_nil ?_
              change wpList _ _ _ _ _ wr.drew
              go_wp2
              go_roundw
              case rel =>
                refine ⟨c + 1, by omega, by go_num, Lib.hid ⟨?_, ?_⟩⟩
                · exact (H3.out.1.trans (OnlyB.setCell _ _ _ _)).trans (OnlyB.drewN _ _ 1)
                · refine RowV.drewN 1 ?_
                  rw [Hz3.out]
                  refine (H3.out.2.set (x := d ^^^ q) hcl).congr fun j' hj' => ?_
                  unfold Mx.upd firstK
                  by_cases e : j' = c
                  · subst e; rw [if_pos rfl, if_pos (by omega)]; exact Hnew.out.symm
                  · rw [if_neg e]
                    by_cases e2 : j' < c
                    · rw [if_pos e2, if_pos (by omega)]
                    · rw [if_neg e2, if_neg (by omega)]
              case measure => simp [intOf]; omega
            · go_wp2
              go_roundw
              case rel => exact ⟨j + 1, by omega, by go_num, Lib.hid ⟨H3.out.1, H3.out.2.congr fun j' hj' => by unfold firstK; rw [if_pos hj']⟩⟩
              case measure => simp [intOf]; omega
        · obtain ⟨_, hb0, hm0, hs0, ho0⟩ := Hx.out
          have hm1 : Own1 9 w.heap.size wr u5 ((List.range i).map fun i => Value.string (prodT M t j W i)) :=
            hm0.kept (row := some g) ⟨H2.out.1.os, H2.out.1.tape, H2.out.1.output, Nat.le_of_eq H2.out.1.size.symm, fun q _ hq => H2.out.1.block q (fun e => hq (by rw [e]))⟩ (by
              cases e : u5.ownBlock with
              | none => exact .inl rfl
              | some q => exact .inr (fun e2 => ho0 (by rw [e, ← e2])))
          have hb1 := hb0.trans (H2.out.1.below hsz)
          have hown := Lib.hid hm1
          have hul : ((List.range i).map fun i => Value.string (prodT M t j W i)).length ≤ 1000000 := by simp; omega
          have hsz1 := hb1.size
          have hcv := conv_row wr g 0 W W (prodN M t i j) (prodN_lt bM t i j) (fun c hc => by rw [Nat.zero_add]; exact H2.out.2.cell c hc)
          have hpt : (⟨(rowText (prodN M t i j) W).toArray⟩ : ByteArray) = prodT M t j W i := rfl
          rw [hpt] at hcv
          obtain ⟨pt, hpte⟩ : ∃ pt, prodT M t j W i = pt := ⟨_, rfl⟩
          rw [hpte] at hcv
          have Hpte := Lib.hid hpte
          have Hy := Lib.hid (And.intro hm1 hb1)
          clear hb0 hm0 hs0 ho0 hm1 hb1 hpt hpte
          go_wp2_with (at_builtin; refine append_str 51 54 rfl rfl w.heap.size _ _ pt rfl rfl hown.out hul hsz1 ?_)
          intro v' w' k1 k2 k3
          obtain ⟨hm1, hb1⟩ := Hy.out
          have hb2 : Below w.heap.size w w' := (hb1.alloc hsz1 _).grown k2 (by simp; omega) (fun j e => (hm1.lt j e).1)
          have hm3 : Own1 9 w.heap.size w' v' ((List.range (i + 1)).map fun i => Value.string (prodT M t j W i)) := by
            rw [List.range_succ, List.map_append, List.map_cons, List.map_nil, Hpte.out]; exact k1
          have HR := Lib.hid (And.intro hm3 hb2)
          clear hm1 hb1 hb2 hm3 k1 k2 k3 Hy hown hcv
          go_wp2
          go_roundw
          case rel => exact ⟨i + 1, by omega, by go_num, HR⟩
          case measure => simp [intOf]; omega
    · go_wp2
      go_ret
      exact ⟨⟨_, rfl, H.out.1⟩, H.out.2⟩
end Go.Proofs.YtolbdcmoblcakaaGreatDoor
/- Slices of shards: that are read, and that are the call's own. -/
namespace Go.Proofs.YtolbdcmoblcakaaGreatDoor
open Go.RowKit

/-- a shard: its number, its text. -/
abbrev Sh := Int × ByteArray
/-- the cells of shards. -/
def shV : List Sh → List Value
  | [] => []
  | x :: r => .int .i64 x.1 :: .string x.2 :: shV r
theorem shV_append : ∀ (a b : List Sh), shV (a ++ b) = shV a ++ shV b
  | [], _ => rfl
  | x :: r, b => by show _ :: _ :: shV (r ++ b) = _; rw [shV_append r b]; rfl
theorem shV_length : ∀ l : List Sh, (shV l).length = l.length * 2
  | [] => rfl
  | x :: r => by show (shV r).length + 1 + 1 = (r.length + 1) * 2; rw [shV_length r]; omega
theorem shV_at : ∀ (l : List Sh) (i : Nat), i < l.length → (shV l)[i * 2]? = some (.int .i64 (l[i]?.getD (0, ⟨#[]⟩)).1) ∧ (shV l)[i * 2 + 1]? = some (.string (l[i]?.getD (0, ⟨#[]⟩)).2)
  | [], _, h => by simp at h
  | x :: r, 0, _ => ⟨rfl, rfl⟩
  | x :: r, i + 1, h => by
    have := shV_at r i (by simpa using h)
    rw [show (i + 1) * 2 = i * 2 + 1 + 1 by omega]
    exact this
/-- v owns the shards l. -/
def OwnS (B : Nat) (w : World) (v : Value) (l : List Sh) : Prop := w.ownsRow B 56 2 v l.length (shV l)
theorem OwnS.nil (B : Nat) (w : World) : OwnS B w (.slice none 0 0) [] := World.ownsRow_nil _ _ _ _
theorem OwnS.lt {B : Nat} {w : World} {v : Value} {l : List Sh} (h : OwnS B w v l) : ∀ k, v.ownBlock = some k → B ≤ k ∧ k < w.heap.size := World.ownsRow.lt h
theorem OwnS.kept {B : Nat} {w w' : World} {row : Option Nat} {v : Value} {l : List Sh} (h : OwnS B w v l) (hg : w.grownBy w' row) (hne : v.ownBlock = none ∨ v.ownBlock ≠ row) : OwnS B w' v l := World.ownsRow.kept h hg hne
theorem OwnS.below {B n₀ : Nat} {w w' : World} {v : Value} {l : List Sh} (h : OwnS B w v l) (hb : Below n₀ w w') (hn : w.heap.size ≤ n₀) : OwnS B w' v l :=
  OwnS.kept (row := none) h ⟨hb.os, hb.tape, hb.output, hb.size, fun k hk _ => hb.block k (by omega)⟩ (by cases v.ownBlock <;> simp)
theorem OwnS.lower {B B' : Nat} {w : World} {v : Value} {l : List Sh} (h : OwnS B w v l) (hB : B' ≤ B) : OwnS B' w v l := by
  unfold OwnS World.ownsRow at *
  refine ⟨h.1, ?_⟩
  rcases h.2 with h2 | ⟨g, cap, cur, e, hb, h3⟩
  · exact .inl h2
  · exact .inr ⟨g, cap, cur, e, Nat.le_trans hB hb, h3⟩
theorem info_shard : (Tryz.prog.info? 56).map (fun i => (i.zero, i.size, i.bytes)) = some (some (.agg #[.int .i64 0, .string ⟨#[]⟩]), 2, 24) := by kernel_rfl
/-- append(s, Shard{..}). -/
theorem append_shard {ops : Array Oper} {rest : List Oper} {o : Oper} {a : Act} {Q : Exit → Act → World → Prop} {w0 : World} (s x : Nat) (hgd : o.guard = none)
    (ho : o.op = .call { callee := .builtin .append, args := #[.tmp s, .tmp x], argTypes := #[64, 64] }) (B : Nat) (v : Value) (l : List Sh) (n : Int) (t : ByteArray)
    (hs : a.eval (.tmp s) = v) (hx : a.eval (.tmp x) = .slice (some ⟨w0.heap.size, 0, none⟩) 1 1) (hown : OwnS B w0 v l) (hl : l.length ≤ 1000000) (hB : B ≤ w0.heap.size)
    (h : ∀ v' w', OwnS B w' v' (l ++ [(n, t)]) → (w0.alloc (.cells #[.int .i64 n, .string t] 56)).grownBy w' v.ownBlock → (v'.ownBlock = v.ownBlock ∨ v'.ownBlock = some (w0.heap.size + 1)) → wpList Tryz.prog ops Q rest (a.put o.dst v') w') :
    wpList Tryz.prog ops Q (o :: rest) a (w0.alloc (.cells #[.int .i64 n, .string t] 56)) := by
  obtain ⟨i, hi, hz0, hz1, hz2⟩ := info_parts info_shard
  have hown' : (w0.alloc (.cells #[.int .i64 n, .string t] 56)).ownsRow B 56 2 v l.length (shV l) := World.ownsRow.alloc hown _
  refine wpList_append_own_at _ hgd (.tmp s) (.tmp x) 64 ho B 56 i _ 2 24 Tryz.underlying64 hi hz0 hz1 hz2 rfl (by decide) v l.length (shV l) hs hown' ⟨w0.heap.size, 0, none⟩ 1 1 [.int .i64 n, .string t] hx rfl (fun j u hj => ?_) (fun u hu => ?_) (by unfold maxLen; omega) (by omega) (by simp; omega) ?_
  · have hj2 : j < 2 := by have := (List.getElem?_eq_some_iff.1 hj).1; simpa using this
    rw [Go.WideShapes.add_plain, Nat.zero_add, World.cell?_alloc_at _ _ _ _ rfl]
    rcases (show j = 0 ∨ j = 1 by omega) with rfl | rfl <;> simpa using hj
  · simp at hu
    rcases hu with rfl | rfl <;> rfl
  · intro v' w' h1 h2 _ h4
    refine h v' w' ?_ h2 (by simpa using h4)
    unfold OwnS
    rw [shV_append, List.length_append]
    exact h1
/-- shards that are read. -/
def ShR (n₀ : Nat) (w : World) (a : Option Addr) (l : List Sh) : Prop :=
  l = [] ∨ ∃ b off, a = some ⟨b, off, none⟩ ∧ b < n₀ ∧ ∀ i, i < l.length → w.cell? ⟨b, off + i * 2, none⟩ = some (.int .i64 (l[i]?.getD (0, ⟨#[]⟩)).1) ∧ w.cell? ⟨b, off + i * 2 + 1, none⟩ = some (.string (l[i]?.getD (0, ⟨#[]⟩)).2)
theorem ShR.below {n₀ : Nat} {A B : World} (h : Below n₀ A B) {a : Option Addr} {l : List Sh} : ShR n₀ A a l → ShR n₀ B a l
  | .inl e => .inl e
  | .inr ⟨b, off, e, hb, hc⟩ => .inr ⟨b, off, e, hb, fun j hj => ⟨(h.cell (p := ⟨b, off + j * 2, none⟩) hb).trans (hc j hj).1, (h.cell (p := ⟨b, off + j * 2 + 1, none⟩) hb).trans (hc j hj).2⟩⟩
theorem ShR.mono {n₀ n₁ : Nat} {A : World} (h : n₀ ≤ n₁) {a : Option Addr} {l : List Sh} : ShR n₀ A a l → ShR n₁ A a l
  | .inl e => .inl e
  | .inr ⟨b, off, e, hb, hc⟩ => .inr ⟨b, off, e, by omega, hc⟩
theorem OwnS.read {B : Nat} {w : World} {v : Value} {l : List Sh} (h : OwnS B w v l) : ∃ a cap, v = .slice a l.length cap ∧ l.length ≤ cap ∧ cap ≤ maxLen ∧ ShR w.heap.size w a l := by
  rcases h.2 with ⟨rfl, hn⟩ | ⟨g, cap, cur, rfl, hb, hg, hc, hm, hs, ht⟩
  · have : l = [] := List.length_eq_zero_iff.1 hn
    subst this
    exact ⟨none, 0, rfl, Nat.le_refl _, by simp [maxLen], .inl rfl⟩
  · have hh : w.ownsRow B 56 2 (.slice (some ⟨g, 0, none⟩) l.length cap) l.length (shV l) := ⟨h.1, .inr ⟨g, cap, cur, rfl, hb, hg, hc, hm, hs, ht⟩⟩
    refine ⟨_, cap, rfl, hc, hm, .inr ⟨g, 0, rfl, (Array.getElem?_eq_some_iff.1 hg).1, fun i hi => ?_⟩⟩
    have h1 := shV_at l i hi
    have hlen := shV_length l
    have c1 := hh.cellAt (i * 2) (by omega)
    have c2 := hh.cellAt (i * 2 + 1) (by omega)
    rw [Nat.zero_add]
    exact ⟨c1.trans h1.1, c2.trans h1.2⟩
end Go.Proofs.YtolbdcmoblcakaaGreatDoor
