/- Walks: matrix.Spread, the document's IsSpread; the law's unit. -/
import Derived.Test.YtmaalkjimppnkaaDoorMatK
namespace Go.Proofs.YtmaalkjimppnkaaDoor
open Go.RowKit

/-- three errors of package api. -/
structure ErrEz (w : World) (E : Nat → Addr) : Prop where
  c1 : w.cell? ⟨6, 0, none⟩ = some (errV (E 1))
  c2 : w.cell? ⟨5, 0, none⟩ = some (errV (E 2))
  c11 : w.cell? ⟨11, 0, none⟩ = some (errV (E 11))
theorem ErrEz.below {n : Nat} {w w' : World} {E : Nat → Addr} (hb : Below n w w') (hn : w.heap.size ≤ n) (h : ErrEz w E) : ErrEz w' E := by
  have c : ∀ {p v}, w.cell? p = some v → w'.cell? p = some v := fun {p v} h => (hb.cell (Nat.lt_of_lt_of_le (lt_of_cell h) hn)).trans h
  exact ⟨c h.c1, c h.c2, c h.c11⟩
theorem ErrEnv.ez {w : World} {E : Nat → Addr} (h : ErrEnv w E) : ErrEz w E := ⟨h.c1, h.c2, h.c11⟩

namespace Mx
theorem ker_wide {M : Nat → Nat → Nat} {n : Nat} {v : Nat → Nat} : Ker (wide M n) n n v ↔ Ker M n n v :=
  ⟨fun h i hi => by rw [← h i hi]; exact dot_congr (fun j hj => by unfold wide; rw [if_pos hj]) (fun _ _ => rfl), fun h i hi => by rw [← h i hi]; exact dot_congr (fun j hj => by unfold wide; rw [if_pos hj]) (fun _ _ => rfl)⟩
/-- what turns nothing but 0 to 0 has an inverse. -/
theorem inv_full {M G : Nat → Nat → Nat} {n done : Nat} {L : Nat → Nat} (hG : ByM G) (h : RR G n n done L) (hk : ∀ d v, By v → (Ker G n d v ↔ Ker (wide M n) n d v)) (h0 : ∀ v, By v → Ker M n n v → ∀ j, j < n → v j = 0) : done = n :=
  h.ech.full hG (fun v hv hK => h0 v hv (ker_wide.1 ((hk n v hv).1 (h.ker.1 hK))))
theorem vander_full {k : Nat} (hk : k ≤ 200) {v : Nat → Nat} (hv : By v) (h : Ker vanderM k k v) : ∀ j, j < k → v j = 0 :=
  vander (xs := fun i => i) hk (fun i hi => by omega) (fun _ _ _ _ e => e) hv (fun i hi => by
    have := h i hi
    unfold vanderM at this
    rwa [Nat.mod_eq_of_lt (show i < 256 by omega)] at this)
end Mx

set_option maxHeartbeats 1000000 in
theorem spread_bad (n k : Int) (w : World) (a1 : Addr) (hb : w.cell? ⟨6, 0, none⟩ = some (errV a1)) (h : ¬ (1 ≤ k ∧ k ≤ n ∧ n ≤ 12)) :
    Calls Tryd.prog 93 #[.int .i64 n, .int .i64 k] w fun e w' => e = .returned (.tuple #[.slice none 0 0, errV a1]) ∧ ∃ q, w' = w.drewN q := by
  have H := Lib.hid (powers_bad n k w (errV a1) hb h)
  clear hb h
  go_enter Tryd.func93, Tryd.ntmps93
  go_wp2_with fail
  refine H.out.mono ?_
  rintro e w' ⟨rfl, q, rfl⟩
  go_wp2
  go_ret2
  exact ⟨rfl, q, rfl⟩
set_option maxRecDepth 100000 in
set_option maxHeartbeats 2000000 in
theorem spread_walk (n k : Nat) (w : World) (E : Nat → Addr) (hE : ErrEz w E) (hk : 1 ≤ k) (hkn : k ≤ n) (hn : n ≤ 12) :
    Calls Tryd.prog 93 #[.int .i64 n, .int .i64 k] w fun e w' => (∃ v bs caps, e = .returned (.tuple #[v, .nilIface]) ∧ OwnM w.heap.size w' v n k bs caps (Mx.spr k)) ∧ Below w.heap.size w w' := by
  have HE := Lib.hid hE; clear hE
  go_enter Tryd.func93, Tryd.ntmps93
  go_wp2_with fail
  refine (powers_walk n k w hk hkn hn).mono ?_
  rintro e w1 ⟨⟨v, bs, cps, rfl, hm⟩, hb1⟩
  obtain ⟨g, cg, hve, hg1, hg2, hV⟩ := hm.mat (by omega)
  rw [hve]
  have hR := hV.read (by omega) (by omega)
  have hE1 := HE.out.below hb1 (Nat.le_refl _)
  have hi := invert_walk w1.heap.size g 0 k cg bs (fun _ => 0) cps Mx.vanderM w1 _ _ (Nat.le_refl _) hE1.c2 hE1.c11 (hR.some_ hkn) Mx.by_vander hk (by omega)
  have Hi := Lib.hid hi
  have H1 := Lib.hid (And.intro hR (And.intro hb1 hE1))
  have hg3 : (k : Int) ≤ cg := by omega
  clear hi hR hb1 hE1 hV hm hve
  go_wp2_with fail
  refine Hi.out.mono ?_
  rintro e w2 ⟨done, L, G, hby, hrr, hker, hb2, hres⟩
  have hd := Mx.inv_full hby hrr hker (fun v hv hK => Mx.vander_full (by omega) hv hK)
  subst hd
  rcases hres with ⟨hlt, _⟩ | ⟨_, v2, bs2, cps2, rfl, hm2⟩
  · omega
  obtain ⟨g', cg', hve, hg4, hg5, hV2⟩ := hm2.mat (by omega)
  rw [hve]
  obtain ⟨hR, hb1, hE1⟩ := H1.out
  have hinv : Mx.Inv Mx.vanderM (Mx.right G done) done := Mx.inverse_of Mx.by_vander hby hrr (fun v hv => hker _ v hv)
  have hR2 := (hR.below hb2).mono hb2.size
  have hX := hV2.read (by omega) (by omega)
  have hE2 := hE1.below hb2 (Nat.le_refl _)
  have ht := times_walk w2.heap.size g 0 n done cg g' 0 done cg' bs (fun _ => 0) cps bs2 (fun _ => 0) cps2 Mx.vanderM (Mx.right G done) w2 _ (Nat.le_refl _) hE2.c2 hR2 hX Mx.by_vander hinv.by_ (by omega) (by omega) hk (by omega) hk (by omega)
  have Ht := Lib.hid ht
  have H2 := Lib.hid (And.intro hinv (hb1.trans (hb2.mono hb1.size)))
  clear ht hinv hR hb1 hE1 hR2 hX hE2 hV2 hm2 hve hrr hker hby hb2 H1
  go_wp2_with fail
  refine Ht.out.mono ?_
  rintro e w3 ⟨⟨v3, bs3, cps3, rfl, hm3⟩, hb3⟩
  obtain ⟨hinv, hb2⟩ := H2.out
  have hm4 : OwnM w.heap.size w3 v3 n done bs3 cps3 (Mx.spr done) := (hm3.congr (fun i hi j hj => Mx.spread_is (by omega) hinv (show i < 256 by omega) hj)).lower hb2.size
  have H3 := Lib.hid (And.intro hm4 (hb2.trans (hb3.mono hb2.size)))
  clear hinv hb2 hm3 hm4 hb3 H2
  go_wp2
  go_ret2
  exact ⟨⟨v3, bs3, cps3, rfl, H3.out.1⟩, H3.out.2⟩

/-- can so many shards be? -/
def isSpreadB (n k : Int) : Bool := decide (1 ≤ k ∧ k ≤ n ∧ n ≤ 12)
theorem isspread_walk (n k : Int) (w : World) :
    Calls Tryd.prog 51 #[.int .i64 n, .int .i64 k] w fun e w' => e = .returned (.bool (isSpreadB n k)) ∧ w = w' := by
  by_cases h1 : 1 ≤ k
  · by_cases h2 : k ≤ n
    · by_cases h3 : n ≤ 12
      · go_enter Tryd.func51, Tryd.ntmps51
        go_wp2
        go_ret
        exact ⟨by rw [show isSpreadB n k = true from decide_eq_true ⟨h1, h2, h3⟩]; rfl, rfl⟩
      · go_enter Tryd.func51, Tryd.ntmps51
        go_wp2
        go_ret
        exact ⟨by rw [show isSpreadB n k = false from decide_eq_false (by omega)]; rfl, rfl⟩
    · go_enter Tryd.func51, Tryd.ntmps51
      go_wp2
      go_ret
      exact ⟨by rw [show isSpreadB n k = false from decide_eq_false (by omega)]; rfl, rfl⟩
  · go_enter Tryd.func51, Tryd.ntmps51
    go_wp2
    go_ret
    exact ⟨by rw [show isSpreadB n k = false from decide_eq_false (by omega)]; rfl, rfl⟩

/-- the matrix with a 1 alone. -/
def oneM : Nat → Nat → Nat := fun _ _ => 1
end Go.Proofs.YtmaalkjimppnkaaDoor
