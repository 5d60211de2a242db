/- Rectangular matrices that are read; matrix.Check of one; the walk of matrix.Times. -/
import Derived.Test.YtolbdcmoblcakaaGreatDoorKRepairAll18
import Derived.Deep.OwnRows
import Derived.StillTailTactics
import Derived.Test.YtolbdcmoblcakaaGreatDoorKRepairAll16
namespace Go.Proofs.YtolbdcmoblcakaaGreatDoor
open Go.RowKit

/-- n rows of C bytes, in blocks below n₀. -/
structure MatR (n₀ : Nat) (w : World) (b off n C : Nat) (p o caps : Nat → Nat) (M : Nat → Nat → Nat) : Prop where
  lo : b < n₀
  head : ∀ i, i < n → w.cell? ⟨b, off + i, none⟩ = some (.slice (some ⟨p i, o i, none⟩) C (caps i))
  cap : ∀ i, i < n → C ≤ caps i ∧ caps i ≤ maxLen
  plo : ∀ i, i < n → p i < n₀
  cell : ∀ i, i < n → ∀ j, j < C → w.cell? ⟨p i, o i + j, none⟩ = some (.int .u8 (M i j : Nat))
theorem MatR.below {n₀ b off n C : Nat} {w w' : World} {p o caps : Nat → Nat} {M : Nat → Nat → Nat} (h : MatR n₀ w b off n C p o caps M) (hb : Below n₀ w w') : MatR n₀ w' b off n C p o caps M :=
  ⟨h.lo, fun i hi => (hb.cell (p := ⟨b, off + i, none⟩) h.lo).trans (h.head i hi), h.cap, h.plo, fun i hi j hj => (hb.cell (p := ⟨p i, o i + j, none⟩) (h.plo i hi)).trans (h.cell i hi j hj)⟩
theorem MatR.mono {n₀ n₁ b off n C : Nat} {w : World} {p o caps : Nat → Nat} {M : Nat → Nat → Nat} (h : MatR n₀ w b off n C p o caps M) (hn : n₀ ≤ n₁) : MatR n₁ w b off n C p o caps M :=
  ⟨by have := h.lo; omega, h.head, h.cap, fun i hi => by have := h.plo i hi; omega, h.cell⟩
theorem MatR.some_ {n₀ b off n m C : Nat} {w : World} {p o caps : Nat → Nat} {M : Nat → Nat → Nat} (h : MatR n₀ w b off n C p o caps M) (hm : m ≤ n) : MatR n₀ w b off m C p o caps M :=
  ⟨h.lo, fun i hi => h.head i (by omega), fun i hi => h.cap i (by omega), fun i hi => h.plo i (by omega), fun i hi => h.cell i (by omega)⟩
theorem RowsAt.mat {n₀ : Nat} {w : World} {a : Option Addr} {L : List (List Nat)} (h : RowsAt n₀ w a L) (hm : IsMat L) : ∃ b off p o caps, a = some ⟨b, off, none⟩ ∧ MatR n₀ w b off L.length (L[0]?.getD []).length p o caps (ent L) := by
  rcases h with rfl | ⟨b, off, A, C, rfl, hb, hc⟩
  · exact absurd hm.n1 (by simp)
  have each : ∀ i, i < L.length → ∃ q : Nat × Nat, A i = some ⟨q.1, q.2, none⟩ ∧ q.1 < n₀ ∧ ∀ j, j < (L[0]?.getD []).length → w.cell? ⟨q.1, q.2 + j, none⟩ = some (.int .u8 (ent L i j : Nat)) := fun i hi => by
    rcases (hc i hi).2.2.2.1 with e | ⟨b', off', e, hb', hc'⟩
    · have := hm.c1
      have h0 := hm.all i hi
      rw [e] at h0
      simp at h0
      omega
    · exact ⟨(b', off'), e, hb', fun j hj => hc' j (by rw [hm.all i hi]; exact hj)⟩
  obtain ⟨q, hq⟩ := Go.Deep.choose_lt each
  refine ⟨b, off, fun i => (q i).1, fun i => (q i).2, C, rfl, hb, fun i hi => ?_, fun i hi => ?_, fun i hi => (hq i hi).2.1, fun i hi => (hq i hi).2.2⟩
  · rw [(hc i hi).1, (hq i hi).1, hm.all i hi]
  · have := hc i hi
    rw [hm.all i hi] at this
    exact ⟨this.2.1, this.2.2.1⟩
theorem MatV.read {B : Nat} {w : World} {g n C : Nat} {bs caps : Nat → Nat} {M : Nat → Nat → Nat} (h : MatV B w g n C bs caps M) (hn : 0 < n) (hC : 0 < C) : MatR w.heap.size w g 0 n C bs (fun _ => 0) caps M := by
  have hl := h.lt hn hC
  exact ⟨hl g (.inl rfl), fun i hi => by rw [Nat.zero_add]; exact h.head i hi, h.cap, fun i hi => hl _ (.inr ⟨i, hi, rfl⟩), fun i hi j hj => by rw [Nat.zero_add]; exact (h.row i hi).cell j hj⟩
theorem MatR.rows {n₀ b off n C : Nat} {w : World} {p o caps : Nat → Nat} {M : Nat → Nat → Nat} (h : MatR n₀ w b off n C p o caps M) : RowsAt n₀ w (some ⟨b, off, none⟩) (rowsOf M n C) := by
  refine .inr ⟨b, off, fun i => some ⟨p i, o i, none⟩, caps, rfl, h.lo, fun i hi => ?_⟩
  rw [rowsOf_length] at hi
  rw [rowsOf_at M hi]
  refine ⟨by simpa using h.head i hi, by simpa using (h.cap i hi).1, (h.cap i hi).2, .inr ⟨p i, o i, rfl, h.plo i hi, fun j hj => ?_⟩, fun e => by cases e⟩
  simp at hj
  rw [h.cell i hi j hj]
  simp [hj]
theorem MatR.congr {n₀ b off n C : Nat} {w : World} {p o caps : Nat → Nat} {M M' : Nat → Nat → Nat} (h : MatR n₀ w b off n C p o caps M) (e : ∀ i, i < n → ∀ j, j < C → M i j = M' i j) : MatR n₀ w b off n C p o caps M' :=
  { h with cell := fun i hi j hj => by rw [← e i hi j hj]; exact h.cell i hi j hj }
theorem OwnM.only {B g : Nat} {w w' : World} {v : Value} {n C : Nat} {bs caps : Nat → Nat} {M : Nat → Nat → Nat} (h : OwnM B w v n C bs caps M) (ho : OnlyB g w w') (h1 : ∀ i, i < n → bs i ≠ g) (h2 : v.ownBlock ≠ some g) : OwnM B w' v n C bs caps M :=
  h.kept (r := some g) ⟨ho.os, ho.tape, ho.output, Nat.le_of_eq ho.size.symm, fun k _ hk => ho.block k (fun e => hk (by rw [e]))⟩ (fun i hi e => h1 i hi (Option.some.inj e).symm) (fun k hk e => h2 (by rw [hk]; exact e.symm))

/-- matrix.Check of a rectangular one. -/
theorem check_mat (n₀ b off n C cap : Nat) (p o caps : Nat → Nat) (M : Nat → Nat → Nat) (w : World) (z : Value) (hz : w.cell? ⟨6, 0, none⟩ = some z) (h : MatR n₀ w b off n C p o caps M) (hn : 1 ≤ n) (hn2 : n ≤ 16) (hC : 1 ≤ C) (hC2 : C ≤ 16) :
    Calls Tryz.prog 113 #[.slice (some ⟨b, off, none⟩) n cap] w fun e w' => e = .returned .nilIface ∧ Below w.heap.size w w' := by
  refine (check_all b off n cap C (fun i => some ⟨p i, o i, none⟩) (fun _ => C) caps w z hz hn hn2 h.head rfl hC hC2).mono ?_
  rintro e w' ⟨h1 | ⟨⟨j, hj, hne⟩, _⟩, hB⟩
  · exact ⟨h1.2, hB⟩
  · exact absurd rfl hne

theorem mul_q (a b : Nat) (w : World) (ha : a < 256) (hb : b < 256) : Calls Tryz.prog 104 #[.int .u8 a, .int .u8 b] w fun e w' => e = .returned (.int .u8 (Gf.mul a b : Nat)) ∧ w' = w :=
  (mul_walk a b w ha hb).mono fun _ _ ⟨he, hw⟩ => ⟨he, hw.symm⟩
theorem RowV.made (w : World) (C : Nat) : RowV (w.alloc (.cells (madeCells #[.int .u8 0] C) 5)) w.heap.size C (fun _ => 0) := by
  have h := World.rowIs_made w (.int .u8 0) C 5
  exact ⟨fun j hj => h.cell hj, fun j _ => h.frozen j⟩
/-- what the round of the loops of Times comes to. -/
def timesRow (MA MB : Nat → Nat → Nat) (i t : Nat) : Nat → Nat := fun j => Mx.dot (MA i) (fun l => MB l j) t

set_option maxRecDepth 100000 in
set_option maxHeartbeats 4000000 in
theorem times_walk (n₀ ba oa n K ca bb ob C cb : Nat) (pa oa' capa pb ob' capb : Nat → Nat) (MA MB : Nat → Nat → Nat) (w : World) (z : Value) (hn₀ : n₀ ≤ w.heap.size) (hz : w.cell? ⟨6, 0, none⟩ = some z)
    (hA : MatR n₀ w ba oa n K pa oa' capa MA) (hB : MatR n₀ w bb ob K C pb ob' capb MB) (bA : Mx.ByM MA) (bB : Mx.ByM MB) (hn : 1 ≤ n) (hn2 : n ≤ 16) (hK : 1 ≤ K) (hK2 : K ≤ 16) (hC : 1 ≤ C) (hC2 : C ≤ 16) :
    Calls Tryz.prog 97 #[.slice (some ⟨ba, oa, none⟩) n ca, .slice (some ⟨bb, ob, none⟩) K cb] w fun e w' => (∃ v bs caps, e = .returned (.tuple #[v, .nilIface]) ∧ OwnM w.heap.size w' v n C bs caps (Mx.mulM MA MB K)) ∧ Below w.heap.size w w' := by
  have hmk := fun (W : World) => run_make_row' (P := Tryz.prog) (w := W) 92 5 (.int .u8 0) 1 Tryz.underlying92 info_uint8 rfl .i64 .i64 C (by omega) (by omega)
  have Hmk := Lib.hid hmk
  have HA := Lib.hid hA
  have HB := Lib.hid hB
  have Hz := Lib.hid hz
  clear hmk hA hB hz
  go_enter Tryz.func97, Tryz.ntmps97
  go_wp2_with fail
  refine (check_mat n₀ ba oa n K ca pa oa' capa MA w z Hz.out HA.out hn hn2 hK hK2).mono ?_
  rintro e w1 ⟨rfl, hb1⟩
  go_wp2_with fail
  have hz1 : w1.cell? ⟨6, 0, none⟩ = some z := (hb1.cell (lt_of_cell Hz.out)).trans Hz.out
  refine (check_mat n₀ bb ob K C cb pb ob' capb MB w1 z hz1 (HB.out.below (Below.mono hb1 hn₀)) hK hK2 hC hC2).mono ?_
  rintro e w2 ⟨rfl, hb2⟩
  have hb3 : Below w.heap.size w w2 := hb1.trans (hb2.mono hb1.size)
  have hA0 := (HA.out.below (hb3.mono hn₀)).head 0 (by omega)
  rw [Nat.add_zero] at hA0
  have hn3 : (0 : Int) < n := by omega
  have hB3 := Lib.hid hb3
  clear hz1 hb1 hb2 hb3
  go_wp2
  go_loopw [6, 33] (fun vo vi wr => ∃ (i : Nat) (bs caps : Nat → Nat), i ≤ n ∧ vi = .int .i64 i ∧ Hid (OwnM w.heap.size wr vo i C bs caps (Mx.mulM MA MB K) ∧ Below w.heap.size w wr)) (fun _ i _ => n - (intOf i).toNat)
  case atStart => exact ⟨0, fun _ => 0, fun _ => 0, by omega, rfl, Lib.hid ⟨OwnM.nil _ _ _ _ _ _, hB3.out⟩⟩
  case round =>
    obtain ⟨i, bs, caps, hi, rfl, H⟩ := hrel
    have hi2 : i < n ∨ i = n := by omega
    rcases hi2 with hlt | rfl
    · have hlt2 : (i : Int) < n := by omega
      have hA1 := (HA.out.below (H.out.2.mono hn₀)).head i hlt
      have hB1 := (HB.out.below (H.out.2.mono hn₀)).head 0 (by omega)
      rw [Nat.add_zero] at hB1
      have hK3 : (0 : Int) < K := by omega
      have hmk := Hmk.out wr
      obtain ⟨wo, rfl⟩ : ∃ wo : World, wo = wr := ⟨_, rfl⟩
      go_wp2
      have hsz := H.out.2.size
      have hrow := RowV.made wo C
      obtain ⟨W0, hW0⟩ : ∃ W0, (wo.alloc (.cells (madeCells #[.int .u8 0] C) 5)) = W0 := ⟨_, rfl⟩
      have hb0 : Below w.heap.size w W0 := by rw [← hW0]; exact H.out.2.alloc hsz _
      have hm0 : OwnM w.heap.size W0 u6 i C bs caps (Mx.mulM MA MB K) := by rw [← hW0]; exact H.out.1.below ((Below.refl _ wo).alloc (Nat.le_refl _) _) (Nat.le_refl _)
      have hs0 : W0.heap.size = wo.heap.size + 1 := by rw [← hW0]; simp
      have hl0 : ∀ i', i' < i → bs i' ≠ wo.heap.size := fun i' h e => by have := H.out.1.lt i' h; omega
      have ho0 : u6.ownBlock ≠ some wo.heap.size := fun e => by have := (H.out.1.own.lt _ e).2; omega
      rw [hW0] at hrow ⊢
      obtain ⟨g, hg⟩ : ∃ g, wo.heap.size = g := ⟨_, rfl⟩
      rw [hg] at hrow hs0 hl0 ho0 hsz ⊢
      have Hx := Lib.hid (And.intro hrow (And.intro hb0 (And.intro hm0 (And.intro hs0 (And.intro hl0 ho0)))))
      clear hrow hb0 hm0 hs0 hl0 ho0 hW0 hg hmk hA1 hB1
      go_loopw [44] (fun vt wr => ∃ t : Nat, t ≤ K ∧ vt = .int .i64 t ∧ Hid (OnlyB g W0 wr ∧ RowV wr g C (timesRow MA MB i t))) (fun t _ => K - (intOf t).toNat)
      case atStart => exact ⟨0, by omega, rfl, Lib.hid ⟨OnlyB.refl _ _, Hx.out.1⟩⟩
      case round =>
        obtain ⟨t, ht, rfl, H2⟩ := hrel
        have ht2 : t < K ∨ t = K := by omega
        rcases ht2 with htl | rfl
        · have htl2 : (t : Int) < K := by omega
          have hA2 := (HA.out.below (Hx.out.2.1.mono hn₀))
          have hcA : wr.cell? ⟨pa i, oa' i + t, none⟩ = some (.int .u8 (MA i t : Nat)) := (H2.out.1.cell (p := ⟨pa i, oa' i + t, none⟩) (by have := HA.out.plo i hlt; show pa i ≠ g; omega)).trans (hA2.cell i hlt t htl)
          have hx := bA i t
          obtain ⟨x, hxe⟩ : ∃ x, MA i t = x := ⟨_, rfl⟩
          rw [hxe] at hcA hx
          have Hxe := Lib.hid hxe
          clear hxe hA2
          obtain ⟨wm, rfl⟩ : ∃ wm : World, wm = wr := ⟨_, rfl⟩
          go_wp2
          go_loopw [51] (fun vs wr => ∃ s : Nat, s ≤ C ∧ vs = .int .i64 s ∧ Hid (OnlyB g W0 wr ∧ RowV wr g C (firstK s (timesRow MA MB i (t + 1)) (timesRow MA MB i t)))) (fun s _ => C - (intOf s).toNat)
          case atStart => exact ⟨0, by omega, rfl, Lib.hid ⟨H2.out.1, H2.out.2.congr fun j _ => by unfold firstK; rw [if_neg (by omega)]⟩⟩
          case round =>
            obtain ⟨s, hs, rfl, H3⟩ := hrel
            have hs2 : s < C ∨ s = C := by omega
            rcases hs2 with hsl | rfl
            · have hsl2 : (s : Int) < C := by omega
              have hB2 := (HB.out.below (Hx.out.2.1.mono hn₀))
              have hcB : wr.cell? ⟨bb, ob + t, none⟩ = some (.slice (some ⟨pb t, ob' t, none⟩) C (capb t)) := (H3.out.1.cell (p := ⟨bb, ob + t, none⟩) (by have := HB.out.lo; show bb ≠ g; omega)).trans (hB2.head t htl)
              have hcC : wr.cell? ⟨pb t, ob' t + s, none⟩ = some (.int .u8 (MB t s : Nat)) := (H3.out.1.cell (p := ⟨pb t, ob' t + s, none⟩) (by have := HB.out.plo t htl; show pb t ≠ g; omega)).trans (hB2.cell t htl s hsl)
              have hcD : wr.cell? ⟨g, s, none⟩ = some (.int .u8 (timesRow MA MB i t s : Nat)) := by
                have := H3.out.2.cell s hsl
                unfold firstK at this; rwa [if_neg (by omega)] at this
              have hfr := H3.out.2.free s hsl
              have hy := bB t s
              have hd : timesRow MA MB i t s < 256 := Mx.dot_lt (bA i) t
              have hnew : timesRow MA MB i (t + 1) s = timesRow MA MB i t s ^^^ Gf.mul x (MB t s) := by
                unfold timesRow
                show Mx.dot _ _ t ^^^ Gf.mul (MA i t) (MB t s) = _
                rw [Hxe.out]
              obtain ⟨y, hye⟩ : ∃ y, MB t s = y := ⟨_, rfl⟩
              obtain ⟨d, hde⟩ : ∃ d, timesRow MA MB i t s = d := ⟨_, rfl⟩
              rw [hye] at hcC hy hnew
              rw [hde] at hcD hd hnew
              have hml := Gf.mul_lt y hx
              have hz3 : bits .xor .u8 (d : Int) ((Gf.mul x y : Nat) : Int) = ((d ^^^ Gf.mul x y : Nat) : Int) := u8_xor_nat _ _ hd hml
              have hmq := fun W => mul_q x y W hx hy
              obtain ⟨q, hqe⟩ : ∃ q, Gf.mul x y = q := ⟨_, rfl⟩
              rw [hqe] at hz3 hmq hml hnew
              have Hz3 := Lib.hid hz3
              have Hnew := Lib.hid hnew
              have Hmq := Lib.hid hmq
              clear hz3 hnew hmq hye hde hqe hB2
              go_wp2
              refine wp_region_still_tail 15 (by kernel_rfl) (by kernel_rfl) ?_
              simp only [List.take_succ_cons, List.take_zero, List.drop_succ_cons, List.drop_zero]
              repeat still_step
              still_call (Hmq.out _)
              repeat still_step
              refine wpStill_nil ?_
              change wpList _ _ _ _ _ wr.drew
              go_wp2
              go_roundw
              case rel =>
                refine ⟨s + 1, by omega, by go_num, Lib.hid ⟨?_, ?_⟩⟩
                · exact (H3.out.1.trans (OnlyB.setCell _ _ _ _)).trans (OnlyB.drewN _ _ 1)
                · refine RowV.drewN 1 ?_
                  rw [Hz3.out]
                  refine (H3.out.2.set (x := d ^^^ q) hsl).congr fun j hj => ?_
                  unfold Mx.upd firstK
                  by_cases e : j = s
                  · subst e; rw [if_pos rfl, if_pos (by omega)]; exact Hnew.out.symm
                  · rw [if_neg e]
                    by_cases e2 : j < s
                    · rw [if_pos e2, if_pos (by omega)]
                    · rw [if_neg e2, if_neg (by omega)]
              case measure => simp [intOf]; omega
            · go_wp2
              go_roundw
              case rel => exact ⟨t + 1, by omega, by go_num, Lib.hid ⟨H3.out.1, H3.out.2.congr fun j hj => by unfold firstK; rw [if_pos hj]⟩⟩
              case measure => simp [intOf]; omega
        · obtain ⟨_, hb0, hm0, hs0, hl0, ho0⟩ := Hx.out
          have hm1 := hm0.only H2.out.1 hl0 ho0
          have hb1 := hb0.trans (H2.out.1.below hsz)
          have hgl : g < wr.heap.size := by have := H2.out.1.size; omega
          have hown := Lib.hid hm1.own
          have hul : ((List.range i).map fun i => Value.slice (some ⟨bs i, 0, none⟩) C (caps i)).length ≤ 1000000 := by simp; omega
          have hsz1 := hb1.size
          have Hy := Lib.hid (And.intro hm1 (And.intro hb1 (And.intro hl0 ho0)))
          clear hb0 hm0 hs0 hl0 ho0 hm1 hb1
          go_wp2_with (at_builtin; refine append_rowv 71 73 rfl rfl w.heap.size _ _ (some ⟨g, 0, none⟩) C C rfl rfl hown.out hul hsz1 ?_)
          intro v' w' k1 k2 k3
          obtain ⟨hm1, hb1, hl0, ho0⟩ := Hy.out
          have hm2 := hm1.snoc H2.out.2 hsz hgl hl0 ho0 ⟨Nat.le_refl _, by unfold maxLen; omega⟩ k1 k2 k3
          have hb2 : Below w.heap.size w w' := (hb1.alloc hsz1 _).grown k2 (by simp; omega) (fun j e => (hm1.own.lt j e).1)
          have hm3 := hm2.congr (M' := Mx.mulM MA MB t) (fun i' hi' j hj => by
            unfold Mx.putR
            by_cases e : i' = i
            · rw [if_pos e, e]; rfl
            · rw [if_neg e])
          have HR := Lib.hid (And.intro hm3 hb2)
          clear hm1 hb1 hl0 ho0 hm2 hb2 hm3 k1 k2 k3 Hy hown
          go_wp2
          go_roundw
          case rel => exact ⟨i + 1, _, _, by omega, by go_num, HR⟩
          case measure => simp [intOf]; omega
    · go_wp2
      go_ret2
      exact ⟨⟨_, bs, caps, rfl, H.out.1⟩, H.out.2⟩
end Go.Proofs.YtolbdcmoblcakaaGreatDoor
/- Walks: a copy of a row; matrix.Rank. -/
namespace Go.Proofs.YtolbdcmoblcakaaGreatDoor
open Go.RowKit

theorem Own1.lower {E : TypeId} {B B' : Nat} {w : World} {v : Value} {us : List Value} (h : Own1 E B w v us) (hB : B' ≤ B) : Own1 E B' w v us := by
  unfold Own1 World.ownsRow at *
  refine ⟨h.1, ?_⟩
  rcases h.2 with h2 | ⟨g, cap, cur, e, hb, h3⟩
  · exact .inl h2
  · exact .inr ⟨g, cap, cur, e, Nat.le_trans hB hb, h3⟩
theorem OwnM.lower {B B' : Nat} {w : World} {v : Value} {n C : Nat} {bs caps : Nat → Nat} {M : Nat → Nat → Nat} (h : OwnM B w v n C bs caps M) (hB : B' ≤ B) : OwnM B' w v n C bs caps M :=
  ⟨h.own.lower hB, h.row, h.inj, fun i hi => Nat.le_trans hB (h.low i hi), h.lt, h.off, h.cap⟩
theorem MatV.lower {B B' : Nat} {w : World} {g n C : Nat} {bs caps : Nat → Nat} {M : Nat → Nat → Nat} (h : MatV B w g n C bs caps M) (hB : B' ≤ B) : MatV B' w g n C bs caps M :=
  ⟨h.head, h.free, h.row, h.inj, h.off, fun i hi => Nat.le_trans hB (h.low i hi), Nat.le_trans hB h.lowg, h.cap⟩

/-- append(s, r) of a row, in a world whose size the walk spells otherwise. -/
theorem append_rowvH {ops : Array Oper} {rest : List Oper} {o : Oper} {a : Act} {Q : Exit → Act → World → Prop} {w0 : World} (s x : Nat) (hgd : o.guard = none)
    (ho : o.op = .call { callee := .builtin .append, args := #[.tmp s, .tmp x], argTypes := #[90, 90] }) (B H : Nat) (v : Value) (us : List Value) (ad : Option Addr) (n c : Nat) (hH : w0.heap.size = H)
    (hs : a.eval (.tmp s) = v) (hx : a.eval (.tmp x) = .slice (some ⟨H, 0, none⟩) 1 1) (hown : Own1 92 B w0 v us) (hl : us.length ≤ 1000000) (hB : B ≤ w0.heap.size)
    (h : ∀ v' w', Own1 92 B w' v' (us ++ [.slice ad n c]) → (w0.alloc (.cells #[.slice ad n c] 92)).grownBy w' v.ownBlock → (v'.ownBlock = v.ownBlock ∨ v'.ownBlock = some (w0.heap.size + 1)) → wpList Tryz.prog ops Q rest (a.put o.dst v') w') :
    wpList Tryz.prog ops Q (o :: rest) a (w0.alloc (.cells #[.slice ad n c] 92)) := by
  subst hH
  exact append_rowv s x hgd ho B v us ad n c hs hx hown hl hB h

/-- slices.Clone of a row of C bytes. -/
theorem clone_row (n₀ p o C c : Nat) (f : Nat → Nat) (w : World) (hp : p < n₀) (hn : n₀ ≤ w.heap.size) (hC : 1 ≤ C) (hC2 : C ≤ 1000) (hc : ∀ j, j < C → w.cell? ⟨p, o + j, none⟩ = some (.int .u8 (f j : Nat))) :
    Calls Tryz.prog 114 #[.slice (some ⟨p, o, none⟩) C c] w fun e w' => (∃ v, e = .returned v ∧ OwnB w.heap.size w' v ((List.range C).map f)) ∧ Below w.heap.size w w' := by
  have hl : ((List.range C).map f).length = C := by simp
  have h := clone_walk n₀ ⟨p, o, none⟩ c ((List.range C).map f) w (.inr ⟨p, o, rfl, hp, fun j hj => by rw [hl] at hj; rw [hc j hj]; simp [hj]⟩) hn (by rw [hl]; omega)
  rw [hl] at h
  exact h
/-- what is known of it then. -/
theorem OwnB.copy {B C : Nat} {w : World} {v : Value} {f : Nat → Nat} (h : OwnB B w v ((List.range C).map f)) (hC : 1 ≤ C) : ∃ g cap, v = .slice (some ⟨g, 0, none⟩) C cap ∧ B ≤ g ∧ g < w.heap.size ∧ C ≤ cap ∧ cap ≤ maxLen ∧ RowV w g C f := by
  have hl : ((List.range C).map f).length = C := by simp
  obtain ⟨g, cap, e, h1, h2, h3, h4, h5⟩ := h.rowV (by rw [hl]; omega)
  rw [hl] at e h3 h5
  exact ⟨g, cap, e, h1, h2, h3, h4, h5.congr fun j hj => by simp [hj]⟩

/-- what matrix.Rank answers. -/
def RankOut (w w' : World) (n C : Nat) (M : Nat → Nat → Nat) (e : Ending) : Prop := ∃ done L G, e = .returned (.tuple #[.int .i64 (done : Nat), .nilIface]) ∧ Mx.ByM G ∧ Mx.RR G n C done L ∧ (∀ v, Mx.By v → (Mx.Ker G n C v ↔ Mx.Ker M n C v)) ∧ Below w.heap.size w w'
end Go.Proofs.YtolbdcmoblcakaaGreatDoor
/- The walk of matrix.Invert. -/
namespace Go.Proofs.YtolbdcmoblcakaaGreatDoor
open Go.RowKit

/-- not square, or no matrix: told before anything. -/
theorem wide_upd {M : Nat → Nat → Nat} {n i : Nat} (j : Nat) : Mx.upd (fun j => (((List.range n).map (M i)) ++ List.replicate n 0)[j]?.getD 0) (n + i) 1 j = Mx.wide M n i j := by
  unfold Mx.upd Mx.wide
  by_cases e : j = n + i
  · rw [if_pos e, if_neg (by omega), if_pos e]
  · rw [if_neg e]
    by_cases e2 : j < n
    · rw [if_pos e2]
      show (List.map (M i) (List.range n) ++ List.replicate n 0)[j]?.getD 0 = M i j
      rw [List.getElem?_append_left (by simpa using e2)]
      simp [e2]
    · rw [if_neg e2, if_neg e]
      show (List.map (M i) (List.range n) ++ List.replicate n 0)[j]?.getD 0 = 0
      rw [List.getElem?_append_right (by simp; omega), List.getElem?_replicate]
      split <;> rfl
/-- what matrix.Invert answers of a square one. -/
def InvOut (w w' : World) (n : Nat) (M : Nat → Nat → Nat) (ez : Value) (e : Ending) : Prop := ∃ done L G, Mx.ByM G ∧ Mx.RR G n n done L ∧ (∀ d v, Mx.By v → (Mx.Ker G n d v ↔ Mx.Ker (Mx.wide M n) n d v)) ∧ Below w.heap.size w w' ∧
  ((done < n ∧ e = .returned (.tuple #[.slice none 0 0, ez])) ∨ (done = n ∧ ∃ v bs caps, e = .returned (.tuple #[v, .nilIface]) ∧ OwnM w.heap.size w' v n n bs caps (Mx.right G n)))
set_option maxRecDepth 100000 in
set_option maxHeartbeats 8000000 in
theorem invert_walk (n₀ b off n cap : Nat) (p o caps : Nat → Nat) (M : Nat → Nat → Nat) (w : World) (z ez : Value) (hn₀ : n₀ ≤ w.heap.size) (hz : w.cell? ⟨6, 0, none⟩ = some z) (hez : w.cell? ⟨11, 0, none⟩ = some ez)
    (hM : MatR n₀ w b off n n p o caps M) (bM : Mx.ByM M) (hn : 1 ≤ n) (hn2 : n ≤ 16) :
    Calls Tryz.prog 95 #[.slice (some ⟨b, off, none⟩) n cap] w fun e w' => InvOut w w' n M ez e := by
  have HM := Lib.hid hM
  have Hz := Lib.hid hz
  have Hez := Lib.hid hez
  clear hM hz hez
  go_enter Tryz.func95, Tryz.ntmps95
  go_wp2_with fail
  refine (check_mat n₀ b off n n cap p o caps M w z Hz.out HM.out hn hn2 hn hn2).mono ?_
  rintro e w1 ⟨rfl, hb1⟩
  have h0 := (HM.out.below (hb1.mono hn₀)).head 0 (by omega)
  rw [Nat.add_zero] at h0
  have hn3 : (0 : Int) < n := by omega
  have Hb1 := Lib.hid hb1
  clear hb1
  go_wp2
  clear h0
  go_loopw [5, 29] (fun vo vi wr => ∃ (i : Nat) (bs cps : Nat → Nat), i ≤ n ∧ vi = .int .i64 i ∧ Hid (OwnM w.heap.size wr vo i (n + n) bs cps (Mx.wide M n) ∧ Below w.heap.size w wr)) (fun _ i _ => n - (intOf i).toNat)
  case atStart => exact ⟨0, fun _ => 0, fun _ => 0, by omega, rfl, Lib.hid ⟨OwnM.nil _ _ _ _ _ _, Hb1.out⟩⟩
  case round =>
    obtain ⟨i, bs, cps, hi, rfl, H⟩ := hrel
    have hi2 : i < n ∨ i = n := by omega
    rcases hi2 with hlt | hin
    · have hlt2 : (i : Int) < n := by omega
      have hR := HM.out.below (H.out.2.mono hn₀)
      have hsz := H.out.2.size
      have h1 := hR.head i hlt
      have hcl := Lib.hid (clone_row n₀ (p i) (o i) n (caps i) (M i) wr (hR.plo i hlt) (by omega) hn (by omega) (hR.cell i hlt))
      clear hR
      go_wp2_with fail
      refine hcl.out.mono ?_
      rintro e w2 ⟨⟨v, rfl, hv⟩, hb2⟩
      have hl : ((List.range n).map (M i)).length = n := by simp
      have hsz2 := hb2.size
      have Hv := Lib.hid (And.intro hv (And.intro hb2 hl))
      clear hv hb2 hl hcl h1
      go_wp2_with (at_builtin; refine append_zeros 35 36 rfl rfl wr.heap.size _ _ n hn (by rw [Hv.out.2.2]; exact hn) rfl rfl Hv.out.1 (by rw [Hv.out.2.2]; omega) hsz2 ?_)
      intro v1 w3 g1 g2 g3
      obtain ⟨hv, hb2, hl⟩ := Hv.out
      have hl2 : (((List.range n).map (M i)) ++ List.replicate n 0).length = n + n := by simp
      obtain ⟨g, cg, hve, f1, f2, f3, f4, hrow⟩ := g1.rowV (by rw [hl2]; omega)
      rw [hl2] at hve f3 hrow
      rw [hve]
      have hb3 : Below wr.heap.size wr w3 := hb2.grown g2 hsz2 (fun j e => (hv.lt j e).1)
      have hb4 : Below w.heap.size w w3 := H.out.2.trans (hb3.mono hsz)
      have hm3 : OwnM w.heap.size w3 u5 i (n + n) bs cps (Mx.wide M n) := H.out.1.below hb3 (Nat.le_refl _)
      have hne : ∀ i', i' < i → bs i' ≠ g := fun i' h e => by have := H.out.1.lt i' h; omega
      have hoff : u5.ownBlock ≠ some g := fun e => by have := (H.out.1.own.lt _ e).2; omega
      have hcell := hrow.cell (n + i) (by omega)
      have hfree := hrow.free (n + i) (by omega)
      have hidx1 : (0 : Int) ≤ (n : Int) + i := by omega
      have hidx2 : (n : Int) + i < (n : Int) + n := by omega
      have hidx3 : (n : Int) + i < ((n + n : Nat) : Int) := by omega
      have hm4 : OwnM w.heap.size (w3.setCell ⟨g, n + i, none⟩ (.int .u8 1)) u5 i (n + n) bs cps (Mx.wide M n) := hm3.only (OnlyB.setCell _ _ _ _) hne hoff
      have hb5 : Below w.heap.size w (w3.setCell ⟨g, n + i, none⟩ (.int .u8 1)) := hb4.setCell (p := ⟨g, n + i, none⟩) (by show w.heap.size ≤ g; omega) _
      have hrow4 : RowV (w3.setCell ⟨g, n + i, none⟩ (.int .u8 1)) g (n + n) (Mx.wide M n i) := (RowV.set (x := 1) (show n + i < n + n by omega) hrow).congr (fun j _ => wide_upd j)
      have hg4 : g < (w3.setCell ⟨g, n + i, none⟩ (.int .u8 1)).heap.size := by have := (OnlyB.setCell g (n + i) w3 (.int .u8 1)).size; omega
      have hsz5 := hb5.size
      have hszw := hb4.size
      have hsq := Lib.hid ((OnlyB.setCell g (n + i) w3 (.int .u8 1)).size)
      have hown := Lib.hid hm4.own
      have hul : ((List.range i).map fun i => Value.slice (some ⟨bs i, 0, none⟩) (n + n) (cps i)).length ≤ 1000000 := by simp; omega
      have Hx := Lib.hid (And.intro hm4 (And.intro hb5 (And.intro hne (And.intro hoff (And.intro f1 (And.intro hg4 (And.intro f3 (And.intro f4 hrow4))))))))
      clear hv hb2 hl hl2 g1 g2 g3 hve f1 f2 f3 f4 hrow hb3 hb4 hm3 hne hoff Hv hsz2 hm4 hb5 hrow4 hg4
      go_wp2_with (at_builtin; refine append_rowvH 43 45 rfl rfl w.heap.size w3.heap.size _ _ (some ⟨g, 0, none⟩) (n + n) cg hsq.out rfl rfl hown.out hul hsz5 ?_)
      intro v' w' k1 k2 k3
      obtain ⟨hm2, hb3, hne, hoff, hg1, hg2, hg3, hg4, hrow⟩ := Hx.out
      have hm3 := hm2.snoc hrow (by omega) hg2 hne hoff ⟨hg3, hg4⟩ k1 k2 (by rw [hsq.out]; exact k3)
      have hb4 : Below w.heap.size w w' := (hb3.alloc hsz5 _).grown k2 (by simp; omega) (fun j e => (hm2.own.lt j e).1)
      have hm4 := hm3.congr (M' := Mx.wide M n) (fun i' hi' j hj => by
        unfold Mx.putR
        by_cases e : i' = i
        · rw [if_pos e, e]
        · rw [if_neg e])
      have HR := Lib.hid (And.intro hm4 hb4)
      clear hm2 hb3 hne hoff hg1 hg2 hg3 hg4 hrow hm3 hb4 hm4 k1 k2 k3 Hx hown hcell hfree hidx1 hidx2 hidx3
      go_wp2
      go_roundw
      case rel => exact ⟨i + 1, _, _, by omega, by go_num, HR⟩
      case measure => simp [intOf]; omega
    · subst hin
      obtain ⟨g, cg, hve, hg3, hg4, hV⟩ := H.out.1.mat (by omega)
      rw [hve]
      have hB := H.out.2
      have hred := Lib.hid (reduced_walk w.heap.size g i (i + i) i cg bs cps (Mx.wide M i) wr hB.size (by omega) (by omega) (by omega) (by omega) (by omega) hg3 (Mx.by_wide bM i) hV)
      have HB := Lib.hid hB
      clear hve hV hB
      go_wp2_with fail
      refine hred.out.mono ?_
      rintro e w2 ⟨done, L, bs', caps', G, rfl, hb, hV2, hby, hrr, hk⟩
      have hdn := hrr.le
      have hb2 : Below w.heap.size w w2 := HB.out.trans hb
      have hez : w2.cell? ⟨11, 0, none⟩ = some ez := (hb2.cell (lt_of_cell Hez.out)).trans Hez.out
      have Hy := Lib.hid (And.intro hb2 (And.intro hby (And.intro hrr (And.intro hk hV2))))
      clear hb hb2 hby hrr hk hV2 hred
      by_cases hd : done < i
      · have hd2 : (done : Int) < i := by omega
        go_wp2
        go_quiet (fail)
        go_wp2
        go_ret2
        obtain ⟨hb2, hby, hrr, hk, _⟩ := Hy.out
        exact ⟨done, L, G, hby, hrr, hk, hb2.trans (same_below' _ nq), .inl ⟨hd, rfl⟩⟩
      · have hd2 : ¬ (done : Int) < i := by omega
        obtain rfl : done = i := by omega
        clear hez
        obtain ⟨wz, rfl⟩ : ∃ wz : World, wz = wr := ⟨_, rfl⟩
        go_wp2
        go_loopw [9, 56] (fun vo vi wr => ∃ (k : Nat) (bs2 cps2 : Nat → Nat), k ≤ done ∧ vi = .int .i64 k ∧ Hid (OwnM w2.heap.size wr vo k done bs2 cps2 (Mx.right G done) ∧ Below w2.heap.size w2 wr)) (fun _ i _ => done - (intOf i).toNat)
        case atStart => exact ⟨0, fun _ => 0, fun _ => 0, by omega, rfl, Lib.hid ⟨OwnM.nil _ _ _ _ _ _, Below.refl _ _⟩⟩
        case round =>
          obtain ⟨k, bs2, cps2, hk, rfl, H2⟩ := hrel
          have hk2 : k < done ∨ k = done := by omega
          rcases hk2 with hlt | rfl
          · have hlt2 : (k : Int) < done := by omega
            have hV := Hy.out.2.2.2.2
            have hltV := hV.lt (by omega) (by omega)
            have hV3 := hV.keep (w' := wr) (fun b hb => H2.out.2.block b (hltV b hb))
            have h1 := hV3.head k hlt
            have hcp := (hV.cap k hlt).1
            have hpl := hltV (bs' k) (.inr ⟨k, hlt, rfl⟩)
            have hsz := H2.out.2.size
            obtain ⟨cq, hcq⟩ : ∃ cq, caps' k = cq := ⟨_, rfl⟩
            rw [hcq] at h1 hcp
            have hcq2 : ¬ cq = done := by omega
            have hcl := Lib.hid (clone_row w2.heap.size (bs' k) done done (cq - done) (Mx.right G done k) wr hpl hsz hn (by omega) (fun j hj => (hV3.row k hlt).cell (done + j) (by omega)))
            clear hV hV3 hltV hcq
            go_wp2_with fail
            refine hcl.out.mono ?_
            rintro e w3 ⟨⟨v, rfl, hv⟩, hb2⟩
            obtain ⟨g2, cg2, hve, hg1, hg2, hg3, hg4, hrow⟩ := OwnB.copy hv hn
            rw [hve]
            have hb3 : Below w2.heap.size w2 w3 := H2.out.2.trans (hb2.mono hsz)
            have hm2 : OwnM w2.heap.size w3 u9 k done bs2 cps2 (Mx.right G done) := H2.out.1.below hb2 (Nat.le_refl _)
            have hne : ∀ i', i' < k → bs2 i' ≠ g2 := fun i' h e => by have := H2.out.1.lt i' h; omega
            have hoff : u9.ownBlock ≠ some g2 := fun e => by have := (H2.out.1.own.lt _ e).2; omega
            have hsz2 := hb3.size
            have hown := Lib.hid hm2.own
            have hul : ((List.range k).map fun i => Value.slice (some ⟨bs2 i, 0, none⟩) done (cps2 i)).length ≤ 1000000 := by simp; omega
            have Hx := Lib.hid (And.intro hm2 (And.intro hb3 (And.intro hne (And.intro hoff (And.intro hg1 (And.intro hg2 (And.intro hg3 (And.intro hg4 hrow))))))))
            clear hve hv hb2 hb3 hm2 hne hoff hg1 hg2 hg3 hg4 hrow hcl h1
            go_wp2_with (at_builtin; refine append_rowv 60 65 rfl rfl w2.heap.size _ _ (some ⟨g2, 0, none⟩) done cg2 rfl rfl hown.out hul hsz2 ?_)
            intro v' w' k1 k2 k3
            obtain ⟨hm2, hb3, hne, hoff, hg1, hg2, hg3, hg4, hrow⟩ := Hx.out
            have hm3 := hm2.snoc hrow (by omega) hg2 hne hoff ⟨hg3, hg4⟩ k1 k2 k3
            have hb4 : Below w2.heap.size w2 w' := (hb3.alloc hsz2 _).grown k2 (by simp; omega) (fun j e => (hm2.own.lt j e).1)
            have hm4 := hm3.congr (M' := Mx.right G done) (fun i' hi' j hj => by
              unfold Mx.putR
              by_cases e : i' = k
              · rw [if_pos e, e]
              · rw [if_neg e])
            have HR := Lib.hid (And.intro hm4 hb4)
            clear hm2 hb3 hne hoff hg1 hg2 hg3 hg4 hrow hm3 hb4 hm4 k1 k2 k3 Hx hown
            go_wp2
            go_roundw
            case rel => exact ⟨k + 1, _, _, by omega, by go_num, HR⟩
            case measure => simp [intOf]; omega
          · go_wp2
            go_ret2
            obtain ⟨hb2, hby, hrr, hkk, _⟩ := Hy.out
            exact ⟨k, L, G, hby, hrr, hkk, hb2.trans (H2.out.2.mono hb2.size), .inr ⟨rfl, _, bs2, cps2, rfl, H2.out.1.lower hb2.size⟩⟩
end Go.Proofs.YtolbdcmoblcakaaGreatDoor
/- Plain laws: Lagrange's basis as a matrix: what was spread and picked is brought back by it. -/
namespace Go.Proofs.YtolbdcmoblcakaaGreatDoor
namespace Mx

/-- a list that is 1 at i alone. -/
theorem unitL (k i : Nat) : ∃ ys : List Nat, ys.length = k ∧ Bytes ys ∧ ∀ j, j < k → ys[j]?.getD 0 = unit i j :=
  ⟨(List.range k).map (unit i), by simp, fun y hy => by obtain ⟨a, _, rfl⟩ := List.mem_map.1 hy; exact by_unit i a, fun j hj => by simp [hj]⟩
theorem bas_poly {xs : List Nat} (hx : Bytes xs) (hu : Unlike xs) {i : Nat} (hi : i < xs.length) : Gf.Poly xs.length (fun z => bas xs i z) := by
  obtain ⟨ys, _, hb, hy⟩ := unitL xs.length i
  obtain ⟨p, h1, h2, h3⟩ := lagT_poly hx hb hi
  refine ⟨p, h1, h2, fun z hz => ?_⟩
  rw [← h3 z hz]
  show bas xs i z = lagT xs ys z i
  rw [lagT_bas hx hb hu hz hi, hy i hi]
  unfold unit; rw [if_pos rfl, Gf.one_mul (bas_lt _ i z)]
theorem bas_at {xs : List Nat} (hx : Bytes xs) (hu : Unlike xs) {i j : Nat} (hi : i < xs.length) (hj : j < xs.length) : bas xs i (xs[j]?.getD 0) = unit i j := by
  obtain ⟨ys, _, hb, hy⟩ := unitL xs.length i
  have h := lagT_at hx hb hu hi hj
  rw [lagT_bas hx hb hu (hx.at j) hi, hy i hi] at h
  unfold unit at h ⊢
  rw [if_pos rfl, Gf.one_mul (bas_lt _ i _)] at h
  rw [h]
  by_cases e : i = j
  · rw [if_pos e, if_pos e.symm, hy j hj]; unfold unit; rw [if_pos e.symm]
  · rw [if_neg e, if_neg (Ne.symm e)]
theorem dot_poly {n : Nat} {f : Nat → Nat → Nat} {v : Nat → Nat} (hv : By v) : ∀ {c : Nat}, (∀ l, l < c → Gf.Poly n (fun z => f l z)) → Gf.Poly n (fun z => dot (fun l => f l z) v c)
  | 0, _ => Gf.poly_zero n
  | c + 1, h => (dot_poly hv (c := c) (fun l hl => h l (by omega))).add ((h c (by omega)).scale (hv c))
/-- a polynomial is told by what it is at the places. -/
theorem interp {xs : List Nat} (hx : Bytes xs) (hu : Unlike xs) {f : Nat → Nat} (hf : Gf.Poly xs.length f) {z : Nat} (hz : z < 256) : f z = dot (fun i => bas xs i z) (fun i => f (xs[i]?.getD 0)) xs.length := by
  have hv : By (fun i => f (xs[i]?.getD 0)) := fun i => hf.lt (hx.at i)
  refine poly_ext (xs := xs) (f := f) (g := fun z => dot (fun i => bas xs i z) (fun i => f (xs[i]?.getD 0)) xs.length) hx hu hf (dot_poly hv (fun l hl => bas_poly hx hu hl)) (fun j hj => ?_) hz
  show _ = dot _ _ _
  rw [dot_one hj (fun i hi hne => by rw [bas_at hx hu hi hj]; unfold unit; rw [if_neg (Ne.symm hne), Gf.zero_mul]), bas_at hx hu hj hj]
  unfold unit; rw [if_pos rfl, Gf.one_mul (hv j)]
/-- what is spread: row i of it. -/
def spr (k : Nat) : Nat → Nat → Nat := fun i j => bas (List.range k) j i
theorem by_spr (k : Nat) : ByM (spr k) := fun _ _ => bas_lt _ _ _
theorem spr_top {k i j : Nat} (hk : k ≤ 256) (hi : i < k) (hj : j < k) : spr k i j = unit j i := by
  have hx := range_bytes hk
  have h := bas_at hx (range_unlike k) (i := j) (j := i) (by simpa using hj) (by simpa using hi)
  rw [range_at hi] at h
  exact h
/-- what was spread and picked comes back. -/
theorem back {k : Nat} (hk : k ≤ 200) {xs : List Nat} (hl : xs.length = k) (hx : Bytes xs) (hu : Unlike xs) {v : Nat → Nat} (hv : By v) {j : Nat} (hj : j < 256) :
    dot (fun i => bas xs i j) (fun i => dot (spr k (xs[i]?.getD 0)) v k) k = dot (spr k j) v k := by
  have hr := range_bytes (k := k) (by omega)
  have hp : Gf.Poly xs.length (fun z => dot (fun l => bas (List.range k) l z) v k) := by
    rw [hl]
    refine dot_poly hv (fun l h => ?_)
    have := bas_poly hr (range_unlike k) (i := l) (by simpa using h)
    rwa [List.length_range] at this
  have := interp hx hu hp hj
  rw [hl] at this
  exact this.symm
theorem top_is {k : Nat} (hk : k ≤ 200) {v : Nat → Nat} (hv : By v) {j : Nat} (hj : j < k) : dot (spr k j) v k = v j := by
  rw [← dot_unitL hv hj]
  exact dot_congr (fun l h => by rw [spr_top (by omega) hj h]; unfold unit; by_cases e : j = l
                                 · rw [if_pos e, if_pos e.symm]
                                 · rw [if_neg e, if_neg (Ne.symm e)]) (fun _ _ => rfl)
/-- the inverse of the rows that were picked is Lagrange's basis. -/
theorem inv_is {k : Nat} (hk : k ≤ 200) {xs : List Nat} (hl : xs.length = k) (hx : Bytes xs) (hu : Unlike xs) {P X : Nat → Nat → Nat} (hP : ∀ i, i < k → ∀ j, j < k → P i j = spr k (xs[i]?.getD 0) j) (h : Inv P X k) {j i : Nat} (hj : j < k) (hi : i < k) : X j i = bas xs i j := by
  have hv : By (fun l => X l i) := fun l => h.by_ l i
  have h1 := back hk hl hx hu hv (show j < 256 by omega)
  rw [top_is hk hv hj] at h1
  rw [← h1]
  have h2 : ∀ a, a < k → dot (spr k (xs[a]?.getD 0)) (fun l => X l i) k = unit i a := fun a ha => by
    have := h.right a i ha hi
    unfold mulM at this
    rw [dot_congr (r' := P a) (v' := fun l => X l i) (fun l hl => (hP a ha l hl).symm) (fun _ _ => rfl), this]
    unfold unit
    rfl
  rw [dot_congr (r' := fun i => bas xs i j) (v' := unit i) (fun _ _ => rfl) h2]
  exact dot_unit (fun a => bas_lt _ _ _) hi
theorem basN_ne {xs : List Nat} (hx : Bytes xs) (hu : Unlike xs) {i x : Nat} (hi : i < xs.length) (hxx : x < 256) (h : ∀ j, j < xs.length → xs[j]?.getD 0 ≠ x) : ∀ k, k ≤ xs.length → basN xs i x (xs[i]?.getD 0) k ≠ 0
  | 0, _ => by show (1 : Nat) ≠ 0; decide
  | k + 1, hk => by
    have ih := basN_ne hx hu hi hxx h k (by omega)
    unfold basN
    by_cases e : k = i
    · rw [if_pos e]; exact ih
    · rw [if_neg e]
      have h1 := Gf.xor_lt hxx (hx.at k)
      have h2 := Gf.xor_lt (hx.at i) (hx.at k)
      have h3 := Gf.xor_ne_zero (hu i k hi (by omega) (Ne.symm e))
      have h4 : Gf.inv (xs[i]?.getD 0 ^^^ xs[k]?.getD 0) ≠ 0 := fun e0 => by
        have := Gf.mul_inv h2 h3
        rw [e0, Gf.mul_zero] at this
        exact absurd this (by decide)
      exact Gf.mul_ne_zero (basN_lt _ _ _ _ _) (Gf.mul_lt _ h1) ih (Gf.mul_ne_zero h1 (Gf.inv_lt h2) (Gf.xor_ne_zero (fun e2 => h k (by omega) e2.symm)) h4)
/-- below the top no entry is 0. -/
theorem spr_ne {k i j : Nat} (hk : k ≤ 200) (hi : k ≤ i) (hi2 : i < 256) (hj : j < k) : spr k i j ≠ 0 := by
  have hl : (List.range k).length = k := List.length_range
  refine basN_ne (range_bytes (by omega)) (range_unlike k) (by omega) hi2 (fun a ha => ?_) _ (Nat.le_refl _)
  rw [hl] at ha
  rw [range_at ha]; omega
end Mx
end Go.Proofs.YtolbdcmoblcakaaGreatDoor
