/- Walks of the document's Times and SameMatrix; of the program's Times where they do not go together. -/
import Derived.Test.YtfojimaafhpgbaaDoorMatL
import Derived.Test.YtfojimaafhpgbaaDoorRefC
namespace Go.Proofs.YtfojimaafhpgbaaDoor
open Go.RowKit

theorem rismat_mat (n₀ b off n C cap : Nat) (p o caps : Nat → Nat) (M : Nat → Nat → Nat) (w : World) (h : MatR n₀ w b off n C p o caps M) (hn : 1 ≤ n) (hn2 : n ≤ 16) (hC : 1 ≤ C) (hC2 : C ≤ 16) :
    Calls Tryd.prog 53 #[.slice (some ⟨b, off, none⟩) n cap] w fun e w' => e = .returned (.bool true) ∧ ∃ q, w' = w.drewN q := by
  refine (rismat_loop b off n cap C (fun i => some ⟨p i, o i, none⟩) (fun _ => C) caps w hn hn2 h.head rfl).mono ?_
  rintro e w' ⟨h1 | ⟨⟨j, hj, hne⟩, _⟩, hB⟩
  · exact ⟨h1.2, hB⟩
  · exact absurd ⟨hC, hC2, rfl⟩ hne
/-- the row while a column of it grows. -/
def growing (MA MB : Nat → Nat → Nat) (K i j k : Nat) : Nat → Nat := Mx.upd (firstK j (timesRow MA MB i K) (fun _ => 0)) j (timesRow MA MB i k j)

set_option maxRecDepth 100000 in
set_option maxHeartbeats 4000000 in
theorem rtimes_walk (n₀ ba oa n K ca bb ob C cb : Nat) (pa oa' capa pb ob' capb : Nat → Nat) (MA MB : Nat → Nat → Nat) (w : World) (hn₀ : n₀ ≤ w.heap.size)
    (hA : MatR n₀ w ba oa n K pa oa' capa MA) (hB : MatR n₀ w bb ob K C pb ob' capb MB) (bA : Mx.ByM MA) (bB : Mx.ByM MB) (hn : 1 ≤ n) (hn2 : n ≤ 16) (hK : 1 ≤ K) (hK2 : K ≤ 16) (hC : 1 ≤ C) (hC2 : C ≤ 16) :
    Calls Tryd.prog 55 #[.slice (some ⟨ba, oa, none⟩) n ca, .slice (some ⟨bb, ob, none⟩) K cb] w fun e w' => (∃ v bs caps, e = .returned (.tuple #[v, .bool true]) ∧ OwnM w.heap.size w' v n C bs caps (Mx.mulM MA MB K)) ∧ Below w.heap.size w w' := by
  have hmk := fun (W : World) => run_make_row' (P := Tryd.prog) (w := W) 28 5 (.int .u8 0) 1 Tryd.underlying28 info_uint8 rfl .i64 .i64 C (by omega) (by omega)
  have Hmk := Lib.hid hmk
  have HA := Lib.hid hA
  have HB := Lib.hid hB
  clear hmk hA hB
  go_enter Tryd.func55, Tryd.ntmps55
  go_wp2_with fail
  refine (rismat_mat n₀ ba oa n K ca pa oa' capa MA w HA.out hn hn2 hK hK2).mono ?_
  rintro e w1 ⟨rfl, hb1⟩
  have hb1 : Below w.heap.size w w1 := by obtain ⟨q, rfl⟩ := hb1; exact same_below' _ q
  go_wp2_with fail
  refine (rismat_mat n₀ bb ob K C cb pb ob' capb MB w1 (HB.out.below (Below.mono hb1 hn₀)) hK hK2 hC hC2).mono ?_
  rintro e w2 ⟨rfl, hb2⟩
  have hb3 : Below w.heap.size w w2 := by obtain ⟨q, rfl⟩ := hb2; exact hb1.trans (same_below' _ q)
  have hA0 := (HA.out.below (hb3.mono hn₀)).head 0 (by omega)
  rw [Nat.add_zero] at hA0
  have hn3 : (0 : Int) < n := by omega
  have hB3 := Lib.hid hb3
  clear hb1 hb2 hb3
  go_wp2
  clear hA0
  go_loopw [7, 8] (fun vo vi wr => ∃ (i : Nat) (bs caps : Nat → Nat), i ≤ n ∧ vi = .int .i64 i ∧ Hid (OwnM w.heap.size wr vo i C bs caps (Mx.mulM MA MB K) ∧ Below w.heap.size w wr)) (fun _ i _ => n - (intOf i).toNat)
  case atStart => exact ⟨0, fun _ => 0, fun _ => 0, by omega, rfl, Lib.hid ⟨OwnM.nil _ _ _ _ _ _, hB3.out⟩⟩
  case round =>
    obtain ⟨i, bs, caps, hi, rfl, H⟩ := hrel
    have hi2 : i < n ∨ i = n := by omega
    rcases hi2 with hlt | rfl
    · have hlt2 : (i : Int) < n := by omega
      have hB1 := (HB.out.below (H.out.2.mono hn₀)).head 0 (by omega)
      rw [Nat.add_zero] at hB1
      have hK3 : (0 : Int) < K := by omega
      have hmk := Hmk.out wr
      obtain ⟨wo, rfl⟩ : ∃ wo : World, wo = wr := ⟨_, rfl⟩
      go_wp2
      have hsz := H.out.2.size
      have hrow := RowV.made wo C
      obtain ⟨W0, hW0⟩ : ∃ W0, (wo.alloc (.cells (madeCells #[.int .u8 0] C) 5)) = W0 := ⟨_, rfl⟩
      have hb0 : Below w.heap.size w W0 := by rw [← hW0]; exact H.out.2.alloc hsz _
      have hm0 : OwnM w.heap.size W0 u7 i C bs caps (Mx.mulM MA MB K) := by rw [← hW0]; exact H.out.1.below ((Below.refl _ wo).alloc (Nat.le_refl _) _) (Nat.le_refl _)
      have hs0 : W0.heap.size = wo.heap.size + 1 := by rw [← hW0]; simp
      have hl0 : ∀ i', i' < i → bs i' ≠ wo.heap.size := fun i' h e => by have := H.out.1.lt i' h; omega
      have ho0 : u7.ownBlock ≠ some wo.heap.size := fun e => by have := (H.out.1.own.lt _ e).2; omega
      rw [hW0] at hrow ⊢
      obtain ⟨g, hg⟩ : ∃ g, wo.heap.size = g := ⟨_, rfl⟩
      rw [hg] at hrow hs0 hl0 ho0 hsz ⊢
      have Hx := Lib.hid (And.intro hrow (And.intro hb0 (And.intro hm0 (And.intro hs0 (And.intro hl0 ho0)))))
      clear hrow hb0 hm0 hs0 hl0 ho0 hW0 hg hmk hB1
      go_loopw [10] (fun vt wr => ∃ j : Nat, j ≤ C ∧ vt = .int .i64 j ∧ Hid (OnlyB g W0 wr ∧ RowV wr g C (firstK j (timesRow MA MB i K) (fun _ => 0)))) (fun t _ => C - (intOf t).toNat)
      case atStart => exact ⟨0, by omega, rfl, Lib.hid ⟨OnlyB.refl _ _, Hx.out.1.congr fun j _ => by unfold firstK; rw [if_neg (by omega)]⟩⟩
      case round =>
        obtain ⟨j, hj, rfl, H2⟩ := hrel
        have hj2 : j < C ∨ j = C := by omega
        rcases hj2 with hjl | rfl
        · have hjl2 : (j : Int) < C := by omega
          obtain ⟨wm, rfl⟩ : ∃ wm : World, wm = wr := ⟨_, rfl⟩
          go_wp2
          go_loopw [11] (fun vs wr => ∃ k : Nat, k ≤ K ∧ vs = .int .i64 k ∧ Hid (OnlyB g W0 wr ∧ RowV wr g C (growing MA MB K i j k))) (fun s _ => K - (intOf s).toNat)
          case atStart => exact ⟨0, by omega, rfl, Lib.hid ⟨H2.out.1, H2.out.2.congr fun j' _ => by
            unfold growing Mx.upd
            by_cases e : j' = j
            · rw [if_pos e, e]; unfold firstK; rw [if_neg (by omega)]; rfl
            · rw [if_neg e]⟩⟩
          case round =>
            obtain ⟨k, hk, rfl, H3⟩ := hrel
            have hk2 : k < K ∨ k = K := by omega
            rcases hk2 with hkl | rfl
            · have hkl2 : (k : Int) < K := by omega
              have hA2 := (HA.out.below (Hx.out.2.1.mono hn₀))
              have hB2 := (HB.out.below (Hx.out.2.1.mono hn₀))
              have hcA0 : wr.cell? ⟨ba, oa + i, none⟩ = some (.slice (some ⟨pa i, oa' i, none⟩) K (capa i)) := (H3.out.1.cell (p := ⟨ba, oa + i, none⟩) (by have := HA.out.lo; show ba ≠ g; omega)).trans (hA2.head i hlt)
              have hcA : wr.cell? ⟨pa i, oa' i + k, none⟩ = some (.int .u8 (MA i k : Nat)) := (H3.out.1.cell (p := ⟨pa i, oa' i + k, none⟩) (by have := HA.out.plo i hlt; show pa i ≠ g; omega)).trans (hA2.cell i hlt k hkl)
              have hcB : wr.cell? ⟨bb, ob + k, none⟩ = some (.slice (some ⟨pb k, ob' k, none⟩) C (capb k)) := (H3.out.1.cell (p := ⟨bb, ob + k, none⟩) (by have := HB.out.lo; show bb ≠ g; omega)).trans (hB2.head k hkl)
              have hcC : wr.cell? ⟨pb k, ob' k + j, none⟩ = some (.int .u8 (MB k j : Nat)) := (H3.out.1.cell (p := ⟨pb k, ob' k + j, none⟩) (by have := HB.out.plo k hkl; show pb k ≠ g; omega)).trans (hB2.cell k hkl j hjl)
              have hcD : wr.cell? ⟨g, j, none⟩ = some (.int .u8 (timesRow MA MB i k j : Nat)) := by
                have := H3.out.2.cell j hjl
                unfold growing Mx.upd at this; rwa [if_pos rfl] at this
              have hfr := H3.out.2.free j hjl
              have hx := bA i k
              have hy := bB k j
              have hd : timesRow MA MB i k j < 256 := Mx.dot_lt (bA i) k
              have hnew : timesRow MA MB i (k + 1) j = timesRow MA MB i k j ^^^ Gf.mul (MA i k) (MB k j) := rfl
              obtain ⟨x, hxe⟩ : ∃ x, MA i k = x := ⟨_, rfl⟩
              obtain ⟨y, hye⟩ : ∃ y, MB k j = y := ⟨_, rfl⟩
              obtain ⟨d, hde⟩ : ∃ d, timesRow MA MB i k j = d := ⟨_, rfl⟩
              rw [hxe] at hcA hx hnew
              rw [hye] at hcC hy hnew
              rw [hde] at hcD hd hnew
              have hml := Gf.mul_lt y hx
              have hz3 : bits .xor .u8 (d : Int) ((Gf.mul x y : Nat) : Int) = ((d ^^^ Gf.mul x y : Nat) : Int) := u8_xor_nat _ _ hd hml
              have hmq := fun W => rmul_q x y W hx hy
              obtain ⟨q, hqe⟩ : ∃ q, Gf.mul x y = q := ⟨_, rfl⟩
              rw [hqe] at hz3 hmq hml hnew
              have Hz3 := Lib.hid hz3
              have Hnew := Lib.hid hnew
              have Hmq := Lib.hid hmq
              clear hz3 hnew hmq hxe hye hde hqe hA2 hB2
              go_wp2
              refine wp_region_still_tail 23 (by kernel_rfl) (by kernel_rfl) ?_
              simp only [List.take_succ_cons, List.take_zero, List.drop_succ_cons, List.drop_zero]
              repeat still_step
              still_call (Hmq.out _)
              repeat still_step
              refine wpStill_nil ?_
              change wpList _ _ _ _ _ wr.drew
              go_wp2
              go_roundw
              case rel =>
                refine ⟨k + 1, by omega, by go_num, Lib.hid ⟨?_, ?_⟩⟩
                · exact (H3.out.1.trans (OnlyB.setCell _ _ _ _)).trans (OnlyB.drewN _ _ 1)
                · refine RowV.drewN 1 ?_
                  rw [Hz3.out]
                  refine (H3.out.2.set (x := d ^^^ q) hjl).congr fun j' hj' => ?_
                  unfold growing Mx.upd
                  by_cases e : j' = j
                  · rw [if_pos e, if_pos e]; exact Hnew.out.symm
                  · rw [if_neg e, if_neg e, if_neg e]
              case measure => simp [intOf]; omega
            · go_wp2
              go_roundw
              case rel => exact ⟨j + 1, by omega, by go_num, Lib.hid ⟨H3.out.1, H3.out.2.congr fun j' hj' => by
                unfold growing Mx.upd firstK
                by_cases e : j' = j
                · rw [if_pos e, if_pos (by omega), e]
                · rw [if_neg e]
                  by_cases e2 : j' < j
                  · rw [if_pos e2, if_pos (by omega)]
                  · rw [if_neg e2, if_neg (by omega)]⟩⟩
              case measure => simp [intOf]; omega
        · obtain ⟨_, hb0, hm0, hs0, hl0, ho0⟩ := Hx.out
          have hm1 := hm0.only H2.out.1 hl0 ho0
          have hb1 := hb0.trans (H2.out.1.below hsz)
          have hgl : g < wr.heap.size := by have := H2.out.1.size; omega
          have hown := Lib.hid hm1.own
          have hul : ((List.range i).map fun i => Value.slice (some ⟨bs i, 0, none⟩) j (caps i)).length ≤ 1000000 := by simp; omega
          have hsz1 := hb1.size
          have hrowf := H2.out.2.congr (g := timesRow MA MB i K) (fun j' hj' => by unfold firstK; rw [if_pos hj'])
          have Hy := Lib.hid (And.intro hm1 (And.intro hb1 (And.intro hl0 (And.intro ho0 hrowf))))
          clear hb0 hm0 hs0 hl0 ho0 hm1 hb1 hrowf
          go_wp2_with (at_builtin; refine append_rowv 75 77 rfl rfl w.heap.size _ _ (some ⟨g, 0, none⟩) j j rfl rfl hown.out hul hsz1 ?_)
          intro v' w' k1 k2 k3
          obtain ⟨hm1, hb1, hl0, ho0, hrowf⟩ := Hy.out
          have hm2 := hm1.snoc hrowf hsz hgl hl0 ho0 ⟨Nat.le_refl _, by unfold maxLen; omega⟩ k1 k2 k3
          have hb2 : Below w.heap.size w w' := (hb1.alloc hsz1 _).grown k2 (by simp; omega) (fun j e => (hm1.own.lt j e).1)
          have hm3 := hm2.congr (M' := Mx.mulM MA MB K) (fun i' hi' j hj => by
            unfold Mx.putR
            by_cases e : i' = i
            · rw [if_pos e, e]; rfl
            · rw [if_neg e])
          have HR := Lib.hid (And.intro hm3 hb2)
          clear hm1 hb1 hl0 ho0 hrowf hm2 hb2 hm3 k1 k2 k3 Hy hown
          go_wp2
          go_roundw
          case rel => exact ⟨i + 1, _, _, by omega, by go_num, HR⟩
          case measure => simp [intOf]; omega
    · go_wp2
      go_ret2
      exact ⟨⟨_, bs, caps, rfl, H.out.1⟩, H.out.2⟩

/-- a row as a text. -/
def rowText (f : Nat → Nat) (C : Nat) : List UInt8 := (List.range C).map fun j => UInt8.ofNat (f j)
theorem conv_row (w : World) (p o C cap : Nat) (f : Nat → Nat) (hf : ∀ j, f j < 256) (hc : ∀ j, j < C → w.cell? ⟨p, o + j, none⟩ = some (.int .u8 (f j : Nat))) :
    (convert 28 9 (.slice (some ⟨p, o, none⟩) C cap)).run Tryd.prog w = .ok (.string ⟨(rowText f C).toArray⟩) w := by
  have hl : (rowText f C).length = C := by simp [rowText]
  have h := run_convert_bytes_back (P := Tryd.prog) w 28 9 5 ⟨p, o, none⟩ cap (rowText f C) Tryd.underlying28 Tryd.underlying5 Tryd.underlying9 (fun j hj => by
    rw [Addr.add_lit, hc j (by rw [← hl]; exact hj)]
    have e : (rowText f C)[j] = UInt8.ofNat (f j) := by simp [rowText]
    rw [e, UInt8.toNat_ofNat_of_lt' (hf j)])
  rw [hl] at h
  exact h
set_option maxRecDepth 100000 in
set_option maxHeartbeats 2000000 in
/-- the document's SameMatrix of two that are the same. -/
theorem same_walk (n₀ ba oa n C ca bb ob cb : Nat) (pa oa' capa pb ob' capb : Nat → Nat) (MA MB : Nat → Nat → Nat) (w : World) (hn2 : n ≤ 16) 
    (hA : MatR n₀ w ba oa n C pa oa' capa MA) (hB : MatR n₀ w bb ob n C pb ob' capb MB) (bA : Mx.ByM MA) (bB : Mx.ByM MB) (he : ∀ i, i < n → ∀ j, j < C → MA i j = MB i j) :
    Calls Tryd.prog 58 #[.slice (some ⟨ba, oa, none⟩) n ca, .slice (some ⟨bb, ob, none⟩) n cb] w fun e w' => e = .returned (.bool true) ∧ ∃ q, w' = w.drewN q := by
  have HA := Lib.hid hA
  have HB := Lib.hid hB
  have He := Lib.hid he
  clear hA hB he
  go_enter Tryd.func58, Tryd.ntmps58
  go_wp2
  go_loopw [5] (fun vi wr => ∃ i : Nat, i ≤ n ∧ vi = .int .i64 i ∧ Hid (∃ q, wr = w.drewN q)) (fun i _ => n - (intOf i).toNat)
  case atStart => exact ⟨0, by omega, rfl, Lib.hid ⟨0, rfl⟩⟩
  case round =>
    obtain ⟨i, hi, rfl, H⟩ := hrel
    obtain ⟨q, hq⟩ := H.out
    have Hq := Lib.hid hq; clear hq
    have hi2 : i < n ∨ i = n := by omega
    rcases hi2 with hlt | rfl
    · have hlt2 : (i : Int) < n := by omega
      have h1 : wr.cell? ⟨ba, oa + i, none⟩ = some (.slice (some ⟨pa i, oa' i, none⟩) C (capa i)) := by rw [Hq.out]; exact HA.out.head i hlt
      have h2 : wr.cell? ⟨bb, ob + i, none⟩ = some (.slice (some ⟨pb i, ob' i, none⟩) C (capb i)) := by rw [Hq.out]; exact HB.out.head i hlt
      have hc1 := fun m => conv_row (wr.drewN m) (pa i) (oa' i) C (capa i) (MA i) (bA i) (fun j hj => by rw [Hq.out]; exact HA.out.cell i hlt j hj)
      have hc2 := fun m => conv_row (wr.drewN m) (pb i) (ob' i) C (capb i) (MB i) (bB i) (fun j hj => by rw [Hq.out]; exact HB.out.cell i hlt j hj)
      have hs : rowText (MB i) C = rowText (MA i) C := List.map_congr_left fun j hj => by rw [He.out i hlt j (List.mem_range.1 hj)]
      rw [hs] at hc2
      obtain ⟨s, hse⟩ : ∃ s : ByteArray, (⟨(rowText (MA i) C).toArray⟩ : ByteArray) = s := ⟨_, rfl⟩
      rw [hse] at hc1 hc2
      clear hse hs
      go_wp2
      go_quiet (fail)
      go_wp2
      go_roundw
      case rel => exact ⟨i + 1, by omega, by go_num, Lib.hid ⟨q + nq, by rw [Hq.out, World.drewN_drewN]⟩⟩
      case measure => simp [intOf]; omega
    · go_wp2
      go_ret
      exact ⟨rfl, q, Hq.out⟩
end Go.Proofs.YtfojimaafhpgbaaDoor
