/- The walk of the law Names. -/
import Derived.Test.YtfojimaafhpgbaaDoorCodeF
import Derived.Test.YtfojimaafhpgbaaDoorSameInts
import Derived.Test.YtfojimaafhpgbaaDoorEnv
namespace Go.Proofs.YtfojimaafhpgbaaDoor.names
open Go.RowKit

def namesL : List Int := [1000, 12, 16, 16, 16, 8, 60, 6, 12, 200, 120, 3000, 4000, 100, 16]
theorem ints_new (w : World) (t : TypeId) (l : List Int) : IntsAt (w.alloc (.cells (l.map (Value.int .i64)).toArray t)) (some ⟨w.heap.size, 0, none⟩) l :=
  IntsAt.new w _ t l (fun j hj => by simp [hj])

set_option maxRecDepth 100000 in
set_option maxHeartbeats 2000000 in
theorem walk (w : World) (hL : laidMetH Tryd.prog Rows.namesRow.laid w) :
    Calls Tryd.prog 6 #[] w fun e w' => e = .returned (.bool true) ∧ Below w.heap.size w w' := by
  obtain ⟨E, hE⟩ := env_of_laid hL
  have HE := Lib.hid hE
  clear hE hL
  go_enter Tryd.func6, Tryd.ntmps6
  go_wp2_with fail
  refine (sameInts_walk (some ⟨w.heap.size, 0, none⟩) (some ⟨w.heap.size + 1, 0, none⟩) 15 15 namesL _ (by decide) ?_ ?_).mono ?_
  · exact (ints_new w 3 namesL).alloc _
  · have := ints_new (w.alloc (.cells (namesL.map (Value.int .i64)).toArray 3)) 3 namesL
    rw [World.size_alloc] at this
    exact this
  rintro e w1 ⟨rfl, hb⟩
  have hB : Below w.heap.size w w1 := (((Below.refl _ w).alloc (Nat.le_refl _) _).alloc (by simp) _).trans (hb.mono (by simp; omega))
  clear hb
  have hE1 := HE.out.below hB (Nat.le_refl _)
  obtain ⟨d0, d1, d2, d3, d4, d5, d6, d7, d8, d9, d10, d11, _, _, _⟩ := hE1
  go_wp2
  clear d0 d1 d2 d3 d4 d5 d6 d7 d8 d9 d10 d11
  obtain ⟨W, hW⟩ : ∃ W, w1.alloc (.cells #[errV (E 0), errV (E 1), errV (E 2), errV (E 3), errV (E 4), errV (E 5), errV (E 6), errV (E 7), errV (E 8), errV (E 9), errV (E 10), errV (E 11)] 24) = W := ⟨_, rfl⟩
  rw [hW]
  have hcs : ∀ k, k < 12 → W.cell? ⟨w1.heap.size, k, none⟩ = some (errV (E k)) := fun k hk => by
    rw [← hW, World.cell?_alloc_at _ _ _ _ rfl]
    exact errCells_at E hk
  have hBW : Below w.heap.size w W := by rw [← hW]; exact hB.alloc hB.size _
  have hgW : w1.heap.size < W.heap.size := by rw [← hW]; simp
  have Hcs := Lib.hid hcs; clear hcs
  have HB := Lib.hid hBW; clear hBW
  clear hW hB
  generalize w1.heap.size = g at Hcs hgW
  go_loopw [4] (fun vi wr => ∃ i : Nat, i ≤ 12 ∧ vi = .int .i64 i ∧ Hid (Below W.heap.size W wr)) (fun i _ => 12 - (intOf i).toNat)
  case atStart => exact ⟨0, by omega, rfl, Lib.hid (Below.refl _ _)⟩
  case round =>
    obtain ⟨i, hi, rfl, Hbr⟩ := hrel
    have hbw : Below w.heap.size w wr := HB.out.trans (Hbr.out.mono HB.out.size)
    have Hbw := Lib.hid hbw; clear hbw
    have hi2 : i < 12 ∨ i = 12 := by omega
    rcases hi2 with hlt | rfl
    · have hck : wr.cell? ⟨g, i, none⟩ = some (errV (E i)) := (Hbr.out.cell hgW).trans (Hcs.out i hlt)
      have hl12 : (i : Int) < 12 := by omega
      obtain ⟨wf, hwf⟩ : ∃ wf, wr.alloc (.cells #[.int .i64 7, errV (E i)] 47) = wf := ⟨_, rfl⟩
      have hBf : Below wr.heap.size wr wf := hwf ▸ (Below.refl _ _).alloc (Nat.le_refl _) _
      have hF : FaultAt wf wr.heap.size 7 (E i) := by
        rw [← hwf]
        exact ⟨by rw [World.cell?_alloc_at _ _ _ _ rfl]; rfl, by rw [World.cell?_alloc_at _ _ _ _ rfl]; rfl⟩
      have hEr : ErrEnv wr E := HE.out.below Hbw.out (Nat.le_refl _)
      have hcode := code_fault E i hlt wr.heap.size 7 wf (hEr.below hBf (Nat.le_refl _)) hF
      have Hcode := Lib.hid hcode
      have HBf := Lib.hid hBf
      have HEr := Lib.hid hEr
      clear hcode hBf hF hEr
      have hck2 : ∀ W2, Below wf.heap.size wf W2 → W2.cell? ⟨g, i, none⟩ = some (errV (E i)) := fun W2 hb => by
        have h1 := lt_of_cell hck
        exact (hb.cell (p := ⟨g, i, none⟩) (Nat.lt_of_lt_of_le h1 HBf.out.size)).trans ((HBf.out.cell (p := ⟨g, i, none⟩) h1).trans hck)
      go_wp2_with fail
      refine Hcode.out.mono ?_
      rintro e w2 ⟨rfl, hb⟩
      have hck3 := hck2 w2 hb
      have hb2 : Below wr.heap.size wr w2 := HBf.out.trans (hb.mono HBf.out.size)
      have hcd := coded_err E i hlt ((i : Int) + 1) w2 (HEr.out.below hb2 (Nat.le_refl _))
      rw [show decide ((i : Int) + 1 = (i : Int) + 1) = true by simp] at hcd
      have Hcd := Lib.hid hcd
      have Hb2 := Lib.hid hb2
      clear hb hb2 hcd hck2
      go_wp2_with fail
      refine Hcd.out.mono ?_
      rintro e w3 ⟨rfl, hb⟩
      have Hb3 := Lib.hid (Hb2.out.trans (hb.mono Hb2.out.size))
      clear hb
      go_wp2
      go_round
      case rel => exact ⟨i + 1, by omega, by go_num, Lib.hid (Hbr.out.trans (Hb3.out.mono Hbr.out.size))⟩
      case measure => simp [intOf]; omega
    · go_wp2_with fail
      refine (new_walk _ _).mono ?_
      rintro e w2 ⟨rfl, hb, hbk⟩
      have hEr : ErrEnv wr E := HE.out.below Hbw.out (Nat.le_refl _)
      have hE2 := hEr.below hb (Nat.le_refl _)
      have hne : ∀ k, k < 12 → (⟨wr.heap.size, 0, none⟩ : Addr) ≠ E k := fun k hk he => by
        obtain ⟨c, t, h⟩ := hEr.blk k hk
        rw [← he] at h
        simp at h
      have Hcode := Lib.hid (code_another E _ w2 hE2 hbk hne)
      have hb2 := Hbw.out.trans (hb.mono Hbw.out.size)
      clear hE2 hbk hne hb hEr
      go_wp2_with fail
      refine Hcode.out.mono ?_
      rintro e w3 ⟨rfl, hb⟩
      have hb3 := hb2.trans (hb.mono hb2.size)
      clear hb hb2
      go_wp2_with fail
      refine (coded_nil 0 _).mono ?_
      rintro e w4 ⟨rfl, rfl⟩
      go_wp2
      go_ret
      exact ⟨rfl, hb3⟩
end Go.Proofs.YtfojimaafhpgbaaDoor.names
