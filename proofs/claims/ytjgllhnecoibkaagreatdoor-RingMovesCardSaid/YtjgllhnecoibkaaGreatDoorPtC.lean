/- The walk of ring.points: all points of nodes, in order. -/
import Derived.Test.YtjgllhnecoibkaaGreatDoorPtB
namespace Go.Proofs.YtjgllhnecoibkaaGreatDoor
open Go.RowKit

theorem points_eg : ∀ args w, (callFunc 58 args).run Tryz.prog w = .ok (.enter 58 args) w := enters_of Tryz.func58 (by kernel_rfl) rfl
theorem encPt_one (x : Rg.Pt) : ∀ v ∈ encPt x, v.oneCell' = true := by
  intro v hv
  simp [encPt] at hv
  rcases hv with rfl | rfl | rfl <;> rfl
theorem cmpLaysPt (blk off size : Nat) (w : World) : CmpLays Tryz.prog 58 #[] encPt 3 cfPt blk off size w := fun _ _ _ _ x y => by
  exact ptC_walk x y _
/-- the cells of a slice of points of the call's own, as the sort has them. -/
theorem holds_of_own {B : Nat} {w : World} {v : Value} {l : List Rg.Pt} (h : OwnP B w v l) (hl : 0 < l.length) : ∃ g cap, v = .slice (some ⟨g, 0, none⟩) l.length cap ∧ B ≤ g ∧ g < w.heap.size ∧ l.length ≤ cap ∧ cap ≤ maxLen ∧ Go.Sort.HoldsK encPt 3 w g 0 l.toArray := by
  rcases h.2 with ⟨_, hn⟩ | ⟨g, cap, cur, rfl, hb, hg, hc, hm, hs, ht⟩
  · omega
  · have hh : w.ownsRow B 77 3 (.slice (some ⟨g, 0, none⟩) l.length cap) l.length (ptV l) := ⟨h.1, .inr ⟨g, cap, cur, rfl, hb, hg, hc, hm, hs, ht⟩⟩
    refine ⟨g, cap, rfl, hb, (Array.getElem?_eq_some_iff.1 hg).1, hc, hm, fun t hts => ?_⟩
    have ht3 : t < l.length * 3 := by simpa using hts
    refine ⟨?_, hh.frozenAt _⟩
    rw [Nat.zero_add, hh.cellAt t ht3]
    have h1 := ptV_at l (t / 3) (t % 3) (by omega) (Nat.mod_lt _ (by omega))
    rw [show t / 3 * 3 + t % 3 = t by omega] at h1
    rw [h1, Go.Sort.get_flatK _ _ _ _ (by simpa using hts)]
    have e : l.toArray[t / 3]! = l[t / 3]?.getD (0, ⟨#[]⟩, 0) := by
      have : t / 3 < l.length := by omega
      simp [this]
    rw [e]
    have h3 : t % 3 < 3 := Nat.mod_lt _ (by omega)
    have hz : t % 3 < (encPt (l[t / 3]?.getD (0, ⟨#[]⟩, 0))).length := h3
    rw [List.getElem?_eq_getElem hz]
    simp only [id]
    rw [getElem!_pos (encPt (l[t / 3]?.getD (0, ⟨#[]⟩, 0))) (t % 3) hz]
/-- what points answers: all points, in order, in a block of its own. -/
def PtsOut (w w' : World) (L : List ByteArray) (e : Ending) : Prop := Below w.heap.size w w' ∧ ∃ (g cap : Nat) (P : List Rg.Pt), e = .returned (.slice (some ⟨g, 0, none⟩) P.length cap) ∧ w.heap.size ≤ g ∧ g < w'.heap.size ∧ P.length ≤ cap ∧ cap ≤ maxLen ∧ P.Perm (Rg.pts ringH L) ∧ P.Pairwise (fun x y => Rg.plt y x = false) ∧
  ∀ i, i < P.length → w'.cell? ⟨g, i * 3, none⟩ = some (.int .u32 ((P[i]?.getD (0, ⟨#[]⟩, 0)).1 : Nat)) ∧ w'.cell? ⟨g, i * 3 + 1, none⟩ = some (.string (P[i]?.getD (0, ⟨#[]⟩, 0)).2.1) ∧ w'.cell? ⟨g, i * 3 + 2, none⟩ = some (.int .i64 ((P[i]?.getD (0, ⟨#[]⟩, 0)).2.2 : Nat))
theorem sortWorld_grown {w : World} {g m : Nat} {d : Array Rg.Pt} {os : Array Obj} : w.grownBy (sortWorldK encPt 3 w g 0 m d os) (some g) := by
  unfold sortWorldK Go.Sort.putRowK
  refine ⟨rfl, rfl, rfl, by simp, fun k hk hne => ?_⟩
  rw [Go.Sort.heap_grow_old _ _ (by simpa using hk)]
  have : g ≠ k := fun e => hne (by rw [e])
  simp [Go.Sort.putRow, Go.Sort.mapBlock, Go.Sort.ahead, Array.getElem?_modify, this]
theorem sorted_cells {w : World} {g m : Nat} {d d' : Array Rg.Pt} {os : Array Obj} (hH : Go.Sort.HoldsK encPt 3 w g 0 d) (hg : g < w.heap.size) (hs : d'.size = d.size) {i : Nat} (hi : i < d'.size) {j : Nat} (hj : j < 3) : (sortWorldK encPt 3 w g 0 m d' os).cell? ⟨g, i * 3 + j, none⟩ = some ((encPt d'[i]!)[j]!) := by
  have h := (Go.Sort.HoldsK.cell (holdsK_sortWorldK_c encPt 3 w g 0 d d' m os hH hg hs) hi hj).1
  rw [Nat.zero_add] at h
  exact h
set_option maxRecDepth 100000 in
set_option maxHeartbeats 4000000 in
theorem points_walk (n₀ : Nat) (a : Option Addr) (len cap : Nat) (L : List ByteArray) (w : World) (hlen : L.length = len) (hl1 : 1 ≤ len) (hl : len ≤ 16) (hsz : ∀ s ∈ L, s.size ≤ 16) (hI : TxsAt n₀ w a L) (hn : n₀ ≤ w.heap.size) :
    Calls Tryz.prog 34 #[.slice a len cap] w fun e w' => PtsOut w w' L e := by
  have HI := Lib.hid (hI.mono hn)
  have Hl := Lib.hid hlen
  have Hs := Lib.hid hsz
  clear hI hlen hsz
  go_enter Tryz.func34, Tryz.ntmps34
  go_wp2
  go_loopw [3, 9] (fun vo vi wr => ∃ k : Nat, k ≤ len ∧ vi = .int .i64 k ∧ Hid (OwnP w.heap.size wr vo (Rg.pts ringH (L.take k)) ∧ Below w.heap.size w wr)) (fun _ i _ => len - (intOf i).toNat)
  case atStart => exact ⟨0, by omega, rfl, Lib.hid ⟨by simpa [Rg.pts] using OwnP.nil _ _, Below.refl _ _⟩⟩
  case round =>
    obtain ⟨k, hk, rfl, Ho⟩ := hrel
    have hk2 : k < len ∨ k = len := by omega
    rcases hk2 with hlt | rfl
    · have hlt2 : (k : Int) < len := by omega
      rcases HI.out.below Ho.out.2 with he | ⟨b, off, rfl, _, hc⟩
      · exfalso
        have := Hl.out
        rw [he] at this; simp at this; omega
      have h1 := hc k (by have := Hl.out; omega)
      have hkl : k < L.length := by have := Hl.out; omega
      have hpt := pts_take L hkl
      obtain ⟨s, hs⟩ : ∃ s, L[k]?.getD ⟨#[]⟩ = s := ⟨_, rfl⟩
      rw [hs] at h1 hpt
      have hsm : s.size ≤ 16 := by
        rw [List.getElem?_eq_getElem hkl] at hs
        simp only [Option.getD_some] at hs
        rw [← hs]; exact Hs.out _ (List.getElem_mem hkl)
      have Hpt := Lib.hid hpt
      obtain ⟨wo, hwo⟩ : ∃ wo : World, wo = wr := ⟨_, rfl⟩
      have Ho2 : Hid (OwnP w.heap.size wo u3 (Rg.pts ringH (L.take k)) ∧ Below w.heap.size w wo) := by rw [hwo]; exact Ho
      rw [← hwo] at h1 ⊢
      clear hc hs hpt hwo Ho
      go_wp2
      go_loopw [3, 13] (fun vo vi wr => ∃ i : Nat, i ≤ 8 ∧ vi = .int .i64 i ∧ Hid (OwnP w.heap.size wr vo (Rg.pts ringH (L.take k) ++ (List.range i).map fun j => (ringH s j, s, j)) ∧ Below w.heap.size w wr)) (fun _ i _ => 8 - (intOf i).toNat)
      case atStart => exact ⟨0, by omega, rfl, Lib.hid ⟨by simpa using Ho2.out.1, Ho2.out.2⟩⟩
      case round =>
        obtain ⟨i, hi, rfl, Hr⟩ := hrel
        have hi2 : i < 8 ∨ i = 8 := by omega
        rcases hi2 with hilt | rfl
        · have hilt2 : (i : Int) < 8 := by omega
          have Hit := Lib.hid (itoa_walk i hilt wr)
          have hdg : (digT i).size = 1 := rfl
          have hown := Lib.hid Hr.out.1
          have hul : (Rg.pts ringH (L.take k) ++ (List.range i).map fun j => (ringH s j, s, j)).length ≤ 1000000 := by
            rw [List.length_append, pts_length, List.length_take]
            simp; omega
          have hszr := Hr.out.2.size
          go_wp2_with fail
          refine Hit.out.mono ?_
          rintro e w' ⟨rfl, rfl⟩
          go_wp2_with fail
          have hhs : (s ++ (⟨#[35]⟩ : ByteArray) ++ digT i).size ≤ maxLen := by
            have e1 : (digT i).size = 1 := rfl
            have e2 : (⟨#[35]⟩ : ByteArray).size = 1 := rfl
            rw [ByteArray.size_append, ByteArray.size_append, e1, e2]
            unfold maxLen; omega
          have Hh := Lib.hid (hash_walk (s ++ (⟨#[35]⟩ : ByteArray) ++ digT i) wr hhs)
          have hrh : Sm.hash (Sm.nats (s ++ (⟨#[35]⟩ : ByteArray) ++ digT i)) = ringH s i := rfl
          rw [hrh] at Hh
          clear hrh hhs
          obtain ⟨h, hh⟩ : ∃ h, ringH s i = h := ⟨_, rfl⟩
          rw [hh] at Hh
          have Hhh := Lib.hid hh
          clear hh
          refine Hh.out.mono ?_
          rintro e w' ⟨rfl, rfl⟩
          go_wp2_with (at_builtin; refine append_pt 16 26 rfl rfl w.heap.size _ _ (h, s, i) rfl rfl hown.out hul hszr ?_)
          intro v' w' k1 k2 _
          have hB2 : Below w.heap.size w w' := (Hr.out.2.alloc hszr _).grown k2 (by simp; omega) (fun j e => (hown.out.lt j e).1)
          have hO2 : OwnP w.heap.size w' v' (Rg.pts ringH (L.take k) ++ (List.range (i + 1)).map fun j => (ringH s j, s, j)) := by
            rw [List.range_succ, List.map_append]
            simp only [List.map_cons, List.map_nil, Hhh.out]
            exact k1
          have HR := Lib.hid (And.intro hO2 hB2)
          clear k1 k2 hB2 hO2 hown
          go_wp2
          go_roundw
          case rel => exact ⟨i + 1, by omega, by go_num, HR⟩
          case measure => simp [intOf]; omega
        · have HR : Hid (OwnP w.heap.size wr u3 (Rg.pts ringH (L.take (k + 1))) ∧ Below w.heap.size w wr) := Lib.hid (by rw [Hpt.out]; exact Hr.out)
          go_wp2
          go_roundw
          case rel => exact ⟨k + 1, by omega, by go_num, HR⟩
          case measure => simp [intOf]; omega
    · have hown := Ho.out.1
      rw [List.take_of_length_le (by have := Hl.out; omega)] at hown
      have hpl := pts_length L
      obtain ⟨g, cap2, hve, hg1, hg2, hc1, hc2, hH⟩ := holds_of_own hown (by have := Hl.out; omega)
      obtain ⟨D, hD⟩ : ∃ D, Rg.pts ringH L = D := ⟨_, rfl⟩
      rw [hD] at hve hc1 hH hpl
      have hcon := AnyQ.slices_SortFunc Tryz.sortPt 3 Tryz.isAgg77 Tryz.sizeOf77 encPt (fun _ => rfl) encPt_one cfPt swoPt 58 #[] g 0 cap2 D.toArray wr points_eg (cmpLaysPt g 0 D.toArray.size wr) hH hg2 (by simp; have := Hl.out; omega)
      change Calls Tryz.prog 57 _ _ _ at hcon
      rw [List.size_toArray] at hcon
      have HC := Lib.hid hcon
      have HX := Lib.hid (And.intro hg1 (And.intro hg2 (And.intro hc1 (And.intro hc2 (And.intro hH (And.intro Ho.out.2 (And.intro hD hpl)))))))
      obtain ⟨dl, hdl⟩ : ∃ dl, D.length = dl := ⟨_, rfl⟩
      have Hdl := Lib.hid hdl
      rw [hve, hdl]
      rw [hdl] at HC
      clear hown hve hg1 hg2 hc1 hc2 hH hcon hD hpl Ho hdl
      go_wp2_with fail
      refine HC.out.mono ?_
      rintro e w2 ⟨rfl, d', m, os, hp, hso, hw2⟩
      have hfin : PtsOut w w2 L (.returned (.slice (some ⟨g, 0, none⟩) dl cap2)) := by
        obtain ⟨hg1, hg2, hc1, hc2, hH, hB, hD, hpl⟩ := HX.out
        obtain ⟨h1, _, h3⟩ := hp
        have hds := Hdl.out
        have hsz : d'.size = dl := by rw [h1]; simpa using hds
        have hperm : d'.toList.Perm D := by
          have e1 : d'.extract 0 dl = d' := by rw [← hsz]; exact Array.extract_size
          have e2 : D.toArray.extract 0 dl = D.toArray := by
            have : D.toArray.size = dl := by simpa using hds
            rw [← this]; exact Array.extract_size
          rw [e1, e2] at h3
          simpa using h3
        have hlen : d'.toList.length = dl := by simpa using hsz
        refine ⟨hw2 ▸ hB.grown sortWorld_grown hB.size (fun k e => by cases e; exact hg1), g, cap2, d'.toList, by rw [hlen], hg1, ?_, by rw [hlen, ← hds]; exact hc1, hc2, by rw [hD]; exact hperm, ?_, ?_⟩
        · rw [hw2]; exact Nat.lt_of_lt_of_le hg2 (size_sortWorldK_c encPt 3 wr g 0 m d' os)
        · rw [List.pairwise_iff_getElem]
          intro i j hi hj hij
          have := hso i j (Nat.zero_le _) hij (by rw [hlen] at hj; exact hj)
          rw [ltPt] at this
          have hi' : i < d'.size := by simpa using hi
          have hj' : j < d'.size := by simpa using hj
          rw [getElem!_pos d' i hi', getElem!_pos d' j hj'] at this
          simpa using this
        · intro i hi
          have hi' : i < d'.size := by simpa using hi
          have hcell := fun j (hj : j < 3) => sorted_cells (m := m) (os := os) hH hg2 (show d'.size = D.toArray.size by rw [hsz]; simpa using hds.symm) hi' hj
          rw [← hw2] at hcell
          have e : d'.toList[i]?.getD (0, ⟨#[]⟩, 0) = d'[i]! := by
            rw [getElem!_pos d' i hi']; simp [hi']
          rw [e]
          exact ⟨hcell 0 (by omega), hcell 1 (by omega), hcell 2 (by omega)⟩
      have HF := Lib.hid hfin
      clear hp hso hw2 hfin
      go_wp2
      go_ret
      exact HF.out
end Go.Proofs.YtjgllhnecoibkaaGreatDoor
