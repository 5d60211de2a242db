/- The walk of the laws' single. -/
import Derived.Test.YtmaalkjimppnkaaDoorCodB
namespace Go.Proofs.YtmaalkjimppnkaaDoor
open Go.RowKit

/-- shards of the call's own that are some: where they lie. -/
theorem OwnS.at_ {B : Nat} {w : World} {v : Value} {l : List Sh} (h : OwnS B w v l) (hl : 0 < l.length) : ∃ g cap, v = .slice (some ⟨g, 0, none⟩) l.length cap ∧ B ≤ g ∧ g < w.heap.size ∧ l.length ≤ cap ∧
    ∀ i, i < l.length → w.cell? ⟨g, i * 2, none⟩ = some (.int .i64 (l[i]?.getD (0, ⟨#[]⟩)).1) ∧ w.cell? ⟨g, i * 2 + 1, none⟩ = some (.string (l[i]?.getD (0, ⟨#[]⟩)).2) := by
  rcases h.2 with ⟨rfl, hn⟩ | ⟨g, cap, cur, rfl, hb, hg, hc, hm, hs, ht⟩
  · omega
  · have hh : w.ownsRow B 62 2 (.slice (some ⟨g, 0, none⟩) l.length cap) l.length (shV l) := ⟨h.1, .inr ⟨g, cap, cur, rfl, hb, hg, hc, hm, hs, ht⟩⟩
    refine ⟨g, cap, rfl, hb, (Array.getElem?_eq_some_iff.1 hg).1, hc, fun i hi => ?_⟩
    have h1 := shV_at l i hi
    have hlen := shV_length l
    exact ⟨(hh.cellAt (i * 2) (by omega)).trans h1.1, (hh.cellAt (i * 2 + 1) (by omega)).trans h1.2⟩
theorem encL_at (n k : Nat) (s : ByteArray) {i : Nat} (hi : i < n) : (encL n k s)[i]?.getD (0, ⟨#[]⟩) = ((i : Int), encT k s i) := by simp [encL, hi]
theorem enc_ab : encT 1 ⟨#[97, 98]⟩ 0 = ⟨#[97, 98]⟩ := by kernel_rfl

set_option maxRecDepth 100000 in
set_option maxHeartbeats 2000000 in
theorem single_walk (w : World) (E : Nat → Addr) (hE : ErrEz w E) :
    Calls Tryd.prog 44 #[] w fun e w' => e = .returned (.bool true) ∧ Below w.heap.size w w' := by
  have He := Lib.hid (encode_walk 1 1 ⟨#[97, 98]⟩ w E hE (by omega) (by omega) (by omega) (by show 2 ≤ 1000; omega))
  clear hE
  go_enter Tryd.func44, Tryd.ntmps44
  go_wp2_with fail
  refine He.out.mono ?_
  rintro e w1 ⟨⟨v, rfl, hv⟩, hb1⟩
  obtain ⟨g, c, hve, _, _, _, hc⟩ := hv.at_ (by rw [encL_length]; omega)
  rw [encL_length] at hve hc
  have h0 := hc 0 (by omega)
  rw [encL_at _ _ _ (by omega), enc_ab] at h0
  obtain ⟨h1, h2⟩ := h0
  have h1' : w1.cell? ⟨g, 0, none⟩ = some (.int .i64 0) := h1
  have h2' : w1.cell? ⟨g, 0 + 1, none⟩ = some (.string ⟨#[97, 98]⟩) := h2
  have h2'' : w1.cell? ⟨g, 1, none⟩ = some (.string ⟨#[97, 98]⟩) := h2
  rw [hve]
  have HB := Lib.hid hb1
  clear h1 h2 hc hve hv hb1
  go_wp2
  go_ret
  exact ⟨rfl, HB.out⟩
end Go.Proofs.YtmaalkjimppnkaaDoor
