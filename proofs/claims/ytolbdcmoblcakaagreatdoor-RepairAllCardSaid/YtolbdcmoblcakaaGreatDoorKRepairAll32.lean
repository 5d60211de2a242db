/- The walk of the document's Best. -/
import Derived.Test.YtolbdcmoblcakaaGreatDoorKRepairAll29
import Derived.Test.YtolbdcmoblcakaaGreatDoorKRepairAll30
import Derived.Test.YtolbdcmoblcakaaGreatDoorKRepairAll31
import Derived.Test.YtolbdcmoblcakaaGreatDoorKRepairAll26
import Derived.Test.YtolbdcmoblcakaaGreatDoorProg
import Derived.WalkKit
import Derived.WalkLawsBesides
import Derived.Lib.Hide
import Derived.Deep.QuietTactic
import Derived.BigQuiet
import Derived.Deep.RegionWith
import Derived.Test.YtolbdcmoblcakaaGreatDoorKRepairAll04
namespace Go.Proofs.YtolbdcmoblcakaaGreatDoor
section
open Go.RowKit Go.BigFrame

theorem shardsT_good {n k : Nat} {t : Int × Int} {xs : List Ver} (hk : 1 ≤ k) (h : k ≤ (shardsT n k t xs).2.length) : (0 ≤ (shardsT n k t xs).1 ∧ (shardsT n k t xs).1 ≤ 1000) ∧ (∀ s ∈ (shardsT n k t xs).2, GoodS n (wideN k (shardsT n k t xs).1.toNat) s) ∧ (pickS k (shardsT n k t xs).2).length = k := by
  have hok := groups_ok n k xs
  rw [← getG_groups] at h ⊢
  cases hg : hasG (groupsL n k xs) t with
  | false => rw [getG_none hg] at h; simp at h; omega
  | true =>
    obtain ⟨g, hm, rfl⟩ := hasG_mem.1 hg
    rw [getG_mem hok.nodup hm] at h ⊢
    refine ⟨hok.size g hm, hok.good g hm, ?_⟩
    rw [pickS_all (hok.unlike g hm), List.length_take]; omega
/-- the text of a tag's shards. -/
def txtT (n k : Nat) (xs : List Ver) (t : Int × Int) : ByteArray := textOf (decF (pickS k (shardsT n k t xs).2) k (wideN k (shardsT n k t xs).1.toNat)) (shardsT n k t xs).1.toNat
/-- what the document's best is: its tag, text, whether there is one. -/
def refAns (n k : Nat) (xs : List Ver) : Option (Int × Int) → (Int × Int) × ByteArray × Bool
  | none => ((0, 0), ⟨#[]⟩, false)
  | some t => (t, txtT n k xs t, true)
theorem refAns_best (n k : Nat) (hk : 1 ≤ k) (xs : List Ver) : refAns n k xs (refB n k xs xs) = bestAns k (bestG k (groupsL n k xs)) := by
  rw [best_same n k hk xs]
  cases h : bestG k (groupsL n k xs) with
  | none => rfl
  | some g =>
    have := (best_good h).2.2.2
    show (g.1, txtT n k xs g.1, true) = _
    unfold txtT
    rw [this]
    rfl
theorem tag_heap {w : World} {tb : Nat} {a b : Value} (h : w.heap[tb]? = some (.cells #[a, b] 54 (0, 0))) (x y : Value) : ((w.setCell ⟨tb, 0, none⟩ x).setCell ⟨tb, 1, none⟩ y).heap[tb]? = some (.cells #[x, y] 54 (0, 0)) := by
  have h1 := heap_setCell_same w tb 0 _ _ x h
  exact (heap_setCell_same (w.setCell ⟨tb, 0, none⟩ x) tb 1 _ _ y h1).trans (by simp)
def RBestOut (w w' : World) (n k : Nat) (ls : List (List Ver)) (e : Ending) : Prop := Below w.heap.size w w' ∧
  ∃ (t : Int × Int) (s : ByteArray) (f : Bool), e = .returned (.tuple #[.agg #[.int .i64 t.1, .int .i64 t.2], .string s, .bool f]) ∧ (t, s, f) = bestAns k (bestG k (groupsL n k ls.flatten))
set_option maxRecDepth 100000 in
set_option maxHeartbeats 8000000 in
theorem rbest_walk (n k : Nat) (ca : Option Addr) (cl cc : Nat) (la : Option Addr) (ll lc : Nat) (ls : List (List Ver)) (w : World) (hk : 1 ≤ k) (hkn : k ≤ n) (hn : n ≤ 12) (hll : ls.length = ll) (hlm : ll ≤ maxLen) (hR : VssR w la ls) (ht : totV ls ≤ 1000000) :
    Calls Tryz.prog 30 #[.agg #[.int .i64 n, .int .i64 k, .slice ca cl cc], .slice la ll lc] w fun e w' => RBestOut w w' n k ls e := by
  obtain ⟨cb, hcb⟩ : ∃ cb, w.heap.size = cb := ⟨_, rfl⟩
  obtain ⟨W1, hW1⟩ : ∃ W1, (w.alloc (.cells #[.int .i64 n, .int .i64 k, .slice ca cl cc] 24)).alloc (.cells #[.int .i64 0, .int .i64 0] 54) = W1 := ⟨_, rfl⟩
  have hs0 : (w.alloc (.cells #[.int .i64 n, .int .i64 k, .slice ca cl cc] 24)).heap.size = cb + 1 := by rw [← hcb]; simp
  have hs1 : W1.heap.size = cb + 2 := by rw [← hW1, ← hcb]; simp
  have hb1 : Below w.heap.size w W1 := by rw [← hW1]; exact ((Below.refl _ w).alloc (Nat.le_refl _) _).alloc (by simp) _
  have g1 : W1.heap[cb]? = some (.cells #[.int .i64 n, .int .i64 k, .slice ca cl cc] 24 (0, 0)) := by
    rw [← hW1, Below.heap_alloc _ _ _ (by rw [hs0]; omega), ← hcb]; exact heap_alloc_new _ _
  have g2 : W1.heap[cb + 1]? = some (.cells #[.int .i64 0, .int .i64 0] 54 (0, 0)) := by rw [← hW1, ← hs0]; exact heap_alloc_new _ _
  have HC := Lib.hid (And.intro hW1 (And.intro hcb (And.intro hs1 (And.intro hb1 (And.intro g1 g2)))))
  have HL := Lib.hid (And.intro hll (And.intro (hR.below hb1) ht))
  have Hk := Lib.hid (And.intro hk (And.intro hkn hn))
  have hlm9 : ll ≤ 9223372036854775807 := by unfold maxLen at hlm; omega
  clear hcb hs0 hs1 hb1 g1 g2 hR hk hkn hn hll ht hlm
  go_enter Tryz.func30, Tryz.ntmps30
  go_wp2_with fail
  rw [HC.out.2.1]
  clear hW1
  go_loopw [7, 8] (fun vl vi wr => ∃ (i : Nat) (v : Value), i ≤ ll ∧ vi = .int .i64 i ∧ v = vl ∧ Hid (OwnV W1.heap.size wr v (ls.take i).flatten ∧ Below W1.heap.size W1 wr)) (fun _ vi _ => ll - (intOf vi).toNat)
  case atStart => exact ⟨0, _, by omega, rfl, rfl, Lib.hid ⟨OwnV.nil _ _, Below.refl _ _⟩⟩
  case round =>
    obtain ⟨i, v, hi, rfl, hv, Hr⟩ := hrel
    subst hv
    have hi2 : i < ll ∨ ll = i := by omega
    rcases hi2 with hilt | rfl
    · have hilt2 : (i : Int) < ll := by omega
      have hil : i < ls.length := by rw [HL.out.1]; exact hilt
      obtain ⟨b, off, rfl, hc⟩ : ∃ b off, la = some ⟨b, off, none⟩ ∧ ∀ i, i < ls.length → ∃ ad cp, wr.cell? ⟨b, off + i, none⟩ = some (.slice ad (ls[i]?.getD []).length cp) ∧ (ls[i]?.getD []).length ≤ cp ∧ cp ≤ maxLen ∧ (ad = none → cp = 0) ∧ VrR wr.heap.size wr ad (ls[i]?.getD []) := by
        rcases HL.out.2.1.below Hr.out.2 with he | ⟨b, off, h, hb, hc⟩
        · exfalso; rw [he] at hil; simp at hil
        · exact ⟨b, off, h, hc⟩
      obtain ⟨ad, cp, k0, q1, q2, q3, q4⟩ := hc i hil
      have hft := flat_take ls i hil
      have hfl : (ls.take i).flatten.length + (ls[i]?.getD []).length ≤ 1000000 := by
        rw [flat_len, ← totV_take ls i hil]
        exact Nat.le_trans (totV_le ls (i + 1)) HL.out.2.2
      have hszr : W1.heap.size ≤ wr.heap.size := Hr.out.2.size
      have HQ := Lib.hid (And.intro q3 (And.intro q4 (And.intro hft hfl)))
      clear hc q1 q2 q3 q4 hft hfl hil
      go_wp2_with (at_builtin; refine append_vers 24 28 rfl rfl W1.heap.size v (ls.take i).flatten wr.heap.size ad _ cp (ls[i]?.getD []) rfl rfl Hr.out.1 rfl HQ.out.2.2.2 HQ.out.1 HQ.out.2.1 hszr ?_)
      intro v' w5 h1 h2 _ _
      have HN : Hid (OwnV W1.heap.size w5 v' (ls.take (i + 1)).flatten ∧ Below W1.heap.size W1 w5) := Lib.hid ⟨by rw [HQ.out.2.2.1]; exact h1, Hr.out.2.trans (World.grownBy.below h2 hszr (fun k hk => (Hr.out.1.lt k hk).1))⟩
      clear h1 h2
      go_wp2
      go_roundw
      case rel =>
        first
        | exact ⟨i + 1, _, by omega, by go_num, rfl, HN⟩
        | (repeat apply Exists.intro); exact ⟨⟨i + 1, _, by omega, by go_num, rfl, HN⟩, rfl⟩
      case measure => simp [intOf]; omega
    · have hown := Hr.out.1
      rw [← HL.out.1, List.take_length] at hown
      obtain ⟨xs, hxs⟩ : ∃ xs, ls.flatten = xs := ⟨_, rfl⟩
      have hxl : xs.length ≤ 1000000 := by rw [← hxs, flat_len]; exact HL.out.2.2
      rw [hxs] at hown
      obtain ⟨a2, cap2, hv2, _, _, _, hr2⟩ := hown.read
      obtain ⟨m, hm⟩ : ∃ m, xs.length = m := ⟨_, rfl⟩
      rw [hm] at hv2 hxl
      subst hv2
      obtain ⟨bb, hbb⟩ : ∃ bb, wr.heap.size = bb := ⟨_, rfl⟩
      have hcbb : cb + 2 ≤ bb := by rw [← hbb, ← HC.out.2.2.1]; exact Hr.out.2.size
      have h2c : wr.heap[cb]? = some (.cells #[.int .i64 n, .int .i64 k, .slice ca cl cc] 24 (0, 0)) := (Hr.out.2.block cb (by rw [HC.out.2.2.1]; omega)).trans HC.out.2.2.2.2.1
      have h2t : wr.heap[cb + 1]? = some (.cells #[.int .i64 0, .int .i64 0] 54 (0, 0)) := (Hr.out.2.block (cb + 1) (by rw [HC.out.2.2.1]; omega)).trans HC.out.2.2.2.2.2
      obtain ⟨w2, hw2⟩ : ∃ w2, wr = w2 := ⟨_, rfl⟩
      rw [hw2] at hr2 hbb h2c h2t Hr ⊢
      obtain ⟨w3, hw3⟩ : ∃ w3, w2.alloc (.cells #[.int .i64 0, .int .i64 0] 54) = w3 := ⟨_, rfl⟩
      have hb3 : Below bb w2 w3 := by rw [← hw3, ← hbb]; exact (Below.refl _ w2).alloc (Nat.le_refl _) _
      have h3b : w3.heap[bb]? = some (.cells #[.int .i64 0, .int .i64 0] 54 (0, 0)) := by rw [← hw3, ← hbb]; exact heap_alloc_new _ _
      have H2 := Lib.hid (And.intro hxs (And.intro hm (And.intro hr2 (And.intro hbb (And.intro hcbb (And.intro h2c (And.intro h2t (And.intro hb3 (And.intro h3b hw3)))))))))
      clear hxs hm hr2 hbb hcbb h2c h2t hb3 h3b hown hw2 hw3
      go_wp2_with fail
      rw [H2.out.2.2.2.2.2.2.2.2.2, H2.out.2.2.2.1]
      go_loopw [10, 11, 12] (fun vt vf vi wr => ∃ i : Nat, i ≤ m ∧ vi = .int .i64 i ∧ vt = .string (refAns n k xs (refB n k xs (xs.take i))).2.1 ∧ vf = .bool (refAns n k xs (refB n k xs (xs.take i))).2.2 ∧
        Hid (Below bb w2 wr ∧ wr.heap[bb]? = some (.cells #[.int .i64 (refAns n k xs (refB n k xs (xs.take i))).1.1, .int .i64 (refAns n k xs (refB n k xs (xs.take i))).1.2] 54 (0, 0)))) (fun _ _ vi _ => m - (intOf vi).toNat)
      case atStart => exact ⟨0, by omega, rfl, rfl, rfl, Lib.hid ⟨H2.out.2.2.2.2.2.2.2.1, H2.out.2.2.2.2.2.2.2.2.1⟩⟩
      case round =>
        obtain ⟨i, hi, rfl, rfl, rfl, H⟩ := hrel
        have hi2 : i < m ∨ m = i := by omega
        rcases hi2 with hilt | rfl
        · have hilt2 : (i : Int) < m := by omega
          have hix : i < xs.length := by rw [H2.out.2.1]; exact hilt
          obtain ⟨xb0, off, rfl, hxb0, hcx⟩ : ∃ b off, a2 = some ⟨b, off, none⟩ ∧ b < bb ∧ ∀ i j, i < xs.length → j < 5 → wr.cell? ⟨b, off + i * 5 + j, none⟩ = (encVr (xs[i]?.getD ver0))[j]? := by
            rcases H2.out.2.2.1 with he | ⟨b, off, rfl, hb, hc⟩
            · exfalso; rw [he] at hix; simp at hix
            · rw [H2.out.2.2.2.1] at hb
              exact ⟨b, off, rfl, hb, fun i j hi hj => (H.out.1.cell (p := ⟨b, off + i * 5 + j, none⟩) hb).trans (hc i j hi hj)⟩
          obtain ⟨f0, f1, f2, f3, f4⟩ := VrR.at5 hcx hix
          have hst := refB_snoc n k xs (xs.take i) (xs[i]?.getD ver0)
          rw [← take_snoc xs ver0 i hix] at hst
          obtain ⟨⟨x1, x2, x3, x4, x5⟩, hx⟩ : ∃ x, xs[i]?.getD ver0 = x := ⟨_, rfl⟩
          rw [hx] at f0 f1 hst
          dsimp only at f0 f1
          unfold refStep at hst
          obtain ⟨o, ho⟩ : ∃ o, refB n k xs (xs.take i) = o := ⟨_, rfl⟩
          rw [ho] at hst H ⊢
          rw [show tg (x1, x2, x3, x4, x5) = (x1, x2) from rfl] at hst
          have hszr : bb < wr.heap.size := (Array.getElem?_eq_some_iff.1 H.out.2).1
          obtain ⟨wx, hwx⟩ : ∃ wx, wr.alloc (.cells #[.int .i64 x1, .int .i64 x2] 54) = wx := ⟨_, rfl⟩
          obtain ⟨tb, htb⟩ : ∃ tb, wr.heap.size = tb := ⟨_, rfl⟩
          have hbx : Below wr.heap.size wr wx := by rw [← hwx]; exact (Below.refl _ wr).alloc (Nat.le_refl _) _
          have hgx : wx.heap[tb]? = some (.cells #[.int .i64 x1, .int .i64 x2] 54 (0, 0)) := by rw [← hwx, ← htb]; exact heap_alloc_new _ _
          have hgc : wx.heap[cb]? = some (.cells #[.int .i64 n, .int .i64 k, .slice ca cl cc] 24 (0, 0)) := (hbx.block cb (by have := H2.out.2.2.2.2.1; omega)).trans ((H.out.1.block cb (by have := H2.out.2.2.2.2.1; omega)).trans H2.out.2.2.2.2.2.1)
          have hgb := (hbx.block bb hszr).trans H.out.2
          have hbw : Below bb w2 wx := H.out.1.trans (hbx.mono (Nat.le_of_lt hszr))
          have c0 : wx.cell? ⟨cb, 0, none⟩ = some (.int .i64 n) := cell_of_heap hgc 0
          have c1 : wx.cell? ⟨cb, 1, none⟩ = some (.int .i64 k) := cell_of_heap hgc 1
          have c2 : wx.cell? ⟨cb, 2, none⟩ = some (.slice ca cl cc) := cell_of_heap hgc 2
          have y0 : wx.cell? ⟨tb, 0, none⟩ = some (.int .i64 x1) := cell_of_heap hgx 0
          have y1 : wx.cell? ⟨tb, 1, none⟩ = some (.int .i64 x2) := cell_of_heap hgx 1
          have hszx : bb < wx.heap.size := Nat.lt_of_lt_of_le hszr hbx.size
          have Htx : Hid (wr.alloc (.cells #[.int .i64 x1, .int .i64 x2] 54) = wx ∧ wr.heap.size = tb) := Lib.hid ⟨hwx, htb⟩
          clear hcx hx ho hix hbx hszr f2 f3 f4
          cases o with
          | none =>
            have HT := Lib.hid (And.intro hbw (And.intro hgb (And.intro hgx (And.intro hgc (And.intro hszx hst)))))
            clear hbw hgb hgx hgc hszx hst
            dsimp only [refAns]
            go_wp2_with fail
            clear hwx htb f0 f1 c0 c1 c2 y0 y1
            refine (shardsof_walk w2.heap.size n k ca cl cc _ m cap2 xs x1 x2 wx Hk.out.1 Hk.out.2.1 Hk.out.2.2 H2.out.2.1 hxl (by rw [H2.out.2.2.2.1]; exact Nat.le_of_lt HT.out.2.2.2.2.1) (H2.out.2.2.1.below (by rw [H2.out.2.2.2.1]; exact HT.out.1))).mono ?_
            rintro e w5 ⟨hb5, v5, rfl, ho5⟩
            have hcase := fun (h : k ≤ (shardsT n k (x1, x2) xs).2.length) => shardsT_good Hk.out.1 h
            have hsl := (shardsT_size n k (x1, x2) xs).2.2
            obtain ⟨st, hS⟩ : ∃ st, shardsT n k (x1, x2) xs = st := ⟨_, rfl⟩
            have hst := HT.out.2.2.2.2.2
            rw [hS] at hcase ho5 hst hsl ⊢
            obtain ⟨S, T⟩ := st
            dsimp only at hcase ho5 hst hsl ⊢
            have hT6 : T.length ≤ 1000000 := by have := H2.out.2.1; omega
            obtain ⟨sa, scap, hv5, _, _, hshr⟩ := ho5.read
            subst hv5
            have hgb5 := (hb5.block bb HT.out.2.2.2.2.1).trans HT.out.2.1
            have hgx5 := (hb5.block tb (Array.getElem?_eq_some_iff.1 HT.out.2.2.1).1).trans HT.out.2.2.1
            have hgc5 := (hb5.block cb (Array.getElem?_eq_some_iff.1 HT.out.2.2.2.1).1).trans HT.out.2.2.2.1
            have H5 := Lib.hid (And.intro (HT.out.1.trans (hb5.mono (Nat.le_of_lt HT.out.2.2.2.2.1))) (And.intro hgb5 (And.intro hgx5 (And.intro hgc5 (And.intro (Nat.lt_of_lt_of_le HT.out.2.2.2.2.1 hb5.size) (And.intro hshr (And.intro hS hst)))))))
            have c0 : w5.cell? ⟨cb, 0, none⟩ = some (.int .i64 n) := cell_of_heap hgc5 0
            have c1 : w5.cell? ⟨cb, 1, none⟩ = some (.int .i64 k) := cell_of_heap hgc5 1
            clear hb5 ho5 hshr hgb5 hgx5 hgc5 hS hst hsl
            by_cases hkl : k ≤ T.length
            · obtain ⟨hs1, hs2, hs3⟩ := hcase hkl
              obtain ⟨q, rfl⟩ : ∃ q : Nat, S = (q : Int) := ⟨S.toNat, by omega⟩
              have hq1000 : q ≤ 1000 := by omega
              rw [Int.toNat_natCast] at hs2
              have Hdec : Hid (Calls Tryz.prog 53 #[.int .i64 n, .int .i64 k, .int .i64 q, .slice sa T.length scap] w5 fun e w' => e = .returned (.tuple #[.string (textOf (decF (pickS k T) k (wideN k q)) q), .int .i64 0]) ∧ Below w5.heap.size w5 w') := Lib.hid ((rdecode_walk w5.heap.size n k q sa scap T w5 Hk.out.1 Hk.out.2.1 Hk.out.2.2 hq1000 (by unfold maxLen; omega) (Nat.le_refl _) H5.out.2.2.2.2.2.1).mono (fun e w' h => ⟨by
                rcases h.2 with ⟨h1, _⟩ | ⟨_, h1, _⟩ | ⟨_, _, h1⟩
                · exact absurd hs2 h1
                · rw [hs3] at h1; omega
                · exact h1, h.1⟩))
              have htx : txtT n k xs (x1, x2) = textOf (decF (pickS k T) k (wideN k q)) q := by
                unfold txtT
                rw [H5.out.2.2.2.2.2.2.1]
                rfl
              obtain ⟨tx, htx2⟩ : ∃ tx, textOf (decF (pickS k T) k (wideN k q)) q = tx := ⟨_, rfl⟩
              rw [htx2] at Hdec htx
              have hst := H5.out.2.2.2.2.2.2.2
              rw [if_pos ⟨rfl, hkl⟩] at hst
              have HD := Lib.hid (And.intro hst htx)
              have hnl : ¬ (T.length : Int) < (k : Int) := by omega
              clear hcase hs1 hs2 hs3 htx htx2 hst hkl
              go_wp2_with fail
              refine Hdec.out.mono ?_
              rintro e w6 ⟨rfl, hb6⟩
              have hgb6 := (hb6.block bb H5.out.2.2.2.2.1).trans H5.out.2.1
              have hgx6 := (hb6.block tb (Array.getElem?_eq_some_iff.1 H5.out.2.2.1).1).trans H5.out.2.2.1
              have y0 : w6.cell? ⟨tb, 0, none⟩ = some (.int .i64 x1) := cell_of_heap hgx6 0
              have y1 : w6.cell? ⟨tb, 1, none⟩ = some (.int .i64 x2) := cell_of_heap hgx6 1
              have b0 := Array.getElem?_eq_some_iff.1 hgb6
              have z0 := frozen_of_heap hgb6 0
              have z1 := frozen_of_heap hgb6 1
              have b00 : w6.cell? ⟨bb, 0, none⟩ = some (.int .i64 0) := cell_of_heap hgb6 0
              have b01 : w6.cell? ⟨bb, 1, none⟩ = some (.int .i64 0) := cell_of_heap hgb6 1
              have HN := Lib.hid (And.intro (below_tag (H5.out.1.trans (hb6.mono (Nat.le_of_lt H5.out.2.2.2.2.1))) (Nat.le_refl bb) (.int .i64 x1) (.int .i64 x2)) (tag_heap hgb6 (.int .i64 x1) (.int .i64 x2)))
              clear hb6 hgb6 hgx6 b0 c0 c1 hnl
              go_wp2_with fail
              go_roundw
              case rel =>
                exact ⟨i + 1, by omega, by go_num, by rw [HD.out.1]; show _ = Value.string (txtT n k xs (x1, x2)); rw [HD.out.2], by rw [HD.out.1], Lib.hid ⟨HN.out.1, by rw [HD.out.1]; exact HN.out.2⟩⟩
              case measure => simp [intOf]; omega
            · have hst := H5.out.2.2.2.2.2.2.2
              rw [if_neg (fun h9 => hkl h9.2)] at hst
              have HD := Lib.hid hst
              have hnl : (T.length : Int) < (k : Int) := by omega
              clear hcase hst hkl
              go_wp2_with fail
              go_roundw
              case rel =>
                exact ⟨i + 1, by omega, by go_num, by rw [HD.out], by rw [HD.out], Lib.hid ⟨H5.out.1, by rw [HD.out]; exact H5.out.2.1⟩⟩
              case measure => simp [intOf]; omega
          | some t =>
            obtain ⟨u1, u2⟩ := t
            have b0 : wx.cell? ⟨bb, 0, none⟩ = some (.int .i64 u1) := cell_of_heap hgb 0
            have b1 : wx.cell? ⟨bb, 1, none⟩ = some (.int .i64 u2) := cell_of_heap hgb 1
            have Hless := Lib.hid (rless_walk u1 u2 x1 x2 wx)
            obtain ⟨r, hr⟩ : ∃ r, tagLt u1 u2 x1 x2 = r := ⟨_, rfl⟩
            rw [hr] at Hless
            have Hr9 := Lib.hid hr
            have HX := Lib.hid (And.intro hbw (And.intro hgb (And.intro hgx (And.intro hgc (And.intro hszx hst)))))
            clear hbw hgb hgx hgc hszx hst hr
            dsimp only [refAns]
            go_wp2_with fail
            clear hwx htb f0 f1 c0 c1 c2 y0 y1 b0 b1
            refine Hless.out.mono ?_
            rintro e w4 ⟨rfl, hb4⟩
            have hgb4 := (hb4.block bb HX.out.2.2.2.2.1).trans HX.out.2.1
            have hgx4 := (hb4.block tb (Array.getElem?_eq_some_iff.1 HX.out.2.2.1).1).trans HX.out.2.2.1
            have hgc4 := (hb4.block cb (Array.getElem?_eq_some_iff.1 HX.out.2.2.2.1).1).trans HX.out.2.2.2.1
            have HT := Lib.hid (And.intro (HX.out.1.trans (hb4.mono (Nat.le_of_lt HX.out.2.2.2.2.1))) (And.intro hgb4 (And.intro hgx4 (And.intro hgc4 (And.intro (Nat.lt_of_lt_of_le HX.out.2.2.2.2.1 hb4.size) HX.out.2.2.2.2.2)))))
            have c0 : w4.cell? ⟨cb, 0, none⟩ = some (.int .i64 n) := cell_of_heap hgc4 0
            have c1 : w4.cell? ⟨cb, 1, none⟩ = some (.int .i64 k) := cell_of_heap hgc4 1
            have c2 : w4.cell? ⟨cb, 2, none⟩ = some (.slice ca cl cc) := cell_of_heap hgc4 2
            have y0 : w4.cell? ⟨tb, 0, none⟩ = some (.int .i64 x1) := cell_of_heap hgx4 0
            have y1 : w4.cell? ⟨tb, 1, none⟩ = some (.int .i64 x2) := cell_of_heap hgx4 1
            clear hb4 hgb4 hgx4 hgc4
            cases r
            · have hf := HT.out.2.2.2.2.2
              rw [if_neg (fun h9 => by have h8 : tagLt u1 u2 x1 x2 = true := h9.1; rw [Hr9.out] at h8; cases h8)] at hf
              have HN := Lib.hid hf
              clear hf
              go_wp2_with fail
              go_roundw
              case rel =>
                exact ⟨i + 1, by omega, by go_num, by rw [HN.out], by rw [HN.out], Lib.hid ⟨HT.out.1, by rw [HN.out]; exact HT.out.2.1⟩⟩
              case measure => simp [intOf]; omega
            · go_wp2_with fail
              clear c0 c1 c2 y0 y1
              refine (shardsof_walk w2.heap.size n k ca cl cc _ m cap2 xs x1 x2 w4 Hk.out.1 Hk.out.2.1 Hk.out.2.2 H2.out.2.1 hxl (by rw [H2.out.2.2.2.1]; exact Nat.le_of_lt HT.out.2.2.2.2.1) (H2.out.2.2.1.below (by rw [H2.out.2.2.2.1]; exact HT.out.1))).mono ?_
              rintro e w5 ⟨hb5, v5, rfl, ho5⟩
              have hcase := fun (h : k ≤ (shardsT n k (x1, x2) xs).2.length) => shardsT_good Hk.out.1 h
              have hsl := (shardsT_size n k (x1, x2) xs).2.2
              obtain ⟨st, hS⟩ : ∃ st, shardsT n k (x1, x2) xs = st := ⟨_, rfl⟩
              have hst := HT.out.2.2.2.2.2
              rw [hS] at hcase ho5 hst hsl ⊢
              obtain ⟨S, T⟩ := st
              dsimp only at hcase ho5 hst hsl ⊢
              have hT6 : T.length ≤ 1000000 := by have := H2.out.2.1; omega
              obtain ⟨sa, scap, hv5, _, _, hshr⟩ := ho5.read
              subst hv5
              have hgb5 := (hb5.block bb HT.out.2.2.2.2.1).trans HT.out.2.1
              have hgx5 := (hb5.block tb (Array.getElem?_eq_some_iff.1 HT.out.2.2.1).1).trans HT.out.2.2.1
              have hgc5 := (hb5.block cb (Array.getElem?_eq_some_iff.1 HT.out.2.2.2.1).1).trans HT.out.2.2.2.1
              have H5 := Lib.hid (And.intro (HT.out.1.trans (hb5.mono (Nat.le_of_lt HT.out.2.2.2.2.1))) (And.intro hgb5 (And.intro hgx5 (And.intro hgc5 (And.intro (Nat.lt_of_lt_of_le HT.out.2.2.2.2.1 hb5.size) (And.intro hshr (And.intro hS hst)))))))
              have c0 : w5.cell? ⟨cb, 0, none⟩ = some (.int .i64 n) := cell_of_heap hgc5 0
              have c1 : w5.cell? ⟨cb, 1, none⟩ = some (.int .i64 k) := cell_of_heap hgc5 1
              clear hb5 ho5 hshr hgb5 hgx5 hgc5 hS hst hsl
              by_cases hkl : k ≤ T.length
              · obtain ⟨hs1, hs2, hs3⟩ := hcase hkl
                obtain ⟨q, rfl⟩ : ∃ q : Nat, S = (q : Int) := ⟨S.toNat, by omega⟩
                have hq1000 : q ≤ 1000 := by omega
                rw [Int.toNat_natCast] at hs2
                have Hdec : Hid (Calls Tryz.prog 53 #[.int .i64 n, .int .i64 k, .int .i64 q, .slice sa T.length scap] w5 fun e w' => e = .returned (.tuple #[.string (textOf (decF (pickS k T) k (wideN k q)) q), .int .i64 0]) ∧ Below w5.heap.size w5 w') := Lib.hid ((rdecode_walk w5.heap.size n k q sa scap T w5 Hk.out.1 Hk.out.2.1 Hk.out.2.2 hq1000 (by unfold maxLen; omega) (Nat.le_refl _) H5.out.2.2.2.2.2.1).mono (fun e w' h => ⟨by
                  rcases h.2 with ⟨h1, _⟩ | ⟨_, h1, _⟩ | ⟨_, _, h1⟩
                  · exact absurd hs2 h1
                  · rw [hs3] at h1; omega
                  · exact h1, h.1⟩))
                have htx : txtT n k xs (x1, x2) = textOf (decF (pickS k T) k (wideN k q)) q := by
                  unfold txtT
                  rw [H5.out.2.2.2.2.2.2.1]
                  rfl
                obtain ⟨tx, htx2⟩ : ∃ tx, textOf (decF (pickS k T) k (wideN k q)) q = tx := ⟨_, rfl⟩
                rw [htx2] at Hdec htx
                have hst := H5.out.2.2.2.2.2.2.2
                rw [if_pos ⟨Hr9.out, hkl⟩] at hst
                have HD := Lib.hid (And.intro hst htx)
                have hnl : ¬ (T.length : Int) < (k : Int) := by omega
                clear hcase hs1 hs2 hs3 htx htx2 hst hkl
                go_wp2_with fail
                refine Hdec.out.mono ?_
                rintro e w6 ⟨rfl, hb6⟩
                have hgb6 := (hb6.block bb H5.out.2.2.2.2.1).trans H5.out.2.1
                have hgx6 := (hb6.block tb (Array.getElem?_eq_some_iff.1 H5.out.2.2.1).1).trans H5.out.2.2.1
                have y0 : w6.cell? ⟨tb, 0, none⟩ = some (.int .i64 x1) := cell_of_heap hgx6 0
                have y1 : w6.cell? ⟨tb, 1, none⟩ = some (.int .i64 x2) := cell_of_heap hgx6 1
                have b0 := Array.getElem?_eq_some_iff.1 hgb6
                have z0 := frozen_of_heap hgb6 0
                have z1 := frozen_of_heap hgb6 1
                have b00 : w6.cell? ⟨bb, 0, none⟩ = some (.int .i64 u1) := cell_of_heap hgb6 0
                have b01 : w6.cell? ⟨bb, 1, none⟩ = some (.int .i64 u2) := cell_of_heap hgb6 1
                have HN := Lib.hid (And.intro (below_tag (H5.out.1.trans (hb6.mono (Nat.le_of_lt H5.out.2.2.2.2.1))) (Nat.le_refl bb) (.int .i64 x1) (.int .i64 x2)) (tag_heap hgb6 (.int .i64 x1) (.int .i64 x2)))
                clear hb6 hgb6 hgx6 b0 c0 c1 hnl
                go_wp2_with fail
                go_roundw
                case rel =>
                  exact ⟨i + 1, by omega, by go_num, by rw [HD.out.1]; show _ = Value.string (txtT n k xs (x1, x2)); rw [HD.out.2], by rw [HD.out.1], Lib.hid ⟨HN.out.1, by rw [HD.out.1]; exact HN.out.2⟩⟩
                case measure => simp [intOf]; omega
              · have hst := H5.out.2.2.2.2.2.2.2
                rw [if_neg (fun h9 => hkl h9.2)] at hst
                have HD := Lib.hid hst
                have hnl : (T.length : Int) < (k : Int) := by omega
                clear hcase hst hkl
                go_wp2_with fail
                go_roundw
                case rel =>
                  exact ⟨i + 1, by omega, by go_num, by rw [HD.out], by rw [HD.out], Lib.hid ⟨H5.out.1, by rw [HD.out]; exact H5.out.2.1⟩⟩
                case measure => simp [intOf]; omega
        · have htk : xs.take m = xs := by rw [← H2.out.2.1, List.take_length]
          rw [htk] at H ⊢
          have hans := refAns_best n k Hk.out.1 xs
          obtain ⟨⟨⟨t1, t2⟩, tx, fd⟩, hA⟩ : ∃ z, refAns n k xs (refB n k xs xs) = z := ⟨_, rfl⟩
          rw [hA] at H hans ⊢
          dsimp only at H ⊢
          have b0 : wr.cell? ⟨bb, 0, none⟩ = some (.int .i64 t1) := cell_of_heap H.out.2 0
          have b1 : wr.cell? ⟨bb, 1, none⟩ = some (.int .i64 t2) := cell_of_heap H.out.2 1
          have hct : wr.heap[cb + 1]? = some (.cells #[.int .i64 0, .int .i64 0] 54 (0, 0)) := (H.out.1.block (cb + 1) (by have := H2.out.2.2.2.2.1; omega)).trans H2.out.2.2.2.2.2.2.1
          have z0 := frozen_of_heap hct 0
          have z1 := frozen_of_heap hct 1
          have t0 : wr.cell? ⟨cb + 1, 0, none⟩ = some (.int .i64 0) := cell_of_heap hct 0
          have t1' : wr.cell? ⟨cb + 1, 1, none⟩ = some (.int .i64 0) := cell_of_heap hct 1
          have hbw : Below cb w wr := by
            have h1 := HC.out.2.2.2.1
            rw [HC.out.2.1] at h1
            exact h1.trans ((Hr.out.2.mono (by rw [HC.out.2.2.1]; omega)).trans (H.out.1.mono (by have := H2.out.2.2.2.2.1; omega)))
          have HS := Lib.hid (And.intro (tag_set hct (.int .i64 t1) (.int .i64 t2)) (And.intro (below_tag hbw (Nat.le_succ cb) (.int .i64 t1) (.int .i64 t2)) hans))
          clear hct hbw hans hA htk
          go_wp2_with fail
          exact bodyPost_ret (v := .tuple #[.agg #[.int .i64 t1, .int .i64 t2], .string tx, .bool fd]) (by simp [results, Tryz.results30, go_sem, HS.out.1.1, HS.out.1.2.1]) rfl ⟨by rw [HC.out.2.1]; exact HS.out.2.1, (t1, t2), tx, fd, rfl, by rw [H2.out.1]; exact HS.out.2.2⟩
end
end Go.Proofs.YtolbdcmoblcakaaGreatDoor
/- The walk of ownVersions. -/
namespace Go.Proofs.YtolbdcmoblcakaaGreatDoor
section
open Go.RowKit Go.BigFrame

theorem take_snoc0 (ls : List (List Ver)) (i : Nat) (h : i < ls.length) : ls.take (i + 1) = ls.take i ++ [ls[i]?.getD []] := by
  rw [List.take_succ_eq_append_getElem h, List.getElem?_eq_getElem h]; rfl
end
end Go.Proofs.YtolbdcmoblcakaaGreatDoor
/- The walk of the document's SameInts. -/
namespace Go.Proofs.YtolbdcmoblcakaaGreatDoor
open Go.RowKit

/-- the slice of ints at address a reads as l. -/
def IntsL (w : World) (a : Option Addr) (l : List Int) : Prop := l = [] ∨ ∃ b off, a = some ⟨b, off, none⟩ ∧ ∀ j, j < l.length → w.cell? ⟨b, off + j, none⟩ = some (.int .i64 (l[j]?.getD 0))
theorem IntsL.new (w : World) (C : Array Value) (t : TypeId) (l : List Int) (h : ∀ j, j < l.length → C[j]? = some (.int .i64 (l[j]?.getD 0))) : IntsL (w.alloc (.cells C t)) (some ⟨w.heap.size, 0, none⟩) l :=
  .inr ⟨_, 0, rfl, fun j hj => by rw [Nat.zero_add, World.cell?_alloc_at _ _ _ _ rfl]; exact h j hj⟩
theorem IntsL.alloc {w : World} {a : Option Addr} {l : List Int} (o : Obj) : IntsL w a l → IntsL (w.alloc o) a l
  | .inl h => .inl h
  | .inr ⟨b, off, e, h⟩ => .inr ⟨b, off, e, fun j hj => by
      have := h j hj
      rw [World.cell?_alloc_lt]
      · exact this
      · rcases Nat.lt_or_ge b w.heap.size with h1 | h1
        · exact h1
        · simp [World.cell?, Array.getElem?_eq_none h1] at this⟩
theorem same_belowI {w w' : World} (n : Nat) (h : ∃ q, w' = w.drewN q) : Below n w w' := by
  obtain ⟨q, rfl⟩ := h
  exact ⟨rfl, rfl, rfl, Nat.le_refl _, fun _ _ => rfl⟩
set_option maxRecDepth 100000 in
set_option maxHeartbeats 1000000 in
theorem samei_walk (a b : Option Addr) (ca cb : Nat) (l : List Int) (w : World) (hl : l.length ≤ maxLen) (ha : IntsL w a l) (hb : IntsL w b l) :
    Calls Tryz.prog 17 #[.slice a l.length ca, .slice b l.length cb] w fun e w' => e = .returned (.bool true) ∧ Below w.heap.size w w' := by
  have hm : l.length ≤ 9223372036854775807 := hl
  go_enter Tryz.func17, Tryz.ntmps17
  go_wp2
  go_loopw [5] (fun vi wr => ∃ k : Nat, k ≤ l.length ∧ vi = .int .i64 k ∧ ∃ q, wr = w.drewN q) (fun i _ => l.length - (intOf i).toNat)
  case atStart => exact ⟨0, by omega, rfl, 0, rfl⟩
  case round =>
    obtain ⟨k, hk, rfl, q, hq⟩ := hrel
    have hk2 : k < l.length ∨ k = l.length := by omega
    rcases hk2 with hlt | rfl
    · rcases ha with rfl | ⟨ba, oa, rfl, ha⟩
      · cases hlt
      rcases hb with rfl | ⟨bb, ob, rfl, hb⟩
      · cases hlt
      have h1 : wr.cell? ⟨ba, oa + k, none⟩ = some (.int .i64 (l[k]?.getD 0)) := by rw [hq]; exact ha k hlt
      have h2 : wr.cell? ⟨bb, ob + k, none⟩ = some (.int .i64 (l[k]?.getD 0)) := by rw [hq]; exact hb k hlt
      have hlt2 : (k : Int) < l.length := by omega
      generalize l[k]?.getD 0 = c at h1 h2
      have Hq := Lib.hid hq
      clear ha hb hq
      go_wp2
      go_quiet (fail)
      go_wp2
      go_round
      case rel => exact ⟨k + 1, by omega, by go_num, q + nq, by rw [Hq.out]; simp [World.drewN_drewN]⟩
      case measure => simp [intOf]; omega
    · go_wp2
      go_ret
      exact ⟨rfl, same_belowI _ ⟨q, rfl⟩⟩
end Go.Proofs.YtolbdcmoblcakaaGreatDoor
/- From a row's whole list of variables to the world that a walk wants: the twelve errors and the handle of the type error. -/
namespace Go.Proofs.YtolbdcmoblcakaaGreatDoor
open Go.RowKit

theorem et_global : Tryz.prog.globalNamed "errors.errorType" = some 12 := by kernel_rfl
theorem et_rt : (Tryz.prog.cutTypes.find? (·.1 == "internal/reflectlite.rtype")).map (·.2) = some 183 := by kernel_rfl
theorem et_oneRow : ((List.range Tryz.prog.types.size).filter fun t => Tryz.prog.rowNamed t [101, 114, 114, 111, 114]) = [35] := by kernel_rfl
theorem et_handle : typeHandle Tryz.prog 35 = .pointer (some ⟨14, 35, none⟩) := by kernel_rfl

def errT : DataW Unit := .iface "internal/reflectlite.rtype" (.agg [.ptr (.lit (.string [101, 114, 114, 111, 114]))])
theorem handle_of_laid {l : List (String × DataW Unit)} {W : World} (h : laidMetH Tryz.prog l W) (hm : ("errors.errorType", errT) ∈ l) :
    W.cell? ⟨12, 0, none⟩ = some (.iface 183 (.agg #[.pointer (some ⟨14, 35, none⟩)])) := by
  have hf : ("errors.errorType", errT) ∈ l.filter fun x => x.2.handleName?.isSome := List.mem_filter.2 ⟨hm, rfl⟩
  unfold laidMetH at h
  generalize (l.filter fun x => x.2.handleName?.isSome) = fl at h hf
  match fl, h, hf with
  | x :: xs, h, hf =>
    obtain ⟨name, u, ty, e1, e2, e3, e4, e5⟩ := h.2 _ hf
    have en : name = [101, 114, 114, 111, 114] := (Option.some.inj e1).symm
    subst en
    obtain rfl := Option.some.inj (et_rt.symm.trans e2)
    have hm : ty ∈ (List.range Tryz.prog.types.size).filter fun t => Tryz.prog.rowNamed t [101, 114, 114, 111, 114] := List.mem_filter.2 ⟨List.mem_range.2 e3, e4⟩
    rw [et_oneRow] at hm
    obtain rfl := List.mem_singleton.1 hm
    rw [et_handle] at e5
    simpa using World.var?_cell et_global e5 0

/-- the texts of the errors, in the order of their numbers. -/
def errTexts : List (String × List UInt8) := [
  ("shardkeep/api.ErrText", [115, 104, 97, 114, 100, 107, 101, 101, 112, 58, 32, 116, 101, 120, 116]),
  ("shardkeep/api.ErrBound", [115, 104, 97, 114, 100, 107, 101, 101, 112, 58, 32, 98, 111, 117, 110, 100]),
  ("shardkeep/api.ErrShape", [115, 104, 97, 114, 100, 107, 101, 101, 112, 58, 32, 115, 104, 97, 112, 101]),
  ("shardkeep/api.ErrName", [115, 104, 97, 114, 100, 107, 101, 101, 112, 58, 32, 110, 97, 109, 101]),
  ("shardkeep/api.ErrNone", [115, 104, 97, 114, 100, 107, 101, 101, 112, 58, 32, 110, 111, 110, 101]),
  ("shardkeep/api.ErrExist", [115, 104, 97, 114, 100, 107, 101, 101, 112, 58, 32, 101, 120, 105, 115, 116]),
  ("shardkeep/api.ErrFull", [115, 104, 97, 114, 100, 107, 101, 101, 112, 58, 32, 102, 117, 108, 108]),
  ("shardkeep/api.ErrFew", [115, 104, 97, 114, 100, 107, 101, 101, 112, 58, 32, 102, 101, 119]),
  ("shardkeep/api.ErrSum", [115, 104, 97, 114, 100, 107, 101, 101, 112, 58, 32, 115, 117, 109]),
  ("shardkeep/api.ErrOld", [115, 104, 97, 114, 100, 107, 101, 101, 112, 58, 32, 111, 108, 100]),
  ("shardkeep/api.ErrHeld", [115, 104, 97, 114, 100, 107, 101, 101, 112, 58, 32, 104, 101, 108, 100]),
  ("shardkeep/api.ErrZero", [115, 104, 97, 114, 100, 107, 101, 101, 112, 58, 32, 122, 101, 114, 111])]
def errText (i : Nat) : List UInt8 := (errTexts[i]?.getD ("", [])).2
def errGlob : List Nat := [7, 3, 6, 2, 0, 4, 5, 8, 9, 1, 10, 11]
theorem errText_ne : ∀ i, i < 12 → ∀ j, j < 12 → i ≠ j → errText i ≠ errText j := by decide
theorem errGlob_ok : (List.range 12).all (fun i => Tryz.prog.globalNamed (errTexts[i]?.getD ("", [])).1 == some (errGlob.getD i 0) && (Tryz.prog.globals[errGlob.getD i 0]?).map (·.type) == some 35) = true := by kernel_rfl
/-- the list as a row gives it. -/
def fullLaid : List (String × DataW Unit) := ("errors.errorType", errT) :: errTexts.map fun x => (x.1, sent x.2)

theorem env_of_drop {W : World} {l : List (String × DataW Unit)} (k : Nat) (hk : l.drop k = fullLaid) (h : laidMetH Tryz.prog l W) : ∃ E, ErrEnv W E := by
  have hsub : ∀ x ∈ fullLaid, x ∈ l := fun x hx => List.mem_of_mem_drop (by rw [hk]; exact hx)
  have one : ∀ i, i < 12 → ∃ a, ErrIs W (errGlob.getD i 0) (errText i) a := fun i hi => by
    have hok := List.all_eq_true.1 errGlob_ok i (List.mem_range.2 hi)
    simp only [Bool.and_eq_true, beq_iff_eq] at hok
    refine err_of_laid h (n := (errTexts[i]?.getD ("", [])).1) ?_ hok.1 hok.2
    refine hsub _ (List.mem_cons_of_mem _ (List.mem_map.2 ⟨errTexts[i]?.getD ("", []), ?_, rfl⟩))
    have hl : i < errTexts.length := hi
    rw [List.getElem?_eq_getElem hl]
    exact List.getElem_mem hl
  refine ⟨fun i => if hi : i < 12 then Classical.choose (one i hi) else default, ?_⟩
  have sp : ∀ i (hi : i < 12), ErrIs W (errGlob.getD i 0) (errText i) (if hi : i < 12 then Classical.choose (one i hi) else default) := fun i hi => by
    rw [dif_pos hi]; exact Classical.choose_spec (one i hi)
  exact ⟨(sp 0 (by decide)).cell, (sp 1 (by decide)).cell, (sp 2 (by decide)).cell, (sp 3 (by decide)).cell, (sp 4 (by decide)).cell, (sp 5 (by decide)).cell, (sp 6 (by decide)).cell, (sp 7 (by decide)).cell, (sp 8 (by decide)).cell, (sp 9 (by decide)).cell, (sp 10 (by decide)).cell, (sp 11 (by decide)).cell,
    handle_of_laid h (hsub _ (List.mem_cons_self)), fun k hk => (sp k hk).block, fun i j hi hj hij => (sp i hi).ne' (sp j hj) (errText_ne i hi j hj hij)⟩
theorem env_of_laid {W : World} (h : laidMetH Tryz.prog fullLaid W) : ∃ E, ErrEnv W E := env_of_drop 0 rfl h
end Go.Proofs.YtolbdcmoblcakaaGreatDoor
