/- The walk of the document's shardsOf. -/
import Derived.Test.YtolbdcmoblcakaaGreatDoorKRepairAll27
namespace Go.Proofs.YtolbdcmoblcakaaGreatDoor
section
open Go.RowKit Go.BigFrame

theorem hasAt_take (l : List Sh) (at_ : Int) (j : Nat) (h : j < l.length) : hasAt (l.take (j + 1)) at_ = (hasAt (l.take j) at_ || decide ((l[j]?.getD (0, ⟨#[]⟩)).1 = at_)) := by
  unfold hasAt
  rw [take_snoc l (0, ⟨#[]⟩) j h, List.any_append]
  simp
theorem ite_len {α : Type} (p : Prop) [Decidable p] (l : List α) (x : α) : (if p then l ++ [x] else l).length ≤ l.length + 1 := by split <;> simp
theorem shardsT_size (n k : Nat) (t : Int × Int) (xs : List Ver) : -1 ≤ (shardsT n k t xs).1 ∧ (shardsT n k t xs).1 ≤ 1000 ∧ (shardsT n k t xs).2.length ≤ xs.length := by
  suffices h : ∀ ys : List Ver, -1 ≤ (shardsT n k t ys.reverse).1 ∧ (shardsT n k t ys.reverse).1 ≤ 1000 ∧ (shardsT n k t ys.reverse).2.length ≤ ys.length by
    have := h xs.reverse
    rwa [List.reverse_reverse, List.length_reverse] at this
  intro ys
  induction ys with
  | nil => exact ⟨Int.le_refl _, (show (-1 : Int) ≤ 1000 by decide), Nat.le_refl _⟩
  | cons x ys ih =>
    rw [List.reverse_cons, shardsT_snoc]
    unfold stepT
    split
    · rename_i h
      have hc := canB_spec h.2
      refine ⟨?_, ?_, ?_⟩
      · dsimp only; split <;> omega
      · dsimp only; split <;> omega
      · dsimp only
        refine Nat.le_trans (ite_len _ _ _) ?_
        rw [List.length_cons]; have := ih.2.2; omega
    · exact ⟨ih.1, ih.2.1, Nat.le_succ_of_le ih.2.2⟩
set_option maxRecDepth 100000 in
set_option maxHeartbeats 8000000 in
theorem shardsof_walk (n₀ n k : Nat) (ca : Option Addr) (cl cc : Nat) (a : Option Addr) (len cap : Nat) (xs : List Ver) (t1 t2 : Int) (w : World) (hk : 1 ≤ k) (hkn : k ≤ n) (hn : n ≤ 12) (hlen : xs.length = len) (hle : len ≤ 1000000) (hn₀ : n₀ ≤ w.heap.size) (hR : VrR n₀ w a xs) :
    Calls Tryz.prog 52 #[.agg #[.int .i64 n, .int .i64 k, .slice ca cl cc], .slice a len cap, .agg #[.int .i64 t1, .int .i64 t2]] w
      fun e w' => Below w.heap.size w w' ∧ ∃ v, e = .returned (.tuple #[.int .i64 (shardsT n k (t1, t2) xs).1, v]) ∧ OwnS w.heap.size w' v (shardsT n k (t1, t2) xs).2 := by
  obtain ⟨cb, hcb⟩ : ∃ cb, w.heap.size = cb := ⟨_, rfl⟩
  obtain ⟨W1, hW1⟩ : ∃ W1, (w.alloc (.cells #[.int .i64 n, .int .i64 k, .slice ca cl cc] 24)).alloc (.cells #[.int .i64 t1, .int .i64 t2] 54) = W1 := ⟨_, rfl⟩
  have hs0 : (w.alloc (.cells #[.int .i64 n, .int .i64 k, .slice ca cl cc] 24)).heap.size = cb + 1 := by rw [← hcb]; simp
  have hs1 : W1.heap.size = cb + 2 := by rw [← hW1, ← hcb]; simp
  have hb1 : Below w.heap.size w W1 := by rw [← hW1]; exact ((Below.refl _ w).alloc (Nat.le_refl _) _).alloc (by simp) _
  have g1 : W1.heap[cb]? = some (.cells #[.int .i64 n, .int .i64 k, .slice ca cl cc] 24 (0, 0)) := by
    rw [← hW1, Below.heap_alloc _ _ _ (by rw [hs0]; omega), ← hcb]; exact heap_alloc_new _ _
  have g2 : W1.heap[cb + 1]? = some (.cells #[.int .i64 t1, .int .i64 t2] 54 (0, 0)) := by rw [← hW1, ← hs0]; exact heap_alloc_new _ _
  have hR1 := hR.mono hn₀
  rw [hcb] at hR1 hb1 ⊢
  have HC := Lib.hid (And.intro hW1 (And.intro hcb (And.intro hs1 (And.intro hb1 (And.intro g1 (And.intro g2 (hR1.below hb1)))))))
  have Hk := Lib.hid (And.intro hk (And.intro hkn hn))
  have Hm := Lib.hid hlen
  have hl9 : len ≤ 9223372036854775807 := by omega
  have Hall := Lib.hid (fun i => shardsT_size n k (t1, t2) (xs.take i))
  clear hcb hs0 hs1 hb1 g1 g2 hR hR1 hn₀ hk hkn hn hlen
  go_enter Tryz.func52, Tryz.ntmps52
  go_wp2_with fail
  rw [HC.out.2.1]
  clear hW1
  go_loopw [8, 9, 10] (fun vs vl vi wr => ∃ (i : Nat) (v : Value), i ≤ len ∧ vi = .int .i64 i ∧ vs = .int .i64 (shardsT n k (t1, t2) (xs.take i)).1 ∧ v = vl ∧ Hid (OwnS (cb + 2) wr v (shardsT n k (t1, t2) (xs.take i)).2 ∧ Below W1.heap.size W1 wr)) (fun _ _ vi _ => len - (intOf vi).toNat)
  case atStart => exact ⟨0, _, by omega, rfl, rfl, rfl, Lib.hid ⟨OwnS.nil _ _, Below.refl _ _⟩⟩
  case round =>
    obtain ⟨i, v, hi, rfl, rfl, hv, H⟩ := hrel
    subst hv
    have hi2 : i < len ∨ len = i := by omega
    rcases hi2 with hilt | rfl
    · have hilt2 : (i : Int) < len := by omega
      have hix : i < xs.length := by rw [Hm.out]; exact hilt
      have hbr := H.out.2
      obtain ⟨xb0, off, rfl, hxb0, hcx⟩ : ∃ b off, a = some ⟨b, off, none⟩ ∧ b < W1.heap.size ∧ ∀ i j, i < xs.length → j < 5 → wr.cell? ⟨b, off + i * 5 + j, none⟩ = (encVr (xs[i]?.getD ver0))[j]? := by
        rcases (HC.out.2.2.2.2.2.2.mono (by rw [HC.out.2.2.1]; omega)).below hbr with he | ⟨b, off, rfl, hb, hc⟩
        · exfalso; rw [he] at hix; simp at hix
        · exact ⟨b, off, rfl, hb, hc⟩
      obtain ⟨f0, f1, f2, f3, f4⟩ := VrR.at5 hcx hix
      have hst := shardsT_snoc n k (t1, t2) (xs.take i) (xs[i]?.getD ver0)
      rw [← take_snoc xs ver0 i hix] at hst
      obtain ⟨⟨x1, x2, x3, x4, x5⟩, hx⟩ : ∃ x, xs[i]?.getD ver0 = x := ⟨_, rfl⟩
      rw [hx] at f0 f1 f2 f3 f4 hst
      dsimp only at f0 f1 f2 f3 f4
      have hall := Hall.out i
      obtain ⟨⟨S, T⟩, hS⟩ : ∃ st, shardsT n k (t1, t2) (xs.take i) = st := ⟨_, rfl⟩
      rw [hS] at hst hall H ⊢
      dsimp only at hall H ⊢
      have hTl : T.length ≤ 1000000 := by have := hall.2.2; rw [List.length_take] at this; omega
      obtain ⟨wx, hwx⟩ : ∃ wx, wr.alloc (.cells #[.int .i64 x1, .int .i64 x2, .int .i64 x3, .int .i64 x4, .string x5] 58) = wx := ⟨_, rfl⟩
      obtain ⟨xb, hxb⟩ : ∃ xb, wr.heap.size = xb := ⟨_, rfl⟩
      have hbx : Below wr.heap.size wr wx := by rw [← hwx]; exact (Below.refl _ wr).alloc (Nat.le_refl _) _
      have hgx : wx.heap[xb]? = some (.cells #[.int .i64 x1, .int .i64 x2, .int .i64 x3, .int .i64 x4, .string x5] 58 (0, 0)) := by rw [← hwx, ← hxb]; exact heap_alloc_new _ _
      have hszr : cb + 2 ≤ wr.heap.size := by rw [← HC.out.2.2.1]; exact hbr.size
      have hgc : wx.heap[cb]? = some (.cells #[.int .i64 n, .int .i64 k, .slice ca cl cc] 24 (0, 0)) := (hbx.block cb (by omega)).trans ((hbr.block cb (by rw [HC.out.2.2.1]; omega)).trans HC.out.2.2.2.2.1)
      have hgt : wx.heap[cb + 1]? = some (.cells #[.int .i64 t1, .int .i64 t2] 54 (0, 0)) := (hbx.block (cb + 1) (by omega)).trans ((hbr.block (cb + 1) (by rw [HC.out.2.2.1]; omega)).trans HC.out.2.2.2.2.2.1)
      have c0 : wx.cell? ⟨cb, 0, none⟩ = some (.int .i64 n) := cell_of_heap hgc 0
      have c1 : wx.cell? ⟨cb, 1, none⟩ = some (.int .i64 k) := cell_of_heap hgc 1
      have c2 : wx.cell? ⟨cb, 2, none⟩ = some (.slice ca cl cc) := cell_of_heap hgc 2
      have c0' := c0
      have c1' := c1
      have c2' := c2
      rw [← hwx] at c0 c1 c2
      have Hcan := Lib.hid (canbe_walk n k ca cl cc x1 x2 x3 x4 x5 wx Hk.out.1 Hk.out.2.1 Hk.out.2.2)
      obtain ⟨c, hc⟩ : ∃ c, canB n k (x1, x2, x3, x4, x5) = c := ⟨_, rfl⟩
      rw [hc] at Hcan
      have HX := Lib.hid (And.intro hst (And.intro hbx (And.intro hgx (And.intro hgt (And.intro hc (And.intro hall (And.intro hTl (And.intro hbr hszr))))))))
      have Hxb := Lib.hid (And.intro hxb hwx)
      clear hst hbx hgx hgc hgt hc hall hTl hbr hszr hS hx hcx hxb0 hix c0' c1' c2' hwx hxb
      go_wp2_with fail
      rw [Hxb.out.2, Hxb.out.1]
      clear c0 c1 c2 f0 f1 f2 f3 f4
      refine Hcan.out.mono ?_
      rintro e w4 ⟨rfl, hb4⟩
      have hx4 : w4.heap[xb]? = some (.cells #[.int .i64 x1, .int .i64 x2, .int .i64 x3, .int .i64 x4, .string x5] 58 (0, 0)) := (hb4.block xb (Array.getElem?_eq_some_iff.1 HX.out.2.2.1).1).trans HX.out.2.2.1
      have ht4 : w4.heap[cb + 1]? = some (.cells #[.int .i64 t1, .int .i64 t2] 54 (0, 0)) := (hb4.block (cb + 1) (Array.getElem?_eq_some_iff.1 HX.out.2.2.2.1).1).trans HX.out.2.2.2.1
      have x0c : w4.cell? ⟨xb, 0, none⟩ = some (.int .i64 x1) := cell_of_heap hx4 0
      have x1c : w4.cell? ⟨xb, 1, none⟩ = some (.int .i64 x2) := cell_of_heap hx4 1
      have x2c : w4.cell? ⟨xb, 2, none⟩ = some (.int .i64 x3) := cell_of_heap hx4 2
      have t0c : w4.cell? ⟨cb + 1, 0, none⟩ = some (.int .i64 t1) := cell_of_heap ht4 0
      have t1c : w4.cell? ⟨cb + 1, 1, none⟩ = some (.int .i64 t2) := cell_of_heap ht4 1
      have H4 := Lib.hid (And.intro (HX.out.2.1.trans (hb4.mono HX.out.2.1.size)) hx4)
      clear hb4 hx4 ht4
      have same : stepT n k (t1, t2) (S, T) (x1, x2, x3, x4, x5) = (S, T) → Hid (OwnS (cb + 2) w4 v (shardsT n k (t1, t2) (xs.take (i + 1))).2 ∧ Below W1.heap.size W1 w4 ∧ (shardsT n k (t1, t2) (xs.take (i + 1))).1 = S) := fun e => Lib.hid (by
        rw [HX.out.1, e]
        exact ⟨OwnS.below H.out.1 H4.out.1 (Nat.le_refl _), HX.out.2.2.2.2.2.2.2.1.trans (H4.out.1.mono HX.out.2.2.2.2.2.2.2.1.size), rfl⟩)
      by_cases h1 : x1 = t1
      · by_cases h2 : x2 = t2
        · cases c
          · have HN := same (stepT_no HX.out.2.2.2.2.1)
            have e1 : (x1 == t1) = true := by simpa using h1
            have e2 : decide (x1 = t1) = true := decide_eq_true h1
            have e3 : (x2 == t2) = true := by simpa using h2
            have e4 : decide (x2 = t2) = true := decide_eq_true h2
            clear same h1 h2
            go_wp2_with fail
            go_roundw
            case rel => exact ⟨i + 1, _, by omega, by go_num, by rw [HN.out.2.2], rfl, Lib.hid ⟨HN.out.1, HN.out.2.1⟩⟩
            case measure => simp [intOf]; omega
          · have e1 : (x1 == t1) = true := by simpa using h1
            have e2 : decide (x1 = t1) = true := decide_eq_true h1
            have e3 : (x2 == t2) = true := by simpa using h2
            have e4 : decide (x2 = t2) = true := decide_eq_true h2
            have Htt := Lib.hid (And.intro h1 h2)
            clear same h1 h2
            obtain ⟨sa, scap, hv4, hpc, hpm, hshr⟩ := (OwnS.below H.out.1 H4.out.1 (Nat.le_refl _)).read
            obtain ⟨tl, htl⟩ : ∃ tl, T.length = tl := ⟨_, rfl⟩
            rw [htl] at hv4 hpc
            have hos4 := OwnS.below H.out.1 H4.out.1 (Nat.le_refl _)
            rw [hv4] at hos4
            have htl9 : tl ≤ 1000000 := by rw [← htl]; exact HX.out.2.2.2.2.2.2.1
            have HT := Lib.hid (And.intro htl (And.intro hshr (And.intro hos4 (And.intro (HX.out.2.2.2.2.2.2.2.1.trans (H4.out.1.mono HX.out.2.2.2.2.2.2.2.1.size)) hpm))))
            rw [hv4]
            clear hv4 hpc hpm hshr htl hos4
            by_cases hS0 : S < 0
            · have HS0 := Lib.hid hS0
              go_wp2_with fail
              clear hS0
              go_loopw [13, 14] (fun vb vj wr => ∃ j : Nat, j ≤ tl ∧ vj = .int .i64 j ∧ vb = .bool (hasAt (T.take j) x4) ∧ Hid (Below w4.heap.size w4 wr)) (fun _ vj _ => tl - (intOf vj).toNat)
              case atStart => exact ⟨0, by omega, rfl, rfl, Lib.hid (Below.refl _ _)⟩
              case round =>
                obtain ⟨j, hj, rfl, rfl, Hj⟩ := hrel
                have hj2 : j < tl ∨ tl = j := by omega
                rcases hj2 with hjlt | rfl
                · have hjlt2 : (j : Int) < tl := by omega
                  obtain ⟨sb, so, rfl, hcell⟩ : ∃ b off, sa = some ⟨b, off, none⟩ ∧ wr.cell? ⟨b, off + j * 2, none⟩ = some (.int .i64 (T[j]?.getD (0, ⟨#[]⟩)).1) := by
                    rcases HT.out.2.1.below Hj.out with he | ⟨b, off, h, _, hc⟩
                    · exfalso
                      have := HT.out.1
                      rw [he] at this; simp at this; omega
                    · exact ⟨b, off, h, (hc j (by rw [HT.out.1]; exact hjlt)).1⟩
                  have hha := hasAt_take T x4 j (by rw [HT.out.1]; exact hjlt)
                  obtain ⟨s1, hs1⟩ : ∃ s1, (T[j]?.getD (0, ⟨#[]⟩)).1 = s1 := ⟨_, rfl⟩
                  rw [hs1] at hcell hha
                  have hx9 : wr.cell? ⟨xb, 3, none⟩ = some (.int .i64 x4) := (Hj.out.cell (p := ⟨xb, 3, none⟩) (Array.getElem?_eq_some_iff.1 H4.out.2).1).trans (cell_of_heap H4.out.2 3)
                  have kf := cell_regrown hcell
                  have lf := cell_regrown hx9
                  obtain ⟨b0, hb0⟩ : ∃ b0, hasAt (T.take j) x4 = b0 := ⟨_, rfl⟩
                  rw [hb0] at hha ⊢
                  clear hcell hx9 hb0 hs1
                  by_cases hq : s1 = x4
                  · have q1 : (s1 == x4) = true := by simpa using hq
                    have q2 : decide (s1 = x4) = true := decide_eq_true hq
                    rw [q2, Bool.or_true] at hha
                    have Hha := Lib.hid hha
                    clear hha hq
                    go_wp2_with fail
                    refine wp_region_quiet_below (by kernel_rfl) (by kernel_rfl) ?_
                    repeat (go_big_quiet_step (fail))
                    refine wpQuiet_nil ?_
                    intro w5 hw'
                    have HB5 := Lib.hid (show Below wr.heap.size wr w5 by obtain ⟨⟨dq, osq⟩, hw5⟩ := hw'; rw [hw5]; exact below_regrown wr dq osq)
                    clear hw' kf lf
                    go_wp2_with fail
                    go_roundw
                    case rel => exact ⟨j + 1, by omega, by go_num, by rw [Hha.out], Lib.hid (Hj.out.trans (HB5.out.mono Hj.out.size))⟩
                    case measure => simp [intOf]; omega
                  · have q1 : (s1 == x4) = false := by simpa using hq
                    have q2 : decide (s1 = x4) = false := decide_eq_false hq
                    rw [q2, Bool.or_false] at hha
                    have Hha := Lib.hid hha
                    clear hha hq
                    go_wp2_with fail
                    refine wp_region_quiet_below (by kernel_rfl) (by kernel_rfl) ?_
                    repeat (go_big_quiet_step (fail))
                    refine wpQuiet_nil ?_
                    intro w5 hw'
                    have HB5 := Lib.hid (show Below wr.heap.size wr w5 by obtain ⟨⟨dq, osq⟩, hw5⟩ := hw'; rw [hw5]; exact below_regrown wr dq osq)
                    clear hw' kf lf
                    go_wp2_with fail
                    go_roundw
                    case rel => exact ⟨j + 1, by omega, by go_num, by rw [Hha.out], Lib.hid (Hj.out.trans (HB5.out.mono Hj.out.size))⟩
                    case measure => simp [intOf]; omega
                · have htk : T.take tl = T := by rw [← HT.out.1, List.take_length]
                  rw [htk]
                  obtain ⟨r, hr⟩ : ∃ r, hasAt T x4 = r := ⟨_, rfl⟩
                  rw [hr]
                  have hoi : OwnS (cb + 2) wr (.slice sa tl scap) T := OwnS.below HT.out.2.2.1 Hj.out (Nat.le_refl _)
                  have hbi : Below W1.heap.size W1 wr := HT.out.2.2.2.1.trans (Hj.out.mono HT.out.2.2.2.1.size)
                  have hBi : cb + 2 ≤ wr.heap.size := by rw [← HC.out.2.2.1]; exact hbi.size
                  have hxi : wr.heap[xb]? = some (.cells #[.int .i64 x1, .int .i64 x2, .int .i64 x3, .int .i64 x4, .string x5] 58 (0, 0)) := (Hj.out.block xb (Array.getElem?_eq_some_iff.1 H4.out.2).1).trans H4.out.2
                  have x2i : wr.cell? ⟨xb, 2, none⟩ = some (.int .i64 x3) := cell_of_heap hxi 2
                  have x3i : wr.cell? ⟨xb, 3, none⟩ = some (.int .i64 x4) := cell_of_heap hxi 3
                  have x4i : wr.cell? ⟨xb, 4, none⟩ = some (.string x5) := cell_of_heap hxi 4
                  have hyes := stepT_yes (s := (S, T)) HX.out.2.2.2.2.1
                  rw [show tg (x1, x2, x3, x4, x5) = (t1, t2) from by rw [← Htt.out.1, ← Htt.out.2]; rfl] at hyes
                  have hyes2 := HX.out.1.trans hyes
                  dsimp only at hyes2
                  rw [hr, if_pos HS0.out] at hyes2
                  have HW := Lib.hid (And.intro hoi (And.intro hbi (And.intro hBi hyes2)))
                  clear htk hr hoi hbi hBi hxi hyes hyes2
                  by_cases hsz : x3 = x3
                  · have q1 : (x3 == x3) = true := beq_iff_eq.2 hsz
                    have q2 : decide (x3 = x3) = true := decide_eq_true hsz
                    have Hsz := Lib.hid hsz
                    clear hsz
                    cases r
                    · have hf := HW.out.2.2.2
                      rw [if_pos ⟨Hsz.out, rfl⟩] at hf
                      have Hf := Lib.hid hf
                      clear hf
                      go_wp2_with (at_builtin; refine append_shard 63 66 rfl rfl (cb + 2) _ T x4 x5 rfl rfl HW.out.1 HX.out.2.2.2.2.2.2.1 HW.out.2.2.1 ?_)
                      intro v' w' h1 h2 h3
                      have HN : Hid (OwnS (cb + 2) w' v' (shardsT n k (t1, t2) (xs.take (i + 1))).2 ∧ Below W1.heap.size W1 w' ∧ (shardsT n k (t1, t2) (xs.take (i + 1))).1 = x3) := Lib.hid (by
                        rw [Hf.out]
                        refine ⟨h1, HW.out.2.1.trans ?_, rfl⟩
                        rw [HC.out.2.2.1]
                        exact (((Below.refl _ wr).alloc HW.out.2.2.1 _).trans (World.grownBy.below h2 (by simp; have := HW.out.2.2.1; omega) (fun k e => (HW.out.1.lt k e).1))))
                      clear h1 h2 h3
                      go_wp2_with fail
                      go_roundw
                      case rel =>
                        first
                        | exact ⟨i + 1, _, by omega, by go_num, by rw [HN.out.2.2], rfl, Lib.hid ⟨HN.out.1, HN.out.2.1⟩⟩
                        | (repeat apply Exists.intro); exact ⟨⟨i + 1, _, by omega, by go_num, by rw [HN.out.2.2], rfl, Lib.hid ⟨HN.out.1, HN.out.2.1⟩⟩, rfl⟩
                      case measure => simp [intOf]; omega
                    · have hf := HW.out.2.2.2
                      rw [if_neg (fun h9 => by cases h9.2)] at hf
                      have HN : Hid (OwnS (cb + 2) wr (.slice sa tl scap) (shardsT n k (t1, t2) (xs.take (i + 1))).2 ∧ Below W1.heap.size W1 wr ∧ (shardsT n k (t1, t2) (xs.take (i + 1))).1 = x3) := Lib.hid (by
                        rw [hf]; exact ⟨HW.out.1, HW.out.2.1, rfl⟩)
                      clear hf
                      go_wp2_with fail
                      go_roundw
                      case rel =>
                        first
                        | exact ⟨i + 1, _, by omega, by go_num, by rw [HN.out.2.2], rfl, Lib.hid ⟨HN.out.1, HN.out.2.1⟩⟩
                        | (repeat apply Exists.intro); exact ⟨⟨i + 1, _, by omega, by go_num, by rw [HN.out.2.2], rfl, Lib.hid ⟨HN.out.1, HN.out.2.1⟩⟩, rfl⟩
                      case measure => simp [intOf]; omega
                  · have q1 : (x3 == x3) = false := Bool.eq_false_iff.2 (fun h => hsz (beq_iff_eq.1 h))
                    have q2 : decide (x3 = x3) = false := decide_eq_false hsz
                    have hf := HW.out.2.2.2
                    rw [if_neg (fun h9 => hsz h9.1)] at hf
                    have HN : Hid (OwnS (cb + 2) wr (.slice sa tl scap) (shardsT n k (t1, t2) (xs.take (i + 1))).2 ∧ Below W1.heap.size W1 wr ∧ (shardsT n k (t1, t2) (xs.take (i + 1))).1 = x3) := Lib.hid (by
                      rw [hf]; exact ⟨HW.out.1, HW.out.2.1, rfl⟩)
                    clear hf hsz
                    go_wp2_with fail
                    go_roundw
                    case rel =>
                      first
                      | exact ⟨i + 1, _, by omega, by go_num, by rw [HN.out.2.2], rfl, Lib.hid ⟨HN.out.1, HN.out.2.1⟩⟩
                      | (repeat apply Exists.intro); exact ⟨⟨i + 1, _, by omega, by go_num, by rw [HN.out.2.2], rfl, Lib.hid ⟨HN.out.1, HN.out.2.1⟩⟩, rfl⟩
                    case measure => simp [intOf]; omega
            · have HS0 := Lib.hid hS0
              go_wp2_with fail
              clear hS0
              go_loopw [13, 14] (fun vb vj wr => ∃ j : Nat, j ≤ tl ∧ vj = .int .i64 j ∧ vb = .bool (hasAt (T.take j) x4) ∧ Hid (Below w4.heap.size w4 wr)) (fun _ vj _ => tl - (intOf vj).toNat)
              case atStart => exact ⟨0, by omega, rfl, rfl, Lib.hid (Below.refl _ _)⟩
              case round =>
                obtain ⟨j, hj, rfl, rfl, Hj⟩ := hrel
                have hj2 : j < tl ∨ tl = j := by omega
                rcases hj2 with hjlt | rfl
                · have hjlt2 : (j : Int) < tl := by omega
                  obtain ⟨sb, so, rfl, hcell⟩ : ∃ b off, sa = some ⟨b, off, none⟩ ∧ wr.cell? ⟨b, off + j * 2, none⟩ = some (.int .i64 (T[j]?.getD (0, ⟨#[]⟩)).1) := by
                    rcases HT.out.2.1.below Hj.out with he | ⟨b, off, h, _, hc⟩
                    · exfalso
                      have := HT.out.1
                      rw [he] at this; simp at this; omega
                    · exact ⟨b, off, h, (hc j (by rw [HT.out.1]; exact hjlt)).1⟩
                  have hha := hasAt_take T x4 j (by rw [HT.out.1]; exact hjlt)
                  obtain ⟨s1, hs1⟩ : ∃ s1, (T[j]?.getD (0, ⟨#[]⟩)).1 = s1 := ⟨_, rfl⟩
                  rw [hs1] at hcell hha
                  have hx9 : wr.cell? ⟨xb, 3, none⟩ = some (.int .i64 x4) := (Hj.out.cell (p := ⟨xb, 3, none⟩) (Array.getElem?_eq_some_iff.1 H4.out.2).1).trans (cell_of_heap H4.out.2 3)
                  have kf := cell_regrown hcell
                  have lf := cell_regrown hx9
                  obtain ⟨b0, hb0⟩ : ∃ b0, hasAt (T.take j) x4 = b0 := ⟨_, rfl⟩
                  rw [hb0] at hha ⊢
                  clear hcell hx9 hb0 hs1
                  by_cases hq : s1 = x4
                  · have q1 : (s1 == x4) = true := by simpa using hq
                    have q2 : decide (s1 = x4) = true := decide_eq_true hq
                    rw [q2, Bool.or_true] at hha
                    have Hha := Lib.hid hha
                    clear hha hq
                    go_wp2_with fail
                    refine wp_region_quiet_below (by kernel_rfl) (by kernel_rfl) ?_
                    repeat (go_big_quiet_step (fail))
                    refine wpQuiet_nil ?_
                    intro w5 hw'
                    have HB5 := Lib.hid (show Below wr.heap.size wr w5 by obtain ⟨⟨dq, osq⟩, hw5⟩ := hw'; rw [hw5]; exact below_regrown wr dq osq)
                    clear hw' kf lf
                    go_wp2_with fail
                    go_roundw
                    case rel => exact ⟨j + 1, by omega, by go_num, by rw [Hha.out], Lib.hid (Hj.out.trans (HB5.out.mono Hj.out.size))⟩
                    case measure => simp [intOf]; omega
                  · have q1 : (s1 == x4) = false := by simpa using hq
                    have q2 : decide (s1 = x4) = false := decide_eq_false hq
                    rw [q2, Bool.or_false] at hha
                    have Hha := Lib.hid hha
                    clear hha hq
                    go_wp2_with fail
                    refine wp_region_quiet_below (by kernel_rfl) (by kernel_rfl) ?_
                    repeat (go_big_quiet_step (fail))
                    refine wpQuiet_nil ?_
                    intro w5 hw'
                    have HB5 := Lib.hid (show Below wr.heap.size wr w5 by obtain ⟨⟨dq, osq⟩, hw5⟩ := hw'; rw [hw5]; exact below_regrown wr dq osq)
                    clear hw' kf lf
                    go_wp2_with fail
                    go_roundw
                    case rel => exact ⟨j + 1, by omega, by go_num, by rw [Hha.out], Lib.hid (Hj.out.trans (HB5.out.mono Hj.out.size))⟩
                    case measure => simp [intOf]; omega
                · have htk : T.take tl = T := by rw [← HT.out.1, List.take_length]
                  rw [htk]
                  obtain ⟨r, hr⟩ : ∃ r, hasAt T x4 = r := ⟨_, rfl⟩
                  rw [hr]
                  have hoi : OwnS (cb + 2) wr (.slice sa tl scap) T := OwnS.below HT.out.2.2.1 Hj.out (Nat.le_refl _)
                  have hbi : Below W1.heap.size W1 wr := HT.out.2.2.2.1.trans (Hj.out.mono HT.out.2.2.2.1.size)
                  have hBi : cb + 2 ≤ wr.heap.size := by rw [← HC.out.2.2.1]; exact hbi.size
                  have hxi : wr.heap[xb]? = some (.cells #[.int .i64 x1, .int .i64 x2, .int .i64 x3, .int .i64 x4, .string x5] 58 (0, 0)) := (Hj.out.block xb (Array.getElem?_eq_some_iff.1 H4.out.2).1).trans H4.out.2
                  have x2i : wr.cell? ⟨xb, 2, none⟩ = some (.int .i64 x3) := cell_of_heap hxi 2
                  have x3i : wr.cell? ⟨xb, 3, none⟩ = some (.int .i64 x4) := cell_of_heap hxi 3
                  have x4i : wr.cell? ⟨xb, 4, none⟩ = some (.string x5) := cell_of_heap hxi 4
                  have hyes := stepT_yes (s := (S, T)) HX.out.2.2.2.2.1
                  rw [show tg (x1, x2, x3, x4, x5) = (t1, t2) from by rw [← Htt.out.1, ← Htt.out.2]; rfl] at hyes
                  have hyes2 := HX.out.1.trans hyes
                  dsimp only at hyes2
                  rw [hr, if_neg (show ¬ S < 0 from by have := HS0.out; omega)] at hyes2
                  have HW := Lib.hid (And.intro hoi (And.intro hbi (And.intro hBi hyes2)))
                  clear htk hr hoi hbi hBi hxi hyes hyes2
                  by_cases hsz : x3 = S
                  · have q1 : (x3 == S) = true := beq_iff_eq.2 hsz
                    have q2 : decide (x3 = S) = true := decide_eq_true hsz
                    have Hsz := Lib.hid hsz
                    clear hsz
                    cases r
                    · have hf := HW.out.2.2.2
                      rw [if_pos ⟨Hsz.out, rfl⟩] at hf
                      have Hf := Lib.hid hf
                      clear hf
                      go_wp2_with (at_builtin; refine append_shard 63 66 rfl rfl (cb + 2) _ T x4 x5 rfl rfl HW.out.1 HX.out.2.2.2.2.2.2.1 HW.out.2.2.1 ?_)
                      intro v' w' h1 h2 h3
                      have HN : Hid (OwnS (cb + 2) w' v' (shardsT n k (t1, t2) (xs.take (i + 1))).2 ∧ Below W1.heap.size W1 w' ∧ (shardsT n k (t1, t2) (xs.take (i + 1))).1 = S) := Lib.hid (by
                        rw [Hf.out]
                        refine ⟨h1, HW.out.2.1.trans ?_, rfl⟩
                        rw [HC.out.2.2.1]
                        exact (((Below.refl _ wr).alloc HW.out.2.2.1 _).trans (World.grownBy.below h2 (by simp; have := HW.out.2.2.1; omega) (fun k e => (HW.out.1.lt k e).1))))
                      clear h1 h2 h3
                      go_wp2_with fail
                      go_roundw
                      case rel =>
                        first
                        | exact ⟨i + 1, _, by omega, by go_num, by rw [HN.out.2.2], rfl, Lib.hid ⟨HN.out.1, HN.out.2.1⟩⟩
                        | (repeat apply Exists.intro); exact ⟨⟨i + 1, _, by omega, by go_num, by rw [HN.out.2.2], rfl, Lib.hid ⟨HN.out.1, HN.out.2.1⟩⟩, rfl⟩
                      case measure => simp [intOf]; omega
                    · have hf := HW.out.2.2.2
                      rw [if_neg (fun h9 => by cases h9.2)] at hf
                      have HN : Hid (OwnS (cb + 2) wr (.slice sa tl scap) (shardsT n k (t1, t2) (xs.take (i + 1))).2 ∧ Below W1.heap.size W1 wr ∧ (shardsT n k (t1, t2) (xs.take (i + 1))).1 = S) := Lib.hid (by
                        rw [hf]; exact ⟨HW.out.1, HW.out.2.1, rfl⟩)
                      clear hf
                      go_wp2_with fail
                      go_roundw
                      case rel =>
                        first
                        | exact ⟨i + 1, _, by omega, by go_num, by rw [HN.out.2.2], rfl, Lib.hid ⟨HN.out.1, HN.out.2.1⟩⟩
                        | (repeat apply Exists.intro); exact ⟨⟨i + 1, _, by omega, by go_num, by rw [HN.out.2.2], rfl, Lib.hid ⟨HN.out.1, HN.out.2.1⟩⟩, rfl⟩
                      case measure => simp [intOf]; omega
                  · have q1 : (x3 == S) = false := Bool.eq_false_iff.2 (fun h => hsz (beq_iff_eq.1 h))
                    have q2 : decide (x3 = S) = false := decide_eq_false hsz
                    have hf := HW.out.2.2.2
                    rw [if_neg (fun h9 => hsz h9.1)] at hf
                    have HN : Hid (OwnS (cb + 2) wr (.slice sa tl scap) (shardsT n k (t1, t2) (xs.take (i + 1))).2 ∧ Below W1.heap.size W1 wr ∧ (shardsT n k (t1, t2) (xs.take (i + 1))).1 = S) := Lib.hid (by
                      rw [hf]; exact ⟨HW.out.1, HW.out.2.1, rfl⟩)
                    clear hf hsz
                    go_wp2_with fail
                    go_roundw
                    case rel =>
                      first
                      | exact ⟨i + 1, _, by omega, by go_num, by rw [HN.out.2.2], rfl, Lib.hid ⟨HN.out.1, HN.out.2.1⟩⟩
                      | (repeat apply Exists.intro); exact ⟨⟨i + 1, _, by omega, by go_num, by rw [HN.out.2.2], rfl, Lib.hid ⟨HN.out.1, HN.out.2.1⟩⟩, rfl⟩
                    case measure => simp [intOf]; omega
        · have HN := same (stepT_other (fun e => h2 (by simpa [tg] using (Prod.mk.inj e).2)))
          have e1 : (x1 == t1) = true := by simpa using h1
          have e2 : decide (x1 = t1) = true := decide_eq_true h1
          have e3 : (x2 == t2) = false := by simpa using h2
          have e4 : decide (x2 = t2) = false := decide_eq_false h2
          clear same h1 h2
          go_wp2_with fail
          go_roundw
          case rel => exact ⟨i + 1, _, by omega, by go_num, by rw [HN.out.2.2], rfl, Lib.hid ⟨HN.out.1, HN.out.2.1⟩⟩
          case measure => simp [intOf]; omega
      · have HN := same (stepT_other (fun e => h1 (by simpa [tg] using (Prod.mk.inj e).1)))
        have e1 : (x1 == t1) = false := by simpa using h1
        have e2 : decide (x1 = t1) = false := decide_eq_false h1
        clear same h1
        go_wp2_with fail
        go_roundw
        case rel => exact ⟨i + 1, _, by omega, by go_num, by rw [HN.out.2.2], rfl, Lib.hid ⟨HN.out.1, HN.out.2.1⟩⟩
        case measure => simp [intOf]; omega
    · go_wp2
      go_ret2
      have h9 := H.out.1
      rw [← Hm.out, List.take_length] at h9 ⊢
      exact ⟨HC.out.2.2.2.1.trans (H.out.2.mono (by rw [HC.out.2.2.1]; omega)), _, rfl, h9.lower (by omega)⟩
end
end Go.Proofs.YtolbdcmoblcakaaGreatDoor

