/- The walk of quorum.Best. -/
import Derived.Test.YtolbdcmoblcakaaGreatDoorKRepairAll27
import Derived.Test.YtolbdcmoblcakaaGreatDoorKRepairAll23
import Derived.Test.YtolbdcmoblcakaaGreatDoorKRepairAll28
import Derived.Test.YtolbdcmoblcakaaGreatDoorKRepairAll02
namespace Go.Proofs.YtolbdcmoblcakaaGreatDoor
section
open Go.RowKit Go.BigFrame

/-- what the best group tells. -/
def bestAns (k : Nat) : Option Grp → (Int × Int) × ByteArray × Bool
  | none => ((0, 0), ⟨#[]⟩, false)
  | some g => (g.1, textOf (decF (pickS k g.2.2) k (wideN k g.2.1.toNat)) g.2.1.toNat, true)
/-- what Best answers. -/
def BestOut (w w' : World) (E : Nat → Addr) (n k : Int) (L : List ByteArray) (ls : List (List Ver)) (e : Ending) : Prop := Below w.heap.size w w' ∧
  ∃ (t : Int × Int) (s : ByteArray) (f : Bool) (v : Value), e = .returned (.tuple #[.agg #[.int .i64 t.1, .int .i64 t.2], .string s, .bool f, v]) ∧
    (((configF n k L).1 ≠ 0 ∧ (t, s, f) = bestAns 0 none ∧ ((∃ x, v = errV x) ∨ ∃ m, v = faultV m) ∧ FltV w' E (configF n k L) v) ∨
     ((configF n k L).1 = 0 ∧ n < ls.length ∧ (t, s, f) = bestAns 0 none ∧ v = errV (E 2)) ∨
     ((configF n k L).1 = 0 ∧ (ls.length : Int) ≤ n ∧ v = .nilIface ∧ (t, s, f) = bestAns k.toNat (bestG k.toNat (groupsL n.toNat k.toNat ls.flatten))))
/-- where the best group lies. -/
def BestAt (gs : List Grp) (bs : List Nat) (o : Option Grp) (v : Value) : Prop := (o = none ∧ v = .pointer none) ∨ ∃ q, q < gs.length ∧ o = some (gs[q]?.getD grp0) ∧ v = .pointer (some ⟨bs[q]?.getD 0, 0, none⟩)
theorem FltV.set {w : World} {E : Nat → Addr} {f : Nat × Int} {v : Value} {tb i : Nat} {x : Int} (h : FltV w E f v) (ht : w.cell? ⟨tb, 1, none⟩ = some (.int .i64 x)) (u : Value) : FltV (w.setCell ⟨tb, i, none⟩ u) E f v := by
  rcases h with h | h | ⟨i, m, h1, h2, h3, h4⟩
  · exact .inl h
  · exact .inr (.inl h)
  · have hne : m ≠ tb := fun e => by
      have := h4.c1
      rw [e, ht] at this
      unfold errV at this
      simp at this
    refine .inr (.inr ⟨i, m, h1, h2, h3, ?_, ?_⟩)
    · exact (World.cell?_setCell_far _ _ _ _ (Ne.symm hne)).trans h4.c0
    · exact (World.cell?_setCell_far _ _ _ _ (Ne.symm hne)).trans h4.c1
theorem below_tag {n : Nat} {w w' : World} {tb : Nat} (h : Below n w w') (hn : n ≤ tb) (x y : Value) : Below n w ((w'.setCell ⟨tb, 0, none⟩ x).setCell ⟨tb, 1, none⟩ y) := (h.setCell hn _).setCell hn _
/-- a tag's cell is set. -/
theorem tag_set {w : World} {tb : Nat} {a b : Value} (h : w.heap[tb]? = some (.cells #[a, b] 54 (0, 0))) (x y : Value) :
    (w.setCell ⟨tb, 0, none⟩ x).cell? ⟨tb, 0, none⟩ = some x ∧ ((w.setCell ⟨tb, 0, none⟩ x).setCell ⟨tb, 1, none⟩ y).cell? ⟨tb, 1, none⟩ = some y ∧ ((w.setCell ⟨tb, 0, none⟩ x).setCell ⟨tb, 1, none⟩ y).cell? ⟨tb, 0, none⟩ = some x := by
  have h1 := heap_setCell_same w tb 0 _ _ x h
  have h2 := heap_setCell_same (w.setCell ⟨tb, 0, none⟩ x) tb 1 _ _ y h1
  exact ⟨(cell_of_heap h1 0).trans (by simp), (cell_of_heap h2 1).trans (by simp), (cell_of_heap h2 0).trans (by simp)⟩
set_option maxRecDepth 100000 in
set_option maxHeartbeats 8000000 in
theorem best_walk (n k : Int) (n₀ : Nat) (a : Option Addr) (len cap : Nat) (L : List ByteArray) (la : Option Addr) (ll lc : Nat) (ls : List (List Ver)) (w : World) (E : Nat → Addr) (hE : ErrQx w E) (hEf : ErrEf w E) (hlen : L.length = len) (hcap : len ≤ cap)
    (hsz : ∀ j : Nat, (L[j]?.getD (⟨#[]⟩ : ByteArray)).size ≤ maxLen) (hI : TxsAt n₀ w a L) (hn : n₀ ≤ w.heap.size) (hll : ls.length = ll) (hlm : ll ≤ maxLen) (hR : VssR w la ls) (ht : totV ls ≤ 1000000) :
    Calls Tryz.prog 45 #[cfgV n k (.slice a len cap), .slice la ll lc] w fun e w' => BestOut w w' E n k L ls e := by
  obtain ⟨cb, hcb⟩ : ∃ cb, w.heap.size = cb := ⟨_, rfl⟩
  obtain ⟨W1, hW1⟩ : ∃ W1, (w.alloc (.cells #[.int .i64 n, .int .i64 k, .slice a len cap] 24)).alloc (.cells #[.int .i64 0, .int .i64 0] 54) = W1 := ⟨_, rfl⟩
  have hs0 : (w.alloc (.cells #[.int .i64 n, .int .i64 k, .slice a len cap] 24)).heap.size = cb + 1 := by rw [← hcb]; simp
  have hs1 : W1.heap.size = cb + 2 := by rw [← hW1, ← hcb]; simp
  have hb1 : Below w.heap.size w W1 := by rw [← hW1]; exact ((Below.refl _ w).alloc (Nat.le_refl _) _).alloc (by simp) _
  have g1 : W1.heap[cb]? = some (.cells #[.int .i64 n, .int .i64 k, .slice a len cap] 24 (0, 0)) := by
    rw [← hW1, Below.heap_alloc _ _ _ (by rw [hs0]; omega), ← hcb]; exact heap_alloc_new _ _
  have g2 : W1.heap[cb + 1]? = some (.cells #[.int .i64 0, .int .i64 0] 54 (0, 0)) := by rw [← hW1, ← hs0]; exact heap_alloc_new _ _
  have HC := Lib.hid (And.intro hW1 (And.intro hcb (And.intro hs1 (And.intro hb1 (And.intro g1 g2)))))
  have Hk := Lib.hid (qcheck_walk n k w.heap.size a len cap L W1 E (hE.below hb1 (Nat.le_refl _)) hlen hcap hsz ((hI.mono hn).below hb1) hb1.size)
  have HL := Lib.hid (And.intro hlen (And.intro hll (And.intro hlm (And.intro (hR.below hb1) ht))))
  have HE := Lib.hid (hEf.below hb1 (Nat.le_refl _))
  have Hz := Lib.hid (fun h => configF_zero (n := n) (k := k) (L := L) h)
  obtain ⟨F, hF⟩ : ∃ F, configF n k L = F := ⟨_, rfl⟩
  have HF := Lib.hid hF
  rw [hF] at Hk Hz
  have c0 : W1.cell? ⟨w.heap.size, 0, none⟩ = some (.int .i64 n) := by rw [hcb]; exact cell_of_heap g1 0
  have c1 : W1.cell? ⟨w.heap.size, 1, none⟩ = some (.int .i64 k) := by rw [hcb]; exact cell_of_heap g1 1
  have c2 : W1.cell? ⟨w.heap.size, 2, none⟩ = some (.slice a len cap) := by rw [hcb]; exact cell_of_heap g1 2
  have hlm9 : ll ≤ 9223372036854775807 := by unfold maxLen at hlm; omega
  clear hF hE hEf hI hsz hlen hcap hcb hs0 hs1 hb1 g1 g2 hll hlm hR ht hn
  go_enter Tryz.func45, Tryz.ntmps45
  go_wp2_with fail
  rw [HC.out.2.1]
  clear hW1 c0 c1 c2
  refine Hk.out.mono ?_
  rintro e w1 ⟨⟨v, rfl, hv⟩, hb1⟩
  have HB1 := Lib.hid (HC.out.2.2.2.1.trans (hb1.mono HC.out.2.2.2.1.size))
  have hg1 : w1.heap[cb]? = some (.cells #[.int .i64 n, .int .i64 k, .slice a len cap] 24 (0, 0)) := (hb1.block cb (by rw [HC.out.2.2.1]; omega)).trans HC.out.2.2.2.2.1
  have hg2 : w1.heap[cb + 1]? = some (.cells #[.int .i64 0, .int .i64 0] 54 (0, 0)) := (hb1.block (cb + 1) (by rw [HC.out.2.2.1]; omega)).trans HC.out.2.2.2.2.2
  have c0 : w1.cell? ⟨cb, 0, none⟩ = some (.int .i64 n) := cell_of_heap hg1 0
  have c1 : w1.cell? ⟨cb, 1, none⟩ = some (.int .i64 k) := cell_of_heap hg1 1
  have c2 : w1.cell? ⟨cb, 2, none⟩ = some (.slice a len cap) := cell_of_heap hg1 2
  have t0 : w1.cell? ⟨cb + 1, 0, none⟩ = some (.int .i64 0) := cell_of_heap hg2 0
  have t1 : w1.cell? ⟨cb + 1, 1, none⟩ = some (.int .i64 0) := cell_of_heap hg2 1
  have z0 := frozen_of_heap hg2 0
  have z1 := frozen_of_heap hg2 1
  have HR := Lib.hid (And.intro (HL.out.2.2.2.1.below hb1) (And.intro (HE.out.below hb1 (Nat.le_refl _)) (And.intro hg1 (And.intro hg2 (show w.heap.size ≤ cb + 1 by rw [HC.out.2.1]; omega)))))
  clear hb1 hg1 hg2
  by_cases h0 : F.1 = 0
  · obtain ⟨hF0, rfl⟩ := hv.nil h0
    obtain ⟨⟨hk1, hkn, hn12⟩, hLn, _⟩ := Hz.out h0
    obtain ⟨n, rfl⟩ : ∃ m : Nat, n = (m : Int) := ⟨n.toNat, by omega⟩
    obtain ⟨k, rfl⟩ : ∃ m : Nat, k = (m : Int) := ⟨k.toNat, by omega⟩
    have H0 := Lib.hid (And.intro h0 (And.intro (show 1 ≤ k by omega) (And.intro (show k ≤ n by omega) (show n ≤ 12 by omega))))
    clear hv h0 hF0 hk1 hkn hn12 hLn
    by_cases hlong : (n : Int) < ll
    · have HBs : Hid (Below w.heap.size w ((w1.setCell ⟨cb + 1, 0, none⟩ (.int .i64 0)).setCell ⟨cb + 1, 1, none⟩ (.int .i64 0))) := Lib.hid ((HB1.out.setCell HR.out.2.2.2.2 _).setCell HR.out.2.2.2.2 _)
      have HT := Lib.hid (tag_set HR.out.2.2.2.1 (.int .i64 0) (.int .i64 0))
      have hsh := HR.out.2.1.ez.c2
      have hgt : 6 ≠ cb + 1 := fun e => by
        have h9 := congrArg (fun b => w1.cell? ⟨b, 0, none⟩) e
        have h8 : w1.cell? ⟨6, 0, none⟩ = w1.cell? ⟨cb + 1, 0, none⟩ := h9
        rw [h8, t0] at hsh
        unfold errV at hsh
        simp at hsh
      have hshs : ((w1.setCell ⟨cb + 1, 0, none⟩ (.int .i64 0)).setCell ⟨cb + 1, 1, none⟩ (.int .i64 0)).cell? ⟨6, 0, none⟩ = some (errV (E 2)) := by
        rw [World.cell?_setCell_far _ _ _ _ (Ne.symm hgt), World.cell?_setCell_far _ _ _ _ (Ne.symm hgt)]; exact hsh
      have Hlong := Lib.hid (And.intro hlong hlong)
      go_wp2_with fail
      go_region
      all_goals
        clear hsh hshs hgt
        go_wp2
        exact bodyPost_ret (v := .tuple #[.agg #[.int .i64 0, .int .i64 0], .string ⟨#[]⟩, .bool false, errV (E 2)]) (by simp [results, Tryz.results45, go_sem, HT.out.1, HT.out.2.1]) rfl ⟨HBs.out.drew, (0, 0), ⟨#[]⟩, false, _, rfl, .inr (.inl ⟨by rw [HF.out]; exact H0.out.1, by rw [HL.out.2.1]; exact Hlong.out.1, rfl, rfl⟩)⟩
    · have Hle := Lib.hid hlong
      have Hgr := Lib.hid (groups_walk n k a len cap la ll lc ls w1 H0.out.2.1 H0.out.2.2.1 H0.out.2.2.2 HL.out.2.1 HL.out.2.2.1 HR.out.1 HL.out.2.2.2.2)
      have hgok := groups_ok n k ls.flatten
      have hgbest := fun g => best_good (n := n) (k := k) (xs := ls.flatten) (g := g)
      have hgsh : ∀ g ∈ groupsL n k ls.flatten, g.2.2.length ≤ 1000000 := fun g hg => Nat.le_trans (groupsL_shards n k _ g hg) (by rw [flat_len]; exact HL.out.2.2.2.2)
      have hgll : (groupsL n k ls.flatten).length ≤ 1000000 := Nat.le_trans (groupsL_len n k _) (by rw [flat_len]; exact HL.out.2.2.2.2)
      obtain ⟨gs, hgs⟩ : ∃ gs, groupsL n k ls.flatten = gs := ⟨_, rfl⟩
      rw [hgs] at Hgr hgok hgbest hgsh hgll
      have HG := Lib.hid (And.intro hgs (And.intro hgok (And.intro hgbest (And.intro hgsh hgll))))
      clear hgs hgok hgbest hgsh hgll
      go_wp2_with fail
      refine Hgr.out.mono ?_
      rintro e w2 ⟨hb2, v2, B, bs, vs, rfl, hB1, hG⟩
      obtain ⟨pa, pc, rfl, hpc, hpm, hptr⟩ := hG.ptrs
      obtain ⟨m, hm⟩ : ∃ m, bs.length = m := ⟨_, rfl⟩
      have hgm : gs.length = m := by rw [← hm]; exact hG.lenb.symm
      have hmle : m ≤ 1000000 := by rw [← hgm]; exact HG.out.2.2.2.2
      have h2c : w2.heap[cb]? = some (.cells #[.int .i64 n, .int .i64 k, .slice a len cap] 24 (0, 0)) := (hb2.block cb (Array.getElem?_eq_some_iff.1 HR.out.2.2.1).1).trans HR.out.2.2.1
      have h2t : w2.heap[cb + 1]? = some (.cells #[.int .i64 0, .int .i64 0] 54 (0, 0)) := (hb2.block (cb + 1) (Array.getElem?_eq_some_iff.1 HR.out.2.2.2.1).1).trans HR.out.2.2.2.1
      have H2 := Lib.hid (And.intro hb2 (And.intro hG (And.intro hptr (And.intro hgm (And.intro hm (And.intro h2c (And.intro h2t (HR.out.2.1.below hb2 (Nat.le_refl _)))))))))
      clear hb2 hG hptr hgm h2c h2t hpc hpm hB1 c0 c1 c2 t0 t1 z0 z1
      rw [hm]
      clear hm
      go_wp2_with fail
      go_loopw [9, 29] (fun vb vj wr => ∃ j : Nat, j ≤ m ∧ vj = .int .i64 j ∧ Hid (BestAt gs bs (bestG k (gs.take j)) vb ∧ Below w2.heap.size w2 wr)) (fun _ vj _ => m - (intOf vj).toNat)
      case atStart => exact ⟨0, by omega, rfl, Lib.hid ⟨.inl ⟨rfl, rfl⟩, Below.refl _ _⟩⟩
      case round =>
        obtain ⟨j, hj, rfl, H⟩ := hrel
        have hj2 : j < m ∨ m = j := by omega
        rcases hj2 with hjlt | rfl
        · have hjlt2 : (j : Int) < m := by omega
          obtain ⟨pg, po, rfl, hcell⟩ : ∃ b off, pa = some ⟨b, off, none⟩ ∧ wr.cell? ⟨b, off + j, none⟩ = some (.pointer (some ⟨bs[j]?.getD 0, 0, none⟩)) := by
            rcases H2.out.2.2.1.below H.out.2 with he | ⟨b, off, h, _, hc⟩
            · exfalso
              have := H2.out.2.2.2.2.1
              rw [he] at this; simp at this; omega
            · exact ⟨b, off, h, hc j (by rw [H2.out.2.2.2.2.1]; exact hjlt)⟩
          have hgr := H2.out.2.1.below H.out.2
          obtain ⟨gb, sv, hgb, hsv, hblk, hos⟩ := hgr.group (i := j) (by rw [H2.out.2.2.2.1]; exact hjlt)
          rw [hgb] at hcell
          have hbg := bestG_snoc k (gs.take j) (gs[j]?.getD grp0)
          rw [← take_snoc gs grp0 j (by rw [H2.out.2.2.2.1]; exact hjlt)] at hbg
          have hol0 : (gs[j]?.getD grp0).2.2.length ≤ 1000000 := HG.out.2.2.2.1 _ (by rw [List.getElem?_eq_getElem (by rw [H2.out.2.2.2.1]; exact hjlt)]; exact List.getElem_mem _)
          obtain ⟨⟨⟨t1, t2⟩, sz, out⟩, hgv⟩ : ∃ g, gs[j]?.getD grp0 = g := ⟨_, rfl⟩
          rw [hgv] at hblk hos hbg hol0
          unfold grpC at hblk
          dsimp only at hblk hos hol0
          obtain ⟨sa, scap, hsv2, _, _, _⟩ := hos.read
          rw [hsv2] at hblk
          have hcfg : wr.heap[cb]? = some (.cells #[.int .i64 n, .int .i64 k, .slice a len cap] 24 (0, 0)) := (H.out.2.block cb (Array.getElem?_eq_some_iff.1 H2.out.2.2.2.2.2.1).1).trans H2.out.2.2.2.2.2.1
          have k0 := cell_regrown (show wr.cell? ⟨gb, 0, none⟩ = some (.int .i64 t1) from cell_of_heap hblk 0)
          have k1 := cell_regrown (show wr.cell? ⟨gb, 1, none⟩ = some (.int .i64 t2) from cell_of_heap hblk 1)
          have k3 := cell_regrown (show wr.cell? ⟨gb, 3, none⟩ = some (.slice sa out.length scap) from cell_of_heap hblk 3)
          have l1 := cell_regrown (show wr.cell? ⟨cb, 1, none⟩ = some (.int .i64 k) from cell_of_heap hcfg 1)
          have HQ := Lib.hid (And.intro hgb (And.intro hgv (And.intro hblk (And.intro hol0 hbg))))
          clear hgb hsv hgv hblk hos hsv2 hcfg hol0 hbg hgr
          by_cases hkl : k ≤ out.length
          · have d1 : decide ((k : Int) ≤ (out.length : Int)) = true := decide_eq_true (by omega)
            have d2 : decide (k ≤ out.length) = true := decide_eq_true hkl
            rcases H.out.1 with ⟨hbn, rfl⟩ | ⟨q, hq, hbq, rfl⟩
            · have Hb := Lib.hid (And.intro hbn hkl)
              clear hbn hkl
              go_wp2_with fail
              refine wp_region_quiet_below (by kernel_rfl) (by kernel_rfl) ?_
              repeat (go_big_quiet_step (first | (with_reducible exact Ct _ _)))
              refine wpQuiet_nil ?_
              intro w5 hw'
              have HB5 := Lib.hid (show Below wr.heap.size wr w5 by obtain ⟨⟨dq, osq⟩, hw5⟩ := hw'; rw [hw5]; exact below_regrown wr dq osq)
              clear hw'
              clear k0 k1 k3 l1 d1 d2
              have HN : Hid (BestAt gs bs (bestG k (gs.take (j + 1))) (.pointer (some ⟨gb, 0, none⟩)) ∧ Below w2.heap.size w2 w5) := Lib.hid ⟨by
                rw [HQ.out.2.2.2.2]; unfold bestStep; rw [if_pos (⟨Hb.out.2, by rw [Hb.out.1]; rfl⟩)]
                exact .inr ⟨j, by rw [H2.out.2.2.2.1]; exact hjlt, by rw [HQ.out.2.1], by rw [HQ.out.1]⟩, H.out.2.trans (HB5.out.mono H.out.2.size)⟩
              go_wp2
              go_roundw
              case rel => exact ⟨j + 1, by omega, by go_num, HN⟩
              case measure => simp [intOf]; omega
            · have hgr := H2.out.2.1.below H.out.2
              obtain ⟨qb, qv, hqb, hqv, hqk, hqo⟩ := hgr.group (i := q) hq
              rw [hqb]
              obtain ⟨⟨⟨u1, u2⟩, qz, qout⟩, hqg⟩ : ∃ g, gs[q]?.getD grp0 = g := ⟨_, rfl⟩
              rw [hqg] at hqk hbq
              unfold grpC at hqk
              dsimp only at hqk
              have m0 := cell_regrown (show wr.cell? ⟨qb, 0, none⟩ = some (.int .i64 u1) from cell_of_heap hqk 0)
              have m1 := cell_regrown (show wr.cell? ⟨qb, 1, none⟩ = some (.int .i64 u2) from cell_of_heap hqk 1)
              have Ct := fun d os => Calls.regrown_of (less_walk u1 u2 t1 t2 (Go.Sort.grow (redrawn wr d) os))
              obtain ⟨r, hr⟩ : ∃ r, tagLt u1 u2 t1 t2 = r := ⟨_, rfl⟩
              rw [hr] at Ct
              have Hb := Lib.hid (And.intro hbq (And.intro hkl (And.intro hr (And.intro hqb hqg))))
              clear hbq hkl hr hqb hqg hqv hqk hqo hgr
              cases r
              · go_wp2_with fail
                refine wp_region_quiet_below (by kernel_rfl) (by kernel_rfl) ?_
                repeat (go_big_quiet_step (first | (with_reducible exact Ct _ _)))
                refine wpQuiet_nil ?_
                intro w5 hw'
                have HB5 := Lib.hid (show Below wr.heap.size wr w5 by obtain ⟨⟨dq, osq⟩, hw5⟩ := hw'; rw [hw5]; exact below_regrown wr dq osq)
                clear hw'
                clear k0 k1 k3 l1 d1 d2 m0 m1 Ct
                have HN : Hid (BestAt gs bs (bestG k (gs.take (j + 1))) (.pointer (some ⟨qb, 0, none⟩)) ∧ Below w2.heap.size w2 w5) := Lib.hid ⟨by rw [HQ.out.2.2.2.2]; unfold bestStep; rw [if_neg (fun h9 => by have h8 := h9.2; rw [Hb.out.1] at h8; have h7 : tagLt u1 u2 t1 t2 = true := h8; rw [Hb.out.2.2.1] at h7; cases h7)]; rw [← Hb.out.2.2.2.1]; exact H.out.1, H.out.2.trans (HB5.out.mono H.out.2.size)⟩
                go_wp2
                go_roundw
                case rel => exact ⟨j + 1, by omega, by go_num, HN⟩
                case measure => simp [intOf]; omega
              · go_wp2_with fail
                refine wp_region_quiet_below (by kernel_rfl) (by kernel_rfl) ?_
                repeat (go_big_quiet_step (first | (with_reducible exact Ct _ _)))
                refine wpQuiet_nil ?_
                intro w5 hw'
                have HB5 := Lib.hid (show Below wr.heap.size wr w5 by obtain ⟨⟨dq, osq⟩, hw5⟩ := hw'; rw [hw5]; exact below_regrown wr dq osq)
                clear hw'
                clear k0 k1 k3 l1 d1 d2 m0 m1 Ct
                have HN : Hid (BestAt gs bs (bestG k (gs.take (j + 1))) (.pointer (some ⟨gb, 0, none⟩)) ∧ Below w2.heap.size w2 w5) := Lib.hid ⟨by
                  rw [HQ.out.2.2.2.2]; unfold bestStep; rw [if_pos (⟨Hb.out.2.1, by rw [Hb.out.1]; exact Hb.out.2.2.1⟩)]
                  exact .inr ⟨j, by rw [H2.out.2.2.2.1]; exact hjlt, by rw [HQ.out.2.1], by rw [HQ.out.1]⟩, H.out.2.trans (HB5.out.mono H.out.2.size)⟩
                go_wp2
                go_roundw
                case rel => exact ⟨j + 1, by omega, by go_num, HN⟩
                case measure => simp [intOf]; omega
          · have d1 : decide ((k : Int) ≤ (out.length : Int)) = false := decide_eq_false (by omega)
            have d2 : decide (k ≤ out.length) = false := decide_eq_false hkl
            have Hb := Lib.hid hkl
            clear hkl
            go_wp2_with fail
            refine wp_region_quiet_below (by kernel_rfl) (by kernel_rfl) ?_
            repeat (go_big_quiet_step (first | (with_reducible exact Ct _ _)))
            refine wpQuiet_nil ?_
            intro w5 hw'
            have HB5 := Lib.hid (show Below wr.heap.size wr w5 by obtain ⟨⟨dq, osq⟩, hw5⟩ := hw'; rw [hw5]; exact below_regrown wr dq osq)
            clear hw'
            clear k0 k1 k3 l1 d1 d2
            have HN : Hid (BestAt gs bs (bestG k (gs.take (j + 1))) _ ∧ Below w2.heap.size w2 w5) := Lib.hid ⟨by rw [HQ.out.2.2.2.2]; unfold bestStep; rw [if_neg (fun h9 => Hb.out h9.1)]; exact H.out.1, H.out.2.trans (HB5.out.mono H.out.2.size)⟩
            go_wp2
            go_roundw
            case rel => exact ⟨j + 1, by omega, by go_num, HN⟩
            case measure => simp [intOf]; omega
        · have hbm : bestG k gs = bestG k (gs.take m) := by rw [← H2.out.2.2.2.1, List.take_length]
          have hct : wr.heap[cb + 1]? = some (.cells #[.int .i64 0, .int .i64 0] 54 (0, 0)) := (H.out.2.block (cb + 1) (Array.getElem?_eq_some_iff.1 H2.out.2.2.2.2.2.2.1).1).trans H2.out.2.2.2.2.2.2.1
          have hBr : Below w.heap.size w wr := HB1.out.trans ((H2.out.1.trans (H.out.2.mono H2.out.1.size)).mono HB1.out.size)
          rcases H.out.1 with ⟨hbn, rfl⟩ | ⟨q, hq, hbq, rfl⟩
          · have HE9 := Lib.hid (And.intro (hbm.trans hbn) (And.intro (tag_set hct (.int .i64 0) (.int .i64 0)) (below_tag hBr HR.out.2.2.2.2 (.int .i64 0) (.int .i64 0))))
            have z0 := frozen_of_heap hct 0
            have z1 := frozen_of_heap hct 1
            have t0 : wr.cell? ⟨cb + 1, 0, none⟩ = some (.int .i64 0) := cell_of_heap hct 0
            have t1 : wr.cell? ⟨cb + 1, 1, none⟩ = some (.int .i64 0) := cell_of_heap hct 1
            clear hbm hct hBr hbn
            go_wp2_with fail
            exact bodyPost_ret (v := .tuple #[.agg #[.int .i64 0, .int .i64 0], .string ⟨#[]⟩, .bool false, .nilIface]) (by simp [results, Tryz.results45, go_sem, HE9.out.2.1.1, HE9.out.2.1.2.1]) rfl ⟨HE9.out.2.2, (0, 0), ⟨#[]⟩, false, _, rfl, .inr (.inr ⟨by rw [HF.out]; exact H0.out.1, by rw [HL.out.2.1]; exact Hle.out, rfl, by
              show _ = bestAns k (bestG k (groupsL n k ls.flatten))
              rw [HG.out.1, HE9.out.1]; rfl⟩)⟩
          · have hgr := H2.out.2.1.below H.out.2
            obtain ⟨qb, qv, hqb, hqv, hqk, hqo⟩ := hgr.group (i := q) hq
            rw [hqb]
            obtain ⟨hsz, hgood, hpick, hshT⟩ := HG.out.2.2.1 _ (hbm.trans hbq)
            have hol0 : (gs[q]?.getD grp0).2.2.length ≤ 1000000 := HG.out.2.2.2.1 _ (by rw [List.getElem?_eq_getElem hq]; exact List.getElem_mem hq)
            obtain ⟨⟨⟨u1, u2⟩, qz, qout⟩, hqg⟩ : ∃ g, gs[q]?.getD grp0 = g := ⟨_, rfl⟩
            rw [hqg] at hqk hbq hsz hgood hpick hqo hol0
            unfold grpC at hqk
            dsimp only at hqk hsz hgood hpick hqo hol0
            obtain ⟨qn, rfl⟩ : ∃ qn : Nat, qz = (qn : Int) := ⟨qz.toNat, by omega⟩
            have hqn : qn ≤ 1000 := by omega
            rw [Int.toNat_natCast] at hgood
            obtain ⟨sa, scap, hsv2, _, _, hshr⟩ := hqo.read
            rw [hsv2] at hqk
            have hcfg : wr.heap[cb]? = some (.cells #[.int .i64 n, .int .i64 k, .slice a len cap] 24 (0, 0)) := (H.out.2.block cb (Array.getElem?_eq_some_iff.1 H2.out.2.2.2.2.2.1).1).trans H2.out.2.2.2.2.2.1
            have hEr := H2.out.2.2.2.2.2.2.2.below H.out.2 (Nat.le_refl _)
            have k2 := cell_regrown (show wr.cell? ⟨qb, 2, none⟩ = some (.int .i64 qn) from cell_of_heap hqk 2)
            have k3 := cell_regrown (show wr.cell? ⟨qb, 3, none⟩ = some (.slice sa qout.length scap) from cell_of_heap hqk 3)
            have l0 := cell_regrown (show wr.cell? ⟨cb, 0, none⟩ = some (.int .i64 n) from cell_of_heap hcfg 0)
            have l1 := cell_regrown (show wr.cell? ⟨cb, 1, none⟩ = some (.int .i64 k) from cell_of_heap hcfg 1)
            have Ct := fun d os => Calls.regrown_of (v := .tuple #[.string (textOf (decF (pickS k qout) k (wideN k qn)) qn), .nilIface]) ((decode_walk wr.heap.size n k qn sa scap qout (Go.Sort.grow (redrawn wr d) os) E (hEr.below (below_regrown wr d os) (Nat.le_refl _)) H0.out.2.1 H0.out.2.2.1 H0.out.2.2.2 hqn (by unfold maxLen; omega) (below_regrown wr d os).size (hshr.below (below_regrown wr d os))).mono (fun e w' h => ⟨by
              rcases h.2 with ⟨h1, _⟩ | ⟨_, h1, _⟩ | ⟨_, _, h1⟩
              · exact absurd hgood h1
              · rw [hpick] at h1; omega
              · exact h1, h.1⟩))
            obtain ⟨tx, htx⟩ : ∃ tx, textOf (decF (pickS k qout) k (wideN k qn)) qn = tx := ⟨_, rfl⟩
            rw [htx] at Ct
            have HE9 := Lib.hid (And.intro (hbm.trans hbq) (And.intro hct (And.intro hBr (And.intro hqk htx))))
            clear hbm hbq hct hBr htx hgood hpick hsz hshT hqg hqv hqk hqo hgr hsv2 hshr hcfg hEr hol0
            go_wp2_with fail
            refine wp_region_quiet_below (by kernel_rfl) (by kernel_rfl) ?_
            repeat (go_big_quiet_step (first | (with_reducible exact Ct _ _)))
            refine wpQuiet_nil ?_
            intro w5 hw'
            have hB5 : Below wr.heap.size wr w5 := by obtain ⟨⟨dq, osq⟩, hw5⟩ := hw'; rw [hw5]; exact below_regrown wr dq osq
            have hct5 : w5.heap[cb + 1]? = some (.cells #[.int .i64 0, .int .i64 0] 54 (0, 0)) := (hB5.block (cb + 1) (Array.getElem?_eq_some_iff.1 HE9.out.2.1).1).trans HE9.out.2.1
            have hqk5 : w5.heap[qb]? = some (.cells #[.int .i64 u1, .int .i64 u2, .int .i64 qn, .slice sa qout.length scap] 135 (0, 0)) := (hB5.block qb (Array.getElem?_eq_some_iff.1 HE9.out.2.2.2.1).1).trans HE9.out.2.2.2.1
            have hb5 : Below w.heap.size w w5 := HE9.out.2.2.1.trans (hB5.mono HE9.out.2.2.1.size)
            have HS := Lib.hid (And.intro (tag_set hct5 (.int .i64 u1) (.int .i64 u2)) (below_tag hb5 HR.out.2.2.2.2 (.int .i64 u1) (.int .i64 u2)))
            have z0 := frozen_of_heap hct5 0
            have z1 := frozen_of_heap hct5 1
            have t0 : w5.cell? ⟨cb + 1, 0, none⟩ = some (.int .i64 0) := cell_of_heap hct5 0
            have t1 : w5.cell? ⟨cb + 1, 1, none⟩ = some (.int .i64 0) := cell_of_heap hct5 1
            have q0 : w5.cell? ⟨qb, 0, none⟩ = some (.int .i64 u1) := cell_of_heap hqk5 0
            have q1 : w5.cell? ⟨qb, 1, none⟩ = some (.int .i64 u2) := cell_of_heap hqk5 1
            clear hw' hB5 hct5 hqk5 hb5 k2 k3 l0 l1 Ct
            go_wp2_with fail
            exact bodyPost_ret (v := .tuple #[.agg #[.int .i64 u1, .int .i64 u2], .string tx, .bool true, .nilIface]) (by simp [results, Tryz.results45, go_sem, HS.out.1.1, HS.out.1.2.1]) rfl ⟨HS.out.2, (u1, u2), tx, true, _, rfl, .inr (.inr ⟨by rw [HF.out]; exact H0.out.1, by rw [HL.out.2.1]; exact Hle.out, rfl, by
              show _ = bestAns k (bestG k (groupsL n k ls.flatten))
              rw [HG.out.1, HE9.out.1, ← HE9.out.2.2.2.2]; rfl⟩)⟩
  · have H0 := Lib.hid (And.intro h0 (And.intro (hv.some_ h0) ((hv.set t1 (.int .i64 0) (i := 0)).set (by rw [World.cell?_setCell_other _ _ _ _ (by simp)]; exact t1) (.int .i64 0) (i := 1))))
    have HBs : Hid (Below w.heap.size w ((w1.setCell ⟨cb + 1, 0, none⟩ (.int .i64 0)).setCell ⟨cb + 1, 1, none⟩ (.int .i64 0))) := Lib.hid ((HB1.out.setCell HR.out.2.2.2.2 _).setCell HR.out.2.2.2.2 _)
    have HT := Lib.hid (tag_set HR.out.2.2.2.1 (.int .i64 0) (.int .i64 0))
    rcases hv.some_ h0 with ⟨x, rfl⟩ | ⟨m, rfl⟩
    · clear hv h0
      go_wp2
      exact bodyPost_ret (v := .tuple #[.agg #[.int .i64 0, .int .i64 0], .string ⟨#[]⟩, .bool false, errV x]) (by simp [results, Tryz.results45, go_sem, HT.out.1, HT.out.2.1]) rfl ⟨HBs.out, (0, 0), ⟨#[]⟩, false, _, rfl, .inl ⟨by rw [HF.out]; exact H0.out.1, rfl, H0.out.2.1, by rw [HF.out]; exact H0.out.2.2⟩⟩
    · unfold faultV at H0 ⊢
      clear hv h0
      go_wp2
      exact bodyPost_ret (v := .tuple #[.agg #[.int .i64 0, .int .i64 0], .string ⟨#[]⟩, .bool false, faultV m]) (by simp [results, Tryz.results45, go_sem, faultV, HT.out.1, HT.out.2.1]) rfl ⟨HBs.out, (0, 0), ⟨#[]⟩, false, _, rfl, .inl ⟨by rw [HF.out]; exact H0.out.1, rfl, H0.out.2.1, by rw [HF.out]; exact H0.out.2.2⟩⟩
end
end Go.Proofs.YtolbdcmoblcakaaGreatDoor

