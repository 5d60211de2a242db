/- From a row's whole list of variables to the world that a walk wants: the twelve errors and the handle of the type error. -/
import Derived.Test.YtjhjpijjfpfjeaaGreatDoorKQuorumBest07
import Derived.Test.YtjhjpijjfpfjeaaGreatDoorKQuorumBest29
import Derived.Test.YtjhjpijjfpfjeaaGreatDoorKQuorumBest37
import Derived.Test.YtjhjpijjfpfjeaaGreatDoorKQuorumBest38
import Derived.Test.YtjhjpijjfpfjeaaGreatDoorKQuorumBest39
import Derived.Deep.RegionWith
import Derived.Test.YtjhjpijjfpfjeaaGreatDoorRows
import Derived.JoinedOf
import Derived.KernelRfl
import Derived.JoinedCond
namespace Go.Proofs.YtjhjpijjfpfjeaaGreatDoor
open Go.RowKit

theorem et_global : Tryz.prog.globalNamed "errors.errorType" = some 12 := by kernel_rfl
theorem et_rt : (Tryz.prog.cutTypes.find? (·.1 == "internal/reflectlite.rtype")).map (·.2) = some 148 := by kernel_rfl
theorem et_oneRow : ((List.range Tryz.prog.types.size).filter fun t => Tryz.prog.rowNamed t [101, 114, 114, 111, 114]) = [32] := by kernel_rfl
theorem et_handle : typeHandle Tryz.prog 32 = .pointer (some ⟨14, 32, none⟩) := by kernel_rfl

def errT : DataW Unit := .iface "internal/reflectlite.rtype" (.agg [.ptr (.lit (.string [101, 114, 114, 111, 114]))])
theorem handle_of_laid {l : List (String × DataW Unit)} {W : World} (h : laidMetH Tryz.prog l W) (hm : ("errors.errorType", errT) ∈ l) :
    W.cell? ⟨12, 0, none⟩ = some (.iface 148 (.agg #[.pointer (some ⟨14, 32, none⟩)])) := by
  have hf : ("errors.errorType", errT) ∈ l.filter fun x => x.2.handleName?.isSome := List.mem_filter.2 ⟨hm, rfl⟩
  unfold laidMetH at h
  generalize (l.filter fun x => x.2.handleName?.isSome) = fl at h hf
  match fl, h, hf with
  | x :: xs, h, hf =>
    obtain ⟨name, u, ty, e1, e2, e3, e4, e5⟩ := h.2 _ hf
    have en : name = [101, 114, 114, 111, 114] := (Option.some.inj e1).symm
    subst en
    obtain rfl := Option.some.inj (et_rt.symm.trans e2)
    have hm : ty ∈ (List.range Tryz.prog.types.size).filter fun t => Tryz.prog.rowNamed t [101, 114, 114, 111, 114] := List.mem_filter.2 ⟨List.mem_range.2 e3, e4⟩
    rw [et_oneRow] at hm
    obtain rfl := List.mem_singleton.1 hm
    rw [et_handle] at e5
    simpa using World.var?_cell et_global e5 0

/-- the texts of the errors, in the order of their numbers. -/
def errTexts : List (String × List UInt8) := [
  ("shardkeep/api.ErrText", [115, 104, 97, 114, 100, 107, 101, 101, 112, 58, 32, 116, 101, 120, 116]),
  ("shardkeep/api.ErrBound", [115, 104, 97, 114, 100, 107, 101, 101, 112, 58, 32, 98, 111, 117, 110, 100]),
  ("shardkeep/api.ErrShape", [115, 104, 97, 114, 100, 107, 101, 101, 112, 58, 32, 115, 104, 97, 112, 101]),
  ("shardkeep/api.ErrName", [115, 104, 97, 114, 100, 107, 101, 101, 112, 58, 32, 110, 97, 109, 101]),
  ("shardkeep/api.ErrNone", [115, 104, 97, 114, 100, 107, 101, 101, 112, 58, 32, 110, 111, 110, 101]),
  ("shardkeep/api.ErrExist", [115, 104, 97, 114, 100, 107, 101, 101, 112, 58, 32, 101, 120, 105, 115, 116]),
  ("shardkeep/api.ErrFull", [115, 104, 97, 114, 100, 107, 101, 101, 112, 58, 32, 102, 117, 108, 108]),
  ("shardkeep/api.ErrFew", [115, 104, 97, 114, 100, 107, 101, 101, 112, 58, 32, 102, 101, 119]),
  ("shardkeep/api.ErrSum", [115, 104, 97, 114, 100, 107, 101, 101, 112, 58, 32, 115, 117, 109]),
  ("shardkeep/api.ErrOld", [115, 104, 97, 114, 100, 107, 101, 101, 112, 58, 32, 111, 108, 100]),
  ("shardkeep/api.ErrHeld", [115, 104, 97, 114, 100, 107, 101, 101, 112, 58, 32, 104, 101, 108, 100]),
  ("shardkeep/api.ErrZero", [115, 104, 97, 114, 100, 107, 101, 101, 112, 58, 32, 122, 101, 114, 111])]
def errText (i : Nat) : List UInt8 := (errTexts[i]?.getD ("", [])).2
def errGlob : List Nat := [1, 2, 0, 3, 4, 5, 6, 7, 8, 9, 10, 11]
theorem errText_ne : ∀ i, i < 12 → ∀ j, j < 12 → i ≠ j → errText i ≠ errText j := by decide
theorem errGlob_ok : (List.range 12).all (fun i => Tryz.prog.globalNamed (errTexts[i]?.getD ("", [])).1 == some (errGlob.getD i 0) && (Tryz.prog.globals[errGlob.getD i 0]?).map (·.type) == some 32) = true := by kernel_rfl
/-- the list as a row gives it. -/
def fullLaid : List (String × DataW Unit) := ("errors.errorType", errT) :: errTexts.map fun x => (x.1, sent x.2)

theorem env_of_drop {W : World} {l : List (String × DataW Unit)} (k : Nat) (hk : l.drop k = fullLaid) (h : laidMetH Tryz.prog l W) : ∃ E, ErrEnv W E := by
  have hsub : ∀ x ∈ fullLaid, x ∈ l := fun x hx => List.mem_of_mem_drop (by rw [hk]; exact hx)
  have one : ∀ i, i < 12 → ∃ a, ErrIs W (errGlob.getD i 0) (errText i) a := fun i hi => by
    have hok := List.all_eq_true.1 errGlob_ok i (List.mem_range.2 hi)
    simp only [Bool.and_eq_true, beq_iff_eq] at hok
    refine err_of_laid h (n := (errTexts[i]?.getD ("", [])).1) ?_ hok.1 hok.2
    refine hsub _ (List.mem_cons_of_mem _ (List.mem_map.2 ⟨errTexts[i]?.getD ("", []), ?_, rfl⟩))
    have hl : i < errTexts.length := hi
    rw [List.getElem?_eq_getElem hl]
    exact List.getElem_mem hl
  refine ⟨fun i => if hi : i < 12 then Classical.choose (one i hi) else default, ?_⟩
  have sp : ∀ i (hi : i < 12), ErrIs W (errGlob.getD i 0) (errText i) (if hi : i < 12 then Classical.choose (one i hi) else default) := fun i hi => by
    rw [dif_pos hi]; exact Classical.choose_spec (one i hi)
  exact ⟨(sp 0 (by decide)).cell, (sp 1 (by decide)).cell, (sp 2 (by decide)).cell, (sp 3 (by decide)).cell, (sp 4 (by decide)).cell, (sp 5 (by decide)).cell, (sp 6 (by decide)).cell, (sp 7 (by decide)).cell, (sp 8 (by decide)).cell, (sp 9 (by decide)).cell, (sp 10 (by decide)).cell, (sp 11 (by decide)).cell,
    handle_of_laid h (hsub _ (List.mem_cons_self)), fun k hk => (sp k hk).block, fun i j hi hj hij => (sp i hi).ne' (sp j hj) (errText_ne i hi j hj hij)⟩
theorem env_of_laid {W : World} (h : laidMetH Tryz.prog fullLaid W) : ∃ E, ErrEnv W E := env_of_drop 0 rfl h
end Go.Proofs.YtjhjpijjfpfjeaaGreatDoor
/- The walk of the law QuorumBest. -/
namespace Go.Proofs.YtjhjpijjfpfjeaaGreatDoor.quorumBest
open Go.RowKit Go.BigFrame

set_option maxRecDepth 100000 in
set_option maxHeartbeats 16000000 in
theorem walk_in (n k : Int) (a : Option Addr) (len cap : Nat) (L : List ByteArray) (la : Option Addr) (ll lc : Nat) (ls : List (List Ver)) (w : World) (hin : CfgIn w n k a len cap L) (hll : ls.length = ll) (hlm : ll ≤ 2000000) (hR : VssR w la ls) (ht : totV ls ≤ 1000000) (hL : laidMetH Tryz.prog Rows.quorumBestUptoRow.laid w) :
    Calls Tryz.prog 3 #[.agg #[.int .i64 n, .int .i64 k, .slice a len cap], .slice la ll lc] w fun e w' => e = .returned (.bool true) ∧ Below w.heap.size w w' := by
  obtain ⟨E, hE⟩ := env_of_laid hL
  have hT := hin.t_
  have hcl : cap ≤ 9223372036854775807 := hT.max_
  have hlc := hT.cap_
  have hlm9 : ll ≤ 9223372036854775807 := by omega
  have hB0 : Below w.heap.size w (w.alloc (.cells #[.int .i64 n, .int .i64 k, .slice a len cap] 24)) := (Below.refl _ w).alloc (Nat.le_refl _) _
  have hzs : w.heap.size < (w.alloc (.cells #[.int .i64 n, .int .i64 k, .slice a len cap] 24)).heap.size := by simp
  have HB0 := Lib.hid (And.intro hB0 hzs)
  have HC0 := Lib.hid (CfgAt.new w n k (.slice a len cap))
  have HE := Lib.hid hE
  have HT := Lib.hid hT
  have HV := Lib.hid (And.intro hll (And.intro hlm (And.intro hR ht)))
  have Hen := Lib.hid (lenough_walk _ E (hE.below hB0 (Nat.le_refl _)).qx)
  clear hL hE hin hT hB0 hzs hll hlm hR ht
  go_enter Tryz.func3, Tryz.ntmps3
  go_wp2_with fail
  refine Hen.out.mono ?_
  rintro e w1 ⟨rfl, hb1⟩
  have H1 := Lib.hid (HB0.out.1.trans (hb1.mono HB0.out.1.size))
  have HC1 := Lib.hid (HC0.out.below hb1 HB0.out.2)
  obtain ⟨c0, c1, c2⟩ := HC1.out
  have Hlc := Lib.hid (longc_walk n k w.heap.size a len cap L w1 HT.out.len_ (by have := HT.out.max_; omega) HT.out.sizeAt (HT.out.txs.below H1.out) H1.out.size)
  clear hb1
  obtain ⟨lcv, hlcv⟩ : ∃ lcv, longC L = lcv := ⟨_, rfl⟩
  rw [hlcv] at Hlc
  have Hlv := Lib.hid hlcv
  clear hlcv
  have hlt0 : w.heap.size < w1.heap.size := lt_of_cell c0
  go_wp2_with fail
  refine Hlc.out.mono ?_
  rintro e w2 ⟨rfl, hb2⟩
  have H2 := Lib.hid (H1.out.trans (hb2.mono H1.out.size))
  have HC2 := Lib.hid (HC1.out.below hb2 hlt0)
  clear hb2 c0 c1 c2
  cases lcv with
  | true =>
    go_wp2
    go_ret
    exact ⟨rfl, H2.out⟩
  | false =>
    have hl30 : len ≤ 30 := by have h9 := (longC_no Hlv.out).1; have := HT.out.len_; omega
    have Hmu := Lib.hid (much_walk la ll lc ls w2 HV.out.1 (by unfold maxLen; omega) (HV.out.2.2.1.below H2.out))
    have hlt2 : w.heap.size < w2.heap.size := lt_of_cell HC2.out.c0
    go_wp2_with fail
    refine Hmu.out.mono ?_
    rintro e w3 ⟨⟨mu, rfl⟩, hb3⟩
    have H3 := Lib.hid (H2.out.trans (hb3.mono H2.out.size))
    have HC3 := Lib.hid (HC2.out.below hb3 hlt2)
    clear hb3
    cases mu with
    | true =>
      go_wp2
      go_ret
      exact ⟨rfl, H3.out⟩
    | false =>
      obtain ⟨c0, c1, c2⟩ := HC3.out
      have hlt3 : w.heap.size < w3.heap.size := lt_of_cell c0
      have How := Lib.hid (ownc_walk n k w.heap.size a len cap L w3 HT.out.len_ (by omega) HT.out.nil_ (HT.out.txs.below H3.out) H3.out.size)
      go_wp2_with fail
      refine How.out.mono ?_
      rintro e w4 ⟨⟨v4, rfl, hv4⟩, hb4⟩
      obtain ⟨a4, cp4, rfl, hc4, hm4, _, ht4⟩ := hv4.read
      rw [HT.out.len_] at hc4
      have H4 := Lib.hid (And.intro (H3.out.trans (hb4.mono H3.out.size)) (And.intro (HC3.out.below hb4 hlt3) (And.intro (Nat.lt_of_lt_of_le hlt3 hb4.size) ht4)))
      have Hov := Lib.hid (ownvers_walk la ll lc ls w4 HV.out.1 HV.out.2.1 (HV.out.2.2.1.below H4.out.1) HV.out.2.2.2)
      rw [HT.out.len_]
      clear hb4 hv4 ht4 c0 c1 c2
      go_wp2_with fail
      refine Hov.out.mono ?_
      rintro e w5 ⟨hb5, a5, cp5, rfl, hR5⟩
      have H5 := Lib.hid (And.intro (H4.out.1.trans (hb5.mono H4.out.1.size)) (And.intro (H4.out.2.1.below hb5 H4.out.2.2.1) (And.intro (Nat.lt_of_lt_of_le H4.out.2.2.1 hb5.size) (H4.out.2.2.2.below hb5))))
      have HE5 := HE.out.below H5.out.1 (Nat.le_refl _)
      have Hbe := Lib.hid (best_walk n k w4.heap.size a4 len cp4 L a5 ll cp5 ls w5 E HE5.qx HE5.ef HT.out.len_ hc4 HT.out.sizeAt H5.out.2.2.2 hb5.size HV.out.1 (by unfold maxLen; omega) hR5 HV.out.2.2.2)
      clear hb5 hR5 HE5
      go_wp2_with fail
      refine Hbe.out.mono ?_
      rintro e w6 ⟨hb6, ⟨t1, t2⟩, s6, f6, v6, rfl, hres⟩
      have H6 := Lib.hid (And.intro (H5.out.1.trans (hb6.mono H5.out.1.size)) (And.intro (H5.out.2.1.below hb6 H5.out.2.2.1) (Nat.lt_of_lt_of_le H5.out.2.2.1 hb6.size)))
      have Hres := Lib.hid hres
      have hlt6 : w.heap.size < w6.heap.size := H6.out.2.2
      obtain ⟨W6, hW6⟩ : ∃ W6, w6.alloc (.cells #[.int .i64 t1, .int .i64 t2] 30) = W6 := ⟨_, rfl⟩
      obtain ⟨tb, htb⟩ : ∃ tb, w6.heap.size = tb := ⟨_, rfl⟩
      have hBW : Below w6.heap.size w6 W6 := by rw [← hW6]; exact (Below.refl _ w6).alloc (Nat.le_refl _) _
      have hgT : W6.heap[tb]? = some (.cells #[.int .i64 t1, .int .i64 t2] 30 (0, 0)) := by rw [← hW6, ← htb]; exact heap_alloc_new _ _
      have HX := Lib.hid (And.intro (H6.out.1.trans (hBW.mono H6.out.1.size)) (And.intro (H6.out.2.1.below hBW hlt6) (And.intro hgT (And.intro (Nat.lt_of_lt_of_le hlt6 hBW.size) hBW))))
      obtain ⟨c0, c1, c2⟩ := HX.out.2.1
      have Hcf := Lib.hid (rconfig_walk n k w.heap.size a len cap L W6 HT.out.len_ hlc HT.out.sizeAt (HT.out.txs.below HX.out.1) HX.out.1.size)
      obtain ⟨F, hF⟩ : ∃ F, configF n k L = F := ⟨_, rfl⟩
      have HF := Lib.hid hF
      rw [hF] at Hcf
      have Hw6 := Lib.hid (And.intro hW6 htb)
      clear hb6 hres hF hBW hgT
      go_wp2_with fail
      clear hW6 htb c0 c1 c2
      refine Hcf.out.mono ?_
      rintro e w7 ⟨rfl, hb7⟩
      unfold fltA
      have h7b := HX.out.1.trans (hb7.mono HX.out.1.size)
      have h7c := HX.out.2.1.below hb7 HX.out.2.2.2.1
      have h7t := (hb7.block tb (Array.getElem?_eq_some_iff.1 HX.out.2.2.1).1).trans HX.out.2.2.1
      obtain ⟨W7, hW7⟩ : ∃ W7, w7.alloc (.cells #[.int .i64 (F.1 : Nat), .int .i64 F.2] 38) = W7 := ⟨_, rfl⟩
      obtain ⟨fb, hfb⟩ : ∃ fb, w7.heap.size = fb := ⟨_, rfl⟩
      have hB7 : Below w7.heap.size w7 W7 := by rw [← hW7]; exact (Below.refl _ w7).alloc (Nat.le_refl _) _
      have hgF : W7.heap[fb]? = some (.cells #[.int .i64 (F.1 : Nat), .int .i64 F.2] 38 (0, 0)) := by rw [← hW7, ← hfb]; exact heap_alloc_new _ _
      have hlt7 : w.heap.size < w7.heap.size := Nat.lt_of_lt_of_le HX.out.2.2.2.1 hb7.size
      have H7 := Lib.hid (And.intro (h7b.trans (hB7.mono h7b.size)) (And.intro (h7c.below hB7 hlt7) (And.intro ((hB7.block tb (Array.getElem?_eq_some_iff.1 h7t).1).trans h7t) (And.intro hgF (And.intro (HX.out.2.2.2.2.trans ((hb7.trans (hB7.mono hb7.size)).mono HX.out.2.2.2.2.size)) (show w.heap.size ≤ fb by rw [← hfb]; exact Nat.le_of_lt hlt7))))))
      obtain ⟨c0, c1, c2⟩ := H7.out.2.1
      have p0 : W7.cell? ⟨fb, 0, none⟩ = some (.int .i64 (F.1 : Nat)) := cell_of_heap hgF 0
      have p1 : W7.cell? ⟨fb, 1, none⟩ = some (.int .i64 F.2) := cell_of_heap hgF 1
      have z0 := frozen_of_heap hgF 0
      have z1 := frozen_of_heap hgF 1
      have s0 : W7.cell? ⟨tb, 0, none⟩ = some (.int .i64 t1) := cell_of_heap H7.out.2.2.1 0
      have s1 : W7.cell? ⟨tb, 1, none⟩ = some (.int .i64 t2) := cell_of_heap H7.out.2.2.1 1
      clear h7b h7c h7t hB7 hgF hlt7 hb7
      rcases Hres.out with ⟨r0, r1, r2, r3⟩ | ⟨r0, r1, r2, r3⟩ | ⟨r0, r1, r2, r3⟩
      · have hE7 := HE.out.below H7.out.1 (Nat.le_refl _)
        obtain ⟨e1, e2, e3⟩ : (t1, t2) = ((0 : Int), (0 : Int)) ∧ s6 = ⟨#[]⟩ ∧ f6 = false := by
          have h9 := r1
          simp only [bestAns, Prod.mk.injEq] at h9
          exact ⟨by rw [h9.1.1, h9.1.2], h9.2.1, h9.2.2⟩
        cases e1
        subst e2 e3
        rw [HF.out] at r0 r3
        have Hfl := Lib.hid (faulted2_walk E F F v6 true W7 hE7 (r3.below H7.out.2.2.2.2.1 (Nat.le_refl _)) (by simp))
        have hz : ¬ ((F.1 : Nat) : Int) = 0 := by omega
        have hz2 : F.1 ≠ 0 := r0
        have hz3 : (0 : Int) < ((F.1 : Nat) : Int) := by omega
        have hz4 : 0 < F.1 := by omega
        clear r0 r1 r2 r3 hE7
        go_wp2_with fail
        refine Hfl.out.mono ?_
        rintro e w8 ⟨rfl, hb8⟩
        have HN := Lib.hid (H7.out.1.trans (hb8.mono H7.out.1.size))
        have s80 := (hb8.cell (p := ⟨tb, 0, none⟩) (Array.getElem?_eq_some_iff.1 H7.out.2.2.1).1).trans s0
        have s81 := (hb8.cell (p := ⟨tb, 1, none⟩) (Array.getElem?_eq_some_iff.1 H7.out.2.2.1).1).trans s1
        clear hb8
        go_wp2_with fail
        go_ret
        exact ⟨by simp, HN.out⟩
      · obtain ⟨_, _, _, _, hFe⟩ := configF_zero r0
        rw [HF.out] at hFe
        subst hFe
        dsimp only at p0 p1 hW7 ⊢
        replace hW7 : w7.alloc (.cells #[.int .i64 0, .int .i64 (-1)] 38) = W7 := hW7
        replace p0 : W7.cell? ⟨fb, 0, none⟩ = some (.int .i64 0) := p0
        obtain ⟨e1, e2, e3⟩ : (t1, t2) = ((0 : Int), (0 : Int)) ∧ s6 = ⟨#[]⟩ ∧ f6 = false := by
          have h9 := r2
          simp only [bestAns, Prod.mk.injEq] at h9
          exact ⟨by rw [h9.1.1, h9.1.2], h9.2.1, h9.2.2⟩
        cases e1
        subst e2 e3 r3
        have hlt : n < (ll : Int) := by have := HV.out.1; omega
        have Hba := Lib.hid (bare_walk 3 W7)
        clear r0 r1 r2
        go_wp2_with fail
        refine Hba.out.mono ?_
        rintro e w8 ⟨rfl, hb8⟩
        have hF8 : w8.heap[fb]? = some (.cells #[.int .i64 0, .int .i64 (-1)] 38 (0, 0)) := (hb8.block fb (Array.getElem?_eq_some_iff.1 H7.out.2.2.2.1).1).trans H7.out.2.2.2.1
        have hT8 := (hb8.block tb (Array.getElem?_eq_some_iff.1 H7.out.2.2.1).1).trans H7.out.2.2.1
        have hne : fb ≠ tb := fun e => by
          rw [e, hT8] at hF8
          simp at hF8
        obtain ⟨W9, hW9⟩ : ∃ W9, (w8.setCell ⟨fb, 0, none⟩ (.int .i64 3)).setCell ⟨fb, 1, none⟩ (.int .i64 (-1)) = W9 := ⟨_, rfl⟩
        have h1 := heap_setCell_same w8 fb 0 _ _ (.int .i64 3) hF8
        have h2 := heap_setCell_same (w8.setCell ⟨fb, 0, none⟩ (.int .i64 3)) fb 1 _ _ (.int .i64 (-1)) h1
        have hT9 := ((Below.heap_setCell (w8.setCell ⟨fb, 0, none⟩ (.int .i64 3)) ⟨fb, 1, none⟩ (.int .i64 (-1)) tb (Ne.symm hne)).trans (Below.heap_setCell w8 ⟨fb, 0, none⟩ (.int .i64 3) tb (Ne.symm hne))).trans hT8
        rw [hW9] at h2 hT9
        have y0 := frozen_of_heap hF8 0
        have y1 := frozen_of_heap hF8 1
        have g0 : w8.cell? ⟨fb, 0, none⟩ = some (.int .i64 0) := cell_of_heap hF8 0
        have g1 : w8.cell? ⟨fb, 1, none⟩ = some (.int .i64 (-1)) := cell_of_heap hF8 1
        have p90 : W9.cell? ⟨fb, 0, none⟩ = some (.int .i64 3) := (cell_of_heap h2 0).trans (by simp)
        have p91 : W9.cell? ⟨fb, 1, none⟩ = some (.int .i64 (-1)) := (cell_of_heap h2 1).trans (by simp)
        have s90 : W9.cell? ⟨tb, 0, none⟩ = some (.int .i64 0) := cell_of_heap hT9 0
        have s91 : W9.cell? ⟨tb, 1, none⟩ = some (.int .i64 0) := cell_of_heap hT9 1
        have hb9 : Below w.heap.size w W9 := by rw [← hW9]; exact ((H7.out.1.trans (hb8.mono H7.out.1.size)).setCell H7.out.2.2.2.2.2 _).setCell H7.out.2.2.2.2.2 _
        have Hfl := Lib.hid (faulted2_walk E (3, -1) (3, -1) (errV (E 2)) true W9 (HE.out.below hb9 (Nat.le_refl _)) (.inr (.inl ⟨2, by decide, rfl, rfl⟩)) (by simp))
        have H9 := Lib.hid (And.intro hb9 hT9)
        clear hb8 hF8 hT8 hne h1 h2 hT9 hb9
        go_wp2_with fail
        refine Hfl.out.mono ?_
        rintro e w10 ⟨rfl, hb10⟩
        have s100 := (hb10.cell (p := ⟨tb, 0, none⟩) (Array.getElem?_eq_some_iff.1 H9.out.2).1).trans s90
        have s101 := (hb10.cell (p := ⟨tb, 1, none⟩) (Array.getElem?_eq_some_iff.1 H9.out.2).1).trans s91
        have HN := Lib.hid (H9.out.1.trans (hb10.mono H9.out.1.size))
        clear hb10
        go_wp2_with fail
        go_ret
        exact ⟨by simp, HN.out⟩
      · obtain ⟨⟨hk1, hkn, hn12⟩, _, _, _, hFe⟩ := configF_zero r0
        rw [HF.out] at hFe
        subst hFe
        dsimp only at p0 p1 hW7 ⊢
        replace hW7 : w7.alloc (.cells #[.int .i64 0, .int .i64 (-1)] 38) = W7 := hW7
        replace p0 : W7.cell? ⟨fb, 0, none⟩ = some (.int .i64 0) := p0
        obtain ⟨n, rfl⟩ : ∃ m : Nat, n = (m : Int) := ⟨n.toNat, by omega⟩
        obtain ⟨k, rfl⟩ : ∃ m : Nat, k = (m : Int) := ⟨k.toNat, by omega⟩
        have hle : ¬ (n : Int) < ll := by have := HV.out.1; omega
        have hle2 : ¬ n < ll := by omega
        have Hrb := Lib.hid (rbest_walk n k a len cap la ll lc ls W7 (by omega) (by omega) (by omega) HV.out.1 (by unfold maxLen; omega) (HV.out.2.2.1.below H7.out.1) HV.out.2.2.2)
        subst r2
        rw [Int.toNat_natCast, Int.toNat_natCast] at r3
        have Hr3 := Lib.hid r3
        clear r0 r1 r3 hk1 hkn hn12
        go_wp2_with fail
        refine Hrb.out.mono ?_
        rintro e w8 ⟨hb8, ⟨u1, u2⟩, s8, f8, rfl, hu⟩
        have heq := Hr3.out.trans hu.symm
        simp only [Prod.mk.injEq] at heq
        obtain ⟨⟨rfl, rfl⟩, rfl, rfl⟩ := heq
        have hT8 := (hb8.block tb (Array.getElem?_eq_some_iff.1 H7.out.2.2.1).1).trans H7.out.2.2.1
        obtain ⟨W8, hW8⟩ : ∃ W8, w8.alloc (.cells #[.int .i64 t1, .int .i64 t2] 30) = W8 := ⟨_, rfl⟩
        obtain ⟨ub, hub⟩ : ∃ ub, w8.heap.size = ub := ⟨_, rfl⟩
        have hB8 : Below w8.heap.size w8 W8 := by rw [← hW8]; exact (Below.refl _ w8).alloc (Nat.le_refl _) _
        have hgU : W8.heap[ub]? = some (.cells #[.int .i64 t1, .int .i64 t2] 30 (0, 0)) := by rw [← hW8, ← hub]; exact heap_alloc_new _ _
        have hT9 := (hB8.block tb (Array.getElem?_eq_some_iff.1 hT8).1).trans hT8
        have q0 : W8.cell? ⟨tb, 0, none⟩ = some (.int .i64 t1) := cell_of_heap hT9 0
        have q1 : W8.cell? ⟨tb, 1, none⟩ = some (.int .i64 t2) := cell_of_heap hT9 1
        have y0 : W8.cell? ⟨ub, 0, none⟩ = some (.int .i64 t1) := cell_of_heap hgU 0
        have y1 : W8.cell? ⟨ub, 1, none⟩ = some (.int .i64 t2) := cell_of_heap hgU 1
        have h8 := H7.out.1.trans (hb8.mono H7.out.1.size)
        have HN := Lib.hid (h8.trans (hB8.mono h8.size))
        clear hb8 hu hT8 hB8 hgU hT9 h8
        go_wp2_with fail
        go_ret
        exact ⟨by simp, HN.out⟩
theorem walk (n k : Int) (a : Option Addr) (len cap : Nat) (L : List ByteArray) (la : Option Addr) (ll lc : Nat) (ls : List (List Ver)) (w : World) (hin : CfgIn w n k a len cap L) (hv : VssIn w la ll lc ls) (hb : vssbulk ls ≤ 1048576) (hL : laidMetH Tryz.prog Rows.quorumBestUptoRow.laid w) :
    Calls Tryz.prog 3 #[.agg #[.int .i64 n, .int .i64 k, .slice a len cap], .slice la ll lc] w fun e w' => e = .returned (.bool true) ∧ Below w.heap.size w w' := by
  unfold vssbulk at hb
  have h1 := Nat.le_trans (Nat.le_max_left _ _) hb
  have h2 := Nat.le_trans (Nat.le_max_right _ _) hb
  have h3 := hv.1
  exact walk_in n k a len cap L la ll lc ls w hin hv.1 (by omega) hv.2.2.2 (by omega) hL
end Go.Proofs.YtjhjpijjfpfjeaaGreatDoor.quorumBest
/- The closed facts of the form that speak of the program alone: asked once for all rows of this seat. -/
namespace Go.Proofs.YtjhjpijjfpfjeaaGreatDoor
namespace Closed
theorem and_mk {a b : Bool} (ha : a = true) (hb : b = true) : (a && b) = true := by rw [ha, hb]; rfl
theorem laidOut : laidOutB Tryz.prog = true := by kernel_rfl
theorem mapsRowed : Go.mapsRowed Tryz.prog = true := by kernel_rfl
theorem stops : (Tryz.prog.stops == []) = true := by kernel_rfl
theorem stopKnobs : (Tryz.prog.stopKnobs == []) = true := by kernel_rfl
theorem plainKeys : (Rows.quorumBestRow.plainKeys == Tryz.prog.plainKeys) = true := by kernel_rfl
theorem stopsHeard : Tryz.prog.stopsHeard = true := by kernel_rfl
theorem mayEnter : Tryz.prog.mayEnter = true := by kernel_rfl
theorem lifted : (Rows.quorumBestRow.lifted == Tryz.prog.liftsFinal) = true := by kernel_rfl
theorem make : (Tryz.prog.make == some Rows.quorumBestRow.make) = true := by kernel_rfl
theorem pinned : (Rows.quorumBestRow.pinned == Rows.quorumBestRow.pinnedBy) = true := by kernel_rfl
end Closed
end Go.Proofs.YtjhjpijjfpfjeaaGreatDoor
