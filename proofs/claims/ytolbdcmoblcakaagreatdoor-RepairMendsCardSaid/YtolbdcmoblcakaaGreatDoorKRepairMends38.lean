/- The walk of the law RepairMends. -/
import Derived.Test.YtolbdcmoblcakaaGreatDoorKRepairMends37
import Derived.Test.YtolbdcmoblcakaaGreatDoorKRepairMends08
import Derived.Deep.DeepCutAuto
import Derived.Deep.CutRange
import Derived.Deep.CutBlock
namespace Go.Proofs.YtolbdcmoblcakaaGreatDoor.repairMends
open Go.RowKit Go.BigFrame

/-- a fault lies at fb. -/
def FBox (w : World) (fb : Nat) (x y : Int) : Prop := w.heap[fb]? = some (.cells #[.int .i64 x, .int .i64 y] 42 (0, 0))
theorem FBox.lt {w : World} {fb : Nat} {x y : Int} (h : FBox w fb x y) : fb < w.heap.size := (Array.getElem?_eq_some_iff.1 h).1
theorem FBox.below {w w' : World} {fb : Nat} {x y : Int} (h : FBox w fb x y) (hb : Below w.heap.size w w') : FBox w' fb x y := (hb.block fb h.lt).trans h
theorem FBox.kept {K : Nat → Prop} {w w' : World} {fb : Nat} {x y : Int} (h : FBox w fb x y) (hk : KeptBut K w w') (hf : ¬ K fb) : FBox w' fb x y := (hk.block fb h.lt hf).trans h
theorem FBox.c0 {w : World} {fb : Nat} {x y : Int} (h : FBox w fb x y) : w.cell? ⟨fb, 0, none⟩ = some (.int .i64 x) := cell_of_heap h 0
theorem FBox.c1 {w : World} {fb : Nat} {x y : Int} (h : FBox w fb x y) : w.cell? ⟨fb, 1, none⟩ = some (.int .i64 y) := cell_of_heap h 1
theorem FBox.set {w : World} {fb : Nat} {x y : Int} (h : FBox w fb x y) (u v : Int) : FBox ((w.setCell ⟨fb, 0, none⟩ (.int .i64 u)).setCell ⟨fb, 1, none⟩ (.int .i64 v)) fb u v := by
  have h1 := heap_setCell_same w fb 0 _ _ (.int .i64 u) h
  have h2 := heap_setCell_same (w.setCell ⟨fb, 0, none⟩ (.int .i64 u)) fb 1 _ _ (.int .i64 v) h1
  exact h2.trans (by simp)
/-- the state of the models' loop. -/
def MoSt (Z : Nat → Prop) (w1 wr : World) (key : ByteArray) (must : List Ver) (lack : List Nat) (sl : List Slot) (R : List (Option (List Kp)) × Int × Nat) (i d : Nat) (e : Int) : Prop :=
  ∃ sl', RackAt Z wr sl' ∧ ptrsH sl' = ptrsH sl ∧ ptrsM sl' = ptrsM sl ∧ consH sl' = consH sl ∧ KeptBut (fun b => ¬ Z b) w1 wr ∧ ((e = 0 ∧ mendF key must (lack.drop i) (consM sl') d = R) ∨ (e ≠ 0 ∧ R = (consM sl', e, d)))
set_option maxRecDepth 100000 in
set_option maxHeartbeats 32000000 in
theorem walk (n k : Int) (a : Option Addr) (len cap : Nat) (L : List ByteArray) (key : ByteArray) (la : Option Addr) (ll lc : Nat) (l : List ShelfS) (w : World) (hin : CfgIn w n k a len cap L) (hkey : key.size ≤ maxLen) (hS : ShsIn w la ll lc l) (hll : ll * 32 ≤ 140737488351232) (hL : laidMetH Tryz.prog Rows.repairMendsRow.laid w) :
    Calls Tryz.prog 3 #[.agg #[.int .i64 n, .int .i64 k, .slice a len cap], .string key, .slice la ll lc] w fun e w' => e = .returned (.bool true) ∧ Below w.heap.size w w' := by
  obtain ⟨E, hE⟩ := env_of_laid hL
  obtain ⟨W0, hW0⟩ : ∃ W0, w.alloc (.cells #[.int .i64 n, .int .i64 k, .slice a len cap] 24) = W0 := ⟨_, rfl⟩
  obtain ⟨cb, hcb⟩ : ∃ cb, w.heap.size = cb := ⟨_, rfl⟩
  have hB0 : Below w.heap.size w W0 := by rw [← hW0]; exact (Below.refl _ w).alloc (Nat.le_refl _) _
  have hC0 : CfgAt W0 cb n k (.slice a len cap) := by rw [← hW0, ← hcb]; exact CfgAt.new w n k (.slice a len cap)
  have hs0 : W0.heap.size = cb + 1 := by rw [← hW0, ← hcb]; simp
  have hlm : ll ≤ 9223372036854775807 := by omega
  have hcl : cap ≤ 9223372036854775807 := hin.t_.max_
  have hlc := hin.t_.cap_
  have hk9 : key.size ≤ 9223372036854775807 := hkey
  have H := Lib.hid (And.intro hin (And.intro hkey (And.intro hS (And.intro hll hE))))
  have H0 := Lib.hid (And.intro hB0 (And.intro hC0 (And.intro hs0 hcb)))
  have Hm := Lib.hid (mended_walk W0 E (hE.below hB0 (Nat.le_refl _)))
  clear hin hkey hS hll hE hL hB0 hC0 hs0
  go_enter Tryz.func3, Tryz.ntmps3
  go_wp2_with fail
  clear hW0
  refine Hm.out.mono ?_
  rintro e w1 ⟨rfl, hb1⟩
  have H1 := Lib.hid (And.intro (H0.out.1.trans (hb1.mono H0.out.1.size)) (And.intro (H0.out.2.1.below hb1 (by rw [H0.out.2.2.1]; omega)) (show cb < w1.heap.size by have := hb1.size; have := H0.out.2.2.1; omega)))
  obtain ⟨c0, c1, c2⟩ := H1.out.2.1
  have Hlt := Lib.hid (longt3_walk w.heap.size a len cap L w1 H.out.1.t_.len_ (by unfold maxLen; omega) H.out.1.t_.sizeAt (H.out.1.t_.txs.below H1.out.1))
  obtain ⟨lt, hlt⟩ : ∃ lt, longT3 L = lt := ⟨_, rfl⟩
  rw [hlt] at Hlt
  have HLT := Lib.hid hlt
  clear hb1 hlt
  go_wp2_with fail
  refine Hlt.out.mono ?_
  rintro e w2 ⟨rfl, rfl⟩
  cases lt with
  | true =>
    go_wp2
    go_ret
    exact ⟨rfl, H1.out.1⟩
  | false =>
    by_cases hk100 : 100 < key.size
    · have hk1 : (100 : Int) < key.size := by omega
      go_wp2
      go_ret
      exact ⟨rfl, H1.out.1⟩
    · have hk1 : ¬ (100 : Int) < key.size := by omega
      have hSw : ShsIn w1 la ll lc l := by
        obtain ⟨s1, s2, s3, s4, s5, s6⟩ := H.out.2.2.1
        exact ⟨s1, s2, s3, s4, (s5.below H1.out.1).mono H1.out.1.size, s6⟩
      have Hsf := Lib.hid (sfit_walk w1 la ll lc l hSw)
      have Hsw := Lib.hid hSw
      clear hSw
      go_wp2_with fail
      refine Hsf.out.mono ?_
      rintro e w3 ⟨⟨r, rfl⟩, hb3⟩
      have H3 := Lib.hid (And.intro (H1.out.1.trans (hb3.mono H1.out.1.size)) (And.intro (H1.out.2.1.below hb3 H1.out.2.2) (And.intro (Nat.lt_of_lt_of_le H1.out.2.2 hb3.size) hb3)))
      clear hb3 c0 c1 c2 hk100
      cases r with
      | false =>
        go_wp2
        go_ret
        exact ⟨rfl, H3.out.1⟩
      | true =>
        have hl30 : len ≤ 30 := by have h9 := (longT3_no HLT.out).1; have := H.out.1.t_.len_; omega
        have hSw : ShsIn w3 la ll lc l := by
          obtain ⟨s1, s2, s3, s4, s5, s6⟩ := Hsw.out
          exact ⟨s1, s2, s3, s4, (s5.below H3.out.2.2.2).mono H3.out.2.2.2.size, s6⟩
        have Hsh := Lib.hid (shelves_walk la ll lc l key w3 E hSw (H.out.2.2.2.2.below H3.out.1 (Nat.le_refl _)).hx' H.out.2.1 (by have := H.out.2.2.2.1; omega))
        clear hSw
        go_wp2_with fail
        refine Hsh.out.mono ?_
        rintro e w4 ⟨va, vb, sl, rfl, hb4, hsl, hoa, hob, hrk, hco⟩
        obtain ⟨pa, ca, rfl, hca, hma, hpa⟩ := own_ptrs hoa
        obtain ⟨pb, cb', rfl, hcb', hmb, hpb⟩ := own_ptrs hob
        rw [size_ptrsH, hsl] at hca ⊢
        rw [size_ptrsM, hsl] at hcb' ⊢
        have hZa : ∀ x, pa = some x → Zof w3.heap.size (.slice pa ll ca) (.slice pb ll cb') x.block := fun x e => .inr (.inl (by rw [e]; rfl))
        have hZb : ∀ x, pb = some x → Zof w3.heap.size (.slice pa ll ca) (.slice pb ll cb') x.block := fun x e => .inr (.inr (by rw [e]; rfl))
        rw [size_ptrsH, hsl, size_ptrsM, hsl] at hrk
        obtain ⟨Z, hZ⟩ : ∃ Z, Zof w3.heap.size (.slice pa ll ca) (.slice pb ll cb') = Z := ⟨_, rfl⟩
        rw [hZ] at hrk hZa hZb
        have hZlow : ∀ b, b < w3.heap.size → Z b := fun b hb => by rw [← hZ]; exact .inl hb
        have S4 : Sit w w4 E n k a len cap L cb key pa pb ll Z sl := ⟨H3.out.1.trans (hb4.mono H3.out.1.size), H.out.2.2.2.2, H3.out.2.1.below hb4 H3.out.2.2.1, hZlow _ H3.out.2.2.1, H.out.1.t_, hl30, H.out.2.1, hsl, hlm, hpa, hpb, hZa, hZb, fun b hb => hZlow b (Nat.lt_of_lt_of_le hb H3.out.1.size), hrk⟩
        have HCO := Lib.hid (And.intro hco hma)
        obtain ⟨c0, c1, c2⟩ := S4.cfg
        have HS4 := Lib.hid S4
        obtain ⟨told, htd⟩ : ∃ told, toldC key (consH sl) = told := ⟨_, rfl⟩
        have HTD := Lib.hid htd
        have Ho4 := Lib.hid S4.own
        unfold cfgV at Ho4
        clear hZa hZb hZ hZlow hrk S4 hpa hpb hca hcb' hma hmb hoa hob hb4 hco hsl htd
        go_wp2_with fail
        refine Ho4.out.mono ?_
        rintro e w5 ⟨a5, cp5, rfl, hb5, hs5, hl5⟩
        have Hmi := Lib.hid (missing_walk hl5 n k ca)
        have HS5 := Lib.hid hs5
        unfold cfgV at Hmi
        clear hb5 hs5 hl5 c0 c1 c2
        go_wp2_with fail
        refine Hmi.out.mono ?_
        rintro e w6 ⟨hb6, vm6, vl6, v6, rfl, hr6⟩
        have S6 := HS5.out.below hb6
        have HS6 := Lib.hid S6
        have HR6 := Lib.hid hr6
        obtain ⟨c0, c1, c2⟩ := S6.cfg
        have Ho6 := Lib.hid S6.own
        unfold cfgV at Ho6
        clear S6 hb6 hr6
        go_wp2_with fail
        refine Ho6.out.mono ?_
        rintro e w7 ⟨a7, cp7, rfl, hb7, hs7, hl7⟩
        have Hst := Lib.hid (stand_walk hl7 n k ca)
        have HS7 := Lib.hid (And.intro hs7 hb7)
        unfold cfgV at Hst
        clear hb7 hs7 hl7 c0 c1 c2
        go_wp2_with fail
        refine Hst.out.mono ?_
        rintro e w8 ⟨hb8, z8, v8, rfl, hr8⟩
        have S8 := HS7.out.1.below hb8
        have hB68 : Below w6.heap.size w6 w8 := HS7.out.2.trans (hb8.mono HS7.out.2.size)
        have HS8 := Lib.hid (And.intro S8 hB68)
        have HR8 := Lib.hid hr8
        obtain ⟨c0, c1, c2⟩ := S8.cfg
        have Hcf := Lib.hid (rconfig_walk n k w.heap.size a len cap L w8 H.out.1.t_.len_ hlc H.out.1.t_.sizeAt (H.out.1.t_.txs.below S8.bel) S8.bel.size)
        obtain ⟨F, hF⟩ : ∃ F, configF n k L = F := ⟨_, rfl⟩
        have HF := Lib.hid hF
        rw [hF] at Hcf
        unfold cfgV at Hcf
        clear S8 hb8 hB68 hr8 hF
        go_wp2_with fail
        refine Hcf.out.mono ?_
        rintro e w9 ⟨rfl, hb9⟩
        unfold fltA
        obtain ⟨W9, hW9⟩ : ∃ W9, w9.alloc (.cells #[.int .i64 (F.1 : Nat), .int .i64 F.2] 42) = W9 := ⟨_, rfl⟩
        obtain ⟨fb, hfb⟩ : ∃ fb, w9.heap.size = fb := ⟨_, rfl⟩
        have hBW : Below w9.heap.size w9 W9 := by rw [← hW9]; exact (Below.refl _ w9).alloc (Nat.le_refl _) _
        have hgF : FBox W9 fb (F.1 : Nat) F.2 := by rw [← hW9, ← hfb]; exact heap_alloc_new _ _
        have hB89 : Below w8.heap.size w8 W9 := hb9.trans (hBW.mono hb9.size)
        have S9 := HS8.out.1.grow hB89
        obtain ⟨Z9, hZ9⟩ : ∃ Z9 : Nat → Prop, (fun b => Z b ∨ (w8.heap.size ≤ b ∧ b < W9.heap.size)) = Z9 := ⟨_, rfl⟩
        rw [hZ9] at S9
        have hfz : Z9 fb := by rw [← hZ9]; exact .inr ⟨by rw [← hfb]; exact hb9.size, hgF.lt⟩
        have HS9 := Lib.hid (And.intro S9 (And.intro hgF (And.intro hfz (And.intro (HS8.out.2.trans (hB89.mono HS8.out.2.size)) (And.intro hB89 (show w8.heap.size ≤ fb by rw [← hfb]; exact hb9.size))))))
        have p0 := hgF.c0
        have p1 := hgF.c1
        have z0 := frozen_of_heap hgF 0
        have z1 := frozen_of_heap hgF 1
        have hn64 := H.out.1.n_
        obtain ⟨c0', c1', c2'⟩ := S9.cfg
        clear S9 hgF hfz hB89 hBW hb9 hZ9
        by_cases hF0 : F.1 = 0
        · obtain ⟨⟨hk1', hkn', hn12'⟩, _, _, _, hFe⟩ := configF_zero (show (configF n k L).1 = 0 by rw [HF.out]; exact hF0)
          rw [HF.out] at hFe
          subst hFe
          replace hW9 : w9.alloc (.cells #[.int .i64 0, .int .i64 (-1)] 42) = W9 := hW9
          replace p0 : W9.cell? ⟨fb, 0, none⟩ = some (.int .i64 0) := p0
          replace p1 : W9.cell? ⟨fb, 1, none⟩ = some (.int .i64 (-1)) := p1
          dsimp only
          have HK := Lib.hid (And.intro hk1' (And.intro hkn' hn12'))
          clear hF0
          by_cases hln : (ll : Int) = n
          · obtain rfl : n = (ll : Int) := hln.symm
            obtain ⟨k, rfl⟩ : ∃ m : Nat, k = (m : Int) := ⟨k.toNat, by omega⟩
            have HCF := Lib.hid (show (configF (ll : Int) (k : Int) L).1 = 0 by rw [HF.out])
            obtain ⟨rfl, hr6⟩ : v6 = .nilIface ∧ ((bestOf ll k told).2.2 = false ∧ vl6 = .slice none 0 0 ∨ ∃ t s, bestOf ll k told = (t, s, true) ∧ OwnZ w5.heap.size w6 vl6 (lackL (mustL ll k t s) told)) := by
              rcases HR6.out with ⟨r0, _⟩ | ⟨_, r1, _⟩ | ⟨_, _, r2, r3⟩
              · exact absurd HCF.out r0
              · exact absurd rfl r1
              · rw [Int.toNat_natCast, Int.toNat_natCast, HTD.out] at r3
                rcases r3 with ⟨q1, _, q3⟩ | ⟨t, s, q1, _, q3⟩
                · exact ⟨r2, .inl ⟨q1, q3⟩⟩
                · exact ⟨r2, .inr ⟨t, s, q1, q3⟩⟩
            have hr8 : (bestOf ll k told).2.2 = false ∧ z8 = 0 ∧ v8 = errV (E 4) ∨ ∃ t s, bestOf ll k told = (t, s, true) ∧ v8 = .nilIface ∧ z8 = max 0 ((ll : Int) - ((lackL (mustL ll k t s) told).length : Nat) - k) := by
              rcases HR8.out with ⟨r0, _⟩ | ⟨_, r1, _⟩ | ⟨_, _, r3⟩
              · exact absurd HCF.out r0
              · exact absurd rfl r1
              · rw [Int.toNat_natCast, Int.toNat_natCast, HTD.out] at r3
                exact r3
            have HR := Lib.hid (And.intro hr6 hr8)
            have hla := rlack_walk ll k a len cap key pb ll cb' Z9 sl W9 (by have := HK.out.1; omega) (by have := HK.out.2.1; omega) (by have := HK.out.2.2; omega) HS9.out.1.pl_ rfl HS9.out.1.ptrM HS9.out.1.rack
            rw [← HCO.out.1, HTD.out] at hla
            have Hla := Lib.hid hla
            unfold cfgV at Hla
            clear hr6 hr8 hla hk1' hkn' hn12' c0 c1 c2
            go_wp2_with fail
            clear hW9 hfb z0 z1 p0 p1
            refine Hla.out.mono ?_
            rintro e w10 ⟨hb10, vm10, vl10, rfl, hr10⟩
            have S10 := HS9.out.1.below hb10
            have HS10 := Lib.hid (And.intro S10 (And.intro (HS9.out.2.2.2.1.trans (hb10.mono HS9.out.2.2.2.1.size)) hb10))
            obtain ⟨d0, d1, d2⟩ := S10.cfg
            clear hb10 S10 c0' c1' c2'
            rcases hr10 with ⟨hf, rfl, rfl⟩ | ⟨t, s, hbo, hom, hoz⟩
            · obtain ⟨rfl, rfl, rfl⟩ : vl6 = .slice none 0 0 ∧ z8 = 0 ∧ v8 = errV (E 4) := by
                rcases HR.out.1 with ⟨_, r1⟩ | ⟨t, s, r1, _⟩
                · rcases HR.out.2 with ⟨_, r2, r3⟩ | ⟨t, s, r2, _⟩
                  · exact ⟨r1, r2, r3⟩
                  · rw [r2] at hf; cases hf
                · rw [r1] at hf; cases hf
              have HFF := Lib.hid hf
              have Hsi := Lib.hid (samei_walk none none 0 0 [] w10 (by simp) (.inl rfl) (.inl rfl))
              clear hf
              go_wp2_with fail
              refine Hsi.out.mono ?_
              rintro e w11 ⟨rfl, hb11⟩
              have S11 := HS10.out.1.below hb11
              have Ho11 := Lib.hid S11.own
              have HS11 := Lib.hid S11
              obtain ⟨e0, e1, e2⟩ := S11.cfg
              unfold cfgV at Ho11
              clear hb11 S11 d0 d1 d2
              go_wp2_with fail
              refine Ho11.out.mono ?_
              rintro e w12 ⟨a12, cp12, rfl, hb12, hs12, hl12⟩
              have Hme := Lib.hid (mend_walk hl12 ll k ca hs12.pzH hs12.hx)
              have HS12 := Lib.hid hs12
              unfold cfgV at Hme
              clear hb12 hs12 hl12 e0 e1 e2
              go_wp2_with fail
              refine Hme.out.mono ?_
              rintro e w13 ⟨z13, v13, rfl, hr13⟩
              obtain ⟨rfl, rfl, hb13⟩ : z13 = 0 ∧ v13 = .nilIface ∧ Below w12.heap.size w12 w13 := by
                rcases hr13 with ⟨r0, _⟩ | ⟨_, r1, _⟩ | ⟨_, _, ⟨_, r1, r2, r3⟩ | ⟨t, s, sl', r1, _⟩⟩
                · exact absurd HCF.out r0
                · exact absurd rfl r1
                · exact ⟨r1, r2, r3⟩
                · rw [Int.toNat_natCast, Int.toNat_natCast, HTD.out] at r1
                  have h9 := HFF.out
                  rw [r1] at h9; cases h9
              have Hcd := Lib.hid (coded3_err E 4 (by decide) 5 w13 (HS12.out.below hb13).errs)
              have HB13 := Lib.hid (HS12.out.below hb13).bel
              clear hr13 hb13
              go_wp2_with fail
              refine Hcd.out.mono ?_
              rintro e w14 ⟨rfl, hb14⟩
              have HN := Lib.hid (HB13.out.trans (hb14.mono HB13.out.size))
              clear hb14
              go_wp2_with fail
              go_ret
              exact ⟨by simp, HN.out⟩
            · obtain ⟨hz6, rfl, hz8⟩ : OwnZ w5.heap.size w6 vl6 (lackL (mustL ll k t s) told) ∧ v8 = .nilIface ∧ z8 = max 0 ((ll : Int) - ((lackL (mustL ll k t s) told).length : Nat) - k) := by
                rcases HR.out.1 with ⟨r1, _⟩ | ⟨t', s', r1, r2⟩
                · rw [hbo] at r1; cases r1
                · rcases HR.out.2 with ⟨q1, _⟩ | ⟨t'', s'', q1, q2, q3⟩
                  · rw [hbo] at q1; cases q1
                  · rw [hbo] at r1 q1
                    simp only [Prod.mk.injEq, and_true] at r1 q1
                    obtain ⟨rfl, rfl⟩ := r1
                    obtain ⟨rfl, rfl⟩ := q1
                    exact ⟨r2, q2, q3⟩
              have hml := mustL_length ll k t s
              have hlt := lackL_lt (must := mustL ll k t s) (told := told)
              have hle := lackL_len (mustL ll k t s) told
              rw [hml] at hlt hle
              obtain ⟨must, hmu⟩ : ∃ must, mustL ll k t s = must := ⟨_, rfl⟩
              rw [hmu] at hml hlt hle hz6 hom hoz hz8
              obtain ⟨lack, hlk⟩ : ∃ lack, lackL must told = lack := ⟨_, rfl⟩
              rw [hlk] at hlt hle hz6 hoz hz8
              obtain ⟨m, hm⟩ : ∃ m, lack.length = m := ⟨_, rfl⟩
              rw [hm] at hle hz8
              have hob := hoz.lt
              have hmb' := hom.lt
              obtain ⟨la6, lc6, rfl, _, _, _, hi6⟩ := hz6.read
              obtain ⟨la10, lc10, rfl, _, _, _, hi10⟩ := hoz.read
              obtain ⟨ma, mc, rfl, _, _, _, hmr⟩ := hom.read
              rw [hm, hml]
              have Hsi0 := samei_walk la6 la10 lc6 lc10 (lack.map fun n : Nat => (n : Int)) w10 (by rw [List.length_map, hm]; unfold maxLen; omega) (hi6.below HS10.out.2.1) hi10
              rw [List.length_map, hm] at Hsi0
              have Hsi := Lib.hid Hsi0
              obtain ⟨Z10, hZ10⟩ : ∃ Z10 : Nat → Prop, (fun b => Z9 b ∨ (W9.heap.size ≤ b ∧ b < w10.heap.size)) = Z10 := ⟨_, rfl⟩
              have S10g := HS9.out.1.grow HS10.out.2.2
              rw [hZ10] at S10g
              have hZN : ∀ b, W9.heap.size ≤ b → b < w10.heap.size → Z10 b := fun b h1 h2 => by rw [← hZ10]; exact .inr ⟨h1, h2⟩
              have hlz : ∀ x, la10 = some x → Z10 x.block := fun x e => by
                obtain ⟨h1, h2⟩ := hob x.block (by rw [e]; rfl)
                exact hZN _ h1 h2
              have hmz : ∀ x, ma = some x → Z10 x.block := fun x e => by
                obtain ⟨h1, h2⟩ := hmb' x.block (by rw [e]; rfl)
                exact hZN _ h1 h2
              have HX := Lib.hid (And.intro hml (And.intro hlt (And.intro hm (And.intro hlz (And.intro hmz (And.intro hi10 (And.intro hmr (And.intro hlk (And.intro hmu hbo)))))))))
              have HS10g := Lib.hid S10g
              have hm12 : m ≤ 12 := by have := HK.out.2.2; omega
              have hll12 : ll ≤ 12 := by have := HK.out.2.2; omega
              have hll1 : 1 ≤ ll := by have := HK.out.1; have := HK.out.2.1; omega
              have hk12 : k ≤ 12 := by have := HK.out.2.1; omega
              have Hcs : Hid (((ll : Int) - m - k < 0 ∧ z8 = 0) ∨ (¬ (ll : Int) - m - k < 0 ∧ z8 = (ll : Int) - m - k)) := Lib.hid (by
                rcases Int.lt_or_le ((ll : Int) - m - k) 0 with h9 | h9
                · exact .inl ⟨h9, by rw [hz8]; omega⟩
                · exact .inr ⟨by omega, by rw [hz8]; omega⟩)
              clear hz8
              have g1 : ¬ ((ll : Int) = 0) := by omega
              have g2 : ((ll : Int) == 0) = false := beq_eq_false_iff_ne.2 g1
              have g3 : (ll == 0) = false := by simpa using (show ll ≠ 0 by omega)
              clear hZ10 S10g hZN hlz hmz hi10 hmr hlk hmu hbo hml hlt hm hob hmb' hi6 hz6 hom hoz Hsi0
              go_wp2_with fail
              refine Hsi.out.mono ?_
              rintro e w11 ⟨rfl, hb11⟩
              have S11 := HS10g.out.below hb11
              have HS11 := Lib.hid (And.intro S11 hb11)
              obtain ⟨e0, e1, e2⟩ := S11.cfg
              clear hb11 S11 d0 d1 d2
              obtain ⟨R, hR⟩ : ∃ R, mendF key must lack (consH sl) 0 = R := ⟨_, rfl⟩
              have HRR := Lib.hid hR
              clear hR
              have hzi : -9223372036854775808 ≤ z8 ∧ z8 ≤ 9223372036854775807 := by
                rcases Hcs.out with ⟨_, h⟩ | ⟨_, h⟩ <;> omega
              go_upto_if 169 with fail
              go_cut [21] from 168 (fun s21 wx => s21 = .int .i64 z8 ∧ wx = w11)
              case first =>
                rcases Hcs.out with ⟨hst, rfl⟩ | ⟨hst, rfl⟩
                all_goals
                  clear Hcs
                  go_wp2_with fail
                  go_meet
                  exact ⟨rfl, rfl⟩
              case rest =>
                obtain ⟨rfl, rfl⟩ := hcut
                have hzz : (z8 != z8) = false := by simp
                have hzz2 : decide (z8 = z8) = true := by simp
                have hzz3 : (z8 == z8) = true := by simp
                clear Hcs
                rename World => wa
                go_upto_block 0 with fail
                go_cut [22, 23, 24, 25] from 177 (fun s22 s23 s24 s25 wx => ∃ (d : Nat) (e : Int), s23 = .int .i64 d ∧ d ≤ 12 ∧ s22 = .int .i64 e ∧ Hid (∃ sl', RackAt Z10 wx sl' ∧ ptrsH sl' = ptrsH sl ∧ ptrsM sl' = ptrsM sl ∧ consH sl' = consH sl ∧ KeptBut (fun b => ¬ Z10 b) wa wx ∧ R = (consM sl', e, d)))
                case first =>
                  go_wp2_with fail
                  go_loopw [22, 23, 24] (fun ve vd vi wr => ∃ (i d : Nat) (e : Int), i ≤ m ∧ d ≤ i ∧ vi = .int .i64 i ∧ vd = .int .i64 d ∧ ve = .int .i64 e ∧ Hid (MoSt Z10 wa wr key must lack sl R i d e)) (fun _ _ vi _ => m - (intOf vi).toNat)
                  case atStart => exact ⟨0, 0, 0, by omega, by omega, rfl, rfl, rfl, Lib.hid ⟨sl, HS11.out.1.rack, rfl, rfl, rfl, KeptBut.refl _ _, .inl ⟨rfl, by rw [List.drop_zero, ← HCO.out.1]; exact HRR.out⟩⟩⟩
                  case round =>
                    obtain ⟨i, d, e, hi, hdi, rfl, rfl, rfl, Hr⟩ := hrel
                    obtain ⟨sl', hrk, hph, hpm, hch, hkp, hme⟩ := Hr.out
                    have hgo : (i < m ∧ e = 0) ∨ (R = (consM sl', e, d) ∧ (e ≠ 0 ∨ m = i)) := by
                      rcases hme with ⟨h1, h2⟩ | ⟨h1, h2⟩
                      · by_cases h9 : i < m
                        · exact .inl ⟨h9, h1⟩
                        · have h8 : i = m := by omega
                          subst h8
                          refine .inr ⟨?_, .inr rfl⟩
                          rw [← h2, ← HX.out.2.2.1, List.drop_length, h1]; rfl
                      · exact .inr ⟨h2, .inl h1⟩
                    rcases hgo with ⟨hilt, rfl⟩ | ⟨hRe, hex⟩
                    · have hme2 : mendF key must (lack.drop i) (consM sl') d = R := by
                        rcases hme with ⟨_, h2⟩ | ⟨h1, _⟩
                        · exact h2
                        · exact absurd rfl h1
                      have hilt2 : (i : Int) < m := by omega
                      obtain ⟨q, hq⟩ : ∃ q, lack[i]?.getD 0 = q := ⟨_, rfl⟩
                      have hil : i < lack.length := by rw [HX.out.2.2.1]; exact hilt
                      have hqn : q < ll := HX.out.2.1 q (by rw [← hq, List.getElem?_eq_getElem hil]; exact List.getElem_mem hil)
                      have hqn2 : (q : Int) < ll := by omega
                      obtain ⟨lb, lo, rfl, hlc1⟩ : ∃ lb lo, la10 = some ⟨lb, lo, none⟩ ∧ wr.cell? ⟨lb, lo + i, none⟩ = some (.int .i64 (q : Int)) := by
                        rcases HX.out.2.2.2.2.2.1 with he | ⟨lb, lo, h, hc⟩
                        · exfalso
                          have h9 : lack = [] := by simpa using he
                          rw [h9] at hil; simp at hil
                        · refine ⟨lb, lo, h, ?_⟩
                          have h9 := hc i (by simpa using hil)
                          rw [List.getElem?_map, List.getElem?_eq_getElem hil] at h9
                          have h8 := (HS11.out.2.cell (p := ⟨lb, lo + i, none⟩) (lt_of_cell h9)).trans h9
                          refine kept_in (p := ⟨lb, lo + i, none⟩) hkp (show Z10 lb from HX.out.2.2.2.1 _ h) (h8.trans ?_)
                          rw [← hq, List.getElem?_eq_getElem hil]; rfl
                      have hqs : q < sl'.length := by
                        have h1 := size_ptrsH sl'
                        rw [hph, size_ptrsH, HS11.out.1.pl_] at h1
                        omega
                      obtain ⟨s', hs'⟩ : ∃ s', sl'[q]? = some s' := ⟨_, List.getElem?_eq_getElem hqs⟩
                      obtain ⟨b, off, rfl, hpc⟩ : ∃ b off, pb = some ⟨b, off, none⟩ ∧ wr.cell? ⟨b, off + q, none⟩ = some (.pointer (s'.map fun x => (⟨x.2.1, 0, none⟩ : Addr))) := by
                        rcases HS11.out.1.ptrM with he | ⟨b, off, h, hb, hc⟩
                        · exfalso
                          have h9 := size_ptrsM sl
                          rw [he, HS11.out.1.pl_] at h9; simp at h9; omega
                        · refine ⟨b, off, h, ?_⟩
                          have h9 := hc q (by rw [size_ptrsM, HS11.out.1.pl_]; exact hqn)
                          rw [← hpm, ptrsM_at hs'] at h9
                          exact kept_in (p := ⟨b, off + q, none⟩) hkp (show Z10 b from HS11.out.1.pzM _ h) h9
                      have hdr : lack.drop i = q :: lack.drop (i + 1) := by rw [← hq]; exact drop_at 0 hil
                      rw [hdr] at hme2
                      have hsc := consM_is hs'
                      cases s' with
                      | none =>
                        rw [mendF_none (by rw [hsc]; rfl)] at hme2
                        have HN : Hid (MoSt Z10 wa wr key must lack sl R (i + 1) d 0) := Lib.hid ⟨sl', hrk, hph, hpm, hch, hkp, .inl ⟨rfl, hme2⟩⟩
                        replace hpc : wr.cell? ⟨b, off + q, none⟩ = some (.pointer none) := hpc
                        clear hrk hph hpm hch hkp hme hme2 hq hil hqs hs' hdr hsc Hr
                        go_wp2
                        go_roundw
                        case rel => exact ⟨i + 1, d, 0, by omega, by omega, by go_num, rfl, rfl, HN⟩
                        case measure => simp [intOf]; omega
                      | some x =>
                        obtain ⟨hb, mb, l1, l2⟩ := x
                        replace hpc : wr.cell? ⟨b, off + q, none⟩ = some (.pointer (some ⟨mb, 0, none⟩)) := hpc
                        have hsc2 : (consM sl')[q]?.getD none = some l2 := by rw [hsc]; rfl
                        have hqm : q < must.length := by rw [HX.out.1]; exact hqn
                        obtain ⟨mb', mo, rfl, f0, f1, f2, f3, f4⟩ : ∃ mb' mo, ma = some ⟨mb', mo, none⟩ ∧ wr.cell? ⟨mb', mo + q * 5, none⟩ = some (.int .i64 (must[q]?.getD ver0).1) ∧ wr.cell? ⟨mb', mo + q * 5 + 1, none⟩ = some (.int .i64 (must[q]?.getD ver0).2.1) ∧ wr.cell? ⟨mb', mo + q * 5 + 2, none⟩ = some (.int .i64 (must[q]?.getD ver0).2.2.1) ∧ wr.cell? ⟨mb', mo + q * 5 + 3, none⟩ = some (.int .i64 (must[q]?.getD ver0).2.2.2.1) ∧ wr.cell? ⟨mb', mo + q * 5 + 4, none⟩ = some (.string (must[q]?.getD ver0).2.2.2.2) := by
                          rcases HX.out.2.2.2.2.2.2.1 with he | ⟨mb', mo, h, hbl, hc⟩
                          · exfalso
                            rw [he] at hqm; simp at hqm
                          · obtain ⟨f0, f1, f2, f3, f4⟩ := VrR.at5 hc hqm
                            have hz : Z10 mb' := HX.out.2.2.2.2.1 _ h
                            have cc : ∀ {o v}, w10.cell? ⟨mb', o, none⟩ = some v → wr.cell? ⟨mb', o, none⟩ = some v := fun {o v} h => kept_in (p := ⟨mb', o, none⟩) hkp (show Z10 mb' from hz) ((HS11.out.2.cell (p := ⟨mb', o, none⟩) (lt_of_cell h)).trans h)
                            exact ⟨mb', mo, h, cc f0, cc f1, cc f2, cc f3, cc f4⟩
                        obtain ⟨⟨x1, x2, x3, x4, x5⟩, hx⟩ : ∃ x, must[q]?.getD ver0 = x := ⟨_, rfl⟩
                        rw [hx] at f0 f1 f2 f3 f4
                        dsimp only at f0 f1 f2 f3 f4
                        have hx5 : x5.size ≤ maxLen := by
                          have h9 := mustL_at (n := ll) (k := k) (t := t) (s := s) hqn
                          rw [HX.out.2.2.2.2.2.2.2.2.1, hx] at h9
                          simp only [Prod.mk.injEq] at h9
                          rw [h9.2.2.2.2, encL_size hqn]
                          have h8 := wide_le k s.size (by have := HK.out.1; omega)
                          have h7 := best_size HX.out.2.2.2.2.2.2.2.2.2
                          unfold maxLen
                          omega
                        obtain ⟨fi1, fi2, P, ht, hPZ, hback⟩ := hrk.act hs'
                        have Hput := Lib.hid (two_mput ht fi2 key x1 x2 x3 x4 x5 H.out.2.1 hx5)
                        have HA := Lib.hid (And.intro hkp (And.intro hPZ (And.intro hback (And.intro fi1 (And.intro fi2 (And.intro hph (And.intro hpm (And.intro hch (And.intro hme2 (And.intro hs' (And.intro hsc2 hx)))))))))))
                        clear hrk hph hpm hch hkp hme hme2 hq hil hqs hs' hdr hsc hsc2 hx fi1 fi2 ht hPZ hback Hr hx5
                        go_wp2_with fail
                        refine Hput.out.mono ?_
                        rintro e w5' ⟨rfl, ht5, hk5⟩
                        obtain ⟨pe, hpe⟩ : ∃ pe, putM (errM false l2 key (x1, x2, x3, x4, x5)) = pe := ⟨_, rfl⟩
                        rw [hpe]
                        have hr5 := HA.out.2.2.1 w5' _ _ ht5 hk5 HA.out.2.2.2.1 HA.out.2.2.2.2.1.put
                        have hk15 : KeptBut (fun b => ¬ Z10 b) wa w5' := HA.out.1.trans (hk5.mono fun b _ hp => HA.out.2.1 b hp)
                        have hxx : must[q]?.getD ver0 = (x1, x2, x3, x4, x5) := HA.out.2.2.2.2.2.2.2.2.2.2.2
                        have hss := HA.out.2.2.2.2.2.2.2.2.2.1
                        have hme := HA.out.2.2.2.2.2.2.2.2.1
                        have hph5 := (ptrsH_set (m1 := l1) (m2 := afterP false l2 key (x1, x2, x3, x4, x5)) hss).trans HA.out.2.2.2.2.2.1
                        have hpm5 := (ptrsM_set (m1 := l1) (m2 := afterP false l2 key (x1, x2, x3, x4, x5)) hss).trans HA.out.2.2.2.2.2.2.1
                        have hcm5 := consM_set (sl := sl') (i := q) (hb := hb) (mb := mb) (m1 := l1) (m2 := afterP false l2 key (x1, x2, x3, x4, x5))
                        have hch5 : consH (sl'.set q (some (hb, mb, l1, afterP false l2 key (x1, x2, x3, x4, x5)))) = consH sl := by
                          rw [consH_set, set_same (consH_at hss)]
                          exact HA.out.2.2.2.2.2.2.2.1
                        by_cases hp0 : pe = 0
                        · subst hp0
                          rw [mendF_ok HA.out.2.2.2.2.2.2.2.2.2.2.1 (by rw [hxx]; exact hpe), hxx, ← hcm5] at hme
                          have HN : Hid (MoSt Z10 wa w5' key must lack sl R (i + 1) (d + 1) 0) := Lib.hid ⟨_, hr5, hph5, hpm5, hch5, hk15, .inl ⟨rfl, hme⟩⟩
                          have hd9 : d + 1 ≤ 12 := by omega
                          clear hr5 hk15 hxx hss hme hph5 hpm5 hch5 hcm5 ht5 hk5 hpe
                          go_wp2
                          go_roundw
                          case rel => exact ⟨i + 1, d + 1, 0, by omega, by omega, by go_num, by go_num, rfl, HN⟩
                          case measure => simp [intOf]; omega
                        · have hj0 : putM (errM false l2 key (must[q]?.getD ver0)) ≠ 0 := by rw [hxx, hpe]; exact hp0
                          have hafter : afterP false l2 key (x1, x2, x3, x4, x5) = l2 := afterP_err (by rw [hpe]; exact hp0)
                          rw [hafter] at hr5 hph5 hpm5 hch5 hcm5
                          rw [set_same hss] at hr5 hph5 hpm5 hch5 hcm5
                          rw [mendF_err HA.out.2.2.2.2.2.2.2.2.2.2.1 hj0, hxx, hpe] at hme
                          have HN : Hid (MoSt Z10 wa w5' key must lack sl R (i + 1) d pe) := Lib.hid ⟨_, hr5, hph5, hpm5, hch5, hk15, .inr ⟨hp0, hme.symm⟩⟩
                          have e1 : (pe == 0) = false := beq_eq_false_iff_ne.2 hp0
                          clear hr5 hk15 hxx hss hme hph5 hpm5 hch5 hcm5 ht5 hk5 hpe hj0 hafter
                          go_wp2
                          go_roundw
                          case rel => exact ⟨i + 1, d, pe, by omega, by omega, by go_num, rfl, rfl, HN⟩
                          case measure => simp [intOf]; omega
                    · have HE : Hid (∃ sl', RackAt Z10 wr sl' ∧ ptrsH sl' = ptrsH sl ∧ ptrsM sl' = ptrsM sl ∧ consH sl' = consH sl ∧ KeptBut (fun b => ¬ Z10 b) wa wr ∧ R = (consM sl', e, d)) := Lib.hid ⟨sl', hrk, hph, hpm, hch, hkp, hRe⟩
                      clear hrk hph hpm hch hkp hme hRe Hr
                      by_cases hilt : i < m
                      · have he0 : e ≠ 0 := by
                          rcases hex with h9 | h9
                          · exact h9
                          · omega
                        have e1 : (e == 0) = false := beq_eq_false_iff_ne.2 he0
                        have hilt2 : (i : Int) < m := by omega
                        go_wp2
                        go_meet
                        exact ⟨d, e, rfl, by omega, rfl, HE⟩
                      · have hilt2 : ¬ (i : Int) < m := by omega
                        go_wp2
                        go_meet
                        exact ⟨d, e, rfl, by omega, rfl, HE⟩
                case rest =>
                  obtain ⟨d, e, rfl, hd12, rfl, HE⟩ := hcut
                  obtain ⟨sl', hrk, hph, hpm, hch, hkp, hRe⟩ := HE.out
                  have S12 := HS11.out.1.kept hkp hrk hph hpm
                  have HS12 := Lib.hid S12
                  obtain ⟨d0, d1, d2⟩ := S12.cfg
                  have Ho12 := Lib.hid S12.own
                  unfold cfgV at Ho12
                  have HQ := Lib.hid (And.intro hch hRe)
                  clear hrk hph hpm hkp S12 hch hRe HE e0 e1 e2
                  go_wp2_with fail
                  refine Ho12.out.mono ?_
                  rintro e' w13 ⟨a13, cp13, rfl, hb13, hs13, hl13⟩
                  have Hme := Lib.hid (mend_walk hl13 ll k ca hs13.pzH hs13.hx)
                  have HS13 := Lib.hid hs13
                  unfold cfgV at Hme
                  clear hb13 hs13 hl13 d0 d1 d2
                  go_wp2_with fail
                  refine Hme.out.mono ?_
                  rintro e' w14 ⟨z14, v14, rfl, hr14⟩
                  obtain ⟨sl2, hr2, hp2, hq2, hk2, hc2, hz2⟩ : ∃ sl2, RackAt Z10 w14 sl2 ∧ ptrsH sl2 = ptrsH sl' ∧ ptrsM sl2 = ptrsM sl' ∧ KeptBut (fun b => ¬ Z10 b) w13 w14 ∧ consH sl2 = consM sl2 ∧ ((e = 0 ∧ z14 = (d : Nat) ∧ v14 = .nilIface) ∨ (e ≠ 0 ∧ z14 = 0 ∧ errOf E e v14)) := by
                    rcases hr14 with ⟨r0, _⟩ | ⟨_, r1, _⟩ | ⟨_, _, ⟨r1, _⟩ | ⟨t', s', sl2, r1, q1, q2, q3, q4, q5, R', q6, q7, q8⟩⟩
                    · exact absurd HCF.out r0
                    · exact absurd rfl r1
                    · rw [Int.toNat_natCast, Int.toNat_natCast, HQ.out.1, HTD.out, HX.out.2.2.2.2.2.2.2.2.2] at r1
                      cases r1
                    · rw [Int.toNat_natCast, Int.toNat_natCast, HQ.out.1, HTD.out] at r1 q6
                      rw [HX.out.2.2.2.2.2.2.2.2.2] at r1
                      simp only [Prod.mk.injEq, and_true] at r1
                      obtain ⟨rfl, rfl⟩ := r1
                      rw [HX.out.2.2.2.2.2.2.2.2.1, HX.out.2.2.2.2.2.2.2.1, HRR.out] at q6
                      subst q6
                      rw [HQ.out.2] at q7 q8
                      exact ⟨sl2, q1, q2, q3, q5, by rw [q4, q7], q8⟩
                  have S14 := HS13.out.kept hk2 hr2 hp2 hq2
                  have HS14 := Lib.hid (And.intro S14 hc2)
                  clear hr14 hr2 hp2 hq2 hk2 hc2 S14
                  rcases hz2 with ⟨rfl, rfl, rfl⟩ | ⟨he0, rfl, hv14⟩
                  · have hdd : ((d : Int) != (d : Int)) = false := by simp
                    have hdd2 : (d != d) = false := by simp
                    have hdd3 : ((d : Int) == (d : Int)) = true := by simp
                    go_wp2_with fail
                    go_loopw [28] (fun vi wr => ∃ i : Nat, i ≤ ll ∧ vi = .int .i64 i ∧ Hid (Below w14.heap.size w14 wr)) (fun vi _ => ll - (intOf vi).toNat)
                    case atStart => exact ⟨0, by omega, rfl, Lib.hid (Below.refl _ _)⟩
                    case round =>
                      obtain ⟨i, hi, rfl, Hr⟩ := hrel
                      have hi2 : i < ll ∨ ll = i := by omega
                      rcases hi2 with hilt | rfl
                      · have hilt2 : (i : Int) < ll := by omega
                        have Sr := HS14.out.1.below Hr.out
                        have hil : i < sl2.length := by rw [Sr.pl_]; exact hilt
                        obtain ⟨s2, hs2⟩ : ∃ s2, sl2[i]? = some s2 := ⟨_, List.getElem?_eq_getElem hil⟩
                        obtain ⟨b, off, rfl, hpc⟩ : ∃ b off, pa = some ⟨b, off, none⟩ ∧ wr.cell? ⟨b, off + i, none⟩ = some (.pointer (s2.map fun x => (⟨x.1, 0, none⟩ : Addr))) := by
                          rcases Sr.ptrH with he | ⟨b, off, h, hb, hc⟩
                          · exfalso
                            have h9 := size_ptrsH sl2
                            rw [he] at h9; simp at h9; omega
                          · exact ⟨b, off, h, by rw [← ptrsH_at hs2]; exact hc i (by rw [size_ptrsH]; exact hil)⟩
                        obtain ⟨b', off', rfl, hpc'⟩ : ∃ b' off', pb = some ⟨b', off', none⟩ ∧ wr.cell? ⟨b', off' + i, none⟩ = some (.pointer (s2.map fun x => (⟨x.2.1, 0, none⟩ : Addr))) := by
                          rcases Sr.ptrM with he | ⟨b, off, h, hb, hc⟩
                          · exfalso
                            have h9 := size_ptrsM sl2
                            rw [he] at h9; simp at h9; omega
                          · exact ⟨b, off, h, by rw [← ptrsM_at hs2]; exact hc i (by rw [size_ptrsM]; exact hil)⟩
                        have hcc : consH sl2 = consM sl2 := HS14.out.2
                        cases s2 with
                        | none =>
                          replace hpc : wr.cell? ⟨b, off + i, none⟩ = some (.pointer none) := hpc
                          replace hpc' : wr.cell? ⟨b', off' + i, none⟩ = some (.pointer none) := hpc'
                          clear Sr hil hs2 hcc
                          go_wp2_with fail
                          go_quiet (fail)
                          go_wp2
                          go_roundw
                          case rel => exact ⟨i + 1, by omega, by go_num, Lib.hid (Hr.out.trans ⟨rfl, rfl, rfl, Nat.le_refl _, fun _ _ => rfl⟩)⟩
                          case measure => simp [intOf]; omega
                        | some x =>
                          obtain ⟨hb, mb, l1, l2⟩ := x
                          replace hpc : wr.cell? ⟨b, off + i, none⟩ = some (.pointer (some ⟨hb, 0, none⟩)) := hpc
                          replace hpc' : wr.cell? ⟨b', off' + i, none⟩ = some (.pointer (some ⟨mb, 0, none⟩)) := hpc'
                          have hll : l1 = l2 := by
                            have h1 := consH_at hs2
                            rw [hcc, consM_at hs2] at h1
                            simpa using h1.symm
                          subst hll
                          have hbz : wr.cell? ⟨b, off + i, none⟩ = some (.pointer (some ⟨hb, 0, none⟩)) ∧ wr.cell? ⟨b', off' + i, none⟩ = some (.pointer (some ⟨mb, 0, none⟩)) := ⟨hpc, hpc'⟩
                          have Cells : Hid (∀ W, Below wr.heap.size wr W → W.cell? ⟨b, off + i, none⟩ = some (.pointer (some ⟨hb, 0, none⟩)) ∧ W.cell? ⟨b', off' + i, none⟩ = some (.pointer (some ⟨mb, 0, none⟩))) := Lib.hid fun W hW => ⟨(hW.cell (p := ⟨b, off + i, none⟩) (lt_of_cell hpc)).trans hpc, (hW.cell (p := ⟨b', off' + i, none⟩) (lt_of_cell hpc')).trans hpc'⟩
                          have Hg : Hid (∀ W, Below wr.heap.size wr W → Calls Tryz.prog 21 #[.pointer (some ⟨hb, 0, none⟩), .string key] W fun e w' => VCloneOut W w' (getL l1 key) e) := Lib.hid fun W hW => by
                            obtain ⟨f1, G, ks, S, hh⟩ := (Sr.rack.below' hW (Nat.le_refl _)).hold hs2
                            exact hget_walk G W hb false (getL l1) ks S key hh H.out.2.1 (Nat.le_trans (getL_le l1 key) (Nat.le_trans f1.2 (by decide)))
                          have Hmg : Hid (∀ W, Below wr.heap.size wr W → Calls Tryz.prog 22 #[.pointer (some ⟨mb, 0, none⟩), .string key] W fun e w' => VCloneOut W w' (getL l1 key) e) := Lib.hid fun W hW => by
                            obtain ⟨f1, G, hh⟩ := (Sr.rack.below' hW (Nat.le_refl _)).model hs2
                            exact mget_walk G W mb false l1 key hh (Nat.le_trans f1.2 (by decide))
                          have hgl : (getL l1 key).length ≤ 60 := by
                            obtain ⟨f1, _⟩ := Sr.rack.hold hs2
                            exact Nat.le_trans (getL_le l1 key) f1.2
                          obtain ⟨GL, hGL⟩ : ∃ GL, getL l1 key = GL := ⟨_, rfl⟩
                          rw [hGL] at Hg Hmg hgl
                          have HGL := Lib.hid hgl
                          have k7 := Cells.out _ (Below.refl _ wr).drew
                          clear Sr hil hs2 hcc hGL hgl hbz
                          go_wp2_with fail
                          go_region_held3 (fun W => W.cell? ⟨b, off + i, none⟩ = some (.pointer (some ⟨hb, 0, none⟩)) ∧ W.cell? ⟨b', off' + i, none⟩ = some (.pointer (some ⟨mb, 0, none⟩)))
                            (first | exact k7 | exact q8 | exact q9 | exact q10)
                            (first
                              | (go_at_call 21; refine (Hg.out _ (Below.refl _ wr).drew).mono ?_; rintro e w8 ⟨hb8, v8, rfl, o8⟩; obtain ⟨a8, cap8, rfl, _, _, _, t8⟩ := o8.read; have HB8 := Lib.hid (And.intro ((Below.refl wr.heap.size wr).drew.trans hb8) t8); have q8 := Cells.out _ HB8.out.1; clear hb8 o8 t8)
                              | (go_at_call 22; refine (Hmg.out _ HB8.out.1).mono ?_; rintro e w9 ⟨hb9, v9, rfl, o9⟩; obtain ⟨a9, cap9, rfl, _, _, _, t9⟩ := o9.read; have HB9 := Lib.hid (And.intro (HB8.out.1.trans (hb9.mono HB8.out.1.size)) (And.intro ((HB8.out.2.below hb9).mono hb9.size) t9)); have q9 := Cells.out _ HB9.out.1; clear hb9 o9 t9)
                              | (go_at_call 20; refine (samev_walk _ _ _ _ GL _ _ _ GL true _ rfl rfl (by have := HGL.out; unfold maxLen; omega) HB9.out.2.1 HB9.out.2.2 (decide_eq_true rfl)).mono ?_; rintro e w10 ⟨rfl, hb10⟩; have HB10 := Lib.hid (HB9.out.1.trans (hb10.mono HB9.out.1.size)); have q10 := Cells.out _ HB10.out; clear hb10))
                          clear q8 q9 q10 k7
                          have HN := Lib.hid (Hr.out.trans (HB10.out.mono Hr.out.size))
                          go_wp2
                          go_roundw
                          case rel => exact ⟨i + 1, by omega, by go_num, HN⟩
                          case measure => simp [intOf]; omega
                      · have HN := Lib.hid (HS14.out.1.bel.trans (Hr.out.mono HS14.out.1.bel.size))
                        go_wp2_with fail
                        go_ret
                        exact ⟨rfl, HN.out⟩
                  · obtain ⟨j, hj12, hej, hvj⟩ : ∃ j : Nat, j < 12 ∧ e = (j : Int) + 1 ∧ v14 = errV (E j) := by
                      rcases hv14 with ⟨h1, _⟩ | ⟨j, h1, h2, h3⟩
                      · exact absurd h1 he0
                      · exact ⟨j, h1, h2, h3⟩
                    have hep : (0 : Int) < e := by omega
                    have hcd := coded3_of E e v14 w14 HS14.out.1.errs hv14
                    have Hcd := Lib.hid hcd
                    clear hv14 hcd hvj hej
                    go_wp2_with fail
                    refine Hcd.out.mono ?_
                    rintro e' w15 ⟨rfl, hb15⟩
                    have HN := Lib.hid (HS14.out.1.bel.trans (hb15.mono HS14.out.1.bel.size))
                    clear hb15
                    go_wp2_with fail
                    go_ret
                    exact ⟨by simp, HN.out⟩
          · have HC0 := Lib.hid (And.intro (show (configF n k L).1 = 0 by rw [HF.out]) hln)
            have g1 : ((ll : Int) == n) = false := beq_eq_false_iff_ne.2 hln
            have g2 : ((ll : Int) != n) = true := by rw [bne, g1]; rfl
            have Hba := Lib.hid (bare_walk 3 W9)
            clear c0 c1 c2 hln
            go_wp2_with fail
            clear hW9 hfb
            refine Hba.out.mono ?_
            rintro e w8b ⟨rfl, hb8b⟩
            have hf8 := HS9.out.2.1.below hb8b
            have hB8b : Below w8.heap.size w8 w8b := HS9.out.2.2.2.2.1.trans (hb8b.mono HS9.out.2.2.2.2.1.size)
            have p0 : w8b.cell? ⟨fb, 0, none⟩ = some (.int .i64 0) := hf8.c0
            have p1 : w8b.cell? ⟨fb, 1, none⟩ = some (.int .i64 (-1)) := hf8.c1
            have z0 := frozen_of_heap hf8 0
            have z1 := frozen_of_heap hf8 1
            obtain ⟨W10, hW10⟩ : ∃ W10, (w8b.setCell ⟨fb, 0, none⟩ (.int .i64 3)).setCell ⟨fb, 1, none⟩ (.int .i64 (-1)) = W10 := ⟨_, rfl⟩
            have hfB := hf8.set 3 (-1)
            have hB810 : Below w8.heap.size w8 ((w8b.setCell ⟨fb, 0, none⟩ (.int .i64 3)).setCell ⟨fb, 1, none⟩ (.int .i64 (-1))) := (hB8b.setCell HS9.out.2.2.2.2.2 _).setCell HS9.out.2.2.2.2.2 _
            rw [hW10] at hfB hB810
            have hS10 := HS8.out.1.below hB810
            obtain ⟨c0', c1', c2'⟩ := hS10.cfg
            have HS10b := Lib.hid (And.intro hS10 (And.intro hfB (And.intro (HS8.out.2.trans (hB810.mono HS8.out.2.size)) hB810)))
            replace p0' : W10.cell? ⟨fb, 0, none⟩ = some (.int .i64 3) := hfB.c0
            replace p1' : W10.cell? ⟨fb, 1, none⟩ = some (.int .i64 (-1)) := hfB.c1
            clear hf8 hB8b hfB hB810 hS10 hb8b
            have Ho9 := Lib.hid HS10b.out.1.own
            unfold cfgV at Ho9
            go_wp2_with fail
            clear hW10
            refine Ho9.out.mono ?_
            rintro e w10 ⟨a10, cp10, rfl, hb10, hs10, hl10⟩
            have Hme := Lib.hid (mend_walk hl10 n k ca hs10.pzH hs10.hx)
            have HS10 := Lib.hid (And.intro hs10 (And.intro (HS10b.out.2.1.below hb10) (And.intro (HS10b.out.2.2.1.trans (hb10.mono HS10b.out.2.2.1.size)) (HS10b.out.2.2.2.trans (hb10.mono HS10b.out.2.2.2.size)))))
            unfold cfgV at Hme
            clear hb10 hs10 hl10 p0 p1 c0' c1' c2'
            go_wp2_with fail
            refine Hme.out.mono ?_
            rintro e w11 ⟨z11, v11, rfl, hr11⟩
            obtain ⟨rfl, hv11, hb11⟩ : z11 = 0 ∧ FltV w11 E (3, -1) v11 ∧ Below w10.heap.size w10 w11 := by
              rcases hr11 with ⟨r0, _⟩ | ⟨_, _, r1, r2, r3⟩ | ⟨_, r1, _⟩
              · exact absurd HC0.out.1 r0
              · exact ⟨r1, .inr (.inl ⟨2, by decide, rfl, r2⟩), r3⟩
              · exact absurd r1 HC0.out.2
            obtain ⟨rfl, hv6⟩ : vl6 = .slice none 0 0 ∧ FltV w6 E (3, -1) v6 := by
              rcases HR6.out with ⟨r0, _⟩ | ⟨_, _, _, r1, r2⟩ | ⟨_, r1, _⟩
              · exact absurd HC0.out.1 r0
              · exact ⟨r1, .inr (.inl ⟨2, by decide, rfl, r2⟩)⟩
              · exact absurd r1 HC0.out.2
            obtain ⟨rfl, hv8⟩ : z8 = 0 ∧ FltV w8 E (3, -1) v8 := by
              rcases HR8.out with ⟨r0, _⟩ | ⟨_, _, r1, r2⟩ | ⟨_, r1, _⟩
              · exact absurd HC0.out.1 r0
              · exact ⟨r1, .inr (.inl ⟨2, by decide, rfl, r2⟩)⟩
              · exact absurd r1 HC0.out.2
            have hS11 := HS10.out.1.below hb11
            have hf11 := HS10.out.2.1.below hb11
            have hv6' := hv6.below (HS10.out.2.2.1.trans (hb11.mono HS10.out.2.2.1.size)) (Nat.le_refl _)
            have hv8' := hv8.below (HS10.out.2.2.2.trans (hb11.mono HS10.out.2.2.2.size)) (Nat.le_refl _)
            have HQ := Lib.hid (And.intro hS11 (And.intro hf11 (And.intro hv11 (And.intro hv6' hv8'))))
            have Hf1 := Lib.hid (faulted3_walk E (3, -1) (3, -1) v6 true w11 hS11.errs hv6' (by simp))
            have p0 := hf11.c0
            have p1 := hf11.c1
            clear hr11 hS11 hf11 hv6' hv8' hb11 hv11
            go_wp2_with fail
            refine Hf1.out.mono ?_
            rintro e w12 ⟨rfl, hb12⟩
            have Hf2 := Lib.hid (faulted3_walk E (3, -1) (3, -1) v8 true w12 (HQ.out.1.below hb12).errs (HQ.out.2.2.2.2.below hb12 (Nat.le_refl _)) (by simp))
            have hf12 := HQ.out.2.1.below hb12
            have HQ2 := Lib.hid (And.intro hb12 hf12)
            have q0 := hf12.c0
            have q1 := hf12.c1
            clear hb12 hf12
            go_wp2_with fail
            refine Hf2.out.mono ?_
            rintro e w13 ⟨rfl, hb13⟩
            have hb113 : Below w11.heap.size w11 w13 := HQ2.out.1.trans (hb13.mono HQ2.out.1.size)
            have hf13 := HQ2.out.2.below hb13
            have Hf3 := Lib.hid (faulted3_walk E (3, -1) (3, -1) v11 true w13 (HQ.out.1.below hb113).errs (HQ.out.2.2.1.below hb113 (Nat.le_refl _)) (by simp))
            have HQ3 := Lib.hid hb113
            have r0 := hf13.c0
            have r1 := hf13.c1
            clear hb13 hb113 hf13
            go_wp2_with fail
            refine Hf3.out.mono ?_
            rintro e w14 ⟨rfl, hb14⟩
            have HN := Lib.hid (HQ.out.1.bel.trans ((HQ3.out.trans (hb14.mono HQ3.out.size)).mono HQ.out.1.bel.size))
            clear hb14
            go_wp2_with fail
            go_ret
            exact ⟨by simp, HN.out⟩
        · have g1 : ¬ (((F.1 : Nat) : Int) = 0) := by omega
          have g2 : (((F.1 : Nat) : Int) == 0) = false := beq_eq_false_iff_ne.2 g1
          have g3 : (0 : Int) < ((F.1 : Nat) : Int) := by omega
          have g4 : decide (F.1 = 0) = false := decide_eq_false hF0
          have g5 : (F.1 == 0) = false := by simpa using hF0
          have g6 : 0 < F.1 := by omega
          have HF0 := Lib.hid hF0
          clear hF0 c0 c1 c2
          have Ho9 := Lib.hid HS9.out.1.own
          unfold cfgV at Ho9
          go_wp2_with fail
          clear hW9 hfb z0 z1
          refine Ho9.out.mono ?_
          rintro e w10 ⟨a10, cp10, rfl, hb10, hs10, hl10⟩
          have Hme := Lib.hid (mend_walk hl10 n k ca hs10.pzH hs10.hx)
          have HS10 := Lib.hid (And.intro hs10 (And.intro (HS9.out.2.1.below hb10) (And.intro (HS9.out.2.2.2.1.trans (hb10.mono HS9.out.2.2.2.1.size)) (HS9.out.2.2.2.2.1.trans (hb10.mono HS9.out.2.2.2.2.1.size)))))
          unfold cfgV at Hme
          clear hb10 hs10 hl10 p0 p1 c0' c1' c2'
          go_wp2_with fail
          refine Hme.out.mono ?_
          rintro e w11 ⟨z11, v11, rfl, hr11⟩
          obtain ⟨rfl, hv11, hb11⟩ : z11 = 0 ∧ FltV w11 E F v11 ∧ Below w10.heap.size w10 w11 := by
            rcases hr11 with ⟨_, r1, _, r2, r3⟩ | ⟨r0, _⟩ | ⟨r0, _⟩
            · exact ⟨r1, by rw [← HF.out]; exact r2, r3⟩
            · exact absurd (by rw [← HF.out]; exact r0) HF0.out
            · exact absurd (by rw [← HF.out]; exact r0) HF0.out
          obtain ⟨rfl, hv6⟩ : vl6 = .slice none 0 0 ∧ FltV w6 E F v6 := by
            rcases HR6.out with ⟨_, _, r1, _, r2⟩ | ⟨r0, _⟩ | ⟨r0, _⟩
            · exact ⟨r1, by rw [← HF.out]; exact r2⟩
            · exact absurd (by rw [← HF.out]; exact r0) HF0.out
            · exact absurd (by rw [← HF.out]; exact r0) HF0.out
          obtain ⟨rfl, hv8⟩ : z8 = 0 ∧ FltV w8 E F v8 := by
            rcases HR8.out with ⟨_, r1, _, r2⟩ | ⟨r0, _⟩ | ⟨r0, _⟩
            · exact ⟨r1, by rw [← HF.out]; exact r2⟩
            · exact absurd (by rw [← HF.out]; exact r0) HF0.out
            · exact absurd (by rw [← HF.out]; exact r0) HF0.out
          have hS11 := HS10.out.1.below hb11
          have hf11 := HS10.out.2.1.below hb11
          have hv6' := hv6.below (HS10.out.2.2.1.trans (hb11.mono HS10.out.2.2.1.size)) (Nat.le_refl _)
          have hv8' := hv8.below (HS10.out.2.2.2.trans (hb11.mono HS10.out.2.2.2.size)) (Nat.le_refl _)
          have HQ := Lib.hid (And.intro hS11 (And.intro hf11 (And.intro hv11 (And.intro hv6' hv8'))))
          have Hf1 := Lib.hid (faulted3_walk E F F v6 true w11 hS11.errs hv6' (by simp))
          have p0 := hf11.c0
          have p1 := hf11.c1
          clear hr11 hS11 hf11 hv6' hv8' hb11 hv11
          go_wp2_with fail
          refine Hf1.out.mono ?_
          rintro e w12 ⟨rfl, hb12⟩
          have Hf2 := Lib.hid (faulted3_walk E F F v8 true w12 (HQ.out.1.below hb12).errs (HQ.out.2.2.2.2.below hb12 (Nat.le_refl _)) (by simp))
          have hf12 := HQ.out.2.1.below hb12
          have HQ2 := Lib.hid (And.intro hb12 hf12)
          have q0 := hf12.c0
          have q1 := hf12.c1
          clear hb12 hf12
          go_wp2_with fail
          refine Hf2.out.mono ?_
          rintro e w13 ⟨rfl, hb13⟩
          have hb113 : Below w11.heap.size w11 w13 := HQ2.out.1.trans (hb13.mono HQ2.out.1.size)
          have hf13 := HQ2.out.2.below hb13
          have Hf3 := Lib.hid (faulted3_walk E F F v11 true w13 (HQ.out.1.below hb113).errs (HQ.out.2.2.1.below hb113 (Nat.le_refl _)) (by simp))
          have HQ3 := Lib.hid hb113
          have r0 := hf13.c0
          have r1 := hf13.c1
          clear hb13 hb113 hf13
          go_wp2_with fail
          refine Hf3.out.mono ?_
          rintro e w14 ⟨rfl, hb14⟩
          have HN := Lib.hid (HQ.out.1.bel.trans ((HQ3.out.trans (hb14.mono HQ3.out.size)).mono HQ.out.1.bel.size))
          clear hb14
          go_wp2_with fail
          go_ret
          exact ⟨by simp, HN.out⟩
end Go.Proofs.YtolbdcmoblcakaaGreatDoor.repairMends

