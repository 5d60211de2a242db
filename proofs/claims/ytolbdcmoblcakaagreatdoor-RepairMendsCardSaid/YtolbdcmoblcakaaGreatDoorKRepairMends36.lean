/- The walk of the document's Lack. -/
import Derived.Test.YtolbdcmoblcakaaGreatDoorKRepairMends34
import Derived.Test.YtolbdcmoblcakaaGreatDoorKRepairMends24
import Derived.Deep.RegionHeld3
import Derived.Test.YtolbdcmoblcakaaGreatDoorKRepairMends08
import Derived.Deep.QuietTactic
import Derived.BigQuiet
namespace Go.Proofs.YtolbdcmoblcakaaGreatDoor
section
open Go.RowKit Go.Maps Go.BigFrame

/-- what the document's Lack answers. -/
def RLackPost (w w' : World) (n k : Nat) (told : List (List Ver)) (e : Ending) : Prop := Below w.heap.size w w' ∧
  ∃ vm vl, e = .returned (.tuple #[vm, vl]) ∧
       (((bestOf n k told).2.2 = false ∧ vm = .slice none 0 0 ∧ vl = .slice none 0 0) ∨
        ∃ t s, bestOf n k told = (t, s, true) ∧ OwnV w.heap.size w' vm (mustL n k t s) ∧ OwnZ w.heap.size w' vl (lackL (mustL n k t s) told))
theorem inV_snoc {x : Ver} {tl : List Ver} {j : Nat} (hj : j < tl.length) : inV x (tl.take (j + 1)) = (inV x (tl.take j) || decide ((tl[j]?.getD ver0) = x)) := by
  rw [take_snocL tl ver0 j hj]
  unfold inV
  simp
set_option maxRecDepth 100000 in
set_option maxHeartbeats 16000000 in
theorem rlack_walk (n k : Nat) (ca : Option Addr) (cl cc : Nat) (key : ByteArray) (pa : Option Addr) (pl pc : Nat) (Z : Nat → Prop) (sl : List Slot) (w : World) (hk1 : 1 ≤ k) (hkn : k ≤ n) (hn : n ≤ 12) (hpl : sl.length = pl) (hpn : pl = n) (hP : PtrR w pa (ptrsM sl)) (hR : RackAt Z w sl) :
    Calls Tryz.prog 16 #[cfgV n k (.slice ca cl cc), .string key, .slice pa pl pc] w fun e w' => RLackPost w w' n k (toldC key (consM sl)) e := by
  subst hpn
  obtain ⟨W0, hW0⟩ : ∃ W0, w.alloc (.cells #[.int .i64 pl, .int .i64 k, .slice ca cl cc] 24) = W0 := ⟨_, rfl⟩
  have hB0 : Below w.heap.size w W0 := by rw [← hW0]; exact (Below.refl _ w).alloc (Nat.le_refl _) _
  have hC0 : CfgAt W0 w.heap.size pl k (.slice ca cl cc) := by rw [← hW0]; exact CfgAt.new w pl k (.slice ca cl cc)
  have hs0 : w.heap.size < W0.heap.size := by rw [← hW0]; simp
  obtain ⟨cb, hcb⟩ : ∃ cb, w.heap.size = cb := ⟨_, rfl⟩
  have H := Lib.hid (And.intro hpl (And.intro (hP.below hB0) (hR.below' hB0 (Nat.le_refl _))))
  have HZ := Lib.hid (And.intro hk1 (And.intro hkn hn))
  rw [hcb] at hC0
  have H1 := Lib.hid (And.intro hB0 (And.intro hC0 (show cb < W0.heap.size by rw [← hcb]; exact hs0)))
  have htl : (toldC key (consM sl)).length = pl := by rw [toldC_length, consM_length]; exact hpl
  have htt := told_totM hR key
  have hta : ∀ (i : Nat) (s : Slot), sl[i]? = some s → (toldC key (consM sl))[i]?.getD [] = conT key (s.map fun x => x.2.2.2) := fun i s hs => toldC_at (consM_is hs)
  obtain ⟨told, htd⟩ : ∃ told, toldC key (consM sl) = told := ⟨_, rfl⟩
  rw [htd] at htl htt hta ⊢
  have HT := Lib.hid (And.intro htl (And.intro htt hta))
  have hpm9 : pl ≤ 9223372036854775807 := by omega
  obtain ⟨c0, c1, c2⟩ := hC0
  unfold cfgV
  clear htl htt hta htd hB0 hs0 hP hR hpl hk1 hkn hn
  go_enter Tryz.func16, Tryz.ntmps16
  go_wp2_with fail
  clear c0 c1 c2 hW0
  go_loopw [8, 9] (fun vt vi wr => ∃ (i : Nat) (v : Value), i ≤ pl ∧ vi = .int .i64 i ∧ v = vt ∧ Hid (Below W0.heap.size W0 wr ∧ ∃ us, OwnVs W0.heap.size wr v (told.take i) us)) (fun _ vi _ => pl - (intOf vi).toNat)
  case atStart => exact ⟨0, _, by omega, rfl, rfl, Lib.hid ⟨Below.refl _ _, [], OwnVs.nil _ _⟩⟩
  case round =>
    obtain ⟨i, v, hi, rfl, hv, Hr⟩ := hrel
    subst hv
    obtain ⟨hbr, us, hus⟩ := Hr.out
    have hi2 : i < pl ∨ pl = i := by omega
    rcases hi2 with hilt | rfl
    · have hilt2 : (i : Int) < pl := by omega
      have hszr : W0.heap.size ≤ wr.heap.size := hbr.size
      have hsll : i < sl.length := by rw [H.out.1]; exact hilt
      obtain ⟨s, hs⟩ : ∃ s, sl[i]? = some s := ⟨_, List.getElem?_eq_getElem hsll⟩
      obtain ⟨b, off, rfl, hpc⟩ : ∃ b off, pa = some ⟨b, off, none⟩ ∧ wr.cell? ⟨b, off + i, none⟩ = some (.pointer (s.map fun x => (⟨x.2.1, 0, none⟩ : Addr))) := by
        rcases H.out.2.1.below hbr with he | ⟨b, off, h, hb, hc⟩
        · exfalso
          have h9 := size_ptrsM sl
          rw [he] at h9; simp at h9; omega
        · exact ⟨b, off, h, by rw [← ptrsM_at hs]; exact hc i (by rw [size_ptrsM]; exact hsll)⟩
      have htl : i < told.length := by rw [HT.out.1]; exact hilt
      have htk := take_snocL told [] i htl
      rw [HT.out.2.2 i s hs] at htk
      have hlu : us.length ≤ 12 := by
        rw [hus.lenu, List.length_take]
        have := HZ.out.2.2
        omega
      have HQ := Lib.hid (And.intro hbr (And.intro hus (And.intro htk (And.intro hlu (And.intro hs hszr)))))
      clear hbr hus htk hlu hsll htl Hr
      cases s with
      | none =>
        clear hs
        replace hpc : wr.cell? ⟨b, off + i, none⟩ = some (.pointer none) := hpc
        go_wp2_with (at_builtin; refine append_one 82 46 (.slice none 0 0) 24 Tryz.underlying82 info_vers rfl 38 40 rfl rfl W0.heap.size v us _ rfl rfl rfl HQ.out.2.1.own (by have := HQ.out.2.2.2.1; omega) (by have := HQ.out.2.2.2.1; unfold maxLen; omega) hszr ?_)
        intro v6 w6 h1 h2 _
        have HN : Hid (Below W0.heap.size W0 w6 ∧ ∃ us, OwnVs W0.heap.size w6 v6 (told.take (i + 1)) us) := Lib.hid ⟨HQ.out.1.trans (((Below.refl _ _).alloc HQ.out.2.2.2.2.2 _).trans (World.grownBy.below h2 (by simp; have := HQ.out.2.2.2.2.2; omega) (fun k e => (HQ.out.2.1.own.lt k e).1))), _, by
          rw [HQ.out.2.2.1]; exact OwnVs.snoc HQ.out.2.1 (OwnV.nil _ _) h1 h2⟩
        clear h1 h2
        go_wp2
        go_roundw
        case rel =>
          first
          | exact ⟨i + 1, _, by omega, by go_num, rfl, HN⟩
          | (repeat apply Exists.intro); exact ⟨⟨i + 1, _, by omega, by go_num, rfl, HN⟩, rfl⟩
        case measure => simp [intOf]; omega
      | some x =>
        obtain ⟨hb, mb, l1, l2⟩ := x
        obtain ⟨f1, G, hh⟩ := (H.out.2.2.below' HQ.out.1 (Nat.le_refl _)).model hs
        have Hget := Lib.hid (mget_walk G wr mb false l2 key hh (Nat.le_trans f1.2 (by decide)))
        clear hs f1 hh
        replace hpc : wr.cell? ⟨b, off + i, none⟩ = some (.pointer (some ⟨mb, 0, none⟩)) := hpc
        go_wp2_with fail
        refine Hget.out.mono ?_
        rintro e w5 ⟨hb5, u, rfl, hu⟩
        obtain ⟨ua, uc, hue, _, _, _, _⟩ := hu.read
        have H5 := Lib.hid (And.intro (HQ.out.1.trans (hb5.mono HQ.out.2.2.2.2.2)) (And.intro (HQ.out.2.1.heapK hb5) (And.intro (hu.lower HQ.out.2.2.2.2.2) (Nat.le_trans HQ.out.2.2.2.2.2 hb5.size))))
        subst hue
        clear hb5 hu
        go_wp2_with (at_builtin; refine append_one 82 46 (.slice none 0 0) 24 Tryz.underlying82 info_vers rfl 38 40 rfl rfl W0.heap.size v us _ rfl rfl rfl H5.out.2.1.own (by have := HQ.out.2.2.2.1; omega) (by have := HQ.out.2.2.2.1; unfold maxLen; omega) H5.out.2.2.2 ?_)
        intro v6 w6 h1 h2 _
        have HN : Hid (Below W0.heap.size W0 w6 ∧ ∃ us, OwnVs W0.heap.size w6 v6 (told.take (i + 1)) us) := Lib.hid ⟨H5.out.1.trans (((Below.refl _ _).alloc H5.out.2.2.2 _).trans (World.grownBy.below h2 (by simp; have := H5.out.2.2.2; omega) (fun k e => (H5.out.2.1.own.lt k e).1))), _, by
          rw [HQ.out.2.2.1]; exact OwnVs.snoc H5.out.2.1 H5.out.2.2.1 h1 h2⟩
        clear h1 h2
        go_wp2
        go_roundw
        case rel =>
          first
          | exact ⟨i + 1, _, by omega, by go_num, rfl, HN⟩
          | (repeat apply Exists.intro); exact ⟨⟨i + 1, _, by omega, by go_num, rfl, HN⟩, rfl⟩
        case measure => simp [intOf]; omega
    · have hall : told.take pl = told := List.take_of_length_le (by rw [HT.out.1]; exact Nat.le_refl _)
      rw [hall] at hus
      obtain ⟨a1, cp1, hv, hrd⟩ := hus.read
      rw [HT.out.1] at hv
      subst hv
      have hB2 : Below w.heap.size w wr := H1.out.1.trans (hbr.mono H1.out.1.size)
      have hC2 := H1.out.2.1.below hbr H1.out.2.2
      have H2 := Lib.hid (And.intro hB2 (And.intro hC2 (And.intro (Nat.lt_of_lt_of_le H1.out.2.2 hbr.size) hrd)))
      have Hbe := Lib.hid (rbest_walk pl k ca cl cc a1 pl cp1 told wr HZ.out.1 HZ.out.2.1 HZ.out.2.2 HT.out.1 (by unfold maxLen; omega) hrd (by have := HT.out.2.1; have := H.out.1; have := HZ.out.2.2; omega))
      obtain ⟨d0, d1, d2⟩ := hC2
      clear hall hus hbr hB2 hrd Hr
      go_wp2_with fail
      refine Hbe.out.mono ?_
      rintro e w6 ⟨hb6, ⟨t1, t2⟩, s6, f6, rfl, hres⟩
      have hbo : bestOf pl k told = ((t1, t2), s6, f6) := hres.symm
      obtain ⟨W6, hW6⟩ : ∃ W6, w6.alloc (.cells #[.int .i64 t1, .int .i64 t2] 54) = W6 := ⟨_, rfl⟩
      obtain ⟨tb, htb⟩ : ∃ tb, w6.heap.size = tb := ⟨_, rfl⟩
      have hs6 : W6.heap.size = tb + 1 := by rw [← hW6, ← htb]; simp
      have hBW : Below w6.heap.size w6 W6 := by rw [← hW6]; exact (Below.refl _ w6).alloc (Nat.le_refl _) _
      have hgT : W6.heap[tb]? = some (.cells #[.int .i64 t1, .int .i64 t2] 54 (0, 0)) := by rw [← hW6, ← htb]; exact heap_alloc_new _ _
      have hB62 : Below wr.heap.size wr W6 := hb6.trans (hBW.mono hb6.size)
      have H6 := Lib.hid (And.intro (H2.out.1.trans (hB62.mono H2.out.1.size)) (And.intro (H2.out.2.1.below hB62 H2.out.2.2.1) (And.intro hgT (And.intro (Nat.lt_of_lt_of_le H2.out.2.2.1 hB62.size) (And.intro hbo (H2.out.2.2.2.below hB62))))))
      obtain ⟨e0, e1, e2⟩ := H6.out.2.1
      clear hb6 hres hBW hgT hB62 hbo d0 d1 d2
      cases f6 with
      | false =>
        go_wp2_with fail
        go_ret2
        exact ⟨H6.out.1, _, _, rfl, .inl ⟨by rw [H6.out.2.2.2.2.1], rfl, rfl⟩⟩
      | true =>
        have Hen := Lib.hid (rencode_walk pl k s6 W6 HZ.out.1 HZ.out.2.1 HZ.out.2.2 (best_size H6.out.2.2.2.2.1))
        go_wp2_with fail
        clear hW6 htb e0 e1 e2
        refine Hen.out.mono ?_
        rintro e w7 ⟨⟨v7, rfl, hs7⟩, hb7⟩
        obtain ⟨sa, sc, rfl, hsc, hsm, hsr⟩ := hs7.read
        have hgT7 : w7.heap[tb]? = some (.cells #[.int .i64 t1, .int .i64 t2] 54 (0, 0)) := (hb7.block tb (by rw [hs6]; omega)).trans H6.out.2.2.1
        obtain ⟨must, hmu⟩ : ∃ must, mustL pl k (t1, t2) s6 = must := ⟨_, rfl⟩
        have hml : must.length = pl := by rw [← hmu]; exact mustL_length _ _ _ _
        have hma : ∀ i, i < pl → must[i]?.getD ver0 = (t1, t2, (s6.size : Int), ((encL pl k s6)[i]?.getD (0, ⟨#[]⟩)).1, ((encL pl k s6)[i]?.getD (0, ⟨#[]⟩)).2) := fun i hi => by rw [← hmu]; exact mustL_at hi
        have H7 := Lib.hid (And.intro (H6.out.1.trans (hb7.mono H6.out.1.size)) (And.intro hgT7 (And.intro (H6.out.2.2.2.2.2.below hb7) (And.intro hsr (And.intro hmu (And.intro hml hma))))))
        rw [encL_length]
        clear hs6 hs7 hb7 hsc hsm hsr hgT7 hmu hml hma
        go_wp2_with fail
        go_loopw [15, 16, 17] (fun vm vl vi wr => ∃ (i : Nat) (um ul : Value), i ≤ pl ∧ vi = .int .i64 i ∧ um = vm ∧ ul = vl ∧ Hid (Below w7.heap.size w7 wr ∧ LkState w7.heap.size wr i um ul must told)) (fun _ _ vi _ => pl - (intOf vi).toNat)
        case atStart => exact ⟨0, _, _, by omega, rfl, rfl, rfl, Lib.hid ⟨Below.refl _ _, OwnV.nil _ _, Own1.nil _ _ _⟩⟩
        case round =>
          obtain ⟨i, um, ul, hi, rfl, hum, hul, Hr⟩ := hrel
          subst hum hul
          obtain ⟨hbr0, hov0, hoz0⟩ := Hr.out
          have hi2 : i < pl ∨ pl = i := by omega
          rcases hi2 with hilt | rfl
          · have hilt2 : (i : Int) < pl := by omega
            have hbr := hbr0
            have hov := hov0
            have hoz := hoz0
            have hszr : w7.heap.size ≤ wr.heap.size := hbr.size
            obtain ⟨b, off, rfl, q0, q1⟩ : ∃ b off, sa = some ⟨b, off, none⟩ ∧ wr.cell? ⟨b, off + i * 2, none⟩ = some (.int .i64 ((encL pl k s6)[i]?.getD (0, ⟨#[]⟩)).1) ∧ wr.cell? ⟨b, off + i * 2 + 1, none⟩ = some (.string ((encL pl k s6)[i]?.getD (0, ⟨#[]⟩)).2) := by
              rcases H7.out.2.2.2.1.below hbr with he | ⟨b, off, h, hb, hc⟩
              · exfalso
                have h9 := encL_length pl k s6
                rw [he] at h9; simp at h9; omega
              · exact ⟨b, off, h, (hc i (by rw [encL_length]; exact hilt)).1, (hc i (by rw [encL_length]; exact hilt)).2⟩
            have hx := H7.out.2.2.2.2.2.2 i hilt
            have htk := take_snocL must ver0 i (by rw [H7.out.2.2.2.2.2.1]; exact hilt)
            obtain ⟨⟨x4, x5⟩, hxx⟩ : ∃ x, (encL pl k s6)[i]?.getD (0, ⟨#[]⟩) = x := ⟨_, rfl⟩
            rw [hxx] at q0 q1 hx
            dsimp only at q0 q1 hx
            rw [hx] at htk
            have hgr : wr.heap[tb]? = some (.cells #[.int .i64 t1, .int .i64 t2] 54 (0, 0)) := (hbr.block tb (Array.getElem?_eq_some_iff.1 H7.out.2.1).1).trans H7.out.2.1
            have u0 : wr.cell? ⟨tb, 0, none⟩ = some (.int .i64 t1) := cell_of_heap hgr 0
            have u1 : wr.cell? ⟨tb, 1, none⟩ = some (.int .i64 t2) := cell_of_heap hgr 1
            obtain ⟨sb, hsb⟩ : ∃ sb, wr.heap.size = sb := ⟨_, rfl⟩
            obtain ⟨W9, hW9⟩ : ∃ W9, (wr.alloc (.cells #[.int .i64 t1, .int .i64 t2, .int .i64 s6.size, .int .i64 x4, .string x5] 58)).drew = W9 := ⟨_, rfl⟩
            have hs9 : W9.heap.size = sb + 1 := by rw [← hW9]; simp [hsb]
            obtain ⟨W10, hW10⟩ : ∃ W10, W9.alloc (.cells #[.int .i64 t1, .int .i64 t2, .int .i64 s6.size, .int .i64 x4, .string x5] 58) = W10 := ⟨_, rfl⟩
            have hs10 : W10.heap.size = sb + 2 := by rw [← hW10]; simp [hs9]
            have hB9 : Below wr.heap.size wr W9 := by rw [← hW9]; exact ((Below.refl _ wr).alloc (Nat.le_refl _) _).drew
            have hB10 : Below W9.heap.size W9 W10 := by rw [← hW10]; exact (Below.refl _ W9).alloc (Nat.le_refl _) _
            have hBr : Below wr.heap.size wr W10 := hB9.trans (hB10.mono hB9.size)
            have g9 : W9.heap[sb]? = some (.cells #[.int .i64 t1, .int .i64 t2, .int .i64 s6.size, .int .i64 x4, .string x5] 58 (0, 0)) := by rw [← hW9, ← hsb]; exact heap_alloc_new _ _
            have g10 : W10.heap[sb]? = some (.cells #[.int .i64 t1, .int .i64 t2, .int .i64 s6.size, .int .i64 x4, .string x5] 58 (0, 0)) := (hB10.block sb (by rw [hs9]; omega)).trans g9
            have z0 : W9.cell? ⟨sb, 0, none⟩ = some (.int .i64 t1) := cell_of_heap g9 0
            have z1 : W9.cell? ⟨sb, 1, none⟩ = some (.int .i64 t2) := cell_of_heap g9 1
            have z2 : W9.cell? ⟨sb, 2, none⟩ = some (.int .i64 s6.size) := cell_of_heap g9 2
            have z3 : W9.cell? ⟨sb, 3, none⟩ = some (.int .i64 x4) := cell_of_heap g9 3
            have z4 : W9.cell? ⟨sb, 4, none⟩ = some (.string x5) := cell_of_heap g9 4
            have hone : OneV W10 (sb + 1) (t1, t2, (s6.size : Int), x4, x5) := by rw [← hW10, ← hs9]; exact OneV.new W9 (t1, t2, (s6.size : Int), x4, x5)
            have HA := Lib.hid (And.intro (hov.below hBr (Nat.le_refl _)) (And.intro hone.read (And.intro (show (must.take i).length + [((t1, t2, (s6.size : Int), x4, x5) : Ver)].length ≤ 1000000 by
              rw [List.length_take, H7.out.2.2.2.2.2.1]; have := HZ.out.2.2; simp; omega) (And.intro (show w7.heap.size ≤ W10.heap.size by omega) (And.intro (Own1.below hoz hBr (Nat.le_refl _)) (And.intro hov.lt (And.intro g10 (And.intro (hbr.trans (hBr.mono hszr)) (And.intro htk (And.intro hx (And.intro hs9 (And.intro hs10 (And.intro hsb hszr)))))))))))))
            have KD : Hid (∀ W, Below wr.heap.size wr W → W.cell? ⟨tb, 0, none⟩ = some (.int .i64 t1) ∧ W.cell? ⟨tb, 1, none⟩ = some (.int .i64 t2) ∧ W.cell? ⟨b, off + i * 2, none⟩ = some (.int .i64 x4) ∧ W.cell? ⟨b, off + i * 2 + 1, none⟩ = some (.string x5)) := Lib.hid fun W hb => by
              have c : ∀ {p : Addr} {v}, wr.cell? p = some v → W.cell? p = some v := fun {p v} h => (hb.cell (lt_of_cell h)).trans h
              exact ⟨c u0, c u1, c q0, c q1⟩
            have hst : (s6.size : Int) ≤ 9223372036854775807 := by have := best_size H6.out.2.2.2.2.1; omega
            have HW := Lib.hid (And.intro hW9 hW10)
            clear hB9 hB10 hBr g9 g10 hone hov hoz hbr htk hx hxx Hr hgr hbr0 hov0 hoz0 hW9 hW10
            go_wp2_with fail
            go_region_held3 (fun W => W.cell? ⟨tb, 0, none⟩ = some (.int .i64 t1) ∧ W.cell? ⟨tb, 1, none⟩ = some (.int .i64 t2) ∧ W.cell? ⟨b, off + i * 2, none⟩ = some (.int .i64 x4) ∧ W.cell? ⟨b, off + i * 2 + 1, none⟩ = some (.string x5))
              ((refine KD.out _ ?_; repeat (first | exact Below.refl _ _ | apply Below.drew | refine Below.alloc ?_ (Nat.le_refl _) _ | refine Below.setCell ?_ (Nat.le_refl _) _)))
              (fail)
            rename_i hHeld
            obtain ⟨hW9, hW10⟩ := HW.out
            rw [hW9]
            clear hHeld q0 q1 u0 u1
            go_wp2_with (at_builtin; refine append_vers 71 73 rfl rfl w7.heap.size _ (must.take i) _ (some ⟨sb + 1, 0, none⟩) 1 1 [(t1, t2, (s6.size : Int), x4, x5)] rfl rfl HA.out.1 rfl HA.out.2.2.1 (fun e => by cases e) HA.out.2.1 HA.out.2.2.2.1 ?_)
            intro um' w11 p1 p2 _ _
            have hB11 : Below w7.heap.size w7 w11 := HA.out.2.2.2.2.2.2.2.1.grown p2 HA.out.2.2.2.1 (fun j e => (HA.out.2.2.2.2.2.1 j e).1)
            have hlt9 := HA.out.2.2.2.2.2.2.2.2.2.2.1
            have hlt10 := HA.out.2.2.2.2.2.2.2.2.2.2.2.1
            have hltb := HA.out.2.2.2.2.2.2.2.2.2.2.2.2
            have g11 : w11.heap[sb]? = some (.cells #[.int .i64 t1, .int .i64 t2, .int .i64 s6.size, .int .i64 x4, .string x5] 58 (0, 0)) := (p2.block sb (by rw [hlt10]; omega) (fun e => by have := (HA.out.2.2.2.2.2.1 _ e.symm).2; omega)).trans HA.out.2.2.2.2.2.2.1
            have hz11 : OwnZ w7.heap.size w11 ul (lackI must told i) := Own1.kept HA.out.2.2.2.2.1 p2 (by
              cases hq : um.ownBlock with
              | none => cases ul.ownBlock <;> simp
              | some g => exact .inr fun e => sep_vz HA.out.1 HA.out.2.2.2.2.1 g hq e)
            have hm11 : OwnV w7.heap.size w11 um' (must.take (i + 1)) := by rw [HA.out.2.2.2.2.2.2.2.2.1]; exact p1
            have htol : i < told.length := by rw [HT.out.1]; exact hilt
            obtain ⟨b2, off2, rfl, ad2, cp2, q0, h1, h2, h3, h4⟩ : ∃ b2 off2, a1 = some ⟨b2, off2, none⟩ ∧ ∃ ad2 cp2, w11.cell? ⟨b2, off2 + i, none⟩ = some (.slice ad2 (told[i]?.getD []).length cp2) ∧ (told[i]?.getD []).length ≤ cp2 ∧ cp2 ≤ maxLen ∧ (ad2 = none → cp2 = 0) ∧ VrR w11.heap.size w11 ad2 (told[i]?.getD []) := by
              rcases H7.out.2.2.1.below hB11 with he | ⟨b2, off2, h, _, hc⟩
              · exfalso
                rw [he] at htol; simp at htol
              · exact ⟨b2, off2, h, hc i htol⟩
            obtain ⟨tl, htl⟩ : ∃ tl, told[i]?.getD [] = tl := ⟨_, rfl⟩
            rw [htl] at q0 h1 h4
            have hls := lackI_snoc must told i
            rw [HA.out.2.2.2.2.2.2.2.2.2.1, htl] at hls
            obtain ⟨ln, hln⟩ : ∃ ln, tl.length = ln := ⟨_, rfl⟩
            rw [hln] at q0 h1
            have hln9 : ln ≤ 9223372036854775807 := by unfold maxLen at h2; omega
            have hz9 : i < 12 := by have := HZ.out.2.2; omega
            have H11 := Lib.hid (And.intro hB11 (And.intro hm11 (And.intro hz11 (And.intro hls (And.intro hz9 (And.intro (Nat.le_trans HA.out.2.2.2.1 p2.size) (And.intro g11 (And.intro h4 (And.intro hln q0)))))))))
            clear hW9 hW10 hs9 hs10 hB11 hlt9 hlt10 hltb g11 hz11 hm11 htol htl hls h1 h2 h3 h4 hln z0 z1 z2 z3 z4 p1 p2 hsb hz9
            go_wp2_with fail
            go_loopw [19, 20] (fun vs vk wi => ∃ (j : Nat), j ≤ ln ∧ vk = .int .i64 j ∧ vs = .bool (inV (t1, t2, (s6.size : Int), x4, x5) (tl.take j)) ∧ Hid (∃ q, wi = w11.drewN q)) (fun _ vk _ => ln - (intOf vk).toNat)
            case atStart => exact ⟨0, by omega, rfl, by simp [inV], Lib.hid ⟨0, rfl⟩⟩
            case round =>
              obtain ⟨j, hj, rfl, rfl, Hq⟩ := hrel
              have hcc : ∀ {p : Addr} {v}, w11.cell? p = some v → wr.cell? p = some v := fun {p v} h => by
                obtain ⟨q, rfl⟩ := Hq.out
                exact h
              have q1 := hcc H11.out.2.2.2.2.2.2.2.2.2
              have hj2 : j < ln ∨ ln = j := by omega
              rcases hj2 with hjlt | rfl
              · have hjlt2 : (j : Int) < ln := by omega
                have hjl : j < tl.length := by rw [H11.out.2.2.2.2.2.2.2.2.1]; exact hjlt
                obtain ⟨b3, off3, rfl, f0, f1, f2, f3, f4⟩ : ∃ b3 off3, ad2 = some ⟨b3, off3, none⟩ ∧ wr.cell? ⟨b3, off3 + j * 5, none⟩ = some (.int .i64 (tl[j]?.getD ver0).1) ∧ wr.cell? ⟨b3, off3 + j * 5 + 1, none⟩ = some (.int .i64 (tl[j]?.getD ver0).2.1) ∧ wr.cell? ⟨b3, off3 + j * 5 + 2, none⟩ = some (.int .i64 (tl[j]?.getD ver0).2.2.1) ∧ wr.cell? ⟨b3, off3 + j * 5 + 3, none⟩ = some (.int .i64 (tl[j]?.getD ver0).2.2.2.1) ∧ wr.cell? ⟨b3, off3 + j * 5 + 4, none⟩ = some (.string (tl[j]?.getD ver0).2.2.2.2) := by
                  rcases H11.out.2.2.2.2.2.2.2.1 with he | ⟨b3, off3, h, _, hc⟩
                  · exfalso
                    rw [he] at hjl; simp at hjl
                  · obtain ⟨f0, f1, f2, f3, f4⟩ := VrR.at5 hc hjl
                    exact ⟨b3, off3, h, hcc f0, hcc f1, hcc f2, hcc f3, hcc f4⟩
                have his := inV_snoc (x := (t1, t2, (s6.size : Int), x4, x5)) hjl
                obtain ⟨⟨y1, y2, y3, y4, y5⟩, hy⟩ : ∃ y, tl[j]?.getD ver0 = y := ⟨_, rfl⟩
                rw [hy] at f0 f1 f2 f3 f4 his
                dsimp only at f0 f1 f2 f3 f4
                have g11 := H11.out.2.2.2.2.2.2.1
                have e0 := hcc (show w11.cell? ⟨sb, 0, none⟩ = some (.int .i64 t1) from cell_of_heap g11 0)
                have e1 := hcc (show w11.cell? ⟨sb, 1, none⟩ = some (.int .i64 t2) from cell_of_heap g11 1)
                have e2 := hcc (show w11.cell? ⟨sb, 2, none⟩ = some (.int .i64 s6.size) from cell_of_heap g11 2)
                have e3 := hcc (show w11.cell? ⟨sb, 3, none⟩ = some (.int .i64 x4) from cell_of_heap g11 3)
                have e4 := hcc (show w11.cell? ⟨sb, 4, none⟩ = some (.string x5) from cell_of_heap g11 4)
                obtain ⟨i0, hi0⟩ : ∃ i0, inV (t1, t2, (s6.size : Int), x4, x5) (tl.take j) = i0 := ⟨_, rfl⟩
                rw [hi0] at his ⊢
                have HX := Lib.hid his
                clear hjl his hy g11 hcc hi0
                have hcs : (y1 = t1 ∧ y2 = t2 ∧ y3 = s6.size ∧ y4 = x4 ∧ y5 = x5) ∨ (y1 == t1) = false ∨ (y1 = t1 ∧ (y2 == t2) = false) ∨ (y1 = t1 ∧ y2 = t2 ∧ (y3 == s6.size) = false) ∨ (y1 = t1 ∧ y2 = t2 ∧ y3 = s6.size ∧ (y4 == x4) = false) ∨ (y1 = t1 ∧ y2 = t2 ∧ y3 = s6.size ∧ y4 = x4 ∧ (y5.toList == x5.toList) = false) := by
                  by_cases e1 : y1 = t1
                  · by_cases e2 : y2 = t2
                    · by_cases e3 : y3 = s6.size
                      · by_cases e4 : y4 = x4
                        · by_cases e5 : y5 = x5
                          · exact .inl ⟨e1, e2, e3, e4, e5⟩
                          · exact .inr (.inr (.inr (.inr (.inr ⟨e1, e2, e3, e4, txt_neW e5⟩))))
                        · exact .inr (.inr (.inr (.inr (.inl ⟨e1, e2, e3, beq_eq_false_iff_ne.2 e4⟩))))
                      · exact .inr (.inr (.inr (.inl ⟨e1, e2, beq_eq_false_iff_ne.2 e3⟩)))
                    · exact .inr (.inr (.inl ⟨e1, beq_eq_false_iff_ne.2 e2⟩))
                  · exact .inr (.inl (beq_eq_false_iff_ne.2 e1))
                rcases hcs with ⟨rfl, rfl, rfl, rfl, rfl⟩ | hne
                · have HN : Hid (inV (y1, y2, (s6.size : Int), y4, y5) (tl.take (j + 1)) = true) := Lib.hid (by rw [HX.out]; simp)
                  go_wp2_with fail
                  go_quiet (fail)
                  go_wp2_with fail
                  go_roundw
                  case rel => exact ⟨j + 1, by omega, by go_num, by rw [HN.out], Lib.hid (by
                    obtain ⟨q, hq⟩ := Hq.out
                    exact ⟨q + nq, by rw [hq, World.drewN_drewN]⟩)⟩
                  case measure => simp [intOf]; omega
                · have HN : Hid (inV (t1, t2, (s6.size : Int), x4, x5) (tl.take (j + 1)) = i0) := Lib.hid (by
                    rw [HX.out]
                    have hno : ¬ ((y1, y2, y3, y4, y5) : Ver) = (t1, t2, (s6.size : Int), x4, x5) := fun e => by
                      simp only [Prod.mk.injEq] at e
                      obtain ⟨rfl, rfl, rfl, rfl, rfl⟩ := e
                      simp at hne
                    rw [decide_eq_false hno, Bool.or_false])
                  clear HX
                  rcases hne with h9 | ⟨rfl, h9⟩ | ⟨rfl, rfl, h9⟩ | ⟨rfl, rfl, rfl, h9⟩ | ⟨rfl, rfl, rfl, rfl, h9⟩
                  all_goals
                    go_wp2_with fail
                    go_quiet (fail)
                    go_wp2_with fail
                    go_roundw
                    case rel => exact ⟨j + 1, by omega, by go_num, by rw [HN.out], Lib.hid (by
                      obtain ⟨q, hq⟩ := Hq.out
                      exact ⟨q + nq, by rw [hq, World.drewN_drewN]⟩)⟩
                    case measure => simp [intOf]; omega
              · have htk : tl.take ln = tl := List.take_of_length_le (by rw [H11.out.2.2.2.2.2.2.2.2.1]; exact Nat.le_refl _)
                rw [htk]
                have hB12 : Below w11.heap.size w11 wr := by
                  obtain ⟨q, rfl⟩ := Hq.out
                  exact ⟨rfl, rfl, rfl, Nat.le_refl _, fun _ _ => rfl⟩
                have H12 := Lib.hid (And.intro (H11.out.1.trans (hB12.mono H11.out.2.2.2.2.2.1)) (And.intro (H11.out.2.1.below hB12 (Nat.le_refl _)) (And.intro (show OwnZ w7.heap.size wr ul (lackI must told i) from Own1.below H11.out.2.2.1 hB12 (Nat.le_refl _)) (Nat.le_trans H11.out.2.2.2.2.2.1 hB12.size))))
                have hls := H11.out.2.2.2.1
                obtain ⟨r, hr⟩ : ∃ r, inV (t1, t2, (s6.size : Int), x4, x5) tl = r := ⟨_, rfl⟩
                rw [hr] at hls ⊢
                have HL := Lib.hid hls
                clear hB12 hcc htk hls hr
                cases r with
                | true =>
                  have HN : Hid (Below w7.heap.size w7 wr ∧ LkState w7.heap.size wr (i + 1) um' ul must told) := Lib.hid ⟨H12.out.1, H12.out.2.1, by
                    have h9 := HL.out
                    rw [if_pos (by rfl), List.append_nil] at h9
                    rw [h9]; exact H12.out.2.2.1⟩
                  go_wp2
                  go_roundw
                  case rel => exact ⟨i + 1, _, _, by omega, by go_num, rfl, rfl, HN⟩
                  case measure => simp [intOf]; omega
                | false =>
                  go_wp2_with (at_builtin; refine append_int 95 97 rfl rfl w7.heap.size ul (lackI must told i) i rfl rfl H12.out.2.2.1 (by have h1 := lackI_le must told i; have h2 := H11.out.2.2.2.2.1; omega) H12.out.2.2.2 ?_)
                  intro ul' w13 r1 r2 _
                  have HN : Hid (Below w7.heap.size w7 w13 ∧ LkState w7.heap.size w13 (i + 1) um' ul' must told) := Lib.hid ⟨H12.out.1.trans (((Below.refl _ _).alloc H12.out.2.2.2 _).trans (World.grownBy.below r2 (by simp; have := H12.out.2.2.2; omega) (fun k e => (H12.out.2.2.1.lt k e).1))), H12.out.2.1.kept2 (sep_vz H12.out.2.1 H12.out.2.2.1).symm r2, by
                    have h9 := HL.out
                    rw [if_neg (by decide)] at h9
                    rw [h9]; exact r1⟩
                  clear r1 r2
                  go_wp2
                  go_roundw
                  case rel =>
                    first
                    | exact ⟨i + 1, _, _, by omega, by go_num, rfl, rfl, HN⟩
                    | (repeat apply Exists.intro); exact ⟨⟨i + 1, _, _, by omega, by go_num, rfl, rfl, HN⟩, rfl⟩
                  case measure => simp [intOf]; omega
          · have HS : Hid (Below w7.heap.size w7 wr ∧ OwnV w7.heap.size wr um must ∧ OwnZ w7.heap.size wr ul (lackL must told)) := Lib.hid ⟨hbr0, by
              have h9 : must.take pl = must := List.take_of_length_le (by rw [H7.out.2.2.2.2.2.1]; exact Nat.le_refl _)
              have h8 := hov0
              rw [h9] at h8; exact h8, by
              have h9 := lackI_all must told
              rw [H7.out.2.2.2.2.2.1] at h9
              rw [← h9]; exact hoz0⟩
            clear hbr0 hov0 hoz0 Hr
            go_wp2_with fail
            go_ret2
            exact ⟨H7.out.1.trans (HS.out.1.mono H7.out.1.size), _, _, rfl, .inr ⟨(t1, t2), s6, H6.out.2.2.2.2.1, by
              rw [H7.out.2.2.2.2.1]; exact HS.out.2.1.lower H7.out.1.size, by
              rw [H7.out.2.2.2.2.1]; exact Own1.lower HS.out.2.2 H7.out.1.size⟩⟩
end
end Go.Proofs.YtolbdcmoblcakaaGreatDoor
/- The walk of the document's NodesFault. -/
namespace Go.Proofs.YtolbdcmoblcakaaGreatDoor
open Go.RowKit

/-- a fault as the document's answer has it. -/
def fltA (f : Nat × Int) : Value := .agg #[.int .i64 (f.1 : Nat), .int .i64 f.2]
theorem drewN_below (w : World) (n : Nat) : Below w.heap.size w (w.drewN n) := ⟨rfl, rfl, rfl, Nat.le_refl _, fun _ _ => rfl⟩
theorem alloc_drewN_below (w : World) (o : Obj) (n : Nat) : Below w.heap.size w ((w.alloc o).drewN n) := ((Below.refl _ w).alloc (Nat.le_refl _) o).trans ((drewN_below (w.alloc o) n).mono (by simp))
set_option maxRecDepth 100000 in
set_option maxHeartbeats 4000000 in
theorem rnodes_walk (n₀ : Nat) (a : Option Addr) (len cap : Nat) (L : List ByteArray) (w : World) (hlen : L.length = len) (hcap : len ≤ cap) (hsz : ∀ j : Nat, (L[j]?.getD (⟨#[]⟩ : ByteArray)).size ≤ maxLen) (hI : TxsAt n₀ w a L) (hn : n₀ ≤ w.heap.size) :
    Calls Tryz.prog 28 #[.slice a len cap] w fun e w' => e = .returned (fltA (nodesF L)) ∧ Below w.heap.size w w' := by
  have hP := Pair.new w (.int .i64 0) (.int .i64 0) 42
  have hB0 : Below w.heap.size w (w.alloc (.cells #[.int .i64 0, .int .i64 0] 42)) := (Below.refl _ w).alloc (Nat.le_refl _) _
  have hz : w.heap.size < (w.alloc (.cells #[.int .i64 0, .int .i64 0] 42)).heap.size := by simp
  obtain ⟨W0, hW0⟩ : ∃ W0, w.alloc (.cells #[.int .i64 0, .int .i64 0] 42) = W0 := ⟨_, rfl⟩
  rw [hW0] at hP hB0 hz
  have hI0 := (hI.mono hn).below hB0
  obtain ⟨bb, hbb⟩ : ∃ bb, w.heap.size = bb := ⟨_, rfl⟩
  rw [hbb] at hP hz
  have HB := Lib.hid (And.intro hP (And.intro hB0 hz))
  have HW := Lib.hid hW0
  have Hbb := Lib.hid hbb
  have HI := Lib.hid hI0
  obtain ⟨F, hF⟩ : ∃ F, nodesF L = F := ⟨_, rfl⟩
  have HF := Lib.hid hF
  rw [hF]
  have hset : ∀ V, Below w.heap.size w V → ∀ u v : Value, Below w.heap.size w ((V.setCell ⟨bb, 0, none⟩ u).setCell ⟨bb, 1, none⟩ v) := fun V hV u v => (hV.setCell (p := ⟨bb, 0, none⟩) (Nat.le_of_eq hbb) u).setCell (p := ⟨bb, 1, none⟩) (Nat.le_of_eq hbb) v
  have Hset := Lib.hid hset
  have Hl := Lib.hid hlen
  have Hs := Lib.hid hsz
  clear hF hW0 hbb hP hB0 hz hset hI hI0
  by_cases hb : 1 ≤ len ∧ len ≤ 16
  · have hm' : len ≤ 9223372036854775807 := by omega
    have Hr : Hid (1 ≤ L.length ∧ L.length ≤ 16) := Lib.hid (by rw [hlen]; exact hb)
    have g1 : ¬ (len : Int) < 1 := by omega
    have g1d : decide (len < 1) = false := decide_eq_false (by omega)
    have g2 : ¬ (16 : Int) < len := by omega
    have g2d : decide (16 < len) = false := decide_eq_false (by omega)
    have hcap2 : (len : Int) ≤ cap := by omega
    clear hb hlen hsz hcap
    go_enter Tryz.func28, Tryz.ntmps28
    go_wp2
    rw [HW.out, Hbb.out]
    go_loopw [3] (fun vi wr => ∃ k : Nat, k ≤ len ∧ vi = .int .i64 k ∧ Hid ((∀ j, j < k → badAt L j = 0) ∧ ∃ q, wr = W0.drewN q)) (fun i _ => len - (intOf i).toNat)
    case atStart => exact ⟨0, by omega, rfl, Lib.hid ⟨fun j hj => by omega, 0, rfl⟩⟩
    case round =>
      obtain ⟨k, hk, rfl, Hz⟩ := hrel
      have hk2 : k < len ∨ k = len := by omega
      have hpw : Pair wr bb (.int .i64 0) (.int .i64 0) ∧ Below w.heap.size w wr ∧ bb < wr.heap.size ∧ TxsAt w.heap.size wr a L := by
        obtain ⟨_, q, hq⟩ := Hz.out
        rw [hq]
        exact ⟨HB.out.1.drewN q, HB.out.2.1.trans ((drewN_below W0 q).mono HB.out.2.1.size), HB.out.2.2, HI.out⟩
      have HP := Lib.hid hpw
      clear hpw
      rcases hk2 with hlt | rfl
      · have hlt2 : (k : Int) < len := by omega
        have hk3 : (k : Int) ≤ cap := by omega
        rcases HP.out.2.2.2 with he | ⟨b, off, rfl, hbl, hc⟩
        · exfalso
          have := Hl.out
          rw [he] at this; simp at this; omega
        have h1 := hc k (by have := Hl.out; omega)
        obtain ⟨x, hx⟩ : ∃ x, L[k]?.getD ⟨#[]⟩ = x := ⟨_, rfl⟩
        have hxs := Hs.out k
        rw [hx] at h1 hxs
        have Hx := Lib.hid hx
        have Hn := Lib.hid (rname_walk x wr hxs)
        clear hc hx hxs
        cases hnb : nameB x with
        | false =>
          rw [hnb] at Hn
          have hF2 : F = (4, (k : Int)) := by
            have hbad : badAt L k = 4 := badAt_name (by rw [Hx.out]; exact hnb)
            rw [← HF.out, nodesF_at Hr.out (by have := Hl.out; omega) Hz.out.1 (by omega), hbad]
          clear hnb
          subst hF2
          obtain ⟨p0, p1, q0, q1⟩ := HP.out.1
          go_wp2_with fail
          refine Hn.out.mono ?_
          rintro e w' ⟨rfl, rfl⟩
          go_wp2
          exact bodyPost_ret (v := fltA (4, (k : Int))) (by simp [results, Tryz.results28, fltA, p0, p1, go_sem]) rfl ⟨rfl, Hset.out _ HP.out.2.1 _ _⟩
        | true =>
          rw [hnb] at Hn
          obtain ⟨y, hy⟩ : ∃ y, idxT (L.take k) x = y := ⟨_, rfl⟩
          have hq : ∀ n c, Calls Tryz.prog 48 #[.slice (some ⟨b, off, none⟩) k c, .string x] (wr.drewN n) fun e w' => e = .returned (.int .i64 y) ∧ w' = wr.drewN n := fun n c => by
            rw [← hy]
            exact (ridx_walk w.heap.size (some ⟨b, off, none⟩) k c (L.take k) x (wr.drewN n) (at_take (by have := Hl.out; omega)) (by have := Hl.out; have := Hr.out; unfold maxLen; omega) (TxsAt.take k HP.out.2.2.2)).mono fun e w' h => ⟨h.1, h.2.symm⟩
          have Hq := Lib.hid hq
          have hmem := (idxT_range (L.take k) x).2.2
          rw [hy] at hmem
          by_cases hm : x ∈ L.take k
          · have hy0 : 0 ≤ y := hmem.2 hm
            have hF2 : F = (6, (k : Int)) := by
              have hbad : badAt L k = 6 := badAt_exist (by rw [Hx.out]; exact hnb) (by rw [Hx.out]; exact hm)
              rw [← HF.out, nodesF_at Hr.out (by have := Hl.out; omega) Hz.out.1 (by omega), hbad]
            clear hnb hmem hm hq hy
            subst hF2
            obtain ⟨p0, p1, q0, q1⟩ := HP.out.1
            go_wp2_with fail
            refine Hn.out.mono ?_
            rintro e w' ⟨rfl, rfl⟩
            go_wp2
            go_quiet ((go_at_call 48; exact Calls.quiet_of_same (Hq.out _ _)))
            go_wp2
            exact bodyPost_ret (v := fltA (6, (k : Int))) (by simp [results, Tryz.results28, fltA, p0, p1, go_sem]) rfl ⟨rfl, Hset.out _ (HP.out.2.1.trans ((drewN_below wr _).mono HP.out.2.1.size)) _ _⟩
          · have hy0 : ¬ 0 ≤ y := fun h => hm (hmem.1 h)
            have hbad : badAt L k = 0 := badAt_ok (by rw [Hx.out]; exact hnb) (by rw [Hx.out]; exact hm)
            have Hbad := Lib.hid hbad
            clear hnb hmem hm hbad hq hy
            go_wp2_with fail
            refine Hn.out.mono ?_
            rintro e w' ⟨rfl, rfl⟩
            go_wp2
            go_quiet ((go_at_call 48; exact Calls.quiet_of_same (Hq.out _ _)))
            go_wp2
            go_roundw
            case rel => exact ⟨k + 1, by omega, by go_num, Lib.hid ⟨fun j hj => by
              by_cases e : j = k
              · rw [e]; exact Hbad.out
              · exact Hz.out.1 j (by omega), by
                obtain ⟨_, q, hq⟩ := Hz.out
                exact ⟨q + nq, by rw [hq, World.drewN_drewN]⟩⟩⟩
            case measure => simp [intOf]; omega
      · have hF2 : F = (0, -1) := by rw [← HF.out, nodesF_ok Hr.out (fun j hj => Hz.out.1 j (by have := Hl.out; omega))]
        subst hF2
        have Hfn := Lib.hid (fine_walk wr)
        go_wp2_with fail
        refine Hfn.out.mono ?_
        rintro e w1 ⟨rfl, hb1⟩
        obtain ⟨p0, p1, q0, q1⟩ := HP.out.1.below hb1 HP.out.2.2.1
        have HB1 := Lib.hid (HP.out.2.1.trans (hb1.mono HP.out.2.1.size))
        clear hb1
        go_wp2
        exact bodyPost_ret (v := fltA (0, -1)) (by simp [results, Tryz.results28, fltA, p0, p1, go_sem]) rfl ⟨rfl, Hset.out _ HB1.out _ _⟩
  · have hF2 : F = (2, -1) := by rw [← HF.out, nodesF_out (by rw [hlen]; exact hb)]
    subst hF2
    have hcase : len < 1 ∨ (¬ len < 1 ∧ 16 < len) := by omega
    rcases hcase with h1 | ⟨h1, h2⟩
    case' inl =>
      have g1 : (len : Int) < 1 := by omega
      have g1d : decide (len < 1) = true := decide_eq_true h1
    case' inr =>
      have g1 : ¬ (len : Int) < 1 := by omega
      have g1d : decide (len < 1) = false := decide_eq_false h1
      have g2 : (16 : Int) < len := by omega
      have g2d : decide (16 < len) = true := decide_eq_true h2
    all_goals
      clear hb hlen hsz hcap h1
      try clear h2
      have Hfn := Lib.hid (bare_walk 2 W0)
      go_enter Tryz.func28, Tryz.ntmps28
      go_wp2_with fail
      rw [HW.out, Hbb.out]
      refine Hfn.out.mono ?_
      rintro e w1 ⟨rfl, hb1⟩
      obtain ⟨p0, p1, q0, q1⟩ := HB.out.1.below hb1 HB.out.2.2
      have HB1 := Lib.hid (HB.out.2.1.trans (hb1.mono HB.out.2.1.size))
      clear hb1
      go_wp2
      exact bodyPost_ret (v := fltA (2, -1)) (by simp [results, Tryz.results28, fltA, p0, p1, go_sem]) rfl ⟨rfl, Hset.out _ HB1.out _ _⟩
end Go.Proofs.YtolbdcmoblcakaaGreatDoor
