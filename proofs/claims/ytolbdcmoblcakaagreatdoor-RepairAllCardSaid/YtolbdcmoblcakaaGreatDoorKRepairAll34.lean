/- The walk of repair.look. -/
import Derived.Test.YtolbdcmoblcakaaGreatDoorKRepairAll33
import Derived.Test.YtolbdcmoblcakaaGreatDoorKRepairAll07
import Derived.OwnWalk
namespace Go.Proofs.YtolbdcmoblcakaaGreatDoor
section
open Go.RowKit Go.Maps Go.BigFrame

/-- what of the second loop has been done. -/
def LkState (n₀ : Nat) (wi : World) (i : Nat) (vm vl : Value) (must : List Ver) (told : List (List Ver)) : Prop :=
  OwnV n₀ wi vm (must.take i) ∧ OwnZ n₀ wi vl (lackI must told i)
theorem sep_vz {n : Nat} {w : World} {va vb : Value} {L : List Ver} {us : List Value} (ha : OwnV n w va L) (hb : Own1 3 n w vb us) : Sep va vb := fun g e1 e2 => by
  obtain ⟨c1, h1⟩ := ownv_heap ha e1
  obtain ⟨c2, h2⟩ := own1_heap hb e2
  rw [h1] at h2
  simp at h2
theorem OwnV.kept2 {B : Nat} {w0 w' : World} {v u : Value} {L : List Ver} {o : Obj} (hu : OwnV B w0 u L) (hs : Sep v u) (hg : (w0.alloc o).grownBy w' v.ownBlock) : OwnV B w' u L := by
  refine OwnV.kept (OwnV.below hu ((Below.refl w0.heap.size w0).alloc (Nat.le_refl _) o) (Nat.le_refl _)) hg ?_
  cases hv : v.ownBlock with
  | none => cases u.ownBlock <;> simp
  | some g => exact .inr fun e => hs g hv e
set_option maxRecDepth 100000 in
set_option maxHeartbeats 16000000 in
theorem rlook_walk (n k : Int) (n₀ : Nat) (a : Option Addr) (len cap : Nat) (L : List ByteArray) (key : ByteArray) (pa : Option Addr) (pl pc : Nat) (Z : Nat → Prop) (sl : List Slot) (w : World) (E : Nat → Addr) (hE : ErrEnv w E) (hlen : L.length = len) (hcap : len ≤ cap)
    (hsz : ∀ j : Nat, (L[j]?.getD (⟨#[]⟩ : ByteArray)).size ≤ maxLen) (hI : TxsAt n₀ w a L) (hn : n₀ ≤ w.heap.size) (hk : key.size ≤ maxLen) (hpl : sl.length = pl) (hpm : pl ≤ 9223372036854775807) (hP : PtrR w pa (ptrsH sl)) (hR : RackAt Z w sl) :
    Calls Tryz.prog 26 #[cfgV n k (.slice a len cap), .string key, .slice pa pl pc] w fun e w' => LookPost w w' E n k L pl (toldC key (consH sl)) e := by
  obtain ⟨W0, hW0⟩ : ∃ W0, w.alloc (.cells #[.int .i64 n, .int .i64 k, .slice a len cap] 24) = W0 := ⟨_, rfl⟩
  have hB0 : Below w.heap.size w W0 := by rw [← hW0]; exact (Below.refl _ w).alloc (Nat.le_refl _) _
  have hC0 : CfgAt W0 w.heap.size n k (.slice a len cap) := by rw [← hW0]; exact CfgAt.new w n k (.slice a len cap)
  have hs0 : w.heap.size < W0.heap.size := by rw [← hW0]; simp
  obtain ⟨cb, hcb⟩ : ∃ cb, w.heap.size = cb := ⟨_, rfl⟩
  have H := Lib.hid (And.intro hE (And.intro hlen (And.intro hcap (And.intro hsz (And.intro hI (And.intro hn (And.intro hk (And.intro hpl (And.intro hpm (And.intro hP hR))))))))))
  have H0 := Lib.hid (And.intro hB0 (And.intro hC0 (And.intro hs0 hcb)))
  have Hq := Lib.hid (qcheck_walk n k n₀ a len cap L W0 E (hE.below hB0 (Nat.le_refl _)).qx hlen hcap hsz (hI.below (hB0.mono hn)) (Nat.le_trans hn (Nat.le_of_lt hs0)))
  have Hcb : Hid (cb < W0.heap.size) := Lib.hid (by rw [← hcb]; exact hs0)
  rw [hcb] at hC0
  obtain ⟨c0, c1, c2⟩ := hC0
  clear hE hlen hcap hsz hI hn hk hpl hpm hP hR hB0 hs0
  unfold cfgV
  obtain ⟨F, hF⟩ : ∃ F, configF n k L = F := ⟨_, rfl⟩
  have HF := Lib.hid hF
  have htl : (toldC key (consH sl)).length = pl := by rw [toldC_length, consH_length]; exact H.out.2.2.2.2.2.2.2.1
  have htt := told_tot H.out.2.2.2.2.2.2.2.2.2.2 key
  have hta : ∀ (i : Nat) (s : Slot), sl[i]? = some s → (toldC key (consH sl))[i]?.getD [] = conT key (s.map fun x => x.2.2.1) := fun i s hs => toldC_at (consH_is hs)
  obtain ⟨told, htd⟩ : ∃ told, toldC key (consH sl) = told := ⟨_, rfl⟩
  rw [htd] at htl htt hta ⊢
  have HT := Lib.hid (And.intro htl (And.intro htt hta))
  clear htl htt hta htd
  clear hF
  go_enter Tryz.func26, Tryz.ntmps26
  go_wp2_with fail
  clear hW0 c0 c1 c2
  refine Hq.out.mono ?_
  rintro e w1 ⟨⟨v1, rfl, hv1⟩, hb1⟩
  have hB1 : Below w.heap.size w w1 := H0.out.1.trans (hb1.mono H0.out.1.size)
  have hC1 : CfgAt w1 cb n k (.slice a len cap) := by have h9 := H0.out.2.1.below hb1 H0.out.2.2.1; rw [H0.out.2.2.2] at h9; exact h9
  have hE1 := H.out.1.below hB1 (Nat.le_refl _)
  have H1 := Lib.hid (And.intro hB1 (And.intro hC1 (And.intro hE1 (Nat.lt_of_lt_of_le Hcb.out hb1.size))))
  obtain ⟨c0, c1, c2⟩ := hC1
  have hpm9 : pl ≤ 9223372036854775807 := H.out.2.2.2.2.2.2.2.2.1
  rw [HF.out] at hv1
  clear hb1 hB1 hE1
  by_cases h0 : F.1 = 0
  · obtain ⟨hF0, rfl⟩ := hv1.nil h0
    obtain ⟨⟨hk1, hkn, hn12⟩, _⟩ := configF_zero (show (configF n k L).1 = 0 by rw [HF.out]; exact h0)
    obtain ⟨n, rfl⟩ : ∃ m : Nat, n = (m : Int) := ⟨n.toNat, by omega⟩
    obtain ⟨k, rfl⟩ : ∃ m : Nat, k = (m : Int) := ⟨k.toNat, by omega⟩
    have HZ := Lib.hid (And.intro h0 (And.intro (show 1 ≤ k by omega) (And.intro (show k ≤ n by omega) (show n ≤ 12 by omega))))
    clear hv1 h0 hF0 hk1 hkn hn12
    by_cases hpn : pl = n
    · subst hpn
      have HW1 : Hid (Below w.heap.size w w1 ∧ PtrR w1 pa (ptrsH sl) ∧ RackAt Z w1 sl) := Lib.hid ⟨H1.out.1, H.out.2.2.2.2.2.2.2.2.2.1.below H1.out.1, H.out.2.2.2.2.2.2.2.2.2.2.below' H1.out.1 (Nat.le_refl _)⟩
      go_wp2_with fail
      go_loopw [10, 33] (fun vt vi wr => ∃ (i : Nat) (v : Value), i ≤ pl ∧ vi = .int .i64 i ∧ v = vt ∧ Hid (Below w1.heap.size w1 wr ∧ ∃ us, OwnVs w1.heap.size wr v (told.take i) us)) (fun _ vi _ => pl - (intOf vi).toNat)
      case atStart => exact ⟨0, _, by omega, rfl, rfl, Lib.hid ⟨Below.refl _ _, [], OwnVs.nil _ _⟩⟩
      case round =>
        obtain ⟨i, v, hi, rfl, hv, Hr⟩ := hrel
        subst hv
        obtain ⟨hbr, us, hus⟩ := Hr.out
        have hi2 : i < pl ∨ pl = i := by omega
        rcases hi2 with hilt | rfl
        · have hilt2 : (i : Int) < pl := by omega
          have hszr : w1.heap.size ≤ wr.heap.size := hbr.size
          have hsll : i < sl.length := by rw [H.out.2.2.2.2.2.2.2.1]; exact hilt
          obtain ⟨s, hs⟩ : ∃ s, sl[i]? = some s := ⟨_, List.getElem?_eq_getElem hsll⟩
          obtain ⟨b, off, rfl, hpc⟩ : ∃ b off, pa = some ⟨b, off, none⟩ ∧ wr.cell? ⟨b, off + i, none⟩ = some (.pointer (s.map fun x => (⟨x.1, 0, none⟩ : Addr))) := by
            rcases HW1.out.2.1.below hbr with he | ⟨b, off, h, hb, hc⟩
            · exfalso
              have h9 := size_ptrsH sl
              rw [he] at h9; simp at h9; omega
            · exact ⟨b, off, h, by rw [← ptrsH_at hs]; exact hc i (by rw [size_ptrsH]; exact hsll)⟩
          have htl : i < told.length := by rw [HT.out.1]; exact hilt
          have htk := take_snocL told [] i htl
          rw [HT.out.2.2 i s hs] at htk
          have hlu : us.length ≤ 12 := by
            rw [hus.lenu, List.length_take]
            have := HZ.out.2.2.2
            omega
          have HQ := Lib.hid (And.intro hbr (And.intro hus (And.intro htk (And.intro hlu (And.intro hs hszr)))))
          clear hbr hus htk hlu hsll htl Hr
          cases s with
          | none =>
            clear hs
            go_wp2_with (at_builtin; refine append_one 82 46 (.slice none 0 0) 24 Tryz.underlying82 info_vers rfl 39 40 rfl rfl w1.heap.size v us _ rfl rfl rfl HQ.out.2.1.own (by have := HQ.out.2.2.2.1; omega) (by have := HQ.out.2.2.2.1; unfold maxLen; omega) hszr ?_)
            intro v6 w6 h1 h2 _
            have HN : Hid (Below w1.heap.size w1 w6 ∧ ∃ us, OwnVs w1.heap.size w6 v6 (told.take (i + 1)) us) := Lib.hid ⟨HQ.out.1.trans (((Below.refl _ _).alloc HQ.out.2.2.2.2.2 _).trans (World.grownBy.below h2 (by simp; have := HQ.out.2.2.2.2.2; omega) (fun k e => (HQ.out.2.1.own.lt k e).1))), _, by
              rw [HQ.out.2.2.1]; exact OwnVs.snoc HQ.out.2.1 (OwnV.nil _ _) h1 h2⟩
            clear h1 h2
            go_wp2
            go_roundw
            case rel =>
              first
              | exact ⟨i + 1, _, by omega, by go_num, rfl, HN⟩
              | (repeat apply Exists.intro); exact ⟨⟨i + 1, _, by omega, by go_num, rfl, HN⟩, rfl⟩
            case measure => simp [intOf]; omega
          | some x =>
            obtain ⟨hb, mb, l1, l2⟩ := x
            obtain ⟨f1, G, ks, S, hh⟩ := (HW1.out.2.2.below' HQ.out.1 (Nat.le_refl _)).hold hs
            have Hget := Lib.hid (hget_walk G wr hb false (getL l1) ks S key hh H.out.2.2.2.2.2.2.1 (Nat.le_trans (getL_le l1 key) (Nat.le_trans f1.2 (by decide))))
            clear hs f1 hh
            replace hpc : wr.cell? ⟨b, off + i, none⟩ = some (.pointer (some ⟨hb, 0, none⟩)) := hpc
            go_wp2_with fail
            refine Hget.out.mono ?_
            rintro e w5 ⟨hb5, u, rfl, hu⟩
            obtain ⟨ua, uc, hue, _, _, _, _⟩ := hu.read
            have H5 := Lib.hid (And.intro (HQ.out.1.trans (hb5.mono HQ.out.2.2.2.2.2)) (And.intro (HQ.out.2.1.heapK hb5) (And.intro (hu.lower HQ.out.2.2.2.2.2) (Nat.le_trans HQ.out.2.2.2.2.2 hb5.size))))
            subst hue
            clear hb5 hu
            go_wp2_with (at_builtin; refine append_one 82 46 (.slice none 0 0) 24 Tryz.underlying82 info_vers rfl 42 46 rfl rfl w1.heap.size v us _ rfl rfl rfl H5.out.2.1.own (by have := HQ.out.2.2.2.1; omega) (by have := HQ.out.2.2.2.1; unfold maxLen; omega) H5.out.2.2.2 ?_)
            intro v6 w6 h1 h2 _
            have HN : Hid (Below w1.heap.size w1 w6 ∧ ∃ us, OwnVs w1.heap.size w6 v6 (told.take (i + 1)) us) := Lib.hid ⟨H5.out.1.trans (((Below.refl _ _).alloc H5.out.2.2.2 _).trans (World.grownBy.below h2 (by simp; have := H5.out.2.2.2; omega) (fun k e => (H5.out.2.1.own.lt k e).1))), _, by
              rw [HQ.out.2.2.1]; exact OwnVs.snoc H5.out.2.1 H5.out.2.2.1 h1 h2⟩
            clear h1 h2
            go_wp2
            go_roundw
            case rel =>
              first
              | exact ⟨i + 1, _, by omega, by go_num, rfl, HN⟩
              | (repeat apply Exists.intro); exact ⟨⟨i + 1, _, by omega, by go_num, rfl, HN⟩, rfl⟩
            case measure => simp [intOf]; omega
        · have hall : told.take pl = told := List.take_of_length_le (by rw [HT.out.1]; exact Nat.le_refl _)
          rw [hall] at hus
          obtain ⟨a1, cp1, hv, hrd⟩ := hus.read
          rw [HT.out.1] at hv
          subst hv
          have hB2 : Below w.heap.size w wr := H1.out.1.trans (hbr.mono H1.out.1.size)
          have hC2 := H1.out.2.1.below hbr H1.out.2.2.2
          have hE2 := H.out.1.below hB2 (Nat.le_refl _)
          have H2 := Lib.hid (And.intro hB2 (And.intro hC2 (And.intro hE2 (And.intro (Nat.lt_of_lt_of_le H1.out.2.2.2 hbr.size) hrd))))
          have Hbe := Lib.hid (best_walk pl k n₀ a len cap L a1 pl cp1 told wr E hE2.qx hE2.ef H.out.2.1 H.out.2.2.1 H.out.2.2.2.1 (H.out.2.2.2.2.1.below (hB2.mono H.out.2.2.2.2.2.1)) (Nat.le_trans H.out.2.2.2.2.2.1 hB2.size) HT.out.1 (by unfold maxLen; omega) hrd (by have := HT.out.2.1; have := H.out.2.2.2.2.2.2.2.1; have := HZ.out.2.2.2; omega))
          obtain ⟨d0, d1, d2⟩ := hC2
          clear hall hus hbr hB2 hE2 hrd c0 c1 c2 Hr
          go_wp2_with fail
          refine Hbe.out.mono ?_
          rintro e w6 ⟨hb6, ⟨t1, t2⟩, s6, f6, v6, rfl, hres⟩
          have h6 : v6 = .nilIface ∧ bestOf pl k told = ((t1, t2), s6, f6) := by
            rcases hres with ⟨r0, _⟩ | ⟨_, r1, _⟩ | ⟨_, _, r2, r3⟩
            · exact absurd (show (configF pl k L).1 = 0 by rw [HF.out]; exact HZ.out.1) r0
            · rw [HT.out.1] at r1; omega
            · rw [Int.toNat_natCast, Int.toNat_natCast] at r3
              exact ⟨r2, r3.symm⟩
          obtain ⟨rfl, hbo⟩ := h6
          obtain ⟨W6, hW6⟩ : ∃ W6, w6.alloc (.cells #[.int .i64 t1, .int .i64 t2] 54) = W6 := ⟨_, rfl⟩
          obtain ⟨tb, htb⟩ : ∃ tb, w6.heap.size = tb := ⟨_, rfl⟩
          have hs6 : W6.heap.size = tb + 1 := by rw [← hW6, ← htb]; simp
          have hBW : Below w6.heap.size w6 W6 := by rw [← hW6]; exact (Below.refl _ w6).alloc (Nat.le_refl _) _
          have hgT : W6.heap[tb]? = some (.cells #[.int .i64 t1, .int .i64 t2] 54 (0, 0)) := by rw [← hW6, ← htb]; exact heap_alloc_new _ _
          have hB62 : Below wr.heap.size wr W6 := hb6.trans (hBW.mono hb6.size)
          have H6 := Lib.hid (And.intro (H2.out.1.trans (hB62.mono H2.out.1.size)) (And.intro (H2.out.2.1.below hB62 H2.out.2.2.2.1) (And.intro hgT (And.intro (Nat.lt_of_lt_of_le H2.out.2.2.2.1 hB62.size) (And.intro hbo (H2.out.2.2.2.2.below hB62))))))
          obtain ⟨e0, e1, e2⟩ := H6.out.2.1
          clear hb6 hres hBW hgT hB62 hbo d0 d1 d2
          cases f6 with
          | false =>
            go_wp2_with fail
            go_ret3
            exact ⟨H6.out.1, _, _, _, rfl, .inr (.inr ⟨by rw [HF.out]; exact HZ.out.1, rfl, rfl, .inl ⟨by rw [Int.toNat_natCast, Int.toNat_natCast, H6.out.2.2.2.2.1], rfl, rfl⟩⟩)⟩
          | true =>
            have Hen := Lib.hid (encode_walk pl k s6 W6 E (H.out.1.below H6.out.1 (Nat.le_refl _)).ez HZ.out.2.1 HZ.out.2.2.1 HZ.out.2.2.2 (best_size H6.out.2.2.2.2.1))
            go_wp2_with fail
            clear hW6 htb e0 e1 e2
            refine Hen.out.mono ?_
            rintro e w7 ⟨⟨v7, rfl, hs7⟩, hb7⟩
            obtain ⟨sa, sc, rfl, hsc, hsm, hsr⟩ := hs7.read
            have hgT7 : w7.heap[tb]? = some (.cells #[.int .i64 t1, .int .i64 t2] 54 (0, 0)) := (hb7.block tb (by rw [hs6]; omega)).trans H6.out.2.2.1
            obtain ⟨must, hmu⟩ : ∃ must, mustL pl k (t1, t2) s6 = must := ⟨_, rfl⟩
            have hml : must.length = pl := by rw [← hmu]; exact mustL_length _ _ _ _
            have hma : ∀ i, i < pl → must[i]?.getD ver0 = (t1, t2, (s6.size : Int), ((encL pl k s6)[i]?.getD (0, ⟨#[]⟩)).1, ((encL pl k s6)[i]?.getD (0, ⟨#[]⟩)).2) := fun i hi => by rw [← hmu]; exact mustL_at hi
            have H7 := Lib.hid (And.intro (H6.out.1.trans (hb7.mono H6.out.1.size)) (And.intro hgT7 (And.intro (H6.out.2.2.2.2.2.below hb7) (And.intro hsr (And.intro hmu (And.intro hml hma))))))
            rw [encL_length]
            clear hs6 hs7 hb7 hsc hsm hsr hgT7 hmu hml hma
            go_wp2_with fail
            go_loopw [6, 7, 78] (fun vm vl vi wr => ∃ (i : Nat) (um ul : Value), i ≤ pl ∧ vi = .int .i64 i ∧ um = vm ∧ ul = vl ∧ Hid (Below w7.heap.size w7 wr ∧ LkState w7.heap.size wr i um ul must told)) (fun _ _ vi _ => pl - (intOf vi).toNat)
            case atStart => exact ⟨0, _, _, by omega, rfl, rfl, rfl, Lib.hid ⟨Below.refl _ _, OwnV.nil _ _, Own1.nil _ _ _⟩⟩
            case round =>
              obtain ⟨i, um, ul, hi, rfl, hum, hul, Hr⟩ := hrel
              subst hum hul
              obtain ⟨hbr, hov, hoz⟩ := Hr.out
              have hi2 : i < pl ∨ pl = i := by omega
              rcases hi2 with hilt | rfl
              · have hilt2 : (i : Int) < pl := by omega
                have hszr : w7.heap.size ≤ wr.heap.size := hbr.size
                obtain ⟨b, off, rfl, q0, q1⟩ : ∃ b off, sa = some ⟨b, off, none⟩ ∧ wr.cell? ⟨b, off + i * 2, none⟩ = some (.int .i64 ((encL pl k s6)[i]?.getD (0, ⟨#[]⟩)).1) ∧ wr.cell? ⟨b, off + i * 2 + 1, none⟩ = some (.string ((encL pl k s6)[i]?.getD (0, ⟨#[]⟩)).2) := by
                  rcases H7.out.2.2.2.1.below hbr with he | ⟨b, off, h, hb, hc⟩
                  · exfalso
                    have h9 := encL_length pl k s6
                    rw [he] at h9; simp at h9; omega
                  · exact ⟨b, off, h, (hc i (by rw [encL_length]; exact hilt)).1, (hc i (by rw [encL_length]; exact hilt)).2⟩
                have hx := H7.out.2.2.2.2.2.2 i hilt
                have htk := take_snocL must ver0 i (by rw [H7.out.2.2.2.2.2.1]; exact hilt)
                obtain ⟨⟨x4, x5⟩, hxx⟩ : ∃ x, (encL pl k s6)[i]?.getD (0, ⟨#[]⟩) = x := ⟨_, rfl⟩
                rw [hxx] at q0 q1 hx
                dsimp only at q0 q1 hx
                rw [hx] at htk
                have hgr : wr.heap[tb]? = some (.cells #[.int .i64 t1, .int .i64 t2] 54 (0, 0)) := (hbr.block tb (Array.getElem?_eq_some_iff.1 H7.out.2.1).1).trans H7.out.2.1
                obtain ⟨W8, hW8⟩ : ∃ W8, wr.alloc (.cells #[.int .i64 x4, .string x5] 56) = W8 := ⟨_, rfl⟩
                obtain ⟨sb, hsb⟩ : ∃ sb, wr.heap.size = sb := ⟨_, rfl⟩
                have hs8 : W8.heap.size = sb + 1 := by rw [← hW8, ← hsb]; simp
                obtain ⟨W9, hW9⟩ : ∃ W9, W8.alloc (.cells #[.int .i64 t1, .int .i64 t2, .int .i64 s6.size, .int .i64 x4, .string x5] 58) = W9 := ⟨_, rfl⟩
                have hs9 : W9.heap.size = sb + 2 := by rw [← hW9]; simp [hs8]
                obtain ⟨W10, hW10⟩ : ∃ W10, W9.alloc (.cells #[.int .i64 t1, .int .i64 t2, .int .i64 s6.size, .int .i64 x4, .string x5] 58) = W10 := ⟨_, rfl⟩
                have hs10 : W10.heap.size = sb + 3 := by rw [← hW10]; simp [hs9]
                have hB8 : Below wr.heap.size wr W8 := by rw [← hW8]; exact (Below.refl _ wr).alloc (Nat.le_refl _) _
                have hB9 : Below W8.heap.size W8 W9 := by rw [← hW9]; exact (Below.refl _ W8).alloc (Nat.le_refl _) _
                have hB10 : Below W9.heap.size W9 W10 := by rw [← hW10]; exact (Below.refl _ W9).alloc (Nat.le_refl _) _
                have hBr : Below wr.heap.size wr W10 := (hB8.trans (hB9.mono hB8.size)).trans (hB10.mono (hB8.trans (hB9.mono hB8.size)).size)
                have g8 : W8.heap[sb]? = some (.cells #[.int .i64 x4, .string x5] 56 (0, 0)) := by rw [← hW8, ← hsb]; exact heap_alloc_new _ _
                have g9 : W9.heap[sb + 1]? = some (.cells #[.int .i64 t1, .int .i64 t2, .int .i64 s6.size, .int .i64 x4, .string x5] 58 (0, 0)) := by rw [← hW9, ← hs8]; exact heap_alloc_new _ _
                have g10 : W10.heap[sb + 1]? = some (.cells #[.int .i64 t1, .int .i64 t2, .int .i64 s6.size, .int .i64 x4, .string x5] 58 (0, 0)) := (hB10.block (sb + 1) (by rw [hs9]; omega)).trans g9
                have gt8 : W8.heap[tb]? = some (.cells #[.int .i64 t1, .int .i64 t2] 54 (0, 0)) := (hB8.block tb (Array.getElem?_eq_some_iff.1 hgr).1).trans hgr
                have u0 : W8.cell? ⟨tb, 0, none⟩ = some (.int .i64 t1) := cell_of_heap gt8 0
                have u1 : W8.cell? ⟨tb, 1, none⟩ = some (.int .i64 t2) := cell_of_heap gt8 1
                have y0 : W8.cell? ⟨sb, 0, none⟩ = some (.int .i64 x4) := cell_of_heap g8 0
                have y1 : W8.cell? ⟨sb, 1, none⟩ = some (.string x5) := cell_of_heap g8 1
                have z0 : W9.cell? ⟨sb + 1, 0, none⟩ = some (.int .i64 t1) := cell_of_heap g9 0
                have z1 : W9.cell? ⟨sb + 1, 1, none⟩ = some (.int .i64 t2) := cell_of_heap g9 1
                have z2 : W9.cell? ⟨sb + 1, 2, none⟩ = some (.int .i64 s6.size) := cell_of_heap g9 2
                have z3 : W9.cell? ⟨sb + 1, 3, none⟩ = some (.int .i64 x4) := cell_of_heap g9 3
                have z4 : W9.cell? ⟨sb + 1, 4, none⟩ = some (.string x5) := cell_of_heap g9 4
                have hone : OneV W10 (sb + 2) (t1, t2, (s6.size : Int), x4, x5) := by rw [← hW10, ← hs9]; exact OneV.new W9 (t1, t2, (s6.size : Int), x4, x5)
                have HA := Lib.hid (And.intro (hov.below hBr (Nat.le_refl _)) (And.intro hone.read (And.intro (show (must.take i).length + [((t1, t2, (s6.size : Int), x4, x5) : Ver)].length ≤ 1000000 by
                  rw [List.length_take, H7.out.2.2.2.2.2.1]; have := HZ.out.2.2.2; simp; omega) (And.intro (show w7.heap.size ≤ W10.heap.size by omega) (And.intro (Own1.below hoz hBr (Nat.le_refl _)) (And.intro hov.lt (And.intro g10 (And.intro (hbr.trans (hBr.mono hszr)) (And.intro htk (And.intro hx (And.intro hs9 (And.intro hs10 (And.intro hsb hszr)))))))))))))
                clear hB8 hB9 hB10 hBr g8 g9 g10 gt8 hone hov hoz hbr htk hx hxx Hr hgr
                go_wp2_with (at_builtin; refine append_vers 88 90 rfl rfl w7.heap.size _ (must.take i) _ (some ⟨sb + 2, 0, none⟩) 1 1 [(t1, t2, (s6.size : Int), x4, x5)] rfl rfl HA.out.1 rfl HA.out.2.2.1 (fun e => by cases e) HA.out.2.1 HA.out.2.2.2.1 ?_)
                intro um' w11 p1 p2 _ _
                have hB11 : Below w7.heap.size w7 w11 := HA.out.2.2.2.2.2.2.2.1.grown p2 HA.out.2.2.2.1 (fun j e => (HA.out.2.2.2.2.2.1 j e).1)
                have hlt9 := HA.out.2.2.2.2.2.2.2.2.2.2.1
                have hlt10 := HA.out.2.2.2.2.2.2.2.2.2.2.2.1
                have hltb := HA.out.2.2.2.2.2.2.2.2.2.2.2.2
                have g11 : w11.heap[sb + 1]? = some (.cells #[.int .i64 t1, .int .i64 t2, .int .i64 s6.size, .int .i64 x4, .string x5] 58 (0, 0)) := (p2.block (sb + 1) (by rw [hlt10]; omega) (fun e => by have := (HA.out.2.2.2.2.2.1 _ e.symm).2; omega)).trans HA.out.2.2.2.2.2.2.1
                have hz11 : OwnZ w7.heap.size w11 ul (lackI must told i) := Own1.kept HA.out.2.2.2.2.1 p2 (by
                  cases hq : um.ownBlock with
                  | none => cases ul.ownBlock <;> simp
                  | some g => exact .inr fun e => sep_vz HA.out.1 HA.out.2.2.2.2.1 g hq e)
                have hm11 : OwnV w7.heap.size w11 um' (must.take (i + 1)) := by rw [HA.out.2.2.2.2.2.2.2.2.1]; exact p1
                have htol : i < told.length := by rw [HT.out.1]; exact hilt
                obtain ⟨b2, off2, rfl, ad2, cp2, q0, h1, h2, h3, h4⟩ : ∃ b2 off2, a1 = some ⟨b2, off2, none⟩ ∧ ∃ ad2 cp2, w11.cell? ⟨b2, off2 + i, none⟩ = some (.slice ad2 (told[i]?.getD []).length cp2) ∧ (told[i]?.getD []).length ≤ cp2 ∧ cp2 ≤ maxLen ∧ (ad2 = none → cp2 = 0) ∧ VrR w11.heap.size w11 ad2 (told[i]?.getD []) := by
                  rcases H7.out.2.2.1.below hB11 with he | ⟨b2, off2, h, _, hc⟩
                  · exfalso
                    rw [he] at htol; simp at htol
                  · exact ⟨b2, off2, h, hc i htol⟩
                obtain ⟨tl, htl⟩ : ∃ tl, told[i]?.getD [] = tl := ⟨_, rfl⟩
                rw [htl] at q0 h1 h4
                have hls := lackI_snoc must told i
                rw [HA.out.2.2.2.2.2.2.2.2.2.1, htl] at hls
                obtain ⟨ln, hln⟩ : ∃ ln, tl.length = ln := ⟨_, rfl⟩
                obtain ⟨r, hr⟩ : ∃ r, inV ((t1, t2, (s6.size : Int), x4, x5) : Ver) tl = r := ⟨_, rfl⟩
                rw [hr] at hls
                rw [hln] at q0
                have hz9 : i < 12 := by have := HZ.out.2.2.2; omega
                have Ct := fun d os => Calls.regrown_of (contv_walk w11.heap.size ad2 ln cp2 tl (t1, t2, (s6.size : Int), x4, x5) r (Go.Sort.grow (redrawn w11 d) os) hln (by omega) (h4.below (below_regrown w11 d os)) (below_regrown w11 d os).size (by rw [← hr]; exact inV_iff))
                unfold verV at Ct
                dsimp only at Ct
                have q0 := cell_regrown q0
                have y0 := cell_regrown (show w11.cell? ⟨sb + 1, 0, none⟩ = some (.int .i64 t1) from cell_of_heap g11 0)
                have y1 := cell_regrown (show w11.cell? ⟨sb + 1, 1, none⟩ = some (.int .i64 t2) from cell_of_heap g11 1)
                have y2 := cell_regrown (show w11.cell? ⟨sb + 1, 2, none⟩ = some (.int .i64 s6.size) from cell_of_heap g11 2)
                have y3 := cell_regrown (show w11.cell? ⟨sb + 1, 3, none⟩ = some (.int .i64 x4) from cell_of_heap g11 3)
                have y4 := cell_regrown (show w11.cell? ⟨sb + 1, 4, none⟩ = some (.string x5) from cell_of_heap g11 4)
                have H11 := Lib.hid (And.intro hB11 (And.intro hm11 (And.intro hz11 (And.intro hls (And.intro hz9 (Nat.le_trans HA.out.2.2.2.1 p2.size))))))
                clear hW8 hW9 hW10 hs8 hs9 hs10 hB11 hlt9 hlt10 hltb g11 hz11 hm11 htol htl hls h1 h2 h3 h4 hr hln u0 u1 z0 z1 z2 z3 z4 p1 p2 hsb hz9
                go_wp2_with fail
                refine wp_region_quiet_below (by kernel_rfl) (by kernel_rfl) ?_
                repeat (go_big_quiet_step (first | (with_reducible exact Ct _ _)))
                refine wpQuiet_nil ?_
                intro w12 hw'
                have hB12 : Below w11.heap.size w11 w12 := by obtain ⟨⟨dq, osq⟩, hw5⟩ := hw'; rw [hw5]; exact below_regrown w11 dq osq
                have H12 := Lib.hid (And.intro (H11.out.1.trans (hB12.mono H11.out.2.2.2.2.2)) (And.intro (H11.out.2.1.below hB12 (Nat.le_refl _)) (And.intro (Own1.below H11.out.2.2.1 hB12 (Nat.le_refl _)) (Nat.le_trans H11.out.2.2.2.2.2 hB12.size))))
                clear hw' hB12 q0 y0 y1 y2 y3 y4 Ct
                cases r with
                | true =>
                  have HN : Hid (Below w7.heap.size w7 w12 ∧ LkState w7.heap.size w12 (i + 1) um' ul must told) := Lib.hid ⟨H12.out.1, H12.out.2.1, by
                    have h9 := H11.out.2.2.2.1
                    rw [if_pos (by rfl), List.append_nil] at h9
                    rw [h9]; exact H12.out.2.2.1⟩
                  go_wp2
                  go_roundw
                  case rel => exact ⟨i + 1, _, _, by omega, by go_num, rfl, rfl, HN⟩
                  case measure => simp [intOf]; omega
                | false =>
                  go_wp2_with (at_builtin; refine append_int 99 101 rfl rfl w7.heap.size ul (lackI must told i) i rfl rfl H12.out.2.2.1 (by have h1 := lackI_le must told i; have h2 := H11.out.2.2.2.2.1; omega) H12.out.2.2.2 ?_)
                  intro ul' w13 r1 r2 _
                  have HN : Hid (Below w7.heap.size w7 w13 ∧ LkState w7.heap.size w13 (i + 1) um' ul' must told) := Lib.hid ⟨H12.out.1.trans (((Below.refl _ _).alloc H12.out.2.2.2 _).trans (World.grownBy.below r2 (by simp; have := H12.out.2.2.2; omega) (fun k e => (H12.out.2.2.1.lt k e).1))), H12.out.2.1.kept2 (sep_vz H12.out.2.1 H12.out.2.2.1).symm r2, by
                    have h9 := H11.out.2.2.2.1
                    rw [if_neg (by decide)] at h9
                    rw [h9]; exact r1⟩
                  clear r1 r2
                  go_wp2
                  go_roundw
                  case rel =>
                    first
                    | exact ⟨i + 1, _, _, by omega, by go_num, rfl, rfl, HN⟩
                    | (repeat apply Exists.intro); exact ⟨⟨i + 1, _, _, by omega, by go_num, rfl, rfl, HN⟩, rfl⟩
                  case measure => simp [intOf]; omega
              · have HS : Hid (Below w7.heap.size w7 wr ∧ OwnV w7.heap.size wr um must ∧ OwnZ w7.heap.size wr ul (lackL must told)) := Lib.hid ⟨hbr, by
                  have h9 : must.take pl = must := List.take_of_length_le (by rw [H7.out.2.2.2.2.2.1]; exact Nat.le_refl _)
                  rw [h9] at hov; exact hov, by
                  have h9 := lackI_all must told
                  rw [H7.out.2.2.2.2.2.1] at h9
                  rw [← h9]; exact hoz⟩
                clear hbr hov hoz Hr
                go_wp2_with fail
                go_ret3
                exact ⟨H7.out.1.trans (HS.out.1.mono H7.out.1.size), _, _, _, rfl, .inr (.inr ⟨by rw [HF.out]; exact HZ.out.1, rfl, rfl, .inr ⟨(t1, t2), s6, by rw [Int.toNat_natCast, Int.toNat_natCast]; exact H6.out.2.2.2.2.1, by
                  rw [Int.toNat_natCast, Int.toNat_natCast, H7.out.2.2.2.2.1]; exact HS.out.2.1.lower H7.out.1.size, by
                  rw [Int.toNat_natCast, Int.toNat_natCast, H7.out.2.2.2.2.1]; exact Own1.lower HS.out.2.2 H7.out.1.size⟩⟩)⟩
    · have HN : Hid (pl ≠ n) := Lib.hid hpn
      have hn1 : ((pl : Int) == (n : Int)) = false := beq_eq_false_iff_ne.2 (by omega)
      have hn2 : ((pl : Int) != (n : Int)) = true := by rw [bne, hn1]; rfl
      have hn3 : (pl == n) = false := by simpa using hpn
      have hn4 : (pl != n) = true := by rw [bne, hn3]; rfl
      have hsh := H1.out.2.2.1.ez.c2
      clear hpn
      go_wp2_with fail
      go_quiet (fail)
      go_wp2
      go_ret3
      exact ⟨H1.out.1.trans ⟨rfl, rfl, rfl, Nat.le_refl _, fun _ _ => rfl⟩, _, _, _, rfl, .inr (.inl ⟨by rw [HF.out]; exact HZ.out.1, by have := HN.out; omega, rfl, rfl, rfl⟩)⟩
  · have HZ := Lib.hid (And.intro h0 (And.intro (hv1.some_ h0) hv1))
    rcases hv1.some_ h0 with ⟨x, rfl⟩ | ⟨m, rfl⟩
    all_goals
      clear hv1 h0
      try unfold faultV
      go_wp2
      go_ret3
      exact ⟨H1.out.1, _, _, _, rfl, .inl ⟨by rw [HF.out]; exact HZ.out.1, rfl, rfl, HZ.out.2.1, by rw [HF.out]; exact HZ.out.2.2⟩⟩
end
end Go.Proofs.YtolbdcmoblcakaaGreatDoor

