/- The walk of the law WireCodes. -/
import Derived.Test.YtgcnohejmofhkaaDoorWrO
import Derived.Test.YtgcnohejmofhkaaDoorBlk
import Derived.Test.YtgcnohejmofhkaaDoorFl2
import Derived.Test.YtgcnohejmofhkaaDoorEnv
namespace Go.Proofs.YtgcnohejmofhkaaDoor.wireCodes
open Go.Proofs.YtgcnohejmofhkaaDoor
open Go.RowKit Go.BigFrame

/-- what both writers hand back: the same. -/
theorem both (E : Nat → Addr) (m : Msg) : (∃ i, i < 12 ∧ encE E m = .returned (.tuple #[.string ⟨#[]⟩, errV (E i)]) ∧ wireR m = .returned (.tuple #[.string ⟨#[]⟩, .int .i64 ((i : Int) + 1)])) ∨
    (encE E m = .returned (.tuple #[.string (packB m), .nilIface]) ∧ wireR m = .returned (.tuple #[.string (packB m), .int .i64 0]) ∧ encBad m = false ∧ ¬ 3996 < (encB m).length) := by
  unfold encE wireR
  by_cases h1 : encBad m = true
  · exact .inl ⟨1, by omega, by rw [if_pos h1], by rw [if_pos h1]; rfl⟩
  · rw [if_neg h1, if_neg h1]
    by_cases h2 : 3996 < (encB m).length
    · exact .inl ⟨6, by omega, by rw [if_pos h2], by rw [if_pos h2]; rfl⟩
    · exact .inr ⟨by rw [if_neg h2]; rfl, by rw [if_neg h2], by simpa using h1, h2⟩
set_option maxRecDepth 100000 in
set_option maxHeartbeats 8000000 in
theorem walk_in (w : World) (E : Nat → Addr) (hE : ErrEnv w E) (fr dst kind key : ByteArray) (op cf : Int) (sl : Bool) (a : Option Addr) (len cap : Nat) (L : List Ver) (hlen : L.length = len) (hl : len ≤ 1000000) (hlc : len ≤ cap) (ha : a = none → cap = 0) (hL : VrR w.heap.size w a L) (hm : MsgOk ⟨fr, dst, kind, key, op, cf, sl, L⟩) (hs : (encB ⟨fr, dst, kind, key, op, cf, sl, L⟩).length ≤ 1000000000) :
    Calls Tryd.prog 3 #[.agg #[.string fr, .string dst, .string kind, .string key, .int .i64 op, .int .i64 cf, .bool sl, .slice a len cap]] w fun e w' => e = .returned (.bool true) ∧ Below w.heap.size w w' := by
  obtain ⟨W1, hW1⟩ : ∃ W1, w.alloc (.cells #[.string fr, .string dst, .string kind, .string key, .int .i64 op, .int .i64 cf, .bool sl, .slice a len cap] 24) = W1 := ⟨_, rfl⟩
  obtain ⟨B, hB⟩ : ∃ B, w.heap.size = B := ⟨_, rfl⟩
  have gm1 : W1.heap[B]? = some (.cells #[.string fr, .string dst, .string kind, .string key, .int .i64 op, .int .i64 cf, .bool sl, .slice a len cap] 24 (0, 0)) := by rw [← hW1, ← hB]; exact heap_alloc_new w _
  have hb1 : Below B w W1 := by rw [← hW1, ← hB]; exact (Below.refl _ _).alloc (Nat.le_refl _) _
  have HW := Lib.hid (And.intro hW1 (And.intro hB (And.intro gm1 hb1)))
  have HBS : Hid (∀ W, Below B w W → B ≤ W.heap.size) := Lib.hid (fun W h => by rw [← hB]; exact h.size)
  have HE1 := Lib.hid (hE.below hb1 (Nat.le_of_eq hB))
  have Hw := Lib.hid (wired_walk W1 E HE1.out)
  have HL := Lib.hid (And.intro hlen (And.intro hlc (And.intro ha (And.intro hL (And.intro hm hs)))))
  clear hW1 hB gm1 hb1 hE hlen hlc ha hL hm hs
  go_enter Tryd.func3, Tryd.ntmps3
  go_wp2_with fail
  rw [HW.out.1, HW.out.2.1]
  refine Hw.out.mono ?_
  rintro e W2 ⟨rfl, hb2⟩
  have gm2 := (hb2.block B (Array.getElem?_eq_some_iff.1 HW.out.2.2.1).1).trans HW.out.2.2.1
  have H2 := Lib.hid (And.intro gm2 (HW.out.2.2.2.trans (hb2.mono (HBS.out _ HW.out.2.2.2))))
  have HE2 := Lib.hid (HE1.out.below hb2 (Nat.le_refl _))
  have hv2 := HL.out.2.2.2.1
  rw [HW.out.2.1] at hv2
  have hv2 := (hv2.below H2.out.2).mono (HBS.out _ H2.out.2)
  have Hv2 := Lib.hid hv2
  have Hbu := Lib.hid (bulk_walk W2 fr dst kind key op cf sl a len cap L HL.out.1 (by unfold maxLen; omega) hv2)
  have hl9 : (len : Int) ≤ 9223372036854775807 := by omega
  clear hb2 gm2 hv2
  have c0 := (cell_of_heap H2.out.1 0).trans rfl
  have c1 := (cell_of_heap H2.out.1 1).trans rfl
  have c2 := (cell_of_heap H2.out.1 2).trans rfl
  have c3 := (cell_of_heap H2.out.1 3).trans rfl
  have c4 := (cell_of_heap H2.out.1 4).trans rfl
  have c5 := (cell_of_heap H2.out.1 5).trans rfl
  have c6 := (cell_of_heap H2.out.1 6).trans rfl
  have c7 := (cell_of_heap H2.out.1 7).trans rfl
  go_wp2_with fail
  refine Hbu.out.mono ?_
  rintro e W3 ⟨⟨z, rfl⟩, hb3⟩
  have gm3 := (hb3.block B (Array.getElem?_eq_some_iff.1 H2.out.1).1).trans H2.out.1
  have H3 := Lib.hid (And.intro gm3 (And.intro (H2.out.2.trans (hb3.mono (HBS.out _ H2.out.2))) (And.intro (HE2.out.below hb3 (Nat.le_refl _)) ((Hv2.out.below hb3).mono hb3.size))))
  clear hb3 gm3 c0 c1 c2 c3 c4 c5 c6 c7
  have hz : 8000 < z ∨ ¬ 8000 < z := by omega
  rcases hz with hz | hz
  · have hzd : decide (8000 < z) = true := decide_eq_true hz
    go_wp2
    go_ret
    exact ⟨rfl, by rw [HW.out.2.1]; exact H3.out.2.1⟩
  · have hzd : decide (8000 < z) = false := decide_eq_false hz
    have c0 := (cell_of_heap H3.out.1 0).trans rfl
    have c1 := (cell_of_heap H3.out.1 1).trans rfl
    have c2 := (cell_of_heap H3.out.1 2).trans rfl
    have c3 := (cell_of_heap H3.out.1 3).trans rfl
    have c4 := (cell_of_heap H3.out.1 4).trans rfl
    have c5 := (cell_of_heap H3.out.1 5).trans rfl
    have c6 := (cell_of_heap H3.out.1 6).trans rfl
    have c7 := (cell_of_heap H3.out.1 7).trans rfl
    have Hwo := Lib.hid (wireof_walk W3 fr dst kind key op cf sl a len cap L HL.out.1 (by omega) HL.out.2.2.1 H3.out.2.2.2)
    go_wp2_with fail
    refine Hwo.out.mono ?_
    rintro e W4 ⟨hb4, v, rfl, hv⟩
    obtain ⟨a4, cap4, rfl, hc1, hc2, hc3, hc4⟩ := hv.read
    rw [HL.out.1] at hc1 ⊢
    have gm4 := (hb4.block B (Array.getElem?_eq_some_iff.1 H3.out.1).1).trans H3.out.1
    have H4 := Lib.hid (And.intro gm4 (And.intro (H3.out.2.1.trans (hb4.mono (HBS.out _ H3.out.2.1))) (And.intro (H3.out.2.2.1.below hb4 (Nat.le_refl _)) ((H3.out.2.2.2.below hb4).mono hb4.size))))
    have He := Lib.hid (encode_walk W4 fr dst kind key op cf sl a4 len cap4 L E H4.out.2.2.1 HL.out.1 hl hc4 HL.out.2.2.2.2.2)
    clear hb4 gm4 c0 c1 c2 c3 c4 c5 c6 c7 hv hc1 hc2 hc3 hc4
    go_wp2_with fail
    refine He.out.mono ?_
    intro e W5 ⟨he, hb5⟩
    have gm5 := (hb5.block B (Array.getElem?_eq_some_iff.1 H4.out.1).1).trans H4.out.1
    have H5 := Lib.hid (And.intro gm5 (And.intro (H4.out.2.1.trans (hb5.mono (HBS.out _ H4.out.2.1))) (And.intro (H4.out.2.2.1.below hb5 (Nat.le_refl _)) ((H4.out.2.2.2.below hb5).mono hb5.size))))
    have Hr := Lib.hid (wire_walk W5 fr dst kind key op cf sl a len cap L HL.out.1 hl H5.out.2.2.2 HL.out.2.2.2.2.1 HL.out.2.2.2.2.2)
    have c0 := (cell_of_heap gm5 0).trans rfl
    have c1 := (cell_of_heap gm5 1).trans rfl
    have c2 := (cell_of_heap gm5 2).trans rfl
    have c3 := (cell_of_heap gm5 3).trans rfl
    have c4 := (cell_of_heap gm5 4).trans rfl
    have c5 := (cell_of_heap gm5 5).trans rfl
    have c6 := (cell_of_heap gm5 6).trans rfl
    have c7 := (cell_of_heap gm5 7).trans rfl
    clear hb5 gm5
    rcases both E ⟨fr, dst, kind, key, op, cf, sl, L⟩ with ⟨i, hi, h1, h2⟩ | ⟨h1, h2, h3, h4⟩
    · have he2 := he.trans h1
      subst he2
      have Hh2 := Lib.hid h2
      have hip : (0 : Int) < (i : Int) + 1 := by omega
      obtain ⟨c, hc⟩ : ∃ c : Int, (i : Int) + 1 = c := ⟨_, rfl⟩
      rw [hc] at Hh2 hip
      have Hc := Lib.hid hc
      clear h1 h2 he hc
      go_wp2_with fail
      refine Hr.out.mono ?_
      intro e W6 ⟨he6, hb6⟩
      have he7 := he6.trans Hh2.out
      subst he7
      clear he6
      have H6 := Lib.hid (And.intro (H5.out.2.1.trans (hb6.mono (HBS.out _ H5.out.2.1))) (H5.out.2.2.1.below hb6 (Nat.le_refl _)))
      have Hco := Lib.hid (coded2_err E i hi c W6 H6.out.2)
      clear hb6 c0 c1 c2 c3 c4 c5 c6 c7
      go_wp2_with fail
      refine Hco.out.mono ?_
      rintro e W7 ⟨rfl, hb7⟩
      have hcd : decide (c = (i : Int) + 1) = true := decide_eq_true Hc.out.symm
      rw [hcd]
      have H7 := Lib.hid (H6.out.1.trans (hb7.mono (HBS.out _ H6.out.1)))
      clear hb7 hcd
      go_wp2
      go_ret
      exact ⟨by simp, by rw [HW.out.2.1]; exact H7.out⟩
    · have he2 := he.trans h1
      subst he2
      have Hh2 := Lib.hid h2
      have hdec := decodeB_pack HL.out.2.2.2.2.1 h3 h4 (by rw [HL.out.1]; unfold maxLen; omega)
      obtain ⟨s, hs⟩ : ∃ s, packB ⟨fr, dst, kind, key, op, cf, sl, L⟩ = s := ⟨_, rfl⟩
      rw [hs] at Hh2 hdec ⊢
      have Hdec := Lib.hid hdec
      clear h1 h2 h3 h4 he hs hdec
      go_wp2_with fail
      refine Hr.out.mono ?_
      intro e W6 ⟨he6, hb6⟩
      have he7 := he6.trans Hh2.out
      subst he7
      clear he6
      have gm6 := (hb6.block B (Array.getElem?_eq_some_iff.1 H5.out.1).1).trans H5.out.1
      have H6 := Lib.hid (And.intro gm6 (And.intro (H5.out.2.1.trans (hb6.mono (HBS.out _ H5.out.2.1))) (And.intro (H5.out.2.2.1.below hb6 (Nat.le_refl _)) ((H5.out.2.2.2.below hb6).mono hb6.size))))
      have Hd := Lib.hid (decode_walk W6 s E H6.out.2.2.1)
      clear hb6 gm6 c0 c1 c2 c3 c4 c5 c6 c7
      go_wp2_with fail
      refine Hd.out.mono ?_
      intro e W7 hdp
      rw [Hdec.out] at hdp
      obtain ⟨hb7, v7, rfl, hv7⟩ := hdp
      obtain ⟨a7, cap7, rfl, hd1, hd2, hd3, hd4⟩ := hv7.read
      dsimp only at hd1 hd4 ⊢
      rw [HL.out.1] at hd1 ⊢
      obtain ⟨W8, hW8⟩ : ∃ W8, W7.alloc (.cells #[.string fr, .string dst, .string kind, .string key, .int .i64 op, .int .i64 cf, .bool sl, .slice a7 len cap7] 31) = W8 := ⟨_, rfl⟩
      have hb8 : Below W7.heap.size W7 W8 := by rw [← hW8]; exact (Below.refl _ _).alloc (Nat.le_refl _) _
      have gn8 : W8.heap[W7.heap.size]? = some (.cells #[.string fr, .string dst, .string kind, .string key, .int .i64 op, .int .i64 cf, .bool sl, .slice a7 len cap7] 31 (0, 0)) := by rw [← hW8]; exact heap_alloc_new _ _
      have hb68 : Below W6.heap.size W6 W8 := hb7.trans (hb8.mono hb7.size)
      have gm8 := (hb68.block B (Array.getElem?_eq_some_iff.1 H6.out.1).1).trans H6.out.1
      have HB8 := Lib.hid (H6.out.2.1.trans (hb68.mono (HBS.out _ H6.out.2.1)))
      have hLm : VrR W8.heap.size W8 a L := (H6.out.2.2.2.below hb68).mono hb68.size
      have hLn : VrR W8.heap.size W8 a7 L := (hd4.below hb8).mono hb8.size
      have H8 := Lib.hid hW8
      have Cb := fun d os => Calls.regrown_of ((backwire_walk (Go.Sort.grow (redrawn W8 d) os) fr dst kind key op cf sl a7 len cap7).mono fun e w' h => ⟨h.2, h.1⟩)
      have Cc := fun d os => Calls.regrown_of (samem_same (Go.Sort.grow (redrawn W8 d) os) W8.heap.size fr dst kind key op cf sl a7 a len cap7 cap L HL.out.1 (by unfold maxLen; omega) (hLn.below (below_regrown W8 d os)) (hLm.below (below_regrown W8 d os)) (below_regrown W8 d os).size)
      have k0 := cell_regrown ((cell_of_heap gm8 0).trans rfl)
      have k1 := cell_regrown ((cell_of_heap gm8 1).trans rfl)
      have k2 := cell_regrown ((cell_of_heap gm8 2).trans rfl)
      have k3 := cell_regrown ((cell_of_heap gm8 3).trans rfl)
      have k4 := cell_regrown ((cell_of_heap gm8 4).trans rfl)
      have k5 := cell_regrown ((cell_of_heap gm8 5).trans rfl)
      have k6 := cell_regrown ((cell_of_heap gm8 6).trans rfl)
      have k7 := cell_regrown ((cell_of_heap gm8 7).trans rfl)
      have l0 := cell_regrown ((cell_of_heap gn8 0).trans rfl)
      have l1 := cell_regrown ((cell_of_heap gn8 1).trans rfl)
      have l2 := cell_regrown ((cell_of_heap gn8 2).trans rfl)
      have l3 := cell_regrown ((cell_of_heap gn8 3).trans rfl)
      have l4 := cell_regrown ((cell_of_heap gn8 4).trans rfl)
      have l5 := cell_regrown ((cell_of_heap gn8 5).trans rfl)
      have l6 := cell_regrown ((cell_of_heap gn8 6).trans rfl)
      have l7 := cell_regrown ((cell_of_heap gn8 7).trans rfl)
      clear hLm hLn hb7 hb8 hb68 gm8 gn8 hW8 hd1 hd2 hd3 hd4 hv7
      go_wp2_with fail
      rw [H8.out]
      refine wp_region_quiet_below (by kernel_rfl) (by kernel_rfl) ?_
      repeat (go_big_quiet_step (first | (with_reducible exact Cb _ _) | (with_reducible exact Cc _ _)))
      refine wpQuiet_nil ?_
      intro w9 hw'
      obtain ⟨⟨dq, osq⟩, hw9⟩ := hw'
      have HB9 := Lib.hid (HB8.out.trans (show Below B W8 w9 by rw [hw9]; exact (below_regrown W8 dq osq).mono (HBS.out _ HB8.out)))
      clear hw9 Cb Cc k0 k1 k2 k3 k4 k5 k6 k7 l0 l1 l2 l3 l4 l5 l6 l7
      go_wp2
      go_ret
      exact ⟨rfl, by rw [HW.out.2.1]; exact HB9.out⟩
theorem flat_sum : ∀ L : List Ver, (L.flatMap vbytes).length ≤ 40 * vsbulk L
  | [] => by simp
  | x :: L => by
    have h1 := flat_sum L
    have h2 : (vbytes x).length = 40 + x.2.2.2.2.size := by unfold vbytes; rw [List.length_append, nbytes_flat, tbytes_length]; show 4 * 8 + (8 + _) = _; omega
    rw [List.flatMap_cons, List.length_append, h2]
    unfold vsbulk at h1 ⊢
    rw [List.map_cons, List.sum_cons]
    unfold vbulk at h1 ⊢
    omega
theorem walk (fr dst kind key : ByteArray) (op cf : Int) (sl : Bool) (a : Option Addr) (len cap : Nat) (L : List Ver) (w : World) (hin : MsgIn w ⟨fr, dst, kind, key, op, cf, sl, L⟩ a len cap) (hbk : mbulk ⟨fr, dst, kind, key, op, cf, sl, L⟩ ≤ 1048576) (hL : laidMetH Tryd.prog Rows.wireCodesUptoRow.laid w) :
    Calls Tryd.prog 3 #[.agg #[.string fr, .string dst, .string kind, .string key, .int .i64 op, .int .i64 cf, .bool sl, .slice a len cap]] w fun e w' => e = .returned (.bool true) ∧ Below w.heap.size w w' := by
  obtain ⟨E, hE⟩ := env_of_laid hL
  obtain ⟨hm, h1, h2, h3, h4, h5, h6⟩ := hin
  have hv := vsbulk_length L
  have hf := flat_sum L
  unfold mbulk at hbk
  dsimp only at hbk h1 h5
  refine walk_in w E hE fr dst kind key op cf sl a len cap L h1 (by omega) h2 h4 h5 hm ?_
  have he : (encB ⟨fr, dst, kind, key, op, cf, sl, L⟩).length = 4 * 8 + sizes [fr, dst, kind, key] + 32 + (L.flatMap vbytes).length := by
    unfold encB encH
    rw [List.length_append, List.length_append, nbytes_flat, texts_length]
    rfl
  rw [he]
  have hz : sizes [fr, dst, kind, key] = fr.size + dst.size + kind.size + key.size := by unfold sizes; simp; omega
  omega
end Go.Proofs.YtgcnohejmofhkaaDoor.wireCodes
