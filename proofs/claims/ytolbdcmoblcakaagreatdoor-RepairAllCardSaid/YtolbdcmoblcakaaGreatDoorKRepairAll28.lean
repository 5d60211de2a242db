/- The walk of coder.Decode. -/
import Derived.Test.YtolbdcmoblcakaaGreatDoorKRepairAll22
namespace Go.Proofs.YtolbdcmoblcakaaGreatDoor
open Go.RowKit

/-- four errors of package api. -/
structure ErrEf (w : World) (E : Nat → Addr) : Prop where
  ez : ErrEz w E
  c7 : w.cell? ⟨8, 0, none⟩ = some (errV (E 7))
theorem ErrEf.below {n : Nat} {w w' : World} {E : Nat → Addr} (hb : Below n w w') (hn : w.heap.size ≤ n) (h : ErrEf w E) : ErrEf w' E :=
  ⟨h.ez.below hb hn, (hb.cell (Nat.lt_of_lt_of_le (lt_of_cell h.c7) hn)).trans h.c7⟩
theorem ErrEnv.ef {w : World} {E : Nat → Addr} (h : ErrEnv w E) : ErrEf w E := ⟨h.ez, h.c7⟩
/-- the heads of the rows that shards name. -/
def headS (bs cps : Nat → Nat) (k : Nat) (x : Sh) : Value := .slice (some ⟨bs x.1.toNat, 0, none⟩) k (cps x.1.toNat)
theorem rows_mat {B n k n₀ g : Nat} {w : World} {v : Value} {bs cps : Nat → Nat} {P : List Sh} (hO : Own1 92 B w v (P.map (headS bs cps k)))
    (hR : MatR n₀ w g 0 n k bs (fun _ => 0) cps (Mx.spr k)) (hn : n₀ ≤ w.heap.size) (hlt : ∀ q ∈ numS P, q < n) (hl : P.length = k) (hk : 1 ≤ k) :
    ∃ gr cap, v = .slice (some ⟨gr, 0, none⟩) k cap ∧ MatR w.heap.size w gr 0 k k (fun i => bs ((numS P)[i]?.getD 0)) (fun _ => 0) (fun i => cps ((numS P)[i]?.getD 0)) (fun i => Mx.spr k ((numS P)[i]?.getD 0)) := by
  rcases hO.shape with ⟨_, e⟩ | ⟨gr, cap, e, _, hg, _, _, _, hcell⟩
  · have : P = [] := by simpa using e
    rw [this] at hl; simp at hl; omega
  · rw [List.length_map] at e hcell
    rw [hl] at e hcell
    have hm : ∀ i, i < k → (numS P)[i]?.getD 0 < n := fun i hi => by
      have h2 : i < (numS P).length := by rw [numS_length]; omega
      rw [List.getElem?_eq_getElem h2]; exact hlt _ (List.getElem_mem _)
    refine ⟨gr, cap, e, hg, fun i hi => ?_, fun i hi => hR.cap _ (hm i hi), fun i hi => Nat.lt_of_lt_of_le (hR.plo _ (hm i hi)) hn, fun i hi j hj => hR.cell _ (hm i hi) j hj⟩
    rw [Nat.zero_add, hcell i hi, numS_at (by omega), List.getElem?_map, List.getElem?_eq_getElem (by omega)]
    simp [headS]
theorem map_range_getD {P : List Sh} {k : Nat} (hl : P.length = k) : (P.map fun x => Value.string x.2) = (List.range k).map fun j => Value.string (P[j]?.getD (0, ⟨#[]⟩)).2 := by
  apply List.ext_getElem
  · simp [hl]
  · intro i h1 h2
    simp at h1
    simp [h1]

/-- what Decode answers. -/
def DecOut (w w' : World) (n k size : Nat) (l : List Sh) (e2 e7 : Value) (e : Ending) : Prop := Below w.heap.size w w' ∧
  ((¬ (∀ s ∈ l, GoodS n (wideN k size) s) ∧ e = .returned (.tuple #[.string ⟨#[]⟩, e2])) ∨ ((∀ s ∈ l, GoodS n (wideN k size) s) ∧ (pickS k l).length < k ∧ e = .returned (.tuple #[.string ⟨#[]⟩, e7])) ∨
    ((∀ s ∈ l, GoodS n (wideN k size) s) ∧ (pickS k l).length = k ∧ e = .returned (.tuple #[.string (textOf (decF (pickS k l) k (wideN k size)) size), .nilIface])))
set_option maxRecDepth 100000 in
set_option maxHeartbeats 8000000 in
theorem decode_walk (n₀ n k size : Nat) (a : Option Addr) (cap : Nat) (l : List Sh) (w : World) (E : Nat → Addr) (hE : ErrEf w E)
    (hk : 1 ≤ k) (hkn : k ≤ n) (hn : n ≤ 12) (hs : size ≤ 1000) (hl : l.length ≤ maxLen) (hn₀ : n₀ ≤ w.heap.size) (hI : ShR n₀ w a l) :
    Calls Tryz.prog 68 #[.int .i64 n, .int .i64 k, .int .i64 size, .slice a l.length cap] w fun e w' => DecOut w w' n k size l (errV (E 2)) (errV (E 7)) e := by
  have Hlk := Lib.hid (look_walk n₀ n k size a cap l w (E 2) (E 7) hE.ez.c2 hE.c7 hk hkn hn hs hl hn₀ hI)
  have HE := Lib.hid hE
  have hwf := wide_facts k size hk
  have hwl := wide_le k size hk
  obtain ⟨W, hW⟩ : ∃ W, wideN k size = W := ⟨_, rfl⟩
  rw [hW] at Hlk hwf hwl
  have HW := Lib.hid hW
  have Hsz := Lib.hid hwf.1
  clear hE hI hW hwf
  go_enter Tryz.func68, Tryz.ntmps68
  go_wp2_with fail
  refine Hlk.out.mono ?_
  rintro e w1 ⟨hb1, hres⟩
  have H1 := Lib.hid hb1
  clear hb1
  rcases hres with ⟨hbad, rfl⟩ | ⟨hall, hfew, rfl⟩ | ⟨hall, hlen, v, rfl, hv⟩
  · have Hx := Lib.hid hbad
    clear hbad
    go_wp2
    go_ret2
    exact ⟨H1.out, .inl ⟨by rw [HW.out]; exact Hx.out, rfl⟩⟩
  · have Hx := Lib.hid (And.intro hall hfew)
    clear hall hfew
    go_wp2
    go_ret2
    exact ⟨H1.out, .inr (.inl ⟨by rw [HW.out]; exact Hx.out.1, Hx.out.2, rfl⟩)⟩
  · have hgp : ∀ s ∈ pickS k l, GoodS n W s := fun s hs => hall s (pickS_sub k l s hs)
    have hup := pickS_unlike k l
    have Hall := Lib.hid hall
    obtain ⟨P, hP⟩ : ∃ P, pickS k l = P := ⟨_, rfl⟩
    rw [hP] at hgp hup hlen hv
    have HP := Lib.hid (And.intro hP (And.intro hgp hup))
    obtain ⟨ap, cp, hve, _, _, hsp⟩ := OwnS.read hv
    rw [hlen] at hve
    rw [hve]
    have HS := Lib.hid hsp
    have Hlen := Lib.hid hlen
    clear hall hP hgp hup hv hve hsp hlen
    go_wp2_with fail
    refine (spread_walk n k w1 E (HE.out.below H1.out (Nat.le_refl _)).ez hk hkn hn).mono ?_
    rintro e w2 ⟨⟨v2, bs, cps, rfl, hm2⟩, hb2⟩
    obtain ⟨g, cg, hve, _, _, hV⟩ := hm2.mat (by omega)
    rw [hve]
    have H2 := Lib.hid (H1.out.trans (hb2.mono H1.out.size))
    have HR := Lib.hid (And.intro (hV.read (by omega) (by omega)) ((HS.out.below hb2).mono hb2.size))
    clear hve hV hm2 hb2 HS
    go_wp2
    go_loopw [13, 14, 40] (fun vr vt vi wr => ∃ i : Nat, i ≤ k ∧ vi = .int .i64 i ∧ Hid (Own1 92 w2.heap.size wr vr ((P.take i).map (headS bs cps k)) ∧ Own1 9 w2.heap.size wr vt ((P.take i).map fun x => Value.string x.2) ∧ Sep vr vt ∧ Below w2.heap.size w2 wr)) (fun _ _ i _ => k - (intOf i).toNat)
    case atStart => exact ⟨0, by omega, rfl, Lib.hid ⟨Own1.nil _ _ _, Own1.nil _ _ _, Sep.nil _, Below.refl _ _⟩⟩
    case round =>
      obtain ⟨i, hi, rfl, H⟩ := hrel
      have hi2 : i < k ∨ i = k := by omega
      rcases hi2 with hlt | hie
      · have hlt2 : (i : Int) < k := by omega
        rcases HR.out.2.below H.out.2.2.2 with he | ⟨b, off, rfl, hb, hc⟩
        · exfalso
          have := Hlen.out
          rw [he] at this
          simp at this; omega
        obtain ⟨c1, c2⟩ := hc i (by have := Hlen.out; omega)
        clear hc
        have hil : i < P.length := by have := Hlen.out; omega
        obtain ⟨x, hx⟩ : ∃ x, P[i]?.getD (0, ⟨#[]⟩) = x := ⟨_, rfl⟩
        rw [hx] at c1 c2
        obtain ⟨s1, s2⟩ := x
        have hmem : (s1, s2) ∈ P := by
          have := hx
          rw [List.getElem?_eq_getElem hil] at this
          simp at this
          rw [← this]; exact List.getElem_mem hil
        have hg1 := (HP.out.2.1 _ hmem).1
        have hg2 := (HP.out.2.1 _ hmem).2.1
        simp only at hg1 hg2
        obtain ⟨p, rfl⟩ := Int.eq_ofNat_of_zero_le hg1
        have hp : p < n := by omega
        have htk : P.take (i + 1) = P.take i ++ [((p : Int), s2)] := by
          rw [List.take_succ_eq_append_getElem hil]
          have := hx
          rw [List.getElem?_eq_getElem hil] at this
          simp at this
          rw [this]
        have Htk := Lib.hid htk
        have hsz := H.out.2.2.2.size
        have hBa : Below w2.heap.size w2 (wr.alloc (.cells #[.int .i64 (p : Int), .string s2] 56)) := H.out.2.2.2.alloc hsz _
        have hh := (HR.out.1.below hBa).head p hp
        rw [Nat.zero_add] at hh
        have hO1 := H.out.1.alloc (.cells #[.int .i64 (p : Int), .string s2] 56)
        have hO2 := H.out.2.1.alloc (.cells #[.int .i64 (p : Int), .string s2] 56)
        have hszA : w2.heap.size ≤ (wr.alloc (.cells #[.int .i64 (p : Int), .string s2] 56)).heap.size := hBa.size
        have hsq : (wr.alloc (.cells #[.int .i64 (p : Int), .string s2] 56)).heap.size = wr.heap.size + 1 := by simp
        have hul : ((P.take i).map (headS bs cps k)).length ≤ 1000000 := by simp; omega
        have hul2 : ((P.take i).map fun x => Value.string x.2).length ≤ 1000000 := by simp; omega
        have hcs2 : (wr.alloc (.cells #[.int .i64 (p : Int), .string s2] 56)).cell? ⟨wr.heap.size, 1, none⟩ = some (.string s2) := by simp
        have hou : u13.ownBlock ≠ some wr.heap.size := fun e => by have := (H.out.1.lt _ e).2; omega
        have Hx := Lib.hid (And.intro hBa (And.intro hO1 (And.intro hO2 (And.intro hszA (And.intro hsq (And.intro hcs2 hou))))))
        clear hx hmem hg1 hg2 htk hBa hO1 hO2 hszA hsq hcs2 hou
        go_wp2_with (at_builtin; refine append_rowvH 44 50 rfl rfl w2.heap.size (wr.heap.size + 1) _ _ (some ⟨bs p, 0, none⟩) k (cps p) Hx.out.2.2.2.2.1 rfl rfl Hx.out.2.1 hul Hx.out.2.2.2.1 ?_)
        intro vr' w3 k1 k2 k3
        obtain ⟨hBa, hO1, hO2, hszA, hsq, hcs2, hou⟩ := Hx.out
        have hB3 : Below w2.heap.size w2 w3 := (hBa.alloc hszA _).grown k2 (by simp; omega) (fun q e => (hO1.lt q e).1)
        have hO3 : Own1 9 w2.heap.size w3 u14 ((P.take i).map fun x => Value.string x.2) := Own1.other hO2 H.out.2.2.1 k2
        have hS3 : Sep vr' u14 := Sep.other hO2 H.out.2.2.1 (by rw [hsq]; exact k3)
        have hc3 : w3.cell? ⟨wr.heap.size, 1, none⟩ = some (.string s2) := by
          have hb1 : w3.heap[wr.heap.size]? = (wr.alloc (.cells #[.int .i64 (p : Int), .string s2] 56)).heap[wr.heap.size]? :=
            (k2.block wr.heap.size (by simp; omega) (fun e => hou e.symm)).trans (heap_alloc_lt _ (by rw [hsq]; omega))
          unfold World.cell? at hcs2 ⊢
          rw [hb1]; exact hcs2
        have hsz3 := hB3.size
        have k1' : Own1 92 w2.heap.size w3 vr' ((P.take (i + 1)).map (headS bs cps k)) := by
          rw [Htk.out, List.map_append, List.map_take]; exact k1
        have Hy := Lib.hid (And.intro hB3 (And.intro hO3 (And.intro hS3 k1')))
        clear hBa hO1 hO2 hszA hsq hcs2 hou hB3 hO3 hS3 k1 k2 k3 k1' Hx
        go_wp2_with (at_builtin; refine append_str 52 55 rfl rfl w2.heap.size _ _ s2 rfl rfl Hy.out.2.1 hul2 hsz3 ?_)
        intro vt' w4 k1 k2 k3
        obtain ⟨hB3, hO3, hS3, hR3⟩ := Hy.out
        have hB4 : Below w2.heap.size w2 w4 := (hB3.alloc hsz3 _).grown k2 (by simp; omega) (fun q e => (hO3.lt q e).1)
        have hR4 : Own1 92 w2.heap.size w4 vr' ((P.take (i + 1)).map (headS bs cps k)) := Own1.other hR3 hS3.symm k2
        have hS4 : Sep vt' vr' := Sep.other hR3 hS3.symm k3
        have hT4 : Own1 9 w2.heap.size w4 vt' ((P.take (i + 1)).map fun x => Value.string x.2) := by
          rw [Htk.out, List.map_append, List.map_take]; exact k1
        have HZ := Lib.hid (And.intro hR4 (And.intro hT4 (And.intro hS4.symm hB4)))
        clear hB3 hO3 hS3 hR3 hB4 hR4 hS4 hT4 k1 k2 k3 Hy
        go_wp2
        go_roundw
        case rel => exact ⟨i + 1, by omega, by go_num, HZ⟩
        case measure => simp [intOf]; omega
      · subst hie
        have htl : P.take i = P := List.take_of_length_le (by have := Hlen.out; omega)
        rw [htl] at H
        have hxl : (numS P).length = i := by rw [numS_length]; exact Hlen.out
        have hxlt := numS_lt HP.out.2.1
        have hxb : Bytes (numS P) := fun x hx => by have := hxlt x hx; omega
        have hxu := numS_unlike HP.out.2.2 HP.out.2.1
        obtain ⟨gr, cr, hve, hMt⟩ := rows_mat H.out.1 (HR.out.1.below H.out.2.2.2) H.out.2.2.2.size hxlt Hlen.out hk
        have hO2 := H.out.2.1
        rw [map_range_getD Hlen.out] at hO2
        have hsz2 : ∀ j, j < i → (P[j]?.getD (0, ⟨#[]⟩)).2.size = W := fun j hj => by
          have hjl : j < P.length := by have := Hlen.out; omega
          rw [List.getElem?_eq_getElem hjl]
          exact (HP.out.2.1 _ (List.getElem_mem hjl)).2.2
        obtain ⟨gt, ct, hvt, _, _, hTx⟩ := txt_of_own hO2 (by omega) hsz2
        have hbw : Below w.heap.size w wr := H2.out.trans (H.out.2.2.2.mono H2.out.size)
        have hEr := HE.out.below hbw (Nat.le_refl _)
        have hby : Mx.ByM (fun j => Mx.spr i ((numS P)[j]?.getD 0)) := fun j => Mx.by_spr i _
        have hiv := Lib.hid (invert_walk wr.heap.size gr 0 i cr _ _ _ _ wr _ _ (Nat.le_refl _) hEr.ez.c2 hEr.ez.c11 hMt hby hk (by omega))
        have HX := Lib.hid (And.intro hbw (And.intro hTx (And.intro hxl (And.intro hxb (And.intro hxu hby)))))
        rw [hve, hvt]
        have Hv := Lib.hid (And.intro hve hvt)
        clear htl hxl hxlt hxb hxu hve hMt hO2 hsz2 hvt hTx hbw hEr hby H HR
        go_wp2_with fail
        refine hiv.out.mono ?_
        rintro e w5 ⟨dn, L5, G5, hbG, hrr, hker, hb5, hres⟩
        obtain ⟨hbw, hTx, hxl, hxb, hxu, hby⟩ := HX.out
        have hd := Mx.inv_full hbG hrr hker (fun v hv hK => Mx.spr_ker (by omega) hxl hxb hxu hv hK)
        have hd' := hd.symm
        subst hd'
        rcases hres with ⟨hlt, _⟩ | ⟨_, v5, bs5, cps5, rfl, hm5⟩
        · omega
        obtain ⟨g5, c5, hve5, _, _, hV5⟩ := hm5.mat (by omega)
        rw [hve5]
        have hinv := Mx.inverse_of hby hbG hrr (fun v hv => hker _ v hv)
        have hXe : ∀ j m, j < i → m < i → Mx.right G5 i j m = bas (numS P) m j := fun j m hj hm => Mx.inv_is (by omega) hxl hxb hxu (fun _ _ _ _ => rfl) hinv hj hm
        have hb6 := hbw.trans (hb5.mono hbw.size)
        have Hpr := Lib.hid (product_walk w5.heap.size g5 0 i i c5 gt 0 ct W bs5 (fun _ => 0) cps5 (Mx.right G5 i) (fun j => (P[j]?.getD (0, ⟨#[]⟩)).2) w5 (Nat.le_refl _) (hV5.read (by omega) (by omega)) hinv.by_ ((hTx.below hb5).mono hb5.size) (by omega) hk (by omega) (by omega))
        have HY := Lib.hid (And.intro hb6 (And.intro hinv.by_ hXe))
        clear hbG hrr hker hb5 hbw hTx hxl hxb hxu hby hd hm5 hve5 hV5 hinv hXe hb6 HX hiv
        go_wp2_with fail
        refine Hpr.out.mono ?_
        rintro e w6 ⟨⟨v6, rfl, hv6⟩, hb6⟩
        have hlj : ((List.range i).map fun j => prodT (Mx.right G5 i) (fun j => (P[j]?.getD (0, ⟨#[]⟩)).2) i W j).length = i := by simp
        obtain ⟨g6, c6, hve6, _, hc6, hT6⟩ := txt_of_own hv6 (by omega) (fun j _ => prodT_size _ _ _ _ _)
        rw [hve6]
        have hjn := Tryz.strings_Join g6 0 c6 ((List.range i).map fun j => prodT (Mx.right G5 i) (fun j => (P[j]?.getD (0, ⟨#[]⟩)).2) i W j) ⟨#[]⟩ w6 (fun j x hx => by
            have hj : j < i := by have := (List.getElem?_eq_some_iff.1 hx).1; rw [hlj] at this; exact this
            rw [hT6.cell j hj]
            rw [List.getElem?_map, List.getElem?_range hj] at hx
            simp at hx
            rw [hx]) hT6.lo (by rw [hlj]; omega) (by rw [hlj]; exact hc6) (by
            show (Lib.join _ []).length ≤ _
            rw [join_nil_eq, List.length_flatten]
            have : ((List.map (fun x => x.data.toList) ((List.range i).map fun j => prodT (Mx.right G5 i) (fun j => (P[j]?.getD (0, ⟨#[]⟩)).2) i W j)).map List.length) = List.replicate i W := by
              rw [List.eq_replicate_iff]
              refine ⟨by simp, fun y hy => ?_⟩
              simp only [List.map_map, List.mem_map] at hy
              obtain ⟨j, _, rfl⟩ := hy
              have := prodT_size (Mx.right G5 i) (fun j => (P[j]?.getD (0, ⟨#[]⟩)).2) i W j
              simpa using this
            rw [this]
            simp
            have : i * W ≤ 16 * 100000 := Nat.mul_le_mul (by omega) (by omega)
            omega)
        rw [hlj] at hjn
        have hjd := joined_dec (size := size) HY.out.2.1 HY.out.2.2 Hsz.out
        have hjs : (⟨(Lib.join (((List.range i).map fun j => prodT (Mx.right G5 i) (fun j => (P[j]?.getD (0, ⟨#[]⟩)).2) i W j).map (·.data.toList)) (⟨#[]⟩ : ByteArray).data.toList).toArray⟩ : ByteArray) = (⟨(((List.range i).map fun j => (prodT (Mx.right G5 i) (fun j => (P[j]?.getD (0, ⟨#[]⟩)).2) i W j).data.toList).flatten).toArray⟩ : ByteArray) := by
          show (⟨(Lib.join _ []).toArray⟩ : ByteArray) = _
          rw [join_nil_eq, List.map_map]; rfl
        rw [hjs] at hjn
        have hszJ : size ≤ (⟨(((List.range i).map fun j => (prodT (Mx.right G5 i) (fun j => (P[j]?.getD (0, ⟨#[]⟩)).2) i W j).data.toList).flatten).toArray⟩ : ByteArray).size := by
          have := congrArg ByteArray.size hjd
          rw [ByteArray.size_extract, textOf_size] at this
          omega
        obtain ⟨J, hJ⟩ : ∃ J, (⟨(((List.range i).map fun j => (prodT (Mx.right G5 i) (fun j => (P[j]?.getD (0, ⟨#[]⟩)).2) i W j).data.toList).flatten).toArray⟩ : ByteArray) = J := ⟨_, rfl⟩
        rw [hJ] at hjn hjd hszJ
        have Hjn := Lib.hid hjn
        have Hjd := Lib.hid hjd
        have HZ := Lib.hid (HY.out.1.trans (hb6.mono HY.out.1.size))
        have hszJ2 : (size : Int) ≤ J.size := by omega
        clear hjn hjd hjs hJ hlj hve6 hT6 hv6 hb6 HY
        go_wp2_with fail
        refine Hjn.out.mono ?_
        rintro e w7 ⟨rfl, hb7⟩
        have HQ := Lib.hid (HZ.out.trans (hb7.mono HZ.out.size))
        clear hb7
        go_wp2
        go_ret2
        exact ⟨HQ.out, .inr (.inr ⟨by rw [HW.out]; exact Hall.out, by rw [HP.out.1]; exact Hlen.out, by rw [HW.out, HP.out.1, ← Hjd.out]; rfl⟩)⟩
end Go.Proofs.YtolbdcmoblcakaaGreatDoor

