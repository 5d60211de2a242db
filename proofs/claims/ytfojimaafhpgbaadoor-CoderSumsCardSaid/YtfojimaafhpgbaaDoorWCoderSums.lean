/- The walk of the law CoderSums. -/
import Derived.Test.YtfojimaafhpgbaaDoorCodC
import Derived.Test.YtfojimaafhpgbaaDoorEnv
namespace Go.Proofs.YtfojimaafhpgbaaDoor
open Go.RowKit

namespace Mx
theorem dot_addR (r u v : Nat → Nat) : ∀ c, dot r (fun l => u l ^^^ v l) c = dot r u c ^^^ dot r v c
  | 0 => by show 0 = 0 ^^^ 0; rfl
  | c + 1 => by
    show dot r _ c ^^^ Gf.mul (r c) (u c ^^^ v c) = (dot r u c ^^^ _) ^^^ (dot r v c ^^^ _)
    rw [dot_addR r u v c, Gf.mul_xor_right]; ac_rfl
end Mx
/-- a text out of a row. -/
def textOf (f : Nat → Nat) (n : Nat) : ByteArray := ⟨(rowText f n).toArray⟩
theorem textOf_size (f : Nat → Nat) (n : Nat) : (textOf f n).size = n := by
  show (rowText f n).toArray.size = n
  simp [rowText]
theorem sb_textOf {f : Nat → Nat} (hf : ∀ j, f j < 256) (n i : Nat) : sb (textOf f n) i = if i < n then f i else 0 := by
  by_cases h : i < n
  · rw [if_pos h]
    unfold sb textOf rowText
    simp [h]
    exact hf i
  · rw [if_neg h]
    exact sb_out _ _ (by rw [textOf_size]; omega)
theorem enc_sum {k : Nat} {a b x : ByteArray} (ha : x.size = a.size) (hb : b.size = a.size) (h : ∀ i, sb x i = sb a i ^^^ sb b i) (i c : Nat) : encF k x i c = encF k a i c ^^^ encF k b i c := by
  unfold encF
  rw [ha, hb, ← Mx.dot_addR]
  exact Mx.dot_congr (fun _ _ => rfl) (fun l _ => h _)
namespace coderSums

set_option maxRecDepth 100000 in
set_option maxHeartbeats 2000000 in
theorem walk_out (n k : Int) (a b : ByteArray) (w : World) (E : Nat → Addr) (hE : ErrEz w E) (h : ¬ (1 ≤ k ∧ k ≤ n ∧ n ≤ 12 ∧ a.size ≤ 100 ∧ b.size = a.size)) :
    Calls Tryd.prog 15 #[.int .i64 n, .int .i64 k, .string a, .string b] w fun e w' => e = .returned (.bool true) ∧ Below w.heap.size w w' := by
  have Hu := Lib.hid (single_walk w E hE)
  clear hE
  by_cases h1 : k < 1
  · clear h
    go_enter Tryd.func15, Tryd.ntmps15
    go_wp2_with fail
    refine Hu.out.mono ?_
    rintro e w1 ⟨rfl, hb⟩
    go_wp2
    go_ret
    exact ⟨rfl, hb⟩
  by_cases h2 : n < k
  · clear h
    go_enter Tryd.func15, Tryd.ntmps15
    go_wp2_with fail
    refine Hu.out.mono ?_
    rintro e w1 ⟨rfl, hb⟩
    go_wp2
    go_ret
    exact ⟨rfl, hb⟩
  by_cases h3 : 12 < n
  · clear h
    go_enter Tryd.func15, Tryd.ntmps15
    go_wp2_with fail
    refine Hu.out.mono ?_
    rintro e w1 ⟨rfl, hb⟩
    go_wp2
    go_ret
    exact ⟨rfl, hb⟩
  by_cases h4 : (100 : Int) < a.size
  · clear h
    go_enter Tryd.func15, Tryd.ntmps15
    go_wp2_with fail
    refine Hu.out.mono ?_
    rintro e w1 ⟨rfl, hb⟩
    go_wp2
    go_ret
    exact ⟨rfl, hb⟩
  have h5 : ((b.size : Int) != (a.size : Int)) = true := by simp; omega
  have h6 : (b.size != a.size) = true := by simp; omega
  clear h
  go_enter Tryd.func15, Tryd.ntmps15
  go_wp2_with fail
  refine Hu.out.mono ?_
  rintro e w1 ⟨rfl, hb⟩
  go_wp2
  go_ret
  exact ⟨rfl, hb⟩

set_option maxRecDepth 100000 in
set_option maxHeartbeats 8000000 in
theorem walk_in (n k : Nat) (a b : ByteArray) (w : World) (E : Nat → Addr) (hE : ErrEz w E) (hk : 1 ≤ k) (hkn : k ≤ n) (hn : n ≤ 12) (ha : a.size ≤ 100) (hab : b.size = a.size) :
    Calls Tryd.prog 15 #[.int .i64 n, .int .i64 k, .string a, .string b] w fun e w' => e = .returned (.bool true) ∧ Below w.heap.size w w' := by
  have Hu := Lib.hid (single_walk w E hE)
  have HE := Lib.hid hE
  clear hE
  obtain ⟨len, hlen⟩ : ∃ len, a.size = len := ⟨_, rfl⟩
  have hlenb : b.size = len := by omega
  have Hlen := Lib.hid (And.intro hlen hlenb)
  rw [hlen] at ha
  have hmk := fun (V : World) => run_make_row' (P := Tryd.prog) (w := V) 28 5 (.int .u8 0) 1 Tryd.underlying28 info_uint8 rfl .i64 .i64 len (by omega) (by omega)
  have Hmk := Lib.hid hmk
  have g1 : ¬ (k : Int) < 1 := by omega
  have g2 : ¬ (n : Int) < k := by omega
  have g2d : decide (n < k) = false := by simp; omega
  have g3 : ¬ (12 : Int) < n := by omega
  have g4 : ¬ (100 : Int) < len := by omega
  clear hmk hab
  go_enter Tryd.func15, Tryd.ntmps15
  go_wp2_with fail
  refine Hu.out.mono ?_
  rintro e w1 ⟨rfl, hb1⟩
  have H1 := Lib.hid hb1
  have hmk := Hmk.out w1
  clear hb1
  go_wp2
  clear hmk
  have hrow := RowV.made w1 len
  obtain ⟨W0, hW0⟩ : ∃ W0, (w1.alloc (.cells (madeCells #[.int .u8 0] len) 5)) = W0 := ⟨_, rfl⟩
  have hb0 : Below w.heap.size w W0 := by rw [← hW0]; exact H1.out.alloc H1.out.size _
  have hsz := H1.out.size
  rw [hW0] at hrow ⊢
  obtain ⟨g, hg⟩ : ∃ g, w1.heap.size = g := ⟨_, rfl⟩
  rw [hg] at hrow hsz ⊢
  have Hx := Lib.hid (And.intro hrow hb0)
  clear hrow hb0 hW0 hg hlen hlenb
  go_loopw [11] (fun vi wr => ∃ i : Nat, i ≤ len ∧ vi = .int .i64 i ∧ Hid (OnlyB g W0 wr ∧ RowV wr g len (firstK i (fun j => sb a j ^^^ sb b j) (fun _ => 0)))) (fun s _ => len - (intOf s).toNat)
  case atStart => exact ⟨0, by omega, rfl, Lib.hid ⟨OnlyB.refl _ _, Hx.out.1.congr fun j _ => by unfold firstK; rw [if_neg (by omega)]⟩⟩
  case round =>
    obtain ⟨i, hi, rfl, H⟩ := hrel
    have hi2 : i < len ∨ i = len := by omega
    rcases hi2 with hlt | hie
    · have hlt2 : (i : Int) < len := by omega
      have ia : i < a.size := by have := Hlen.out.1; omega
      have ib : i < b.size := by have := Hlen.out.2; omega
      have hfr := H.out.2.free i hlt
      have hcD := H.out.2.cell i hlt
      have hxr : bits .xor .u8 ((a[i].toNat : Nat) : Int) ((b[i].toNat : Nat) : Int) = ((sb a i ^^^ sb b i : Nat) : Int) := by
        rw [u8_xor_nat _ _ a[i].toNat_lt b[i].toNat_lt, sb_get a i ia, sb_get b i ib]
      have Hxr := Lib.hid hxr
      have ia2 : (i : Int) < a.size := by omega
      have ib2 : (i : Int) < b.size := by omega
      clear hxr
      go_wp2
      go_still_tail 10, (by kernel_rfl)
      change wpList _ _ _ _ _ wr.drew
      go_wp2
      go_roundw
      case rel =>
        refine ⟨i + 1, by omega, by go_num, Lib.hid ⟨(H.out.1.trans (OnlyB.setCell _ _ _ _)).trans (OnlyB.drewN _ _ 1), RowV.drewN 1 ?_⟩⟩
        rw [Hxr.out]
        refine (H.out.2.set (x := sb a i ^^^ sb b i) hlt).congr fun j' hj' => ?_
        unfold Mx.upd firstK
        by_cases e : j' = i
        · subst e; rw [if_pos rfl, if_pos (by omega)]
        · rw [if_neg e]
          by_cases e2 : j' < i
          · rw [if_pos e2, if_pos (by omega)]
          · rw [if_neg e2, if_neg (by omega)]
      case measure => simp [intOf]; omega
    · subst hie
      have hnl : ¬ (i : Int) < a.size := by have := Hlen.out.1; omega
      have hbw := Hx.out.2.trans (H.out.1.below hsz)
      have hrw := H.out.2.congr (g := fun j => sb a j ^^^ sb b j) (fun j hj => by unfold firstK; rw [if_pos hj])
      have hfl : ∀ j, sb a j ^^^ sb b j < 256 := fun j => Gf.xor_lt (sb_lt _ _) (sb_lt _ _)
      have HB := Lib.hid (And.intro hbw hrw)
      clear hbw hrw Hx H
      go_wp2_with fail
      refine (encode_walk n k a wr E (HE.out.below HB.out.1 (Nat.le_refl _)) hk hkn hn (by have := Hlen.out.1; omega)).mono ?_
      rintro e w2 ⟨⟨v2, rfl, hv2⟩, hb2⟩
      obtain ⟨gp, cp, hve, _, _, _, hcp⟩ := hv2.at_ (by rw [encL_length]; omega)
      rw [encL_length] at hve hcp
      have hcp' : ∀ j, j < n → w2.cell? ⟨gp, j * 2 + 1, none⟩ = some (.string (encT k a j)) := fun j hj => by
        have := (hcp j hj).2
        rwa [encL_at _ _ _ hj] at this
      have hgp : gp < w2.heap.size := lt_of_cell (p := ⟨gp, 0 * 2 + 1, none⟩) (hcp' 0 (by omega))
      rw [hve]
      have H2 := Lib.hid (And.intro (HB.out.1.trans (hb2.mono HB.out.1.size)) (And.intro hcp' (And.intro hgp (hb2.mono (Nat.le_refl _)))))
      clear hve hv2 hcp hcp' hgp hb2
      go_wp2_with fail
      refine (encode_walk n k b w2 E (HE.out.below H2.out.1 (Nat.le_refl _)) hk hkn hn (by have := Hlen.out.2; omega)).mono ?_
      rintro e w3 ⟨⟨v3, rfl, hv3⟩, hb3⟩
      obtain ⟨gq, cq, hve, _, _, _, hcq⟩ := hv3.at_ (by rw [encL_length]; omega)
      rw [encL_length] at hve hcq
      have hcq' : ∀ j, j < n → w3.cell? ⟨gq, j * 2 + 1, none⟩ = some (.string (encT k b j)) := fun j hj => by
        have := (hcq j hj).2
        rwa [encL_at _ _ _ hj] at this
      have hgq : gq < w3.heap.size := lt_of_cell (p := ⟨gq, 0 * 2 + 1, none⟩) (hcq' 0 (by omega))
      rw [hve]
      have hrow3 : RowV w3 g i (fun j => sb a j ^^^ sb b j) := by
        have hgl : g < wr.heap.size ∨ i = 0 := by
          by_cases h0 : i = 0
          · exact .inr h0
          · exact .inl (lt_of_cell (p := ⟨g, 0, none⟩) (HB.out.2.cell 0 (by omega)))
        rcases hgl with hgl | h0
        · exact (HB.out.2.heap (H2.out.2.2.2.block g hgl)).heap (hb3.block g (Nat.lt_of_lt_of_le hgl H2.out.2.2.2.size))
        · exact ⟨fun j hj => by omega, fun j hj => by omega⟩
      have H3 := Lib.hid (And.intro (H2.out.1.trans (hb3.mono H2.out.1.size)) (And.intro hcq' (And.intro hgq (fun j hj => (hb3.cell (p := ⟨gp, j * 2 + 1, none⟩) H2.out.2.2.1).trans (H2.out.2.1 j hj) : ∀ j, j < n → w3.cell? ⟨gp, j * 2 + 1, none⟩ = some (.string (encT k a j))))))
      have hgp3 := Nat.lt_of_lt_of_le H2.out.2.2.1 hb3.size
      have hcv := conv_row w3 g 0 i i (fun j => sb a j ^^^ sb b j) hfl (fun c hc => by rw [Nat.zero_add]; exact hrow3.cell c hc)
      have hpt : (⟨(rowText (fun j => sb a j ^^^ sb b j) i).toArray⟩ : ByteArray) = textOf (fun j => sb a j ^^^ sb b j) i := rfl
      rw [hpt] at hcv
      have hxs := textOf_size (fun j => sb a j ^^^ sb b j) i
      have hxb : ∀ j, sb (textOf (fun j => sb a j ^^^ sb b j) i) j = sb a j ^^^ sb b j := fun j => by
        rw [sb_textOf hfl]
        split
        · rfl
        · rw [sb_out a j (by have := Hlen.out.1; omega), sb_out b j (by have := Hlen.out.2; omega)]; rfl
      obtain ⟨x, hx⟩ : ∃ x, textOf (fun j => sb a j ^^^ sb b j) i = x := ⟨_, rfl⟩
      rw [hx] at hcv hxs hxb
      have Hxx := Lib.hid (And.intro hxs hxb)
      clear hve hv3 hcq hcq' hgq hb3 hrow3 hpt hxs hxb hx HB
      go_wp2_with fail
      refine (encode_walk n k x w3 E (HE.out.below H3.out.1 (Nat.le_refl _)) hk hkn hn (by have := Hxx.out.1; omega)).mono ?_
      rintro e w4 ⟨⟨v4, rfl, hv4⟩, hb4⟩
      obtain ⟨gr, cr, hve, _, _, _, hcr⟩ := hv4.at_ (by rw [encL_length]; omega)
      rw [encL_length] at hve hcr
      have hcr' : ∀ j, j < n → w4.cell? ⟨gr, j * 2 + 1, none⟩ = some (.string (encT k x j)) := fun j hj => by
        have := (hcr j hj).2
        rwa [encL_at _ _ _ hj] at this
      rw [hve]
      have H4 := Lib.hid (And.intro (H3.out.1.trans (hb4.mono H3.out.1.size)) (And.intro hcr' (And.intro
        (fun j hj => (hb4.cell (p := ⟨gp, j * 2 + 1, none⟩) hgp3).trans (H3.out.2.2.2 j hj) : ∀ j, j < n → w4.cell? ⟨gp, j * 2 + 1, none⟩ = some (.string (encT k a j)))
        (fun j hj => (hb4.cell (p := ⟨gq, j * 2 + 1, none⟩) H3.out.2.2.1).trans (H3.out.2.1 j hj) : ∀ j, j < n → w4.cell? ⟨gq, j * 2 + 1, none⟩ = some (.string (encT k b j))))))
      clear hve hv4 hcr hcr' hb4 hcv H2 H3 hgp3
      go_wp2
      have hesum := fun m c => enc_sum (k := k) (a := a) (b := b) (x := x) (by have := Hxx.out.1; have := Hlen.out.1; omega) (by have := Hlen.out.1; have := Hlen.out.2; omega) Hxx.out.2 m c
      have hsa := fun m => encT_size k a m
      have hsb := fun m => encT_size k b m
      have hsx := fun m => encT_size k x m
      have hba := fun m c (hc : c < wideN k a.size) => sb_encT k a m hc
      have hbb := fun m c (hc : c < wideN k b.size) => sb_encT k b m hc
      have hbx := fun m c (hc : c < wideN k x.size) => sb_encT k x m hc
      rw [Hlen.out.1] at hsa hba
      rw [Hlen.out.2] at hsb hbb
      rw [Hxx.out.1] at hsx hbx
      obtain ⟨Wd, hWd⟩ : ∃ Wd, wideN k i = Wd := ⟨_, rfl⟩
      rw [hWd] at hsa hsb hsx hba hbb hbx
      have HW := Lib.hid (And.intro hsa (And.intro hsb (And.intro hsx (And.intro hba (And.intro hbb (And.intro hbx hesum))))))
      have hWb : Wd ≤ i + k - 1 := by rw [← hWd]; exact wide_le k i hk
      clear hsa hsb hsx hba hbb hbx hesum hWd
      go_loopw [18] (fun vi wr => ∃ m : Nat, m ≤ n ∧ vi = .int .i64 m ∧ Hid (∃ q, wr = w4.drewN q)) (fun s _ => n - (intOf s).toNat)
      case atStart => exact ⟨0, by omega, rfl, Lib.hid ⟨0, rfl⟩⟩
      case round =>
        obtain ⟨m, hm, rfl, H5⟩ := hrel
        obtain ⟨q5, hq5⟩ := H5.out
        have Hq5 := Lib.hid hq5; clear hq5
        have hm2 : m < n ∨ m = n := by omega
        rcases hm2 with hml | rfl
        · have hml2 : (m : Int) < n := by omega
          have c1 : wr.cell? ⟨gp, m * 2 + 1, none⟩ = some (.string (encT k a m)) := by rw [Hq5.out]; exact H4.out.2.2.1 m hml
          have c2 : wr.cell? ⟨gq, m * 2 + 1, none⟩ = some (.string (encT k b m)) := by rw [Hq5.out]; exact H4.out.2.2.2 m hml
          have c3 : wr.cell? ⟨gr, m * 2 + 1, none⟩ = some (.string (encT k x m)) := by rw [Hq5.out]; exact H4.out.2.1 m hml
          have s1 := HW.out.1 m
          have s2 := HW.out.2.1 m
          have s3 := HW.out.2.2.1 m
          have hkey : ∀ c, c < Wd → sb (encT k x m) c = sb (encT k a m) c ^^^ sb (encT k b m) c := fun c hc => by
            rw [HW.out.2.2.2.1 m c hc, HW.out.2.2.2.2.1 m c hc, HW.out.2.2.2.2.2.1 m c hc]
            exact HW.out.2.2.2.2.2.2 m c
          obtain ⟨tp, htp⟩ : ∃ t, encT k a m = t := ⟨_, rfl⟩
          obtain ⟨tq, htq⟩ : ∃ t, encT k b m = t := ⟨_, rfl⟩
          obtain ⟨tr, htr⟩ : ∃ t, encT k x m = t := ⟨_, rfl⟩
          rw [htp] at c1 s1 hkey
          rw [htq] at c2 s2 hkey
          rw [htr] at c3 s3 hkey
          have Hs := Lib.hid (And.intro s1 (And.intro s2 s3))
          have Hkey := Lib.hid hkey
          clear htp htq htr hkey
          go_wp2
          go_quiet (fail)
          go_wp2
          clear s1 s2 s3
          obtain ⟨wm, rfl⟩ : ∃ wm : World, wm = wr := ⟨_, rfl⟩
          go_loopw [19] (fun vc wr' => ∃ c : Nat, c ≤ Wd ∧ vc = .int .i64 c ∧ Hid (∃ q, wr' = wm.drewN q)) (fun s _ => Wd - (intOf s).toNat)
          case atStart => exact ⟨0, by omega, rfl, Lib.hid ⟨nq, rfl⟩⟩
          case round =>
            obtain ⟨c, hc, rfl, H6⟩ := hrel
            obtain ⟨q6, hq6⟩ := H6.out
            have Hq6 := Lib.hid hq6; clear hq6
            have d1 : wr.cell? ⟨gp, m * 2 + 1, none⟩ = some (.string tp) := by rw [Hq6.out]; exact c1
            have d2 : wr.cell? ⟨gq, m * 2 + 1, none⟩ = some (.string tq) := by rw [Hq6.out]; exact c2
            have d3 : wr.cell? ⟨gr, m * 2 + 1, none⟩ = some (.string tr) := by rw [Hq6.out]; exact c3
            have hc2 : c < Wd ∨ c = Wd := by omega
            rcases hc2 with hcl | rfl
            · have i1 : c < tp.size := by have := Hs.out.1; omega
              have i2 : c < tq.size := by have := Hs.out.2.1; omega
              have i3 : c < tr.size := by have := Hs.out.2.2; omega
              have j1 : (c : Int) < tp.size := by omega
              have j2 : (c : Int) < tq.size := by omega
              have j3 : (c : Int) < tr.size := by omega
              have hxr : bits .xor .u8 ((tp[c].toNat : Nat) : Int) ((tq[c].toNat : Nat) : Int) = ((tr[c].toNat : Nat) : Int) := by
                have := Hkey.out c hcl
                rw [u8_xor_nat _ _ tp[c].toNat_lt tq[c].toNat_lt, ← sb_get tp c i1, ← sb_get tq c i2, ← sb_get tr c i3, this]
              clear c1 c2 c3
              go_wp2
              go_quiet (fail)
              go_wp2
              go_roundw
              case rel => exact ⟨c + 1, by omega, by go_num, Lib.hid ⟨q6 + nq, by rw [Hq6.out, World.drewN_drewN]⟩⟩
              case measure => simp [intOf]; omega
            · have j3 : ¬ (c : Int) < tr.size := by have := Hs.out.2.2; omega
              clear c1 c2 c3
              go_wp2
              go_roundw
              case rel => exact ⟨m + 1, by omega, by go_num, Lib.hid ⟨q5 + q6, by rw [Hq6.out, Hq5.out, World.drewN_drewN]⟩⟩
              case measure => simp [intOf]; omega
        · go_wp2
          go_ret
          exact ⟨rfl, by rw [Hq5.out]; exact H4.out.1.trans (same_below' _ q5)⟩

theorem ez_of_laid {W : World} (h : laidMetH Tryd.prog Rows.coderSumsRow.laid W) : ∃ E, ErrEz W E := by
  obtain ⟨a1, h1⟩ := err_of_laid h (n := "shardkeep/api.ErrBound") (g := 1) (text := errText 1) (List.mem_cons_self) (by kernel_rfl) (by kernel_rfl)
  obtain ⟨a2, h2⟩ := err_of_laid h (n := "shardkeep/api.ErrShape") (g := 2) (text := errText 2) (List.mem_cons_of_mem _ List.mem_cons_self) (by kernel_rfl) (by kernel_rfl)
  obtain ⟨a3, h3⟩ := err_of_laid h (n := "shardkeep/api.ErrZero") (g := 11) (text := errText 11) (List.mem_cons_of_mem _ (List.mem_cons_of_mem _ List.mem_cons_self)) (by kernel_rfl) (by kernel_rfl)
  exact ⟨fun i => if i = 1 then a1 else if i = 2 then a2 else a3, h1.cell, h2.cell, h3.cell⟩

theorem walk (n k : Int) (a b : ByteArray) (w : World) (w0 : (Lit.int .i64 n).wf = true) (w1 : (Lit.int .i64 k).wf = true) (_w2 : a.size ≤ maxLen) (_w3 : b.size ≤ maxLen) (hL : laidMetH Tryd.prog Rows.coderSumsRow.laid w) :
    Calls Tryd.prog 15 #[.int .i64 n, .int .i64 k, .string a, .string b] w fun e w' => e = .returned (.bool true) ∧ Below w.heap.size w w' := by
  obtain ⟨E, hE⟩ := ez_of_laid hL
  by_cases h : 1 ≤ k ∧ k ≤ n ∧ n ≤ 12 ∧ a.size ≤ 100 ∧ b.size = a.size
  · obtain ⟨k, rfl⟩ := Int.eq_ofNat_of_zero_le (show 0 ≤ k by omega)
    obtain ⟨n, rfl⟩ := Int.eq_ofNat_of_zero_le (show 0 ≤ n by omega)
    exact walk_in n k a b w E hE (by omega) (by omega) (by omega) h.2.2.2.1 h.2.2.2.2
  · exact walk_out n k a b w E hE h
end coderSums
end Go.Proofs.YtfojimaafhpgbaaDoor
