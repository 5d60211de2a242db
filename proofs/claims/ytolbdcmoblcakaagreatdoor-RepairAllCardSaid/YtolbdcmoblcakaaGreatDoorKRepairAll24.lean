/- Walks of the document's upTo and Spread; of both Times where they do not go together. -/
import Derived.Test.YtolbdcmoblcakaaGreatDoorKRepairAll20
import Derived.Test.YtolbdcmoblcakaaGreatDoorKRepairAll21
namespace Go.Proofs.YtolbdcmoblcakaaGreatDoor
open Go.RowKit

set_option maxHeartbeats 1000000 in
theorem upto_walk (k : Nat) (w : World) (hk : k ≤ 255) :
    Calls Tryz.prog 55 #[.int .i64 k] w fun e w' => (∃ v, e = .returned v ∧ OwnB w.heap.size w' v (List.range k)) ∧ Below w.heap.size w w' := by
  go_enter Tryz.func55, Tryz.ntmps55
  go_wp2
  go_loopw [3, 4] (fun v vi wr => ∃ i : Nat, i ≤ k ∧ vi = .int .i64 i ∧ Hid (OwnB w.heap.size wr v (List.range i) ∧ Below w.heap.size w wr)) (fun _ i _ => k - (intOf i).toNat)
  case atStart => exact ⟨0, by omega, rfl, Lib.hid ⟨OwnB.nil _ _, Below.refl _ _⟩⟩
  case round =>
    obtain ⟨i, hi, rfl, H⟩ := hrel
    have hi2 : i < k ∨ i = k := by omega
    rcases hi2 with hlt | rfl
    · have hlt2 : (i : Int) < k := by omega
      have hmod : (i : Int) % 256 = i := by omega
      have hl : (List.range i).length + 1 ≤ 140737488355328 := by simp; omega
      have hs2 := H.out.2.size
      go_wp2_with (at_builtin; refine append_byte 10 13 rfl rfl w.heap.size _ _ i rfl rfl H.out.1 hl hs2 ?_)
      intro v' w' k1 k2 k3
      have hb : Below w.heap.size w w' := (H.out.2.alloc hs2 _).grown k2 (by simp; omega) (fun q e => (H.out.1.lt q e).1)
      have hr : OwnB w.heap.size w' v' (List.range (i + 1)) := by rw [List.range_succ]; exact k1
      have HR := Lib.hid (And.intro hr hb)
      clear k1 k2 k3 hb hr
      go_wp2
      go_roundw
      case rel => exact ⟨i + 1, by omega, by go_num, HR⟩
      case measure => simp [intOf]; omega
    · go_wp2
      go_ret
      exact ⟨⟨_, rfl, H.out.1⟩, H.out.2⟩

set_option maxRecDepth 100000 in
set_option maxHeartbeats 4000000 in
theorem rspread_walk (n k : Nat) (w : World) (hk : 1 ≤ k) (hkn : k ≤ n) (hn : n ≤ 12) :
    Calls Tryz.prog 35 #[.int .i64 n, .int .i64 k] w fun e w' => (∃ v bs caps, e = .returned v ∧ OwnM w.heap.size w' v n k bs caps (Mx.spr k)) ∧ Below w.heap.size w w' := by
  have hmk := fun (W : World) => run_make_row' (P := Tryz.prog) (w := W) 92 5 (.int .u8 0) 1 Tryz.underlying92 info_uint8 rfl .i64 .i64 k (by omega) (by omega)
  have Hmk := Lib.hid hmk
  clear hmk
  go_enter Tryz.func35, Tryz.ntmps35
  go_wp2_with fail
  refine (upto_walk k w (by omega)).mono ?_
  rintro e w1 ⟨⟨vx, rfl, hvx⟩, hb1⟩
  obtain ⟨ax, cx, hve, _, _, hIx⟩ := OwnB.row hvx
  rw [hve, List.length_range]
  have HX := Lib.hid hIx
  have HB1 := Lib.hid hb1
  have hsw := hb1.size
  clear hve hvx hIx hb1
  go_wp2
  go_loopw [6, 7] (fun vo vi wr => ∃ (i : Nat) (bs caps : Nat → Nat), i ≤ n ∧ vi = .int .i64 i ∧ Hid (OwnM w1.heap.size wr vo i k bs caps (Mx.spr k) ∧ Below w1.heap.size w1 wr)) (fun _ i _ => n - (intOf i).toNat)
  case atStart => exact ⟨0, fun _ => 0, fun _ => 0, by omega, rfl, Lib.hid ⟨OwnM.nil _ _ _ _ _ _, Below.refl _ _⟩⟩
  case round =>
    obtain ⟨i, bs, caps, hi, rfl, H⟩ := hrel
    have hi2 : i < n ∨ i = n := by omega
    rcases hi2 with hlt | rfl
    · have hlt2 : (i : Int) < n := by omega
      have hmk := Hmk.out wr
      obtain ⟨wo, rfl⟩ : ∃ wo : World, wo = wr := ⟨_, rfl⟩
      go_wp2
      have hsz := H.out.2.size
      have hrow := RowV.made wo k
      obtain ⟨W0, hW0⟩ : ∃ W0, (wo.alloc (.cells (madeCells #[.int .u8 0] k) 5)) = W0 := ⟨_, rfl⟩
      have hb0 : Below w1.heap.size w1 W0 := by rw [← hW0]; exact H.out.2.alloc hsz _
      have hm0 : OwnM w1.heap.size W0 u6 i k bs caps (Mx.spr k) := by rw [← hW0]; exact H.out.1.below ((Below.refl _ wo).alloc (Nat.le_refl _) _) (Nat.le_refl _)
      have hs0 : W0.heap.size = wo.heap.size + 1 := by rw [← hW0]; simp
      have hl0 : ∀ i', i' < i → bs i' ≠ wo.heap.size := fun i' h e => by have := H.out.1.lt i' h; omega
      have ho0 : u6.ownBlock ≠ some wo.heap.size := fun e => by have := (H.out.1.own.lt _ e).2; omega
      rw [hW0] at hrow ⊢
      obtain ⟨g, hg⟩ : ∃ g, wo.heap.size = g := ⟨_, rfl⟩
      rw [hg] at hrow hs0 hl0 ho0 hsz ⊢
      have Hx := Lib.hid (And.intro hrow (And.intro hb0 (And.intro hm0 (And.intro hs0 (And.intro hl0 ho0)))))
      clear hrow hb0 hm0 hs0 hl0 ho0 hW0 hg hmk
      go_loopw [9] (fun vt wr => ∃ j : Nat, j ≤ k ∧ vt = .int .i64 j ∧ Hid (OnlyB g W0 wr ∧ RowV wr g k (firstK j (Mx.spr k i) (fun _ => 0)))) (fun t _ => k - (intOf t).toNat)
      case atStart => exact ⟨0, by omega, rfl, Lib.hid ⟨OnlyB.refl _ _, Hx.out.1.congr fun j _ => by unfold firstK; rw [if_neg (by omega)]⟩⟩
      case round =>
        obtain ⟨j, hj, rfl, H2⟩ := hrel
        have hj2 : j < k ∨ j = k := by omega
        rcases hj2 with hjl | rfl
        · have hjl2 : (j : Int) < k := by omega
          have hmod : (i : Int) % 256 = i := by omega
          have hlr : (List.range k).length = k := List.length_range
          have hI2 : RowAt w1.heap.size wr ax (List.range k) := HX.out.below (Hx.out.2.1.trans (H2.out.1.below hsz))
          have hbs := basis_walk w1.heap.size ax cx (List.range k) j i wr (Mx.range_bytes (by omega)) (Mx.range_unlike k) (by omega) (by rw [hlr]; unfold maxLen; omega) (by rw [hlr]; exact hjl) hI2
          rw [hlr] at hbs
          have hnew : bas (List.range k) j i = Mx.spr k i j := rfl
          rw [hnew] at hbs
          have hxl := Mx.by_spr k i j
          obtain ⟨x, hxe⟩ : ∃ x, Mx.spr k i j = x := ⟨_, rfl⟩
          rw [hxe] at hbs hxl
          have hcD := H2.out.2.cell j hjl
          have hfr := H2.out.2.free j hjl
          have Hbs := Lib.hid hbs
          have Hxe := Lib.hid hxe
          clear hbs hxe hI2 hnew hlr
          go_wp2_with fail
          refine Hbs.out.mono ?_
          rintro e w' ⟨rfl, q, rfl⟩
          have hcD2 : (wr.drewN q).cell? ⟨g, j, none⟩ = some (.int .u8 (firstK j (Mx.spr k i) (fun _ => 0) j : Nat)) := hcD
          go_wp2
          go_roundw
          case rel =>
            refine ⟨j + 1, by omega, by go_num, Lib.hid ⟨?_, ?_⟩⟩
            · exact (H2.out.1.trans (OnlyB.drewN g wr q)).trans (OnlyB.setCell _ _ _ _)
            · refine (RowV.set (x := x) hjl (RowV.drewN q H2.out.2)).congr fun j' hj' => ?_
              unfold Mx.upd firstK
              by_cases e : j' = j
              · rw [if_pos e, if_pos (by omega), e]; exact Hxe.out.symm
              · rw [if_neg e]
                by_cases e2 : j' < j
                · rw [if_pos e2, if_pos (by omega)]
                · rw [if_neg e2, if_neg (by omega)]
          case measure => simp [intOf]; omega
        · obtain ⟨_, hb0, hm0, hs0, hl0, ho0⟩ := Hx.out
          have hm1 := hm0.only H2.out.1 hl0 ho0
          have hb1 := hb0.trans (H2.out.1.below hsz)
          have hgl : g < wr.heap.size := by have := H2.out.1.size; omega
          have hown := Lib.hid hm1.own
          have hul : ((List.range i).map fun i => Value.slice (some ⟨bs i, 0, none⟩) j (caps i)).length ≤ 1000000 := by simp; omega
          have hsz1 := hb1.size
          have hrowf := H2.out.2.congr (g := Mx.spr j i) (fun j' hj' => by unfold firstK; rw [if_pos hj'])
          have Hy := Lib.hid (And.intro hm1 (And.intro hb1 (And.intro hl0 (And.intro ho0 hrowf))))
          clear hb0 hm0 hs0 hl0 ho0 hm1 hb1 hrowf
          go_wp2_with (at_builtin; refine append_rowv 32 34 rfl rfl w1.heap.size _ _ (some ⟨g, 0, none⟩) j j rfl rfl hown.out hul hsz1 ?_)
          intro v' w' k1 k2 k3
          obtain ⟨hm1, hb1, hl0, ho0, hrowf⟩ := Hy.out
          have hm2 := hm1.snoc hrowf hsz hgl hl0 ho0 ⟨Nat.le_refl _, by unfold maxLen; omega⟩ k1 k2 k3
          have hb2 : Below w1.heap.size w1 w' := (hb1.alloc hsz1 _).grown k2 (by simp; omega) (fun j e => (hm1.own.lt j e).1)
          have hm3 := hm2.congr (M' := Mx.spr j) (fun i' hi' j hj => by
            unfold Mx.putR
            by_cases e : i' = i
            · rw [if_pos e, e]
            · rw [if_neg e])
          have HR := Lib.hid (And.intro hm3 hb2)
          clear hm1 hb1 hl0 ho0 hrowf hm2 hb2 hm3 k1 k2 k3 Hy hown
          go_wp2
          go_roundw
          case rel => exact ⟨i + 1, _, _, by omega, by go_num, HR⟩
          case measure => simp [intOf]; omega
    · go_wp2
      go_ret
      exact ⟨⟨_, bs, caps, rfl, H.out.1.lower hsw⟩, HB1.out.trans (H.out.2.mono hsw)⟩

/-- do two go together? -/
def Together (LA LB : List (List Nat)) : Prop := IsMat LA ∧ IsMat LB ∧ (LA[0]?.getD []).length = LB.length
set_option maxHeartbeats 1000000 in
theorem times_bad (n₀ : Nat) (aa ab : Option Addr) (ca cb : Nat) (LA LB : List (List Nat)) (w : World) (a2 : Addr) (hz : w.cell? ⟨6, 0, none⟩ = some (errV a2)) (hn : n₀ ≤ w.heap.size) (hA : RowsAt n₀ w aa LA) (hB : RowsAt n₀ w ab LB) (h : ¬ Together LA LB) :
    Calls Tryz.prog 97 #[.slice aa LA.length ca, .slice ab LB.length cb] w fun e w' => e = .returned (.tuple #[.slice none 0 0, errV a2]) ∧ Below w.heap.size w w' := by
  have HA := Lib.hid hA
  have HB := Lib.hid hB
  have Hz := Lib.hid hz
  obtain ⟨nA, hnA⟩ : ∃ n, LA.length = n := ⟨_, rfl⟩
  obtain ⟨nB, hnB⟩ : ∃ n, LB.length = n := ⟨_, rfl⟩
  have H := Lib.hid h
  by_cases h1 : IsMat LA
  · have hc1 := check_yes n₀ aa ca LA w _ hz hA h1
    by_cases h2 : IsMat LB
    · obtain ⟨b, off, p, o, caps, hae, hR⟩ := hA.mat h1
      have h3 : (LA[0]?.getD []).length ≠ LB.length := fun e => h ⟨h1, h2, e⟩
      have h4 := h1.n1
      have hc0 := hR.head 0 h4
      rw [Nat.add_zero] at hc0
      have hlo := hR.lo
      obtain ⟨c, hc⟩ : ∃ c, (LA[0]?.getD []).length = c := ⟨_, rfl⟩
      rw [hc] at hc0 h3
      have hne1 : ((c : Int) != (nB : Int)) = true := by simp; omega
      have hne2 : (c != nB) = true := by simp; omega
      have hn3 : (0 : Int) < nA := by omega
      rw [hnA] at hc1
      rw [hnA, hnB]
      rw [hae] at hc1 ⊢
      have Hc1 := Lib.hid hc1
      have Hx := Lib.hid (And.intro hnB h2)
      have Hc0 := Lib.hid hc0
      clear hA hB hz h h1 h2 hc1 hnA hnB hae hR hc hc0 h3
      go_enter Tryz.func97, Tryz.ntmps97
      go_wp2_with fail
      refine Hc1.out.mono ?_
      rintro e w1 ⟨rfl, hb1⟩
      have hz1 : w1.cell? ⟨6, 0, none⟩ = some (errV a2) := (hb1.cell (lt_of_cell Hz.out)).trans Hz.out
      have hc2 := check_yes n₀ ab cb LB w1 _ hz1 (HB.out.below (hb1.mono hn)) Hx.out.2
      rw [Hx.out.1] at hc2
      have Hc2 := Lib.hid hc2
      have HB1 := Lib.hid (And.intro hb1 hz1)
      clear hc2 hb1 hz1
      go_wp2_with fail
      refine Hc2.out.mono ?_
      rintro e w2 ⟨rfl, hb2⟩
      have hb3 := HB1.out.1.trans (hb2.mono HB1.out.1.size)
      have hz2 : w2.cell? ⟨6, 0, none⟩ = some (errV a2) := (hb3.cell (lt_of_cell Hz.out)).trans Hz.out
      have hc0 : w2.cell? ⟨b, off, none⟩ = some (.slice (some ⟨p 0, o 0, none⟩) c (caps 0)) := (hb3.cell (p := ⟨b, off, none⟩) (by show b < w.heap.size; omega)).trans Hc0.out
      have HB3 := Lib.hid hb3
      clear hb2 hb3 HB1
      go_wp2
      go_quiet (fail)
      go_wp2
      go_ret2
      exact ⟨rfl, HB3.out.trans (same_below' _ nq)⟩
    · rw [hnA] at hc1
      rw [hnA, hnB]
      have Hc1 := Lib.hid hc1
      have Hx := Lib.hid (And.intro hnB h2)
      clear hA hB hz h h1 h2 hc1 hnA hnB
      go_enter Tryz.func97, Tryz.ntmps97
      go_wp2_with fail
      refine Hc1.out.mono ?_
      rintro e w1 ⟨rfl, hb1⟩
      have hz1 : w1.cell? ⟨6, 0, none⟩ = some (errV a2) := (hb1.cell (lt_of_cell Hz.out)).trans Hz.out
      have hc2 := check_no n₀ ab cb LB w1 _ hz1 (HB.out.below (hb1.mono hn)) Hx.out.2
      rw [Hx.out.1] at hc2
      have Hc2 := Lib.hid hc2
      have HB1 := Lib.hid (And.intro hb1 hz1)
      clear hc2 hb1 hz1
      go_wp2_with fail
      refine Hc2.out.mono ?_
      rintro e w2 ⟨rfl, hb2⟩
      have hb3 := HB1.out.1.trans (hb2.mono HB1.out.1.size)
      have hz2 : w2.cell? ⟨6, 0, none⟩ = some (errV a2) := (hb3.cell (lt_of_cell Hz.out)).trans Hz.out
      have HB3 := Lib.hid hb3
      clear hb2 hb3 HB1
      go_wp2
      go_quiet (fail)
      go_wp2
      go_ret2
      exact ⟨rfl, HB3.out.trans (same_below' _ nq)⟩
  · have hc1 := check_no n₀ aa ca LA w _ hz hA h1
    rw [hnA] at hc1
    rw [hnA, hnB]
    have Hc1 := Lib.hid hc1
    clear hA hB hz h h1 hc1 hnA hnB
    go_enter Tryz.func97, Tryz.ntmps97
    go_wp2_with fail
    refine Hc1.out.mono ?_
    rintro e w1 ⟨rfl, hb1⟩
    have hz1 : w1.cell? ⟨6, 0, none⟩ = some (errV a2) := (hb1.cell (lt_of_cell Hz.out)).trans Hz.out
    have HB1 := Lib.hid hb1
    clear hb1
    go_wp2
    go_quiet (fail)
    go_wp2
    go_ret2
    exact ⟨rfl, HB1.out.trans (same_below' _ nq)⟩
end Go.Proofs.YtolbdcmoblcakaaGreatDoor
/- Walks of the document's Wide and Encode, of sameShards. -/
namespace Go.Proofs.YtolbdcmoblcakaaGreatDoor
open Go.RowKit

set_option maxHeartbeats 1000000 in
theorem rwide_walk (k size : Nat) (w : World) (hk : 1 ≤ k) (hk2 : k ≤ 1000) (hs : size ≤ 100000) :
    Calls Tryz.prog 34 #[.int .i64 k, .int .i64 size] w fun e w' => e = .returned (.int .i64 (wideN k size : Nat)) ∧ w' = w := by
  have hwf := wide_facts k size hk
  obtain ⟨W, hW⟩ : ∃ W, wideN k size = W := ⟨_, rfl⟩
  rw [hW] at hwf ⊢
  have hcm : k * W = W * k := Nat.mul_comm _ _
  rw [hcm] at hwf
  obtain ⟨Q, hQ⟩ : ∃ Q, W * k = Q := ⟨_, rfl⟩
  have HQ := Lib.hid hQ
  rw [hQ] at hwf
  have hWl : W ≤ Q := by rw [← hQ]; exact Nat.le_mul_of_pos_right _ hk
  clear hW hcm hQ
  go_enter Tryz.func34, Tryz.ntmps34
  go_wp2
  go_loop [5] (fun t => ∃ v : Nat, v ≤ W ∧ t = .int .i64 v) (fun t => W - (intOf t).toNat)
  case atStart => exact ⟨0, by omega, rfl⟩
  case round =>
    obtain ⟨v, hv, rfl⟩ := hrel
    obtain ⟨P, hP⟩ : ∃ P, v * k = P := ⟨_, rfl⟩
    have hPi : (v : Int) * (k : Int) = (P : Int) := by rw [← hP]; push_cast; rfl
    have hPQ : P ≤ Q := by rw [← hP, ← HQ.out]; exact Nat.mul_le_mul_right _ hv
    have hv2 : v < W ∨ v = W := by omega
    rcases hv2 with hlt | rfl
    · have h1 : P + k ≤ Q := by
        rw [← hP, ← HQ.out]
        have := Nat.mul_le_mul_right k (show v + 1 ≤ W by omega)
        rwa [Nat.add_mul, Nat.one_mul] at this
      have hlt2 : (P : Int) < size := by omega
      clear hP
      go_wp2
      go_round
      case rel => exact ⟨v + 1, by omega, by go_num⟩
      case measure => simp [intOf]; omega
    · have h1 : P = Q := by rw [← hP, HQ.out]
      have hlt2 : ¬ (P : Int) < size := by omega
      clear hP
      go_wp2
      go_ret
      exact ⟨rfl, rfl⟩

/-- the sum of the first products of a column. -/
def encP (k : Nat) (s : ByteArray) (i c : Nat) : Nat → Nat := fun j => Mx.dot (Mx.spr k i) (fun l => sb s (l * wideN k s.size + c)) j
theorem encP_all (k : Nat) (s : ByteArray) (i c : Nat) : encP k s i c k = encF k s i c := rfl
theorem encP_lt (k : Nat) (s : ByteArray) (i c j : Nat) : encP k s i c j < 256 := Mx.dot_lt (Mx.by_spr k i) j
theorem encP_succ (k : Nat) (s : ByteArray) (i c j : Nat) : encP k s i c (j + 1) = encP k s i c j ^^^ Gf.mul (Mx.spr k i j) (sb s (j * wideN k s.size + c)) := rfl
set_option maxRecDepth 100000 in
set_option maxHeartbeats 8000000 in
theorem rencode_walk (n k : Nat) (s : ByteArray) (w : World) (hk : 1 ≤ k) (hkn : k ≤ n) (hn : n ≤ 12) (hs : s.size ≤ 1000) :
    Calls Tryz.prog 24 #[.int .i64 n, .int .i64 k, .string s] w fun e w' => (∃ v, e = .returned v ∧ OwnS w.heap.size w' v (encL n k s)) ∧ Below w.heap.size w w' := by
  have hwf := wide_facts k s.size hk
  have hwl := wide_le k s.size hk
  have hwd := rwide_walk k s.size w hk (by omega) (by omega)
  have hes := fun i c j => encP_succ k s i c j
  have hel := fun i c j => encP_lt k s i c j
  have hea := fun i c => encP_all k s i c
  have hez : ∀ i c, encP k s i c 0 = 0 := fun _ _ => rfl
  have hen : ∀ i, (⟨(rowText (encF k s i) (wideN k s.size)).toArray⟩ : ByteArray) = encT k s i := fun _ => rfl
  obtain ⟨W, hW⟩ : ∃ W, wideN k s.size = W := ⟨_, rfl⟩
  rw [hW] at hwf hwl hwd hes hen
  obtain ⟨f, hf⟩ : ∃ f, encP k s = f := ⟨_, rfl⟩
  rw [hf] at hes hel hea hez
  have Hf := Lib.hid (And.intro hes (And.intro hel (And.intro hea hen)))
  have hmk := fun (V : World) => run_make_row' (P := Tryz.prog) (w := V) 92 5 (.int .u8 0) 1 Tryz.underlying92 info_uint8 rfl .i64 .i64 W (by omega) (by omega)
  have Hmk := Lib.hid hmk
  have Hwd := Lib.hid hwd
  have Hwf := Lib.hid hwf
  have Hez := Lib.hid hez
  clear hmk hwd hwf hW hes hel hea hez hf hen
  go_enter Tryz.func24, Tryz.ntmps24
  go_wp2_with fail
  refine Hwd.out.mono ?_
  rintro e w' ⟨rfl, rfl⟩
  go_wp2_with fail
  refine (rspread_walk n k w' hk hkn hn).mono ?_
  rintro e w1 ⟨⟨vm, bs, caps, rfl, hm⟩, hb1⟩
  obtain ⟨g1, c1, hve, _, _, hV⟩ := hm.mat (by omega)
  rw [hve]
  have HM := Lib.hid (hV.read (by omega) (by omega))
  have H1 := Lib.hid hb1
  have hsw := hb1.size
  clear hve hV hm hb1
  go_wp2
  go_loopw [9, 10] (fun vo vi wr => ∃ i : Nat, i ≤ n ∧ vi = .int .i64 i ∧ Hid (OwnS w1.heap.size wr vo (encL i k s) ∧ Below w1.heap.size w1 wr)) (fun _ i _ => n - (intOf i).toNat)
  case atStart => exact ⟨0, by omega, rfl, Lib.hid ⟨OwnS.nil _ _, Below.refl _ _⟩⟩
  case round =>
    obtain ⟨i, hi, rfl, H⟩ := hrel
    have hi2 : i < n ∨ i = n := by omega
    rcases hi2 with hlt | rfl
    · have hlt2 : (i : Int) < n := by omega
      have hmk := Hmk.out wr
      obtain ⟨wo, rfl⟩ : ∃ wo : World, wo = wr := ⟨_, rfl⟩
      go_wp2
      have hsz := H.out.2.size
      have hrow := RowV.made wo W
      obtain ⟨W0, hW0⟩ : ∃ W0, (wo.alloc (.cells (madeCells #[.int .u8 0] W) 5)) = W0 := ⟨_, rfl⟩
      have hb0 : Below w1.heap.size w1 W0 := by rw [← hW0]; exact H.out.2.alloc hsz _
      have hm0 : OwnS w1.heap.size W0 u9 (encL i k s) := by rw [← hW0]; exact World.ownsRow.alloc H.out.1 _
      have hs0 : W0.heap.size = wo.heap.size + 1 := by rw [← hW0]; simp
      have ho0 : u9.ownBlock ≠ some wo.heap.size := fun e => by have := (H.out.1.lt _ e).2; omega
      rw [hW0] at hrow ⊢
      obtain ⟨g, hg⟩ : ∃ g, wo.heap.size = g := ⟨_, rfl⟩
      rw [hg] at hrow hs0 ho0 hsz ⊢
      have Hx := Lib.hid (And.intro hrow (And.intro hb0 (And.intro hm0 (And.intro hs0 ho0))))
      clear hrow hb0 hm0 hs0 ho0 hW0 hg hmk
      go_loopw [12] (fun vt wr => ∃ c : Nat, c ≤ W ∧ vt = .int .i64 c ∧ Hid (OnlyB g W0 wr ∧ RowV wr g W (firstK c (encF k s i) (fun _ => 0)))) (fun t _ => W - (intOf t).toNat)
      case atStart => exact ⟨0, by omega, rfl, Lib.hid ⟨OnlyB.refl _ _, Hx.out.1.congr fun j _ => by unfold firstK; rw [if_neg (by omega)]⟩⟩
      case round =>
        obtain ⟨c, hc, rfl, H2⟩ := hrel
        have hc2 : c < W ∨ c = W := by omega
        rcases hc2 with hcl | rfl
        · have hcl2 : (c : Int) < W := by omega
          obtain ⟨wm, rfl⟩ : ∃ wm : World, wm = wr := ⟨_, rfl⟩
          go_wp2
          go_loopw [13] (fun vt wr => ∃ j : Nat, j ≤ k ∧ vt = .int .i64 j ∧ Hid (OnlyB g W0 wr ∧ RowV wr g W (Mx.upd (firstK c (encF k s i) (fun _ => 0)) c (f i c j)))) (fun t _ => k - (intOf t).toNat)
          case atStart =>
            refine ⟨0, by omega, rfl, Lib.hid ⟨H2.out.1, H2.out.2.congr fun j _ => ?_⟩⟩
            unfold Mx.upd
            by_cases e : j = c
            · rw [if_pos e, e]
              unfold firstK
              rw [if_neg (by omega)]
              exact (Hez.out i c).symm
            · rw [if_neg e]
          case round =>
            obtain ⟨j, hj, rfl, H3⟩ := hrel
            have hj2 : j < k ∨ j = k := by omega
            rcases hj2 with hjl | rfl
            · have hjl2 : (j : Int) < k := by omega
              obtain ⟨P, hP⟩ : ∃ P, j * W = P := ⟨_, rfl⟩
              have hPi : (j : Int) * (W : Int) = (P : Int) := by rw [← hP]; push_cast; rfl
              obtain ⟨Q, hQ⟩ : ∃ Q, k * W = Q := ⟨_, rfl⟩
              have hQb := Hwf.out.2
              rw [hQ] at hQb
              have hPQ : P ≤ Q := by rw [← hP, ← hQ]; exact Nat.mul_le_mul_right _ (by omega)
              obtain ⟨q, hq⟩ : ∃ q, P + c = q := ⟨_, rfl⟩
              have hqi : (P : Int) + (c : Int) = (q : Int) := by omega
              have hnew := Hf.out.1 i c j
              rw [hP, hq] at hnew
              have hd := Hf.out.2.1 i c j
              obtain ⟨d, hde⟩ : ∃ d, f i c j = d := ⟨_, rfl⟩
              rw [hde] at hnew hd
              have Hde := Lib.hid hde
              by_cases hqs : q < s.size
              · have hqs2 : (q : Int) < s.size := by omega
                have hA := (HM.out.below Hx.out.2.1)
                have hh := hA.head i hlt
                rw [Nat.zero_add] at hh
                have hh2 : wr.cell? ⟨g1, i, none⟩ = some (.slice (some ⟨bs i, 0, none⟩) k (caps i)) := (H3.out.1.cell (p := ⟨g1, i, none⟩) (by have := hA.lo; show g1 ≠ g; omega)).trans hh
                have hx2 := hA.cell i hlt j hjl
                rw [Nat.zero_add] at hx2
                have hcA : wr.cell? ⟨bs i, j, none⟩ = some (.int .u8 (Mx.spr k i j : Nat)) := (H3.out.1.cell (p := ⟨bs i, j, none⟩) (by have := hA.plo i hlt; show bs i ≠ g; omega)).trans hx2
                have hx := Mx.by_spr k i j
                obtain ⟨x, hxe⟩ : ∃ x, Mx.spr k i j = x := ⟨_, rfl⟩
                rw [hxe] at hcA hx hnew
                have hcD : wr.cell? ⟨g, c, none⟩ = some (.int .u8 (d : Nat)) := by
                  have := H3.out.2.cell c hcl
                  unfold Mx.upd at this
                  rw [if_pos rfl, Hde.out] at this; exact this
                have hfr := H3.out.2.free c hcl
                have hsb := sb_get s q hqs
                rw [hsb] at hnew
                have hy : (s[q]'hqs).toNat < 256 := (s[q]'hqs).toNat_lt
                have hml := Gf.mul_lt (s[q]'hqs).toNat hx
                have hz3 : bits .xor .u8 (d : Int) ((Gf.mul x (s[q]'hqs).toNat : Nat) : Int) = ((d ^^^ Gf.mul x (s[q]'hqs).toNat : Nat) : Int) := u8_xor_nat _ _ hd hml
                have hmq := fun V => rmul_q x (s[q]'hqs).toNat V hx hy
                obtain ⟨r, hre⟩ : ∃ r, Gf.mul x (s[q]'hqs).toNat = r := ⟨_, rfl⟩
                rw [hre] at hz3 hmq hml hnew
                have Hz3 := Lib.hid hz3
                have Hnew := Lib.hid hnew
                have Hmq := Lib.hid hmq
                clear hz3 hnew hmq hsb hre hh hx2 hxe hA hP hQ hq hde
                go_wp2
                have hw1 : IntKind.i64.wrap (P : Int) = (P : Int) := IntWalk.i64_in _ (by omega)
                have hw3 : IntKind.i64.wrap (q : Int) = (q : Int) := IntWalk.i64_in _ (by omega)
                refine wp_region_still_tail 23 (by kernel_rfl) (by kernel_rfl) ?_
                simp only [List.take_succ_cons, List.take_zero, List.drop_succ_cons, List.drop_zero]
                repeat still_step
                still_call (Hmq.out _)
                repeat still_step
                refine wpStill_nil ?_
                change wpList _ _ _ _ _ wr.drew
                go_wp2
                go_roundw
                case rel =>
                  refine ⟨j + 1, by omega, by go_num, Lib.hid ⟨(H3.out.1.trans (OnlyB.setCell _ _ _ _)).trans (OnlyB.drewN _ _ 1), RowV.drewN 1 ?_⟩⟩
                  rw [Hz3.out]
                  refine (H3.out.2.set (x := d ^^^ r) hcl).congr fun j' hj' => ?_
                  unfold Mx.upd
                  by_cases e : j' = c
                  · rw [if_pos e, if_pos e]; exact Hnew.out.symm
                  · rw [if_neg e, if_neg e, if_neg e]
                case measure => simp [intOf]; omega
              · have hqs2 : ¬ (q : Int) < s.size := by omega
                rw [sb_out s q (by omega), Gf.mul_zero, Nat.xor_zero] at hnew
                have Hnew := Lib.hid hnew
                clear hnew hP hQ hq hde
                go_wp2
                go_roundw
                case rel => exact ⟨j + 1, by omega, by go_num, Lib.hid ⟨H3.out.1, by rw [Hnew.out, ← Hde.out]; exact H3.out.2⟩⟩
                case measure => simp [intOf]; omega
            · go_wp2
              go_roundw
              case rel =>
                refine ⟨c + 1, by omega, by go_num, Lib.hid ⟨H3.out.1, H3.out.2.congr fun j' hj' => ?_⟩⟩
                unfold Mx.upd
                by_cases e : j' = c
                · rw [if_pos e, e, Hf.out.2.2.1]
                  unfold firstK
                  rw [if_pos (by omega)]
                · rw [if_neg e]
                  unfold firstK
                  by_cases e2 : j' < c
                  · rw [if_pos e2, if_pos (by omega)]
                  · rw [if_neg e2, if_neg (by omega)]
              case measure => simp [intOf]; omega
        · obtain ⟨_, hb0, hm0, hs0, ho0⟩ := Hx.out
          have hm1 : OwnS w1.heap.size wr u9 (encL i k s) :=
            hm0.kept (row := some g) ⟨H2.out.1.os, H2.out.1.tape, H2.out.1.output, Nat.le_of_eq H2.out.1.size.symm, fun q _ hq => H2.out.1.block q (fun e => hq (by rw [e]))⟩ (by
              cases e : u9.ownBlock with
              | none => exact .inl rfl
              | some q => exact .inr (fun e2 => ho0 (by rw [e, ← e2])))
          have hb1 := hb0.trans (H2.out.1.below hsz)
          have hown := Lib.hid hm1
          have hul : (encL i k s).length ≤ 1000000 := by rw [encL_length]; omega
          have hsz1 := hb1.size
          have hcv := conv_row wr g 0 c c (encF k s i) (encF_lt k s i) (fun c' hc' => by
            rw [Nat.zero_add, H2.out.2.cell c' hc']
            unfold firstK
            rw [if_pos hc'])
          rw [Hf.out.2.2.2 i] at hcv
          obtain ⟨pt, hpte⟩ : ∃ pt, encT k s i = pt := ⟨_, rfl⟩
          rw [hpte] at hcv
          have Hpte := Lib.hid hpte
          have Hy := Lib.hid (And.intro hm1 hb1)
          clear hb0 hm0 hs0 ho0 hm1 hb1 hpte
          go_wp2_with (at_builtin; refine append_shard 69 74 rfl rfl w1.heap.size _ _ (i : Int) pt rfl rfl hown.out hul hsz1 ?_)
          intro v' w' k1 k2 k3
          obtain ⟨hm1, hb1⟩ := Hy.out
          have hb2 : Below w1.heap.size w1 w' := (hb1.alloc hsz1 _).grown k2 (by simp; omega) (fun j e => (hm1.lt j e).1)
          have hm3 : OwnS w1.heap.size w' v' (encL (i + 1) k s) := by
            have e : encL (i + 1) k s = encL i k s ++ [((i : Int), pt)] := by
              unfold encL
              rw [List.range_succ, List.map_append, List.map_cons, List.map_nil, Hpte.out]
            rw [e]; exact k1
          have HR := Lib.hid (And.intro hm3 hb2)
          clear hm1 hb1 hb2 hm3 k1 k2 k3 Hy hown hcv
          go_wp2
          go_roundw
          case rel => exact ⟨i + 1, by omega, by go_num, HR⟩
          case measure => simp [intOf]; omega
    · go_wp2
      go_ret
      exact ⟨⟨_, rfl, H.out.1.lower hsw⟩, H1.out.trans (H.out.2.mono hsw)⟩

end Go.Proofs.YtolbdcmoblcakaaGreatDoor
