/- The walk of the law RepairAll. -/
import Derived.Test.YtolbdcmoblcakaaGreatDoorKRepairAll38
import Derived.Test.YtolbdcmoblcakaaGreatDoorKRepairAll08
import Derived.Test.YtolbdcmoblcakaaGreatDoorKRepairAll24
import Derived.Test.YtolbdcmoblcakaaGreatDoorKRepairAll22
import Derived.Test.YtolbdcmoblcakaaGreatDoorRows
import Derived.JoinedOf
import Derived.KernelRfl
import Derived.JoinedCond
namespace Go.Proofs.YtolbdcmoblcakaaGreatDoor.repairAll
open Go.RowKit Go.BigFrame

theorem field_code (x y : Int) (w : World) : (Instr.field 42 (.agg #[.int .i64 x, .int .i64 y]) 0).run Tryz.prog w = .ok (.int .i64 x) w := by kernel_rfl

/-- which are gone. -/
def goneZ (z : Nat → Int) (j : Nat) (q : Nat) : Bool := (List.range j).any fun i => decide (z i = (q : Int))
theorem goneZ_succ (z : Nat → Int) (j q : Nat) : goneZ z (j + 1) q = (goneZ z j q || decide (z j = (q : Int))) := by
  unfold goneZ
  rw [List.range_succ, List.any_append]
  simp
theorem conG_succ (n k : Nat) (s key : ByteArray) (g : Nat → Bool) : conG (n + 1) k s key g = conG n k s key g ++ [some (if g n = true then [] else [(key, xv k s n)])] := by
  unfold conG
  rw [List.range_succ, List.map_append]; rfl
theorem goneG_le (n : Nat) (g : Nat → Bool) : (goneG n g).length ≤ n := by have := part_len g n; omega
/-- the state of the loop. -/
def AllSt (n0 : Nat) (w6 wr : World) (i : Nat) (u : Value) (k : Nat) (s key : ByteArray) (g : Nat → Bool) (sl : List Slot) : Prop :=
  Below n0 w6 wr ∧ sl.length = i ∧ OwnH n0 wr u (ptrsH sl) ∧ HO.RackAt (Zof n0 u (.slice none 0 0)) wr sl ∧ consH sl = conG i k s key g
theorem consH_snoc (sl : List Slot) (x : Slot) : consH (sl ++ [x]) = consH sl ++ [x.map fun y => y.2.2.1] := by simp [consH]
theorem AllSt.next {n0 : Nat} {w6 wr W w' : World} {i k : Nat} {u u' : Value} {s key : ByteArray} {g : Nat → Bool} {sl : List Slot} {hb : Nat} {lk : List Kp} {o : Obj} (h : AllSt n0 w6 wr i u k s key g sl) (hn : n0 ≤ W.heap.size) (hB : Below n0 w6 W) (hr : HO.RackAt (Zof n0 u (.slice none 0 0)) W (sl ++ [some (hb, hb, lk, [])])) (hlk : lk = if g i = true then [] else [(key, xv k s i)])
    (ho : OwnH n0 W u (ptrsH sl)) (k1 : OwnH n0 w' u' (ptrsH sl ++ [some ⟨hb, 0, none⟩])) (g1 : (W.alloc o).grownBy w' u.ownBlock) (v1 : u'.ownBlock = u.ownBlock ∨ u'.ownBlock = some (W.heap.size + 1)) : AllSt n0 w6 w' (i + 1) u' k s key g (sl ++ [some (hb, hb, lk, [])]) := by
  obtain ⟨_, h2, _, _, h5⟩ := h
  refine ⟨hB.trans (((Below.refl n0 W).alloc hn o).trans (World.grownBy.below g1 (by simp; omega) (fun k e => (ho.lt k e).1))), by simp [h2], by rw [ptrsH_snoc]; exact k1, hr.appendH g1 v1 k1, ?_⟩
  rw [consH_snoc, conG_succ, h5, ← hlk]; rfl
set_option maxRecDepth 100000 in
set_option maxHeartbeats 32000000 in
theorem walk (n k : Int) (a : Option Addr) (len cap : Nat) (L : List ByteArray) (key text : ByteArray) (ia : Option Addr) (il ic : Nat) (zs : List Int) (w : World) (hin : CfgIn w n k a len cap L) (hkey : key.size ≤ maxLen) (htx : text.size ≤ maxLen) (hzs : IsRow .i64 w ia il ic zs) (hL : laidMetH Tryz.prog Rows.repairAllRow.laid w) :
    Calls Tryz.prog 4 #[.agg #[.int .i64 n, .int .i64 k, .slice a len cap], .string key, .string text, .slice ia il ic] w fun e w' => e = .returned (.bool true) ∧ Below w.heap.size w w' := by
  obtain ⟨E, hE⟩ := env_of_laid hL
  obtain ⟨z, hz, hzb, hilm, hilc⟩ := ints_of_isRow hzs
  obtain ⟨W0, hW0⟩ : ∃ W0, w.alloc (.cells #[.int .i64 n, .int .i64 k, .slice a len cap] 24) = W0 := ⟨_, rfl⟩
  obtain ⟨cb, hcb⟩ : ∃ cb, w.heap.size = cb := ⟨_, rfl⟩
  have hB0 : Below w.heap.size w W0 := by rw [← hW0]; exact (Below.refl _ w).alloc (Nat.le_refl _) _
  have hC0 : CfgAt W0 cb n k (.slice a len cap) := by rw [← hW0, ← hcb]; exact CfgAt.new w n k (.slice a len cap)
  have hs0 : W0.heap.size = cb + 1 := by rw [← hW0, ← hcb]; simp
  have hcl : cap ≤ 9223372036854775807 := hin.t_.max_
  have hlc := hin.t_.cap_
  have hk9 : key.size ≤ 9223372036854775807 := hkey
  have ht9 : text.size ≤ 9223372036854775807 := htx
  have hi9 : il ≤ 9223372036854775807 := hilm
  have H := Lib.hid (And.intro hin (And.intro hkey (And.intro htx (And.intro hz (And.intro hzb hE)))))
  have H0 := Lib.hid (And.intro hB0 (And.intro hC0 (And.intro hs0 hcb)))
  have Hm := Lib.hid (mended_walk W0 E (hE.below hB0 (Nat.le_refl _)))
  clear hin hkey htx hzs hz hzb hE hL hB0 hC0 hs0 hilm hilc
  go_enter Tryz.func4, Tryz.ntmps4
  go_wp2_with fail
  clear hW0
  refine Hm.out.mono ?_
  rintro e w1 ⟨rfl, hb1⟩
  have H1 := Lib.hid (And.intro (H0.out.1.trans (hb1.mono H0.out.1.size)) (And.intro (H0.out.2.1.below hb1 (by rw [H0.out.2.2.1]; omega)) (show cb < w1.heap.size by have := hb1.size; have := H0.out.2.2.1; omega)))
  obtain ⟨c0, c1, c2⟩ := H1.out.2.1
  have Hlt := Lib.hid (longt3_walk w.heap.size a len cap L w1 H.out.1.t_.len_ (by unfold maxLen; omega) H.out.1.t_.sizeAt (H.out.1.t_.txs.below H1.out.1))
  obtain ⟨lt, hlt⟩ : ∃ lt, longT3 L = lt := ⟨_, rfl⟩
  rw [hlt] at Hlt
  have HLT := Lib.hid hlt
  clear hb1 hlt
  go_wp2_with fail
  refine Hlt.out.mono ?_
  rintro e w2 ⟨rfl, rfl⟩
  cases lt with
  | true =>
    go_wp2
    go_ret
    exact ⟨rfl, H1.out.1⟩
  | false =>
    by_cases hk100 : 100 < key.size
    · have hk1 : (100 : Int) < key.size := by omega
      go_wp2
      go_ret
      exact ⟨rfl, H1.out.1⟩
    have hk1 : ¬ (100 : Int) < key.size := by omega
    have hk2 : decide (100 < key.size) = false := decide_eq_false hk100
    by_cases ht100 : 100 < text.size
    · have ht1 : (100 : Int) < text.size := by omega
      go_wp2
      go_ret
      exact ⟨rfl, H1.out.1⟩
    have ht1 : ¬ (100 : Int) < text.size := by omega
    have ht2 : decide (100 < text.size) = false := decide_eq_false ht100
    by_cases hi30 : 30 < il
    · have hi1 : (30 : Int) < il := by omega
      go_wp2
      go_ret
      exact ⟨rfl, H1.out.1⟩
    have hi1 : ¬ (30 : Int) < il := by omega
    have hi2 : decide (30 < il) = false := decide_eq_false hi30
    have Hnm := Lib.hid (rname_walk key w1 H.out.2.1)
    obtain ⟨nb, hnb⟩ : ∃ nb, nameB key = nb := ⟨_, rfl⟩
    rw [hnb] at Hnm
    have HNB := Lib.hid hnb
    clear hnb
    go_wp2_with fail
    refine Hnm.out.mono ?_
    rintro e w2 ⟨rfl, rfl⟩
    cases nb with
    | false =>
      go_wp2
      go_ret
      exact ⟨rfl, H1.out.1⟩
    | true =>
      have Hcf := Lib.hid (rconfig_walk n k w.heap.size a len cap L w1 H.out.1.t_.len_ hlc H.out.1.t_.sizeAt (H.out.1.t_.txs.below H1.out.1) H1.out.1.size)
      obtain ⟨F, hF⟩ : ∃ F, configF n k L = F := ⟨_, rfl⟩
      have HF := Lib.hid hF
      rw [hF] at Hcf
      unfold cfgV at Hcf
      clear hF
      go_wp2_with fail
      refine Hcf.out.mono ?_
      rintro e w3 ⟨rfl, hb3⟩
      unfold fltA
      have H3 := Lib.hid (And.intro (H1.out.1.trans (hb3.mono H1.out.1.size)) (And.intro (H1.out.2.1.below hb3 H1.out.2.2) (Nat.lt_of_lt_of_le H1.out.2.2 hb3.size)))
      clear hb3 c0 c1 c2
      by_cases hF0 : F.1 = 0
      · obtain ⟨⟨hk1', hkn', hn12'⟩, _, _, _, hFe⟩ := configF_zero (show (configF n k L).1 = 0 by rw [HF.out]; exact hF0)
        obtain ⟨n, rfl⟩ : ∃ m : Nat, n = (m : Int) := ⟨n.toNat, by omega⟩
        obtain ⟨k, rfl⟩ : ∃ m : Nat, k = (m : Int) := ⟨k.toNat, by omega⟩
        rw [HF.out] at hFe
        subst hFe
        dsimp only
        have hl30 : len ≤ 30 := by have h9 := (longT3_no HLT.out).1; have := H.out.1.t_.len_; omega
        have HK := Lib.hid (And.intro (show 1 ≤ k by omega) (And.intro (show k ≤ n by omega) (And.intro (show n ≤ 12 by omega) (And.intro (show (configF (n : Int) (k : Int) L).1 = 0 by rw [HF.out]) (show text.size ≤ 100 by omega)))))
        have hn12 : n ≤ 12 := by omega
        have hk12 : k ≤ 12 := by omega
        obtain ⟨c0, c1, c2⟩ := H3.out.2.1
        have Hen := Lib.hid (rencode_walk n k text w3 HK.out.1 HK.out.2.1 HK.out.2.2.1 (by have := HK.out.2.2.2.2; omega))
        have hfc := fun w => field_code 0 (-1) w
        clear hF0 hk1' hkn' hn12' hk100 ht100 hi30
        go_wp2_with fail
        refine Hen.out.mono ?_
        rintro e w6 ⟨⟨v6, rfl, hs6⟩, hb6⟩
        obtain ⟨sa, sc, rfl, hsc, hsm, hsr⟩ := hs6.read
        have h6b := H3.out.1.trans (hb6.mono H3.out.1.size)
        have h6c := H3.out.2.1.below hb6 H3.out.2.2
        have H6 := Lib.hid (And.intro h6b (And.intro h6c (And.intro (Nat.lt_of_lt_of_le H3.out.2.2 hb6.size) hsr)))
        rw [encL_length]
        obtain ⟨g, hg⟩ : ∃ g, goneZ z il = g := ⟨_, rfl⟩
        have HG := Lib.hid hg
        obtain ⟨n0, hn0⟩ : ∃ n0, w6.heap.size = n0 := ⟨_, rfl⟩
        have HN0 := Lib.hid hn0
        obtain ⟨d0, d1, d2⟩ := h6c
        clear hs6 hb6 hsc hsm hsr h6b c0 c1 c2 hg hn0
        go_wp2_with fail
        clear d0 d1 d2
        go_loopw [11, 12, 13] (fun vh vl vi wr => ∃ (i m : Nat) (u : Value), i ≤ n ∧ m ≤ i ∧ vi = .int .i64 i ∧ u = vh ∧ vl = .int .i64 ((n : Int) - (m : Int)) ∧ Hid ((goneG i g).length = m ∧ ∃ sl, AllSt n0 w6 wr i u k text key g sl)) (fun _ _ vi _ => n - (intOf vi).toNat)
        case atStart => exact ⟨0, 0, _, by omega, by omega, rfl, rfl, by simp, Lib.hid ⟨rfl, [], Below.refl _ _, rfl, Own1.nil _ _ _, HO.RackAt.nil (fun b hb => by
          rcases hb with hb | hb | hb
          · rw [HN0.out]; exact hb
          · cases hb
          · cases hb), rfl⟩⟩
        case round =>
          obtain ⟨i, m, u, hi, hmi, rfl, hu, rfl, Hr⟩ := hrel
          subst hu
          obtain ⟨hgm, sl, hst⟩ := Hr.out
          have hb6 : Below w6.heap.size w6 wr := by rw [HN0.out]; exact hst.1
          have hcfg := H6.out.2.1.below hb6 H6.out.2.2.1
          obtain ⟨c0, c1, c2⟩ := hcfg
          have hi2 : i < n ∨ n = i := by omega
          rcases hi2 with hilt | rfl
          · have hilt2 : (i : Int) < n := by omega
            obtain ⟨W1, hW1⟩ : ∃ W1, wr.alloc (.cells #[.map none, .bool false] 68) = W1 := ⟨_, rfl⟩
            obtain ⟨hb, hhb⟩ : ∃ hb, wr.heap.size = hb := ⟨_, rfl⟩
            have hB1 : Below wr.heap.size wr W1 := by rw [← hW1]; exact (Below.refl _ wr).alloc (Nat.le_refl _) _
            have hh1 : W1.heap[hb]? = some (.cells #[.map none, .bool false] 68 (0, 0)) := by rw [← hW1, ← hhb]; exact heap_alloc_new _ _
            have hszr : n0 ≤ wr.heap.size := by have := hst.1.size; rw [HN0.out] at this; exact this
            have hrk1 := hst.2.2.2.1.push hB1 (HO.two_new hh1 (by omega) hB1.size)
            obtain ⟨b, off, rfl, q0, q1⟩ : ∃ b off, sa = some ⟨b, off, none⟩ ∧ W1.cell? ⟨b, off + i * 2, none⟩ = some (.int .i64 ((encL n k text)[i]?.getD (0, ⟨#[]⟩)).1) ∧ W1.cell? ⟨b, off + i * 2 + 1, none⟩ = some (.string ((encL n k text)[i]?.getD (0, ⟨#[]⟩)).2) := by
              rcases H6.out.2.2.2.below (hb6.trans (hB1.mono hb6.size)) with he | ⟨b, off, h, hb, hc⟩
              · exfalso
                have h9 := encL_length n k text
                rw [he] at h9; simp at h9; omega
              · exact ⟨b, off, h, (hc i (by rw [encL_length]; exact hilt)).1, (hc i (by rw [encL_length]; exact hilt)).2⟩
            have hei : (encL n k text)[i]?.getD (0, ⟨#[]⟩) = ((i : Int), encT k text i) := by
              unfold encL
              rw [List.getElem?_map, List.getElem?_range hilt]; rfl
            rw [hei] at q0 q1
            dsimp only at q0 q1
            have hints : il = 0 ∨ ∃ b3 off3, ia = some ⟨b3, off3, none⟩ ∧ ∀ j, j < il → W1.cell? ⟨b3, off3 + j, none⟩ = some (.int .i64 (z j)) := by
              rcases H.out.2.2.2.1 with h9 | ⟨b3, off3, e, hlt, hc⟩
              · exact .inl h9
              · exact .inr ⟨b3, off3, e, fun j hj => ((H6.out.1.trans ((hb6.trans (hB1.mono hb6.size)).mono H6.out.1.size)).cell (p := ⟨b3, off3 + j, none⟩) hlt).trans (hc j hj)⟩
            have hgs := goneG_succ i g
            have HS := Lib.hid (And.intro hst (And.intro hgm (And.intro hszr (And.intro hrk1 (And.intro hB1 (And.intro hints (And.intro hgs hhb)))))))
            have HW := Lib.hid hW1
            clear hst hgm hszr hrk1 hB1 hh1 hei hb6 hints hgs Hr
            go_wp2_with fail
            go_loopw [15, 16] (fun vg vj wi => ∃ j : Nat, j ≤ il ∧ vj = .int .i64 j ∧ vg = .bool (goneZ z j i) ∧ Hid (wi = W1)) (fun _ vj _ => il - (intOf vj).toNat)
            case atStart => exact ⟨0, by omega, rfl, rfl, Lib.hid rfl⟩
            case round =>
              obtain ⟨j, hj, rfl, rfl, Hw⟩ := hrel
              rw [Hw.out]
              clear hW1
              have hj2 : j < il ∨ il = j := by omega
              rcases hj2 with hjlt | rfl
              · have hjlt2 : (j : Int) < il := by omega
                rcases HS.out.2.2.2.2.2.1 with h9 | ⟨b3, off3, rfl, hc⟩
                · exfalso; omega
                have hzj := hc j hjlt
                have hsu := goneZ_succ z j i
                obtain ⟨gj, hgj⟩ : ∃ gj, goneZ z j i = gj := ⟨_, rfl⟩
                rw [hgj] at hsu ⊢
                by_cases hzi : z j = (i : Int)
                · have HEE : Hid (goneZ z (j + 1) i = true) := Lib.hid (by rw [hsu, decide_eq_true hzi, Bool.or_true])
                  rw [hzi] at hzj
                  clear hsu hgj hzi hc
                  go_wp2_with fail
                  go_roundw
                  case rel => exact ⟨j + 1, by omega, by go_num, by rw [HEE.out], Lib.hid (by first | rfl | trivial)⟩
                  case measure => simp [intOf]; omega
                · have HEE : Hid (goneZ z (j + 1) i = gj) := Lib.hid (by rw [hsu, decide_eq_false hzi, Bool.or_false])
                  have h1 : (z j == (i : Int)) = false := beq_eq_false_iff_ne.2 hzi
                  clear hsu hgj hc
                  go_wp2_with fail
                  go_roundw
                  case rel => exact ⟨j + 1, by omega, by go_num, by rw [HEE.out], Lib.hid (by first | rfl | trivial)⟩
                  case measure => simp [intOf]; omega
              · have hgi0 : goneZ z il i = g i := congrFun HG.out i
                rw [hgi0]
                obtain ⟨gi, hgi⟩ : ∃ gi, g i = gi := ⟨_, rfl⟩
                rw [hgi]
                have HGI := Lib.hid hgi
                clear hgi0 hgi
                have hl8 : (ptrsH sl).length = i := by rw [size_ptrsH, HS.out.1.2.1]
                have HL8 := Lib.hid hl8
                clear hl8
                cases gi with
                | true =>
                  go_wp2_with (at_builtin; refine append_hold 100 102 rfl rfl n0 u (ptrsH sl) (some ⟨hb, 0, none⟩) rfl rfl (Own1.below HS.out.1.2.2.1 HS.out.2.2.2.2.1 (Nat.le_refl _)) (by rw [HL8.out]; omega) (Nat.le_trans HS.out.2.2.1 HS.out.2.2.2.2.1.size) ?_)
                  intro u' w7 k1 g1 v1
                  have HN : Hid ((goneG (i + 1) g).length = m + 1 ∧ ∃ sl, AllSt n0 w6 w7 (i + 1) u' k text key g sl) := Lib.hid ⟨by
                    rw [HS.out.2.2.2.2.2.2.1, HGI.out, if_pos rfl, List.length_append, HS.out.2.1]; rfl, _, AllSt.next (lk := []) HS.out.1 (Nat.le_trans HS.out.2.2.1 HS.out.2.2.2.2.1.size) (HS.out.1.1.trans (HS.out.2.2.2.2.1.mono HS.out.2.2.1)) HS.out.2.2.2.1 (by rw [HGI.out]; rfl) (Own1.below HS.out.1.2.2.1 HS.out.2.2.2.2.1 (Nat.le_refl _)) k1 g1 v1⟩
                  clear k1 g1 v1
                  go_wp2
                  go_roundw
                  case rel => exact ⟨i + 1, m + 1, _, by omega, by omega, by go_num, rfl, by rw [show ((n : Int) - ((m + 1 : Nat) : Int)) = (n : Int) - m - 1 by omega], HN⟩
                  case measure => simp [intOf]; omega
                | false =>
                  obtain ⟨_, _, P, ht, hPZ, hback⟩ := HS.out.2.2.2.1.act (i := sl.length) (show (sl ++ [some (hb, hb, [], [])])[sl.length]? = some (some (hb, hb, [], [])) by simp)
                  have hbW : Below w.heap.size w W1 := H6.out.1.trans ((show Below w6.heap.size w6 W1 by rw [HN0.out]; exact HS.out.1.1.trans (HS.out.2.2.2.2.1.mono HS.out.2.2.1)).mono H6.out.1.size)
                  have hpx := put_xv (k := k) (s := text) (key := key) (q := i) HNB.out HK.out.1 (by omega) HK.out.2.2.2.2 (by omega)
                  have hpt := HO.two_hput ht Fine.nil E (H.out.2.2.2.2.2.below hbW (Nat.le_refl _)).hx' key 1 0 (text.size : Int) (i : Int) (encT k text i) H.out.2.1
                  have Hput := Lib.hid hpt
                  have HP := Lib.hid (And.intro hPZ (And.intro hback (And.intro hbW hpx)))
                  clear ht hPZ hback hbW hpx hpt
                  go_wp2_with fail
                  refine Hput.out.mono ?_
                  rintro e w7 ⟨⟨v7, rfl, hv7⟩, ht7, hk7⟩
                  have hx0 : ((1, 0, (text.size : Int), (i : Int), encT k text i) : Ver) = xv k text i := rfl
                  rw [hx0, HP.out.2.2.2.1] at hv7
                  obtain rfl : v7 = .nilIface := by
                    rcases hv7 with ⟨_, h⟩ | ⟨j, _, h, _⟩
                    · exact h
                    · exfalso
                      have h0 : putM 0 = 0 := rfl
                      omega
                  have hfi : Fine [(key, xv k text i)] := by
                    have h9 := Fine.nil.put (sd := false) (key := key) (x := xv k text i)
                    rw [HP.out.2.2.2.2] at h9; exact h9
                  rw [hx0, HP.out.2.2.2.2] at ht7
                  have hr7 := HP.out.2.1 w7 _ _ ht7 hk7 hfi Fine.nil
                  have hset : (sl ++ [some (hb, hb, [], [])]).set sl.length (some (hb, hb, [(key, xv k text i)], [])) = sl ++ [some (hb, hb, [(key, xv k text i)], [])] := by simp
                  rw [hset] at hr7
                  have hn1 : n0 ≤ W1.heap.size := Nat.le_trans HS.out.2.2.1 HS.out.2.2.2.2.1.size
                  have hB17 : Below n0 W1 w7 := hk7.below hn1 (fun b hp => by
                    rcases Nat.lt_or_ge b n0 with h9 | h9
                    · exact absurd (.inl h9) (HP.out.1 b hp)
                    · exact h9)
                  have hB67 : Below n0 w6 w7 := (HS.out.1.1.trans (HS.out.2.2.2.2.1.mono HS.out.2.2.1)).trans hB17
                  have ho7 : OwnH n0 w7 u (ptrsH sl) := Own1.keptBut (Own1.below HS.out.1.2.2.1 HS.out.2.2.2.2.1 (Nat.le_refl _)) hk7 (fun b hp e => HP.out.1 b hp (.inr (.inl e)))
                  have HQ := Lib.hid (And.intro hr7 (And.intro (Nat.le_trans hn1 hk7.size) (And.intro hB67 ho7)))
                  clear hv7 ht7 hk7 hx0 hfi hr7 hset hn1 hB17 hB67 ho7
                  go_wp2_with (at_builtin; refine append_hold 100 102 rfl rfl n0 u (ptrsH sl) (some ⟨hb, 0, none⟩) rfl rfl HQ.out.2.2.2 (by rw [HL8.out]; omega) HQ.out.2.1 ?_)
                  intro u' w8 k1 g1 v1
                  have HN : Hid ((goneG (i + 1) g).length = m ∧ ∃ sl, AllSt n0 w6 w8 (i + 1) u' k text key g sl) := Lib.hid ⟨by
                    rw [HS.out.2.2.2.2.2.2.1, HGI.out, if_neg (by decide), List.append_nil, HS.out.2.1], _, AllSt.next (lk := [(key, xv k text i)]) HS.out.1 HQ.out.2.1 HQ.out.2.2.1 HQ.out.1 (by rw [HGI.out]; rfl) HQ.out.2.2.2 k1 g1 v1⟩
                  clear k1 g1 v1
                  go_wp2
                  go_roundw
                  case rel => exact ⟨i + 1, m, _, by omega, by omega, by go_num, rfl, rfl, HN⟩
                  case measure => simp [intOf]; omega
          · obtain ⟨hbw, hsl, hoh, hrk, hco⟩ := hst
            obtain ⟨pa, ca, rfl, hca, hma, hpa⟩ := own_ptrs hoh
            rw [size_ptrsH, hsl] at hca hrk ⊢
            obtain ⟨Z, hZ⟩ : ∃ Z, Zof n0 (.slice pa n ca) (.slice none 0 0) = Z := ⟨_, rfl⟩
            have hZa : ∀ x, pa = some x → Z x.block := fun x e => by rw [← hZ]; exact .inr (.inl (by rw [e]; rfl))
            rw [hZ] at hrk
            have hZlow : ∀ b, b < n0 → Z b := fun b hb => by rw [← hZ]; exact .inl hb
            have S : HO.Sit w wr E n k a len cap L cb key pa n Z sl := ⟨H6.out.1.trans (hb6.mono H6.out.1.size), H.out.2.2.2.2.2, H6.out.2.1.below hb6 H6.out.2.2.1, hZlow _ (by rw [← HN0.out]; exact H6.out.2.2.1), H.out.1.t_, hl30, H.out.2.1, hsl, by omega, hpa, hZa, fun b hb => hZlow b (by rw [← HN0.out]; exact Nat.lt_of_lt_of_le hb H6.out.1.size), hrk⟩
            have hpl := part_len g n
            have hbst := ra_best (n := n) (k := k) (s := text) (key := key) (g := g) HK.out.1 HK.out.2.1 HK.out.2.2.1 (by have := HK.out.2.2.2.2; omega)
            have hlkk := ra_lack (n := n) (k := k) (s := text) (key := key) (g := g)
            have hmen := ra_mend (n := n) (k := k) (s := text) (key := key) (g := g) HNB.out HK.out.1 HK.out.2.1 HK.out.2.2.1 HK.out.2.2.2.2
            rw [hgm] at hmen hpl
            rw [← hco] at hbst hlkk hmen
            have HP := Lib.hid (And.intro hpl (And.intro hbst (And.intro hlkk (And.intro hmen hgm))))
            have HS := Lib.hid S
            have Ho := Lib.hid S.own
            unfold cfgV at Ho
            have hkn' : k ≤ n := HK.out.2.1
            clear hbw hsl hoh hrk hco hca hma hpa hZ hZa hZlow S hpl hbst hlkk hmen hgm hb6 Hr
            by_cases hlt : (n : Int) - m < k
            · have HLT2 := Lib.hid (show ¬ k ≤ (leftG n g).length by have := HP.out.1; omega)
              go_wp2_with fail
              refine Ho.out.mono ?_
              rintro e w7 ⟨a7, cp7, rfl, hb7, hs7, hl7⟩
              have Hst := Lib.hid (HO.stand_walk hl7 n k ca)
              have HS7 := Lib.hid hs7
              unfold cfgV at Hst
              clear hb7 hs7 hl7 c0 c1 c2
              go_wp2_with fail
              refine Hst.out.mono ?_
              rintro e w8 ⟨hb8, z8, v8, rfl, hr8⟩
              obtain rfl : v8 = errV (E 4) := by
                rcases hr8 with ⟨r0, _⟩ | ⟨_, r1, _⟩ | ⟨_, _, ⟨_, _, r3⟩ | ⟨t, s, r3, _⟩⟩
                · exact absurd HK.out.2.2.2.1 r0
                · exact absurd rfl r1
                · exact r3
                · rw [Int.toNat_natCast, Int.toNat_natCast, HP.out.2.1, if_neg HLT2.out] at r3
                  simp at r3
              have Hcd := Lib.hid (coded3_err E 4 (by decide) 5 w8 (HS7.out.below hb8).errs)
              have HB8 := Lib.hid (HS7.out.below hb8).bel
              clear hr8 hb8
              go_wp2_with fail
              refine Hcd.out.mono ?_
              rintro e w9 ⟨rfl, hb9⟩
              have HN := Lib.hid (HB8.out.trans (hb9.mono HB8.out.size))
              clear hb9
              go_wp2_with fail
              go_ret
              exact ⟨by simp, HN.out⟩
            · have HLT2 := Lib.hid (show k ≤ (leftG n g).length by have := HP.out.1; omega)
              go_wp2_with fail
              refine Ho.out.mono ?_
              rintro e w7 ⟨a7, cp7, rfl, hb7, hs7, hl7⟩
              have Hme := Lib.hid (HO.mend_walk hl7 n k ca hs7.pzH hs7.hx)
              have HS7 := Lib.hid hs7
              unfold cfgV at Hme
              clear hb7 hs7 hl7 c0 c1 c2
              go_wp2_with fail
              refine Hme.out.mono ?_
              rintro e w8 ⟨z8, v8, rfl, hr8⟩
              obtain ⟨sl2, hr2, hp2, hk2, hc2, rfl, rfl⟩ : ∃ sl2, HO.RackAt Z w8 sl2 ∧ ptrsH sl2 = ptrsH sl ∧ KeptBut (fun b => ¬ Z b) w7 w8 ∧ consH sl2 = conG n k text key (fun _ => false) ∧ z8 = (m : Int) ∧ v8 = .nilIface := by
                rcases hr8 with ⟨r0, _⟩ | ⟨_, r1, _⟩ | ⟨_, _, ⟨r1, _⟩ | ⟨t', s', sl2, r1, q1, q2, q3, q4, q5, R', q6, q7, q8⟩⟩
                · exact absurd HK.out.2.2.2.1 r0
                · exact absurd rfl r1
                · rw [Int.toNat_natCast, Int.toNat_natCast, HP.out.2.1, if_pos HLT2.out] at r1
                  cases r1
                · rw [Int.toNat_natCast, Int.toNat_natCast, HP.out.2.1, if_pos HLT2.out] at r1
                  simp only [Prod.mk.injEq, and_true] at r1
                  obtain ⟨rfl, rfl⟩ := r1
                  rw [Int.toNat_natCast, Int.toNat_natCast, HP.out.2.2.2.1] at q6
                  subst q6
                  rcases q8 with ⟨_, h2, h3⟩ | ⟨h1, _⟩
                  · exact ⟨sl2, q1, q2, q5, q7, h2, h3⟩
                  · exact absurd rfl h1
              have S8 := HS7.out.kept hk2 hr2 hp2
              have HS8 := Lib.hid (And.intro S8 hc2)
              have Ho8 := Lib.hid S8.own
              obtain ⟨c0, c1, c2⟩ := S8.cfg
              unfold cfgV at Ho8
              have hmn : m ≤ n := hmi
              have g1 : ((m : Int) != (n : Int) - ((n : Int) - (m : Int))) = false := by
                rw [show (n : Int) - ((n : Int) - (m : Int)) = m by omega]; simp
              have g2 : ((m : Int) == (n : Int) - ((n : Int) - (m : Int))) = true := by
                rw [show (n : Int) - ((n : Int) - (m : Int)) = m by omega]; simp
              clear hr8 hr2 hp2 hk2 hc2 S8
              go_wp2_with fail
              refine Ho8.out.mono ?_
              rintro e w9 ⟨a9, cp9, rfl, hb9, hs9, hl9⟩
              have Hst := Lib.hid (HO.stand_walk hl9 n k ca)
              have HS9 := Lib.hid hs9
              unfold cfgV at Hst
              clear hb9 hs9 hl9 c0 c1 c2 g1 g2
              go_wp2_with fail
              refine Hst.out.mono ?_
              rintro e w10 ⟨hb10, z10, v10, rfl, hr10⟩
              obtain ⟨rfl, rfl⟩ : v10 = .nilIface ∧ z10 = (n : Int) - k := by
                have hb2 := ra_best (n := n) (k := k) (s := text) (key := key) (g := fun _ => false) HK.out.1 HK.out.2.1 HK.out.2.2.1 (by have := HK.out.2.2.2.2; omega)
                have hl2 := ra_lack (n := n) (k := k) (s := text) (key := key) (g := fun _ => false)
                rw [left_all, List.length_range, if_pos HK.out.2.1] at hb2
                rw [gone_none] at hl2
                rcases hr10 with ⟨r0, _⟩ | ⟨_, r1, _⟩ | ⟨_, _, ⟨r3, _⟩ | ⟨t, s, r3, r4, r5⟩⟩
                · exact absurd HK.out.2.2.2.1 r0
                · exact absurd rfl r1
                · rw [Int.toNat_natCast, Int.toNat_natCast, HS8.out.2, hb2] at r3
                  cases r3
                · rw [Int.toNat_natCast, Int.toNat_natCast, HS8.out.2] at r3 r5
                  rw [hb2] at r3
                  simp only [Prod.mk.injEq, and_true] at r3
                  obtain ⟨rfl, rfl⟩ := r3
                  rw [hl2] at r5
                  refine ⟨r4, ?_⟩
                  rw [r5]
                  simp
                  omega
              have S10 := HS9.out.below hb10
              obtain ⟨c0, c1, c2⟩ := S10.cfg
              have HN := Lib.hid S10.bel
              clear hr10 hb10 S10
              go_wp2_with fail
              go_ret
              exact ⟨by simp, HN.out⟩
      · have g3 : (0 : Int) < ((F.1 : Nat) : Int) := by omega
        have g6 : 0 < F.1 := by omega
        have hfc := fun w => field_code ((F.1 : Nat) : Int) F.2 w
        go_wp2
        go_ret
        exact ⟨rfl, H3.out.1⟩
end Go.Proofs.YtolbdcmoblcakaaGreatDoor.repairAll
/- The closed facts of the form that speak of the program alone: asked once for all rows of this seat. -/
namespace Go.Proofs.YtolbdcmoblcakaaGreatDoor
namespace Closed
theorem and_mk {a b : Bool} (ha : a = true) (hb : b = true) : (a && b) = true := by rw [ha, hb]; rfl
theorem laidOut : laidOutB Tryz.prog = true := by kernel_rfl
theorem mapsRowed : Go.mapsRowed Tryz.prog = true := by kernel_rfl
theorem stops : (Tryz.prog.stops == []) = true := by kernel_rfl
theorem stopKnobs : (Tryz.prog.stopKnobs == []) = true := by kernel_rfl
theorem plainKeys : (Rows.repairMendsRow.plainKeys == Tryz.prog.plainKeys) = true := by kernel_rfl
theorem stopsHeard : Tryz.prog.stopsHeard = true := by kernel_rfl
theorem mayEnter : Tryz.prog.mayEnter = true := by kernel_rfl
theorem lifted : (Rows.repairMendsRow.lifted == Tryz.prog.liftsFinal) = true := by kernel_rfl
theorem make : (Tryz.prog.make == some Rows.repairMendsRow.make) = true := by kernel_rfl
theorem pinned : (Rows.repairMendsRow.pinned == Rows.repairMendsRow.pinnedBy) = true := by kernel_rfl
end Closed
end Go.Proofs.YtolbdcmoblcakaaGreatDoor
