/- Walks of the document's Wide and Encode, of sameShards. -/
import Derived.Test.YtabboioamdphmaaGreatDoorSCarryHears11
import Derived.Test.YtabboioamdphmaaGreatDoorSCarryHears16
import Derived.Test.YtabboioamdphmaaGreatDoorSCarryHears14
import Derived.Lib.QuietBelow
import Derived.BigQuiet
import Derived.IntWalk
import Derived.Deep.CutRange
namespace Go.Proofs.YtabboioamdphmaaGreatDoor
open Go.RowKit

set_option maxHeartbeats 1000000 in
theorem rwide_walk (k size : Nat) (w : World) (hk : 1 ≤ k) (hk2 : k ≤ 1000) (hs : size ≤ 100000) :
    Calls Tryz.prog 89 #[.int .i64 k, .int .i64 size] w fun e w' => e = .returned (.int .i64 (wideN k size : Nat)) ∧ w' = w := by
  have hwf := wide_facts k size hk
  obtain ⟨W, hW⟩ : ∃ W, wideN k size = W := ⟨_, rfl⟩
  rw [hW] at hwf ⊢
  have hcm : k * W = W * k := Nat.mul_comm _ _
  rw [hcm] at hwf
  obtain ⟨Q, hQ⟩ : ∃ Q, W * k = Q := ⟨_, rfl⟩
  have HQ := Lib.hid hQ
  rw [hQ] at hwf
  have hWl : W ≤ Q := by rw [← hQ]; exact Nat.le_mul_of_pos_right _ hk
  clear hW hcm hQ
  go_enter Tryz.func89, Tryz.ntmps89
  go_wp2
  go_loop [5] (fun t => ∃ v : Nat, v ≤ W ∧ t = .int .i64 v) (fun t => W - (intOf t).toNat)
  case atStart => exact ⟨0, by omega, rfl⟩
  case round =>
    obtain ⟨v, hv, rfl⟩ := hrel
    obtain ⟨P, hP⟩ : ∃ P, v * k = P := ⟨_, rfl⟩
    have hPi : (v : Int) * (k : Int) = (P : Int) := by rw [← hP]; push_cast; rfl
    have hPQ : P ≤ Q := by rw [← hP, ← HQ.out]; exact Nat.mul_le_mul_right _ hv
    have hv2 : v < W ∨ v = W := by omega
    rcases hv2 with hlt | rfl
    · have h1 : P + k ≤ Q := by
        rw [← hP, ← HQ.out]
        have := Nat.mul_le_mul_right k (show v + 1 ≤ W by omega)
        rwa [Nat.add_mul, Nat.one_mul] at this
      have hlt2 : (P : Int) < size := by omega
      clear hP
      go_wp2
      go_round
      case rel => exact ⟨v + 1, by omega, by go_num⟩
      case measure => simp [intOf]; omega
    · have h1 : P = Q := by rw [← hP, HQ.out]
      have hlt2 : ¬ (P : Int) < size := by omega
      clear hP
      go_wp2
      go_ret
      exact ⟨rfl, rfl⟩

def encP (k : Nat) (s : ByteArray) (i c : Nat) : Nat → Nat := fun j => Mx.dot (Mx.spr k i) (fun l => sb s (l * wideN k s.size + c)) j
theorem encP_all (k : Nat) (s : ByteArray) (i c : Nat) : encP k s i c k = encF k s i c := rfl
theorem encP_lt (k : Nat) (s : ByteArray) (i c j : Nat) : encP k s i c j < 256 := Mx.dot_lt (Mx.by_spr k i) j
theorem encP_succ (k : Nat) (s : ByteArray) (i c j : Nat) : encP k s i c (j + 1) = encP k s i c j ^^^ Gf.mul (Mx.spr k i j) (sb s (j * wideN k s.size + c)) := rfl
set_option maxRecDepth 100000 in
set_option maxHeartbeats 8000000 in
theorem rencode_walk (n k : Nat) (s : ByteArray) (w : World) (hk : 1 ≤ k) (hkn : k ≤ n) (hn : n ≤ 12) (hs : s.size ≤ 1000) :
    Calls Tryz.prog 65 #[.int .i64 n, .int .i64 k, .string s] w fun e w' => (∃ v, e = .returned v ∧ OwnS w.heap.size w' v (encL n k s)) ∧ Below w.heap.size w w' := by
  have hwf := wide_facts k s.size hk
  have hwl := wide_le k s.size hk
  have hwd := rwide_walk k s.size w hk (by omega) (by omega)
  have hes := fun i c j => encP_succ k s i c j
  have hel := fun i c j => encP_lt k s i c j
  have hea := fun i c => encP_all k s i c
  have hez : ∀ i c, encP k s i c 0 = 0 := fun _ _ => rfl
  have hen : ∀ i, (⟨(rowText (encF k s i) (wideN k s.size)).toArray⟩ : ByteArray) = encT k s i := fun _ => rfl
  obtain ⟨W, hW⟩ : ∃ W, wideN k s.size = W := ⟨_, rfl⟩
  rw [hW] at hwf hwl hwd hes hen
  obtain ⟨f, hf⟩ : ∃ f, encP k s = f := ⟨_, rfl⟩
  rw [hf] at hes hel hea hez
  have Hf := Lib.hid (And.intro hes (And.intro hel (And.intro hea hen)))
  have hmk := fun (V : World) => run_make_row' (P := Tryz.prog) (w := V) 112 5 (.int .u8 0) 1 Tryz.underlying112 info_uint8 rfl .i64 .i64 W (by omega) (by omega)
  have Hmk := Lib.hid hmk
  have Hwd := Lib.hid hwd
  have Hwf := Lib.hid hwf
  have Hez := Lib.hid hez
  clear hmk hwd hwf hW hes hel hea hez hf hen
  go_enter Tryz.func65, Tryz.ntmps65
  go_wp2_with fail
  refine Hwd.out.mono ?_
  rintro e w' ⟨rfl, rfl⟩
  go_wp2_with fail
  refine (rspread_walk n k w' hk hkn hn).mono ?_
  rintro e w1 ⟨⟨vm, bs, caps, rfl, hm⟩, hb1⟩
  obtain ⟨g1, c1, hve, _, _, hV⟩ := hm.mat (by omega)
  rw [hve]
  have HM := Lib.hid (hV.read (by omega) (by omega))
  have H1 := Lib.hid hb1
  have hsw := hb1.size
  clear hve hV hm hb1
  go_wp2
  go_loopw [9, 10] (fun vo vi wr => ∃ i : Nat, i ≤ n ∧ vi = .int .i64 i ∧ Hid (OwnS w1.heap.size wr vo (encL i k s) ∧ Below w1.heap.size w1 wr)) (fun _ i _ => n - (intOf i).toNat)
  case atStart => exact ⟨0, by omega, rfl, Lib.hid ⟨OwnS.nil _ _, Below.refl _ _⟩⟩
  case round =>
    obtain ⟨i, hi, rfl, H⟩ := hrel
    have hi2 : i < n ∨ i = n := by omega
    rcases hi2 with hlt | rfl
    · have hlt2 : (i : Int) < n := by omega
      have hmk := Hmk.out wr
      obtain ⟨wo, rfl⟩ : ∃ wo : World, wo = wr := ⟨_, rfl⟩
      go_wp2
      have hsz := H.out.2.size
      have hrow := RowV.made wo W
      obtain ⟨W0, hW0⟩ : ∃ W0, (wo.alloc (.cells (madeCells #[.int .u8 0] W) 5)) = W0 := ⟨_, rfl⟩
      have hb0 : Below w1.heap.size w1 W0 := by rw [← hW0]; exact H.out.2.alloc hsz _
      have hm0 : OwnS w1.heap.size W0 u9 (encL i k s) := by rw [← hW0]; exact World.ownsRow.alloc H.out.1 _
      have hs0 : W0.heap.size = wo.heap.size + 1 := by rw [← hW0]; simp
      have ho0 : u9.ownBlock ≠ some wo.heap.size := fun e => by have := (H.out.1.lt _ e).2; omega
      rw [hW0] at hrow ⊢
      obtain ⟨g, hg⟩ : ∃ g, wo.heap.size = g := ⟨_, rfl⟩
      rw [hg] at hrow hs0 ho0 hsz ⊢
      have Hx := Lib.hid (And.intro hrow (And.intro hb0 (And.intro hm0 (And.intro hs0 ho0))))
      clear hrow hb0 hm0 hs0 ho0 hW0 hg hmk
      go_loopw [12] (fun vt wr => ∃ c : Nat, c ≤ W ∧ vt = .int .i64 c ∧ Hid (OnlyB g W0 wr ∧ RowV wr g W (firstK c (encF k s i) (fun _ => 0)))) (fun t _ => W - (intOf t).toNat)
      case atStart => exact ⟨0, by omega, rfl, Lib.hid ⟨OnlyB.refl _ _, Hx.out.1.congr fun j _ => by unfold firstK; rw [if_neg (by omega)]⟩⟩
      case round =>
        obtain ⟨c, hc, rfl, H2⟩ := hrel
        have hc2 : c < W ∨ c = W := by omega
        rcases hc2 with hcl | rfl
        · have hcl2 : (c : Int) < W := by omega
          obtain ⟨wm, rfl⟩ : ∃ wm : World, wm = wr := ⟨_, rfl⟩
          go_wp2
          go_loopw [13] (fun vt wr => ∃ j : Nat, j ≤ k ∧ vt = .int .i64 j ∧ Hid (OnlyB g W0 wr ∧ RowV wr g W (Mx.upd (firstK c (encF k s i) (fun _ => 0)) c (f i c j)))) (fun t _ => k - (intOf t).toNat)
          case atStart =>
            refine ⟨0, by omega, rfl, Lib.hid ⟨H2.out.1, H2.out.2.congr fun j _ => ?_⟩⟩
            unfold Mx.upd
            by_cases e : j = c
            · rw [if_pos e, e]
              unfold firstK
              rw [if_neg (by omega)]
              exact (Hez.out i c).symm
            · rw [if_neg e]
          case round =>
            obtain ⟨j, hj, rfl, H3⟩ := hrel
            have hj2 : j < k ∨ j = k := by omega
            rcases hj2 with hjl | rfl
            · have hjl2 : (j : Int) < k := by omega
              obtain ⟨P, hP⟩ : ∃ P, j * W = P := ⟨_, rfl⟩
              have hPi : (j : Int) * (W : Int) = (P : Int) := by rw [← hP]; push_cast; rfl
              obtain ⟨Q, hQ⟩ : ∃ Q, k * W = Q := ⟨_, rfl⟩
              have hQb := Hwf.out.2
              rw [hQ] at hQb
              have hPQ : P ≤ Q := by rw [← hP, ← hQ]; exact Nat.mul_le_mul_right _ (by omega)
              obtain ⟨q, hq⟩ : ∃ q, P + c = q := ⟨_, rfl⟩
              have hqi : (P : Int) + (c : Int) = (q : Int) := by omega
              have hnew := Hf.out.1 i c j
              rw [hP, hq] at hnew
              have hd := Hf.out.2.1 i c j
              obtain ⟨d, hde⟩ : ∃ d, f i c j = d := ⟨_, rfl⟩
              rw [hde] at hnew hd
              have Hde := Lib.hid hde
              by_cases hqs : q < s.size
              · have hqs2 : (q : Int) < s.size := by omega
                have hA := (HM.out.below Hx.out.2.1)
                have hh := hA.head i hlt
                rw [Nat.zero_add] at hh
                have hh2 : wr.cell? ⟨g1, i, none⟩ = some (.slice (some ⟨bs i, 0, none⟩) k (caps i)) := (H3.out.1.cell (p := ⟨g1, i, none⟩) (by have := hA.lo; show g1 ≠ g; omega)).trans hh
                have hx2 := hA.cell i hlt j hjl
                rw [Nat.zero_add] at hx2
                have hcA : wr.cell? ⟨bs i, j, none⟩ = some (.int .u8 (Mx.spr k i j : Nat)) := (H3.out.1.cell (p := ⟨bs i, j, none⟩) (by have := hA.plo i hlt; show bs i ≠ g; omega)).trans hx2
                have hx := Mx.by_spr k i j
                obtain ⟨x, hxe⟩ : ∃ x, Mx.spr k i j = x := ⟨_, rfl⟩
                rw [hxe] at hcA hx hnew
                have hcD : wr.cell? ⟨g, c, none⟩ = some (.int .u8 (d : Nat)) := by
                  have := H3.out.2.cell c hcl
                  unfold Mx.upd at this
                  rw [if_pos rfl, Hde.out] at this; exact this
                have hfr := H3.out.2.free c hcl
                have hsb := sb_get s q hqs
                rw [hsb] at hnew
                have hy : (s[q]'hqs).toNat < 256 := (s[q]'hqs).toNat_lt
                have hml := Gf.mul_lt (s[q]'hqs).toNat hx
                have hz3 : bits .xor .u8 (d : Int) ((Gf.mul x (s[q]'hqs).toNat : Nat) : Int) = ((d ^^^ Gf.mul x (s[q]'hqs).toNat : Nat) : Int) := u8_xor_nat _ _ hd hml
                have hmq := fun V => rmul_q x (s[q]'hqs).toNat V hx hy
                obtain ⟨r, hre⟩ : ∃ r, Gf.mul x (s[q]'hqs).toNat = r := ⟨_, rfl⟩
                rw [hre] at hz3 hmq hml hnew
                have Hz3 := Lib.hid hz3
                have Hnew := Lib.hid hnew
                have Hmq := Lib.hid hmq
                clear hz3 hnew hmq hsb hre hh hx2 hxe hA hP hQ hq hde
                go_wp2
                have hw1 : IntKind.i64.wrap (P : Int) = (P : Int) := IntWalk.i64_in _ (by omega)
                have hw3 : IntKind.i64.wrap (q : Int) = (q : Int) := IntWalk.i64_in _ (by omega)
                refine wp_region_still_tail 23 (by kernel_rfl) (by kernel_rfl) ?_
                simp only [List.take_succ_cons, List.take_zero, List.drop_succ_cons, List.drop_zero]
                repeat still_step
                still_call (Hmq.out _)
                repeat still_step
                refine wpStill_nil ?_
                change wpList _ _ _ _ _ wr.drew
                go_wp2
                go_roundw
                case rel =>
                  refine ⟨j + 1, by omega, by go_num, Lib.hid ⟨(H3.out.1.trans (OnlyB.setCell _ _ _ _)).trans (OnlyB.drewN _ _ 1), RowV.drewN 1 ?_⟩⟩
                  rw [Hz3.out]
                  refine (H3.out.2.set (x := d ^^^ r) hcl).congr fun j' hj' => ?_
                  unfold Mx.upd
                  by_cases e : j' = c
                  · rw [if_pos e, if_pos e]; exact Hnew.out.symm
                  · rw [if_neg e, if_neg e, if_neg e]
                case measure => simp [intOf]; omega
              · have hqs2 : ¬ (q : Int) < s.size := by omega
                rw [sb_out s q (by omega), Gf.mul_zero, Nat.xor_zero] at hnew
                have Hnew := Lib.hid hnew
                clear hnew hP hQ hq hde
                go_wp2
                go_roundw
                case rel => exact ⟨j + 1, by omega, by go_num, Lib.hid ⟨H3.out.1, by rw [Hnew.out, ← Hde.out]; exact H3.out.2⟩⟩
                case measure => simp [intOf]; omega
            · go_wp2
              go_roundw
              case rel =>
                refine ⟨c + 1, by omega, by go_num, Lib.hid ⟨H3.out.1, H3.out.2.congr fun j' hj' => ?_⟩⟩
                unfold Mx.upd
                by_cases e : j' = c
                · rw [if_pos e, e, Hf.out.2.2.1]
                  unfold firstK
                  rw [if_pos (by omega)]
                · rw [if_neg e]
                  unfold firstK
                  by_cases e2 : j' < c
                  · rw [if_pos e2, if_pos (by omega)]
                  · rw [if_neg e2, if_neg (by omega)]
              case measure => simp [intOf]; omega
        · obtain ⟨_, hb0, hm0, hs0, ho0⟩ := Hx.out
          have hm1 : OwnS w1.heap.size wr u9 (encL i k s) :=
            hm0.kept (row := some g) ⟨H2.out.1.os, H2.out.1.tape, H2.out.1.output, Nat.le_of_eq H2.out.1.size.symm, fun q _ hq => H2.out.1.block q (fun e => hq (by rw [e]))⟩ (by
              cases e : u9.ownBlock with
              | none => exact .inl rfl
              | some q => exact .inr (fun e2 => ho0 (by rw [e, ← e2])))
          have hb1 := hb0.trans (H2.out.1.below hsz)
          have hown := Lib.hid hm1
          have hul : (encL i k s).length ≤ 1000000 := by rw [encL_length]; omega
          have hsz1 := hb1.size
          have hcv := conv_row wr g 0 c c (encF k s i) (encF_lt k s i) (fun c' hc' => by
            rw [Nat.zero_add, H2.out.2.cell c' hc']
            unfold firstK
            rw [if_pos hc'])
          rw [Hf.out.2.2.2 i] at hcv
          obtain ⟨pt, hpte⟩ : ∃ pt, encT k s i = pt := ⟨_, rfl⟩
          rw [hpte] at hcv
          have Hpte := Lib.hid hpte
          have Hy := Lib.hid (And.intro hm1 hb1)
          clear hb0 hm0 hs0 ho0 hm1 hb1 hpte
          go_wp2_with (at_builtin; refine append_shard 69 74 rfl rfl w1.heap.size _ _ (i : Int) pt rfl rfl hown.out hul hsz1 ?_)
          intro v' w' k1 k2 k3
          obtain ⟨hm1, hb1⟩ := Hy.out
          have hb2 : Below w1.heap.size w1 w' := (hb1.alloc hsz1 _).grown k2 (by simp; omega) (fun j e => (hm1.lt j e).1)
          have hm3 : OwnS w1.heap.size w' v' (encL (i + 1) k s) := by
            have e : encL (i + 1) k s = encL i k s ++ [((i : Int), pt)] := by
              unfold encL
              rw [List.range_succ, List.map_append, List.map_cons, List.map_nil, Hpte.out]
            rw [e]; exact k1
          have HR := Lib.hid (And.intro hm3 hb2)
          clear hm1 hb1 hb2 hm3 k1 k2 k3 Hy hown hcv
          go_wp2
          go_roundw
          case rel => exact ⟨i + 1, by omega, by go_num, HR⟩
          case measure => simp [intOf]; omega
    · go_wp2
      go_ret
      exact ⟨⟨_, rfl, H.out.1.lower hsw⟩, H1.out.trans (H.out.2.mono hsw)⟩

end Go.Proofs.YtabboioamdphmaaGreatDoor
/- The walks of quorum.can, the document's canBe. -/
namespace Go.Proofs.YtabboioamdphmaaGreatDoor
section
open Go.RowKit Go.BigFrame

theorem canB_no1 {n k : Nat} {x : Ver} (h : tagB x.1 x.2.1 = false) : canB n k x = false := by unfold canB; rw [h]; rfl
theorem canB_no2 {n k : Nat} {x : Ver} (h : ¬ (0 ≤ x.2.2.1 ∧ x.2.2.1 ≤ 1000 ∧ 0 ≤ x.2.2.2.1 ∧ x.2.2.2.1 < n ∧ x.2.2.2.2.size = wideN k x.2.2.1.toNat)) : canB n k x = false := by unfold canB; rw [decide_eq_false h, Bool.and_false]
theorem canB_yes {n k : Nat} {x : Ver} (h1 : tagB x.1 x.2.1 = true) (h : 0 ≤ x.2.2.1 ∧ x.2.2.1 ≤ 1000 ∧ 0 ≤ x.2.2.2.1 ∧ x.2.2.2.1 < n ∧ x.2.2.2.2.size = wideN k x.2.2.1.toNat) : canB n k x = true := by unfold canB; rw [h1, decide_eq_true h]; rfl
theorem int_beq (a b : Nat) : ((a : Int) == (b : Int)) = decide (a = b) := by
  rw [Bool.eq_iff_iff, beq_iff_eq, decide_eq_true_iff]
  omega
theorem can_cases (n k : Nat) (x1 x2 x3 x4 : Int) (x5 : ByteArray) :
    (tagB x1 x2 = false ∧ canB n k (x1, x2, x3, x4, x5) = false) ∨ (tagB x1 x2 = true ∧ ¬ 0 ≤ x3 ∧ canB n k (x1, x2, x3, x4, x5) = false) ∨ (tagB x1 x2 = true ∧ 0 ≤ x3 ∧ ¬ x3 ≤ 1000 ∧ canB n k (x1, x2, x3, x4, x5) = false) ∨
    (tagB x1 x2 = true ∧ 0 ≤ x3 ∧ x3 ≤ 1000 ∧ ¬ 0 ≤ x4 ∧ canB n k (x1, x2, x3, x4, x5) = false) ∨ (tagB x1 x2 = true ∧ 0 ≤ x3 ∧ x3 ≤ 1000 ∧ 0 ≤ x4 ∧ ¬ x4 < n ∧ canB n k (x1, x2, x3, x4, x5) = false) ∨
    (tagB x1 x2 = true ∧ 0 ≤ x3 ∧ x3 ≤ 1000 ∧ 0 ≤ x4 ∧ x4 < n ∧ canB n k (x1, x2, x3, x4, x5) = decide (x5.size = wideN k x3.toNat)) := by
  cases ht : tagB x1 x2 with
  | false => exact .inl ⟨rfl, canB_no1 ht⟩
  | true =>
    by_cases h1 : 0 ≤ x3
    · by_cases h2 : x3 ≤ 1000
      · by_cases h3 : 0 ≤ x4
        · by_cases h4 : x4 < n
          · refine .inr (.inr (.inr (.inr (.inr ⟨rfl, h1, h2, h3, h4, ?_⟩))))
            by_cases h5 : x5.size = wideN k x3.toNat
            · rw [decide_eq_true h5]; exact canB_yes ht ⟨h1, h2, h3, h4, h5⟩
            · rw [decide_eq_false h5]; exact canB_no2 (fun h => h5 h.2.2.2.2)
          · exact .inr (.inr (.inr (.inr (.inl ⟨rfl, h1, h2, h3, h4, canB_no2 (fun h => h4 h.2.2.2.1)⟩))))
        · exact .inr (.inr (.inr (.inl ⟨rfl, h1, h2, h3, canB_no2 (fun h => h3 h.2.2.1)⟩)))
      · exact .inr (.inr (.inl ⟨rfl, h1, h2, canB_no2 (fun h => h2 h.2.1)⟩))
    · exact .inr (.inl ⟨rfl, h1, canB_no2 (fun h => h1 h.1)⟩)
set_option maxRecDepth 100000 in
set_option maxHeartbeats 8000000 in
theorem can_walk (n k : Nat) (a : Option Addr) (len cap : Nat) (x1 x2 x3 x4 : Int) (x5 : ByteArray) (w : World) (hk : 1 ≤ k) (hkn : k ≤ n) (hn : n ≤ 12) :
    Calls Tryz.prog 93 #[.agg #[.int .i64 n, .int .i64 k, .slice a len cap], .agg #[.int .i64 x1, .int .i64 x2, .int .i64 x3, .int .i64 x4, .string x5]] w fun e w' => e = .returned (.bool (canB n k (x1, x2, x3, x4, x5))) ∧ Below w.heap.size w w' := by
  obtain ⟨W1, hW1⟩ : ∃ W1, w.alloc (.cells #[.int .i64 n, .int .i64 k, .slice a len cap] 24) = W1 := ⟨_, rfl⟩
  obtain ⟨W2, hW2⟩ : ∃ W2, W1.alloc (.cells #[.int .i64 x1, .int .i64 x2, .int .i64 x3, .int .i64 x4, .string x5] 76) = W2 := ⟨_, rfl⟩
  obtain ⟨B, hB⟩ : ∃ B, w.heap.size = B := ⟨_, rfl⟩
  have hs1 : W1.heap.size = B + 1 := by rw [← hW1, ← hB]; simp
  have hb2 : Below w.heap.size w W2 := by rw [← hW2, ← hW1]; exact ((Below.refl _ _).alloc (Nat.le_refl _) _).alloc (by simp) _
  have g1 : W2.heap[B]? = some (.cells #[.int .i64 n, .int .i64 k, .slice a len cap] 24 (0, 0)) := by
    rw [← hW2, Below.heap_alloc _ _ _ (by omega), ← hW1, ← hB]; exact heap_alloc_new _ _
  have g2 : W2.heap[B + 1]? = some (.cells #[.int .i64 x1, .int .i64 x2, .int .i64 x3, .int .i64 x4, .string x5] 76 (0, 0)) := by
    rw [← hW2, ← hs1]; exact heap_alloc_new _ _
  have k0 := cell_regrown ((cell_of_heap g1 0).trans rfl)
  have k1 := cell_regrown ((cell_of_heap g1 1).trans rfl)
  have l0 := cell_regrown ((cell_of_heap g2 0).trans rfl)
  have l1 := cell_regrown ((cell_of_heap g2 1).trans rfl)
  have l2 := cell_regrown ((cell_of_heap g2 2).trans rfl)
  have l3 := cell_regrown ((cell_of_heap g2 3).trans rfl)
  have l4 := cell_regrown ((cell_of_heap g2 4).trans rfl)
  have Ct := fun d os => Calls.regrown_of (tagb_walk x1 x2 (Go.Sort.grow (redrawn W2 d) os))
  have HW := Lib.hid (And.intro hW1 (And.intro hW2 (And.intro hB (And.intro hs1 hb2))))
  have hcc := can_cases n k x1 x2 x3 x4 x5
  clear hW1 hW2 hB hs1 hb2 g1 g2
  obtain ⟨tb, htb⟩ : ∃ tb, tagB x1 x2 = tb := ⟨_, rfl⟩
  obtain ⟨cb, hcb⟩ : ∃ cb, canB n k (x1, x2, x3, x4, x5) = cb := ⟨_, rfl⟩
  rw [htb] at Ct hcc
  rw [hcb] at hcc ⊢
  clear htb hcb
  have fin : ∀ w' : World, (∃ p : Regrown, w' = Go.Sort.grow (redrawn W2 p.d) p.os) → Below w.heap.size w w' := fun w' ⟨p, hp⟩ => HW.out.2.2.2.2.trans (by rw [hp]; exact (below_regrown W2 p.d p.os).mono HW.out.2.2.2.2.size)
  have Hfin := Lib.hid fin
  clear fin
  rcases hcc with ⟨rfl, rfl⟩ | ⟨rfl, h1, rfl⟩ | ⟨rfl, h1, h2, rfl⟩ | ⟨rfl, h1, h2, h3, rfl⟩ | ⟨rfl, h1, h2, h3, h4, rfl⟩ | ⟨rfl, h1, h2, h3, h4, rfl⟩
  · go_enter Tryz.func93, Tryz.ntmps93
    go_wp2
    rw [HW.out.1, HW.out.2.2.1, HW.out.2.1]
    refine wp_region_quiet_below (by kernel_rfl) (by kernel_rfl) ?_
    repeat (go_big_quiet_step (first | (with_reducible exact Ct _ _)))
    refine wpQuiet_nil ?_
    intro w5 hw'
    have HB := Lib.hid (Hfin.out w5 hw')
    clear hw'
    go_wp2
    go_ret
    exact ⟨rfl, HB.out⟩
  · have d1 : decide (0 ≤ x3) = false := decide_eq_false h1
    go_enter Tryz.func93, Tryz.ntmps93
    go_wp2
    rw [HW.out.1, HW.out.2.2.1, HW.out.2.1]
    refine wp_region_quiet_below (by kernel_rfl) (by kernel_rfl) ?_
    repeat (go_big_quiet_step (first | (with_reducible exact Ct _ _)))
    refine wpQuiet_nil ?_
    intro w5 hw'
    have HB := Lib.hid (Hfin.out w5 hw')
    clear hw'
    go_wp2
    go_ret
    exact ⟨rfl, HB.out⟩
  · have d1 : decide (0 ≤ x3) = true := decide_eq_true h1
    have d2 : decide (x3 ≤ 1000) = false := decide_eq_false h2
    go_enter Tryz.func93, Tryz.ntmps93
    go_wp2
    rw [HW.out.1, HW.out.2.2.1, HW.out.2.1]
    refine wp_region_quiet_below (by kernel_rfl) (by kernel_rfl) ?_
    repeat (go_big_quiet_step (first | (with_reducible exact Ct _ _)))
    refine wpQuiet_nil ?_
    intro w5 hw'
    have HB := Lib.hid (Hfin.out w5 hw')
    clear hw'
    go_wp2
    go_ret
    exact ⟨rfl, HB.out⟩
  · have d1 : decide (0 ≤ x3) = true := decide_eq_true h1
    have d2 : decide (x3 ≤ 1000) = true := decide_eq_true h2
    have d3 : decide (0 ≤ x4) = false := decide_eq_false h3
    go_enter Tryz.func93, Tryz.ntmps93
    go_wp2
    rw [HW.out.1, HW.out.2.2.1, HW.out.2.1]
    refine wp_region_quiet_below (by kernel_rfl) (by kernel_rfl) ?_
    repeat (go_big_quiet_step (first | (with_reducible exact Ct _ _)))
    refine wpQuiet_nil ?_
    intro w5 hw'
    have HB := Lib.hid (Hfin.out w5 hw')
    clear hw'
    go_wp2
    go_ret
    exact ⟨rfl, HB.out⟩
  · have d1 : decide (0 ≤ x3) = true := decide_eq_true h1
    have d2 : decide (x3 ≤ 1000) = true := decide_eq_true h2
    have d3 : decide (0 ≤ x4) = true := decide_eq_true h3
    have d4 : decide (x4 < (n : Int)) = false := decide_eq_false h4
    go_enter Tryz.func93, Tryz.ntmps93
    go_wp2
    rw [HW.out.1, HW.out.2.2.1, HW.out.2.1]
    refine wp_region_quiet_below (by kernel_rfl) (by kernel_rfl) ?_
    repeat (go_big_quiet_step (first | (with_reducible exact Ct _ _)))
    refine wpQuiet_nil ?_
    intro w5 hw'
    have HB := Lib.hid (Hfin.out w5 hw')
    clear hw'
    go_wp2
    go_ret
    exact ⟨rfl, HB.out⟩
  · obtain ⟨s, rfl⟩ := Int.eq_ofNat_of_zero_le h1
    have d1 : decide (0 ≤ (s : Int)) = true := decide_eq_true h1
    have d2 : decide ((s : Int) ≤ 1000) = true := decide_eq_true h2
    have d3 : decide (0 ≤ x4) = true := decide_eq_true h3
    have d4 : decide (x4 < (n : Int)) = true := decide_eq_true h4
    have e1 : IntKind.i64.wrap ((s : Int) + (k : Int)) = (s : Int) + k := IntWalk.i64_in _ (by omega)
    have e2 : IntKind.i64.wrap ((s : Int) + (k : Int) - 1) = (s : Int) + k - 1 := IntWalk.i64_in _ (by omega)
    obtain ⟨W, hW⟩ : ∃ W, wideN k s = W := ⟨_, rfl⟩
    have e3 : ((s : Int) + (k : Int) - 1).tdiv (k : Int) = (W : Int) := by
      rw [← hW]
      unfold wideN
      rw [Int.tdiv_eq_ediv_of_nonneg (by omega)]
      have : ((s + k - 1 : Nat) : Int) = (s : Int) + k - 1 := by omega
      rw [Int.natCast_ediv, this]
    have hWl : W ≤ 100000 := by
      rw [← hW]; unfold wideN
      exact Nat.le_trans (Nat.div_le_self _ _) (by omega)
    have e4 : IntKind.i64.wrap (W : Int) = W := IntWalk.i64_in _ (by omega)
    have hk0 : ((k : Int) == 0) = false := by simp; omega
    have hk00 : ¬ (k : Int) = 0 := by omega
    show Calls _ _ _ _ fun e w' => e = .returned (.bool (decide (x5.size = wideN k (Int.toNat (s : Int))))) ∧ Below w.heap.size w w'
    rw [show Int.toNat (s : Int) = s from rfl, hW]
    clear hW h1 h2 h3 h4
    by_cases h5 : x5.size = W
    · rw [decide_eq_true h5]
      have d5 : ((x5.size : Int) == (W : Int)) = true := by simp [h5]
      have d6 : (x5.size == W) = true := by simp [h5]
      have d7 : decide (x5.size = W) = true := decide_eq_true h5
      clear h5
      go_enter Tryz.func93, Tryz.ntmps93
      go_wp2
      rw [HW.out.1, HW.out.2.2.1, HW.out.2.1]
      refine wp_region_quiet_below (by kernel_rfl) (by kernel_rfl) ?_
      repeat (go_big_quiet_step (first | (with_reducible exact Ct _ _)))
      refine wpQuiet_nil ?_
      intro w5 hw'
      have HB := Lib.hid (Hfin.out w5 hw')
      clear hw'
      go_wp2
      go_ret
      exact ⟨rfl, HB.out⟩
    · rw [decide_eq_false h5]
      have d5 : ((x5.size : Int) == (W : Int)) = false := by simp; omega
      have d6 : (x5.size == W) = false := by simpa using h5
      have d7 : decide (x5.size = W) = false := decide_eq_false h5
      go_enter Tryz.func93, Tryz.ntmps93
      go_wp2
      rw [HW.out.1, HW.out.2.2.1, HW.out.2.1]
      refine wp_region_quiet_below (by kernel_rfl) (by kernel_rfl) ?_
      repeat (go_big_quiet_step (first | (with_reducible exact Ct _ _)))
      refine wpQuiet_nil ?_
      intro w5 hw'
      have HB := Lib.hid (Hfin.out w5 hw')
      clear hw'
      go_wp2
      go_ret
      exact ⟨rfl, HB.out⟩
set_option maxRecDepth 100000 in
set_option maxHeartbeats 8000000 in
theorem canbe_walk (n k : Nat) (a : Option Addr) (len cap : Nat) (x1 x2 x3 x4 : Int) (x5 : ByteArray) (w : World) (hk : 1 ≤ k) (hkn : k ≤ n) (hn : n ≤ 12) :
    Calls Tryz.prog 106 #[.agg #[.int .i64 n, .int .i64 k, .slice a len cap], .agg #[.int .i64 x1, .int .i64 x2, .int .i64 x3, .int .i64 x4, .string x5]] w fun e w' => e = .returned (.bool (canB n k (x1, x2, x3, x4, x5))) ∧ Below w.heap.size w w' := by
  obtain ⟨W1, hW1⟩ : ∃ W1, w.alloc (.cells #[.int .i64 n, .int .i64 k, .slice a len cap] 24) = W1 := ⟨_, rfl⟩
  obtain ⟨W2, hW2⟩ : ∃ W2, W1.alloc (.cells #[.int .i64 x1, .int .i64 x2, .int .i64 x3, .int .i64 x4, .string x5] 76) = W2 := ⟨_, rfl⟩
  obtain ⟨B, hB⟩ : ∃ B, w.heap.size = B := ⟨_, rfl⟩
  have hs1 : W1.heap.size = B + 1 := by rw [← hW1, ← hB]; simp
  have hb2 : Below w.heap.size w W2 := by rw [← hW2, ← hW1]; exact ((Below.refl _ _).alloc (Nat.le_refl _) _).alloc (by simp) _
  have g1 : W2.heap[B]? = some (.cells #[.int .i64 n, .int .i64 k, .slice a len cap] 24 (0, 0)) := by
    rw [← hW2, Below.heap_alloc _ _ _ (by omega), ← hW1, ← hB]; exact heap_alloc_new _ _
  have g2 : W2.heap[B + 1]? = some (.cells #[.int .i64 x1, .int .i64 x2, .int .i64 x3, .int .i64 x4, .string x5] 76 (0, 0)) := by
    rw [← hW2, ← hs1]; exact heap_alloc_new _ _
  have HW := Lib.hid (And.intro hW1 (And.intro hW2 (And.intro hB (And.intro hs1 (And.intro hb2 (And.intro g1 g2))))))
  have hcc := can_cases n k x1 x2 x3 x4 x5
  have Ht := Lib.hid (rtag_walk x1 x2 W2)
  obtain ⟨tb, htb⟩ : ∃ tb, tagB x1 x2 = tb := ⟨_, rfl⟩
  obtain ⟨cb, hcb⟩ : ∃ cb, canB n k (x1, x2, x3, x4, x5) = cb := ⟨_, rfl⟩
  rw [htb] at Ht hcc
  rw [hcb] at hcc ⊢
  have l0 := (cell_of_heap g2 0).trans rfl
  have l1 := (cell_of_heap g2 1).trans rfl
  clear htb hcb hW1 hW2 hB hs1 hb2 g1 g2
  go_enter Tryz.func106, Tryz.ntmps106
  go_upto_region 1 with fail
  rw [HW.out.1, HW.out.2.2.1, HW.out.2.1]
  go_wp2_with fail
  refine Ht.out.mono ?_
  rintro e w3 ⟨rfl, hb3⟩
  have HB3 := Lib.hid (HW.out.2.2.2.2.1.trans (hb3.mono HW.out.2.2.2.2.1.size))
  have g1 := (hb3.block B (Array.getElem?_eq_some_iff.1 HW.out.2.2.2.2.2.1).1).trans HW.out.2.2.2.2.2.1
  have g2 := (hb3.block (B + 1) (Array.getElem?_eq_some_iff.1 HW.out.2.2.2.2.2.2).1).trans HW.out.2.2.2.2.2.2
  have k0 := (cell_of_heap g1 0).trans rfl
  have m2 := (cell_of_heap g2 2).trans rfl
  have m3 := (cell_of_heap g2 3).trans rfl
  have HG := Lib.hid (And.intro g1 g2)
  clear g1 g2 hb3 l0 l1
  rcases hcc with ⟨rfl, rfl⟩ | ⟨rfl, h1, rfl⟩ | ⟨rfl, h1, h2, rfl⟩ | ⟨rfl, h1, h2, h3, rfl⟩ | ⟨rfl, h1, h2, h3, h4, rfl⟩ | ⟨rfl, h1, h2, h3, h4, hce⟩
  · go_wp2
    go_ret
    exact ⟨rfl, HB3.out⟩
  · have h1' : x3 < 0 := by omega
    go_wp2
    go_ret
    exact ⟨rfl, HB3.out⟩
  · have h1' : ¬ x3 < 0 := by omega
    have h2' : 1000 < x3 := by omega
    go_wp2
    go_ret
    exact ⟨rfl, HB3.out⟩
  · have h1' : ¬ x3 < 0 := by omega
    have h2' : ¬ 1000 < x3 := by omega
    have h3' : x4 < 0 := by omega
    go_wp2
    go_ret
    exact ⟨rfl, HB3.out⟩
  · have h1' : ¬ x3 < 0 := by omega
    have h2' : ¬ 1000 < x3 := by omega
    have h3' : ¬ x4 < 0 := by omega
    have h4' : (n : Int) ≤ x4 := by omega
    go_wp2
    go_ret
    exact ⟨rfl, HB3.out⟩
  · obtain ⟨s, rfl⟩ := Int.eq_ofNat_of_zero_le h1
    have h1' : ¬ (s : Int) < 0 := by omega
    have h2' : ¬ 1000 < (s : Int) := by omega
    have h3' : ¬ x4 < 0 := by omega
    have h4' : ¬ (n : Int) ≤ x4 := by omega
    rw [show Int.toNat (s : Int) = s from rfl] at hce
    have Cw := fun d os => Calls.regrown_of ((rwide_walk k s (Go.Sort.grow (redrawn w3 d) os) hk (by omega) (by omega)).mono fun e w' h => (⟨h.1, h.2 ▸ Below.refl _ _⟩ : e = _ ∧ Below (Go.Sort.grow (redrawn w3 d) os).heap.size (Go.Sort.grow (redrawn w3 d) os) w'))
    obtain ⟨W, hW⟩ : ∃ W, wideN k s = W := ⟨_, rfl⟩
    rw [hW] at Cw hce
    have Hce := Lib.hid hce
    clear hce
    have p1 := cell_regrown ((cell_of_heap HG.out.1 1).trans rfl)
    have p2 := cell_regrown ((cell_of_heap HG.out.2 2).trans rfl)
    have p4 := cell_regrown ((cell_of_heap HG.out.2 4).trans rfl)
    clear hW h1 h2 h3 h4
    go_wp2
    refine wp_region_quiet_below (by kernel_rfl) (by kernel_rfl) ?_
    repeat (go_big_quiet_step (first | (with_reducible exact Cw _ _)))
    refine wpQuiet_nil ?_
    intro w5 hw'
    obtain ⟨⟨dq, osq⟩, hw5⟩ := hw'
    have HB := Lib.hid (HB3.out.trans (show Below w.heap.size w3 w5 by rw [hw5]; exact (below_regrown w3 dq osq).mono HB3.out.size))
    clear hw5 Cw p1 p2 p4
    go_wp2
    go_ret
    exact ⟨by rw [Hce.out, ← int_beq]; simp, HB.out⟩
end
end Go.Proofs.YtabboioamdphmaaGreatDoor
