/- The walk of the law ServeHears. -/
import Derived.Test.YtpjbecmedidfgaaGreatDoorSvV
import Derived.Test.YtpjbecmedidfgaaGreatDoorHpC
import Derived.Test.YtpjbecmedidfgaaGreatDoorEnv
import Derived.Test.YtpjbecmedidfgaaGreatDoorFl2
namespace Go.Proofs.YtpjbecmedidfgaaGreatDoor.serveHears
open Go.Proofs.YtpjbecmedidfgaaGreatDoor
open Go.RowKit Go.Maps Go.BigFrame

theorem toList_le (o : Option Msg) : o.toList.length ≤ 1 := by cases o <;> simp
set_option maxRecDepth 100000 in
set_option maxHeartbeats 16000000 in
theorem walk_in (w : World) (E : Nat → Addr) (hE : ErrEnv w E) (name : ByteArray) (hnm : name.size ≤ maxLen) (a : Option Addr) (len cap : Nat) (l : List Msg) (hA : MsgsIn w a len cap l) (hr : ∀ i, i < len → (l[i]?.getD msg0).L.length * 48 ≤ reachBytes) (c : Int) (hc : Int64 c) :
    Calls Tryz.prog 3 #[.string name, .slice a len cap, .int .i64 c] w fun e w' => e = .returned (.bool true) ∧ Below w.heap.size w w' := by
  have hm9 : len ≤ 9223372036854775807 := by have h9 := hA.2.2.1; have h8 := hA.2.1; unfold maxLen at h9; omega
  have HM := Lib.hid (And.intro hE (And.intro hA (And.intro hr (And.intro hc hnm))))
  clear hE hA hr hc hnm
  go_enter Tryz.func3, Tryz.ntmps3
  go_wp2_with fail
  refine (answers_walk w E HM.out.1.s).mono ?_
  rintro e w2 ⟨rfl, hb2⟩
  have H2 := Lib.hid hb2
  clear hb2
  have hns : 100 < name.size ∨ ¬ 100 < name.size := by omega
  rcases hns with hns | hns
  · have hni : (100 : Int) < name.size := by omega
    go_wp2
    go_ret
    exact ⟨rfl, H2.out⟩
  · have hni : ¬ (100 : Int) < name.size := by omega
    go_wp2_with fail
    refine (mfit_walk w2 a len cap l ?_).mono ?_
    · obtain ⟨h1, h2, h3, h4, h5, h6⟩ := HM.out.2.1
      exact ⟨h1, h2, h3, h4, (h5.below H2.out).mono H2.out.size, h6⟩
    rintro e w3 ⟨⟨r, rfl⟩, hb3⟩
    have H3 := Lib.hid (H2.out.trans (hb3.mono H2.out.size))
    clear hb3
    cases r with
    | false =>
      go_wp2
      go_ret
      exact ⟨rfl, H3.out⟩
    | true =>
      obtain ⟨nb, hnb⟩ : ∃ nb, nameB name = nb := ⟨_, rfl⟩
      cases nb with
      | false =>
        have Hn := Lib.hid (snew_bad w3 name E (HM.out.1.below H3.out (Nat.le_refl _)).c3 hnb HM.out.2.2.2.2)
        have Hnb := Lib.hid hnb
        clear hnb
        go_wp2_with fail
        refine Hn.out.mono ?_
        rintro e w4 ⟨hb4, rfl⟩
        have H4 := Lib.hid (H3.out.trans (hb4.mono H3.out.size))
        clear hb4
        go_wp2_with fail
        refine (rname_walk name w4 HM.out.2.2.2.2).mono ?_
        rintro e w5 ⟨rfl, hw5⟩
        rw [← hw5, Hnb.out]
        clear hw5
        go_wp2_with fail
        refine (coded2_err E 3 (by omega) 4 w4 (HM.out.1.below H4.out (Nat.le_refl _))).mono ?_
        rintro e w6 ⟨rfl, hb6⟩
        have H6 := Lib.hid (H4.out.trans (hb6.mono H4.out.size))
        clear hb6
        go_wp2
        go_ret
        exact ⟨rfl, H6.out⟩
      | true =>
        have Hn := Lib.hid (snew_walk w3 name hnb HM.out.2.2.2.2)
        have Hnb := Lib.hid hnb
        clear hnb
        go_wp2_with fail
        refine Hn.out.mono ?_
        rintro e w4 ⟨hb4, mp, rfl, hm4⟩
        have H4 := Lib.hid (And.intro (H3.out.trans (hb4.mono H3.out.size)) (And.intro hm4 hb4))
        clear hb4 hm4
        go_wp2_with fail
        refine (rname_walk name w4 HM.out.2.2.2.2).mono ?_
        rintro e w5 ⟨rfl, hw5⟩
        rw [← hw5, Hnb.out]
        clear hw5
        obtain ⟨W5, hW5⟩ : ∃ W5, w4.alloc (.cells #[.string name, .slice none 0 0, .bool false] 35) = W5 := ⟨_, rfl⟩
        obtain ⟨mo, hmo⟩ : ∃ mo, w4.heap.size = mo := ⟨_, rfl⟩
        have hb5 : Below w4.heap.size w4 W5 := by rw [← hW5]; exact (Below.refl _ _).alloc (Nat.le_refl _) _
        have hR : RMemAt (fun b => w4.heap.size ≤ b) W5 mo name [] (fun _ => newK 0) := by rw [← hW5, ← hmo]; exact RMemAt.fresh
        have hB5 : Both w W5 mp mo name := by
          have hM5 := H4.out.2.1.past hb5
          refine ⟨_, _, [], _, [], _, hM5, hR, ⟨fun b h => Nat.le_trans H3.out.size h.1.1, fun b h => Nat.le_trans H4.out.1.size h, fun b hl h1 h2 => ?_, fun h9 => ?_, H4.out.1.trans (hb5.mono H4.out.1.size)⟩, rfl, fun c hc => (by cases hc)⟩
          · rcases h1.2 with h9 | h9
            · omega
            · omega
          · have := H4.out.2.1.lt; omega
        have HW5 := Lib.hid (And.intro hW5 hmo)
        have HB5 := Lib.hid hB5
        clear hW5 hmo hb5 hR hB5
        go_wp2_with fail
        rw [HW5.out.1, HW5.out.2]
        go_loopw [11] (fun vi wr => ∃ (i : Nat), i ≤ len ∧ vi = .int .i64 i ∧ Hid (Both w wr mp mo name)) (fun vi _ => len - (intOf vi).toNat)
        case atStart => exact ⟨0, by omega, rfl, HB5⟩
        case round =>
          obtain ⟨i, hi, rfl, Hr⟩ := hrel
          have hi2 : i < len ∨ len = i := by omega
          rcases hi2 with hilt | rfl
          · have hilt2 : (i : Int) < len := by omega
            obtain ⟨P, Q, cs, H, cs2, K, M, R, A, es, hcf⟩ := Hr.out
            have Hcf := Lib.hid hcf
            clear hcf
            obtain ⟨hl1, _, _, _, hl5, hl6⟩ := HM.out.2.1
            rcases hl5 with he | ⟨b, off, rfl, hbl, hcx⟩
            · exfalso
              rw [he] at hl1; simp at hl1; omega
            have hok := hl6 i hilt
            have hrc := HM.out.2.2.1 i hilt
            have hcx := hcx i (by rw [hl1]; exact hilt)
            obtain ⟨⟨fr, dst, kind, key, op, cf, sl, L⟩, hx⟩ : ∃ x, l[i]?.getD msg0 = x := ⟨_, rfl⟩
            rw [hx] at hcx hok hrc
            obtain ⟨k0, k1, k2, k3, k4, k5, k6, ad, cp, k7, q1, q2, q3, q4⟩ := hcx
            dsimp only at k0 k1 k2 k3 k4 k5 k6 k7 q1 q4 hrc
            have KS : Hid (∀ W, Below w.heap.size w W → W.cell? ⟨b, off + i * 8, none⟩ = some (.string fr) ∧ W.cell? ⟨b, off + i * 8 + 1, none⟩ = some (.string dst) ∧ W.cell? ⟨b, off + i * 8 + 2, none⟩ = some (.string kind) ∧ W.cell? ⟨b, off + i * 8 + 3, none⟩ = some (.string key) ∧ W.cell? ⟨b, off + i * 8 + 4, none⟩ = some (.int .i64 op) ∧ W.cell? ⟨b, off + i * 8 + 5, none⟩ = some (.int .i64 cf) ∧ W.cell? ⟨b, off + i * 8 + 6, none⟩ = some (.bool sl) ∧ W.cell? ⟨b, off + i * 8 + 7, none⟩ = some (.slice ad L.length cp)) := Lib.hid fun W hb =>
              ⟨(hb.cell (p := ⟨b, off + i * 8, none⟩) hbl).trans k0, (hb.cell (p := ⟨b, off + i * 8 + 1, none⟩) hbl).trans k1, (hb.cell (p := ⟨b, off + i * 8 + 2, none⟩) hbl).trans k2, (hb.cell (p := ⟨b, off + i * 8 + 3, none⟩) hbl).trans k3, (hb.cell (p := ⟨b, off + i * 8 + 4, none⟩) hbl).trans k4, (hb.cell (p := ⟨b, off + i * 8 + 5, none⟩) hbl).trans k5, (hb.cell (p := ⟨b, off + i * 8 + 6, none⟩) hbl).trans k6, (hb.cell (p := ⟨b, off + i * 8 + 7, none⟩) hbl).trans k7⟩
            obtain ⟨l1, hll⟩ : ∃ l1, (((hearT (absM cs H) name ⟨fr, dst, kind, key, op, cf, sl, L⟩).2.map (ansMsg name ⟨fr, dst, kind, key, op, cf, sl, L⟩)).toList) = l1 := ⟨_, rfl⟩
            obtain ⟨n1, hn1⟩ : ∃ n1, l1.length = n1 := ⟨_, rfl⟩
            have hn1' : n1 ≤ 1 := by rw [← hn1, ← hll]; exact toList_le _
            have hwd : Below wr.heap.size wr wr.drew := (Below.refl _ _).drew
            have hBd : Below w.heap.size w wr.drew := A.b.drew
            have Hx := Lib.hid (And.intro (M.kept hwd) (And.intro (R.kept hwd) (And.intro (show Apart w wr.drew mp P Q from ⟨A.p, A.q, A.d, A.m, hBd⟩) (And.intro es (And.intro hok (And.intro hrc (And.intro q1 (And.intro q2 (And.intro q3 (And.intro q4 (And.intro hll (And.intro hn1 hn1'))))))))))))
            have hd0 := KS.out wr.drew hBd
            have hr0 := KS.out wr A.b
            clear hl6 hok hrc hx k0 k1 k2 k3 k4 k5 k6 k7 q1 q2 q3 q4 M R A es hll hn1 hn1' hwd hBd hl1 hbl Hr
            go_wp2_with fail
            have q0 := hd0
            clear hr0 hd0
            go_region_held3 (fun W => W.cell? ⟨b, off + i * 8, none⟩ = some (.string fr) ∧ W.cell? ⟨b, off + i * 8 + 1, none⟩ = some (.string dst) ∧ W.cell? ⟨b, off + i * 8 + 2, none⟩ = some (.string kind) ∧ W.cell? ⟨b, off + i * 8 + 3, none⟩ = some (.string key) ∧ W.cell? ⟨b, off + i * 8 + 4, none⟩ = some (.int .i64 op) ∧ W.cell? ⟨b, off + i * 8 + 5, none⟩ = some (.int .i64 cf) ∧ W.cell? ⟨b, off + i * 8 + 6, none⟩ = some (.bool sl) ∧ W.cell? ⟨b, off + i * 8 + 7, none⟩ = some (.slice ad L.length cp))
              (first | exact q0 | exact q5 | exact q6 | exact q7 | exact q8 | exact q9)
              (first
                | (go_at_call 13; refine (wireof_walk wr.drew fr dst kind key op cf sl ad L.length cp L rfl Hx.out.2.2.2.2.2.1 Hx.out.2.2.2.2.2.2.2.2.1 ((Hx.out.2.2.2.2.2.2.2.2.2.1.below Hx.out.2.2.1.b).mono Hx.out.2.2.1.b.size)).mono ?_; rintro e w5 ⟨hb5, v5, rfl, ho5⟩; obtain ⟨a5, c5, rfl, g1, g2, g3, g4⟩ := ho5.readS; obtain ⟨P5, Q5, M5, R5, A5, V5⟩ := duo_wire Hx.out.1 Hx.out.2.1 Hx.out.2.2.1 hb5 g4; have q5 := KS.out w5 A5.b; have H5 := Lib.hid (And.intro M5 (And.intro R5 (And.intro A5 V5))); clear hb5 ho5 g1 g2 g3 g4 M5 R5 A5 V5)
                | (go_at_call 12; refine (hear_walk P5 w5 mp name cs H fr dst kind key op cf sl a5 L.length c5 L H5.out.1 Hx.out.2.2.2.2.1.cf Hx.out.2.2.2.2.1.key rfl (Nat.le_trans Hx.out.2.2.2.2.2.2.1 Hx.out.2.2.2.2.2.2.2.1) H5.out.2.2.2 E w HM.out.1.s H5.out.2.2.1.b H5.out.2.2.1.p).mono ?_; intro e w6 hp6; obtain ⟨cs6, H6', P6, Q6, a6, c6, rfl, M6, R6, A6, e6, V6⟩ := duo_hear1 hp6 H5.out.2.1 H5.out.2.2.1 Hx.out.2.2.2.2.2.2.2.2.2.2.1 Hx.out.2.2.2.2.2.2.2.2.2.2.2.1; have q6 := KS.out w6 A6.b; have H6 := Lib.hid (And.intro M6 (And.intro R6 (And.intro A6 (And.intro e6 V6)))); clear hp6 M6 R6 A6 e6 V6)
                | (go_at_call 11; refine (bwires_walk w6 _ a6 n1 c6 l1 Hx.out.2.2.2.2.2.2.2.2.2.2.2.1 (Nat.le_trans Hx.out.2.2.2.2.2.2.2.2.2.2.2.2 (by omega)) H6.out.2.2.2.2).mono ?_; rintro e w7 ⟨v7, rfl, hb7, hv7⟩; obtain ⟨P7, Q7, a7, c7, rfl, M7, R7, A7, V7⟩ := duo_back H6.out.1 H6.out.2.1 H6.out.2.2.1 hb7 hv7 Hx.out.2.2.2.2.2.2.2.2.2.2.2.1; have q7 := KS.out w7 A7.b; have H7 := Lib.hid (And.intro M7 (And.intro R7 (And.intro A7 V7))); clear hb7 hv7 M7 R7 A7 V7)
                | (go_at_call 14; refine (mhear_walk Q7 w7 mo name cs2 K fr dst kind key op cf sl ad L.length cp L H7.out.2.1 Hx.out.2.2.2.2.1.key rfl (Nat.le_trans Hx.out.2.2.2.2.2.2.1 Hx.out.2.2.2.2.2.2.2.1) Hx.out.2.2.2.2.1.L ((Hx.out.2.2.2.2.2.2.2.2.2.1.below H7.out.2.2.1.b).toS H7.out.2.2.1.b.size (fun b hb hq => by have := H7.out.2.2.1.q b hq; omega))).mono ?_; intro e w8 hp8; obtain ⟨cs8, K8, P8, Q8, a8, c8, rfl, M8, R8, A8, e8, V8, U8⟩ := duo_hear2 hp8 H7.out.1 H7.out.2.2.1 (by rw [← Hx.out.2.2.2.1]; exact Hx.out.2.2.2.2.2.2.2.2.2.2.1) Hx.out.2.2.2.2.2.2.2.2.2.2.2.1 H7.out.2.2.2; have q8 := KS.out w8 A8.b; have H8 := Lib.hid (And.intro M8 (And.intro R8 (And.intro A8 (And.intro e8 (And.intro V8 U8))))); clear hp8 M8 R8 A8 e8 V8 U8)
                | (go_at_call 10; refine (samems_same w8 w8.heap.size a7 a8 n1 c7 c8 l1 Hx.out.2.2.2.2.2.2.2.2.2.2.2.1 (Nat.le_trans Hx.out.2.2.2.2.2.2.2.2.2.2.2.2 (by decide)) H8.out.2.2.2.2.1 H8.out.2.2.2.2.2 (Nat.le_refl _)).mono ?_; rintro e w9 ⟨rfl, hb9⟩; have hB9 : Both w w9 mp mo name := Both.kept ⟨P8, Q8, _, _, _, _, H8.out.1, H8.out.2.1, H8.out.2.2.1, by rw [H6.out.2.2.2.1, H8.out.2.2.2.1, Hx.out.2.2.2.1], hear_int H6.out.2.2.2.1 rfl Hcf.out Hx.out.2.2.2.2.1.cf⟩ hb9; have q9 := KS.out w9 (H8.out.2.2.1.b.trans (hb9.mono H8.out.2.2.1.b.size)); have H9 := Lib.hid hB9; clear hb9 hB9))
            rename_i hHeld
            clear hHeld q0 q5 q6 q7 q8 q9
            go_wp2
            go_roundw
            case rel => exact ⟨i + 1, by omega, by go_num, H9⟩
            case measure => simp [intOf]; omega
          · obtain ⟨P, Q, cs, H, cs2, K, M, R, A, es, hcf⟩ := Hr.out
            obtain ⟨ecs, _⟩ := abs_eq es
            subst ecs
            obtain ⟨v, v1, v2, _⟩ := R.row
            obtain ⟨a2, cap2, rfl, g1, _, _, _, g5⟩ := v2.read
            rw [List.length_map] at g1 v1
            have hl12 := R.len
            obtain ⟨n, hn⟩ : ∃ n, cs.length = n := ⟨_, rfl⟩
            rw [hn] at g1 v1 hl12
            have HR := Lib.hid (And.intro M (And.intro R (And.intro A (And.intro es (And.intro hcf (And.intro hn (And.intro g5 v1)))))))
            have KL : Hid (∀ W, Below wr.heap.size wr W → W.cell? ⟨mo, 1, none⟩ = some (.slice a2 n cap2)) := Lib.hid fun W hb => (hb.cell (p := ⟨mo, 1, none⟩) R.lt).trans v1
            obtain ⟨w6, hw6⟩ : ∃ w6, wr = w6 := ⟨_, rfl⟩
            rw [hw6] at HR KL v1 ⊢
            clear M R A es hcf hn g5 v2 hw6 Hr
            go_wp2_with fail
            go_loopw [12] (fun vi wr => ∃ (i : Nat), i ≤ n ∧ vi = .int .i64 i ∧ Hid (Below w6.heap.size w6 wr ∧ ∀ j, j < i → cs[j]? ≠ some c)) (fun vi _ => n - (intOf vi).toNat)
            case atStart => exact ⟨0, by omega, rfl, Lib.hid ⟨Below.refl _ _, fun j hj => by omega⟩⟩
            case round =>
              obtain ⟨i, hi, rfl, Hi⟩ := hrel
              have c1 := KL.out wr Hi.out.1
              have hi2 : i < n ∨ n = i := by omega
              rcases hi2 with hilt | rfl
              · have hilt2 : (i : Int) < n := by omega
                have hil : i < cs.length := by rw [HR.out.2.2.2.2.2.1]; exact hilt
                rcases HR.out.2.2.2.2.2.2.1.below Hi.out.1 with he | ⟨b, off, rfl, hb, hcc⟩
                · exfalso
                  have := congrArg List.length he
                  simp at this
                  rw [this] at hil; simp at hil
                have j0 := hcc i 0 (by rw [List.length_map]; exact hil) (by omega)
                have j1 := hcc i 1 (by rw [List.length_map]; exact hil) (by omega)
                rw [encOf_at cs K i hil] at j0 j1
                have k0 : wr.cell? ⟨b, off + i * 2, none⟩ = some (.int .i64 cs[i]) := j0
                have k1 : wr.cell? ⟨b, off + i * 2 + 1, none⟩ = some (.pointer (some ⟨(K cs[i]).mb, 0, none⟩)) := j1
                have hmem : cs[i] ∈ cs := List.getElem_mem hil
                have hget : cs[i]? = some cs[i] := List.getElem?_eq_getElem hil
                obtain ⟨x, hx⟩ : ∃ x, cs[i] = x := ⟨_, rfl⟩
                rw [hx] at k0 k1 hmem hget
                have HX := Lib.hid (And.intro hmem hget)
                obtain ⟨T, F⟩ := Both.two HR.out.1 HR.out.2.1 HR.out.2.2.1 HR.out.2.2.2.1 hmem Hi.out.1
                have hsh := shold_walk P wr mp name cs H x (HR.out.1.kept Hi.out.1) (HR.out.2.2.2.2.1 x hmem)
                unfold ptrOf at hsh
                rw [if_pos hmem] at hsh
                have Hsh := Lib.hid hsh
                have Has := Lib.hid (ashold_walk T F)
                clear j0 j1 hcc hx hmem hget hil T F hsh hb
                go_wp2_with fail
                refine Hsh.out.mono ?_
                rintro e w7 ⟨rfl, hw7⟩
                rw [← hw7]
                clear hw7
                go_wp2_with fail
                refine Has.out.mono ?_
                rintro e w8 ⟨rfl, hb8⟩
                have HB8 := Lib.hid (Hi.out.1.trans (hb8.mono Hi.out.1.size))
                have k0' := (hb8.cell (p := ⟨b, off + i * 2, none⟩) (lt_of_cell k0)).trans k0
                have c1' := KL.out w8 HB8.out
                clear k0 k1 c1 hb8
                by_cases e : x = c
                · subst e
                  have Hwi := Lib.hid (swipe_walk P w8 mp name cs H (HR.out.1.kept HB8.out))
                  go_wp2_with fail
                  refine Hwi.out.mono ?_
                  rintro e w9 ⟨rfl, M9, k9⟩
                  have hsh := shold_walk P w9 mp name [] H x M9 HM.out.2.2.2.1
                  unfold ptrOf at hsh
                  rw [if_neg (by simp)] at hsh
                  have Hsh2 := Lib.hid hsh
                  have HB9 := Lib.hid (show Below w.heap.size w w9 from (HR.out.2.2.1.b.trans (HB8.out.mono HR.out.2.2.1.b.size)).trans (k9.below (Nat.le_trans HR.out.2.2.1.b.size HB8.out.size) HR.out.2.2.1.p))
                  clear M9 k9 hsh k0' c1'
                  go_wp2_with fail
                  refine Hsh2.out.mono ?_
                  rintro e w10 ⟨rfl, hw10⟩
                  rw [← hw10]
                  clear hw10
                  go_wp2
                  go_ret
                  exact ⟨rfl, HB9.out⟩
                · have e2 : (x == c) = false := by simpa using e
                  have HN : Hid (Below w6.heap.size w6 w8 ∧ ∀ j, j < i + 1 → cs[j]? ≠ some c) := Lib.hid ⟨HB8.out, fun j hj => by
                    by_cases hji : j = i
                    · rw [hji, HX.out.2]; intro h9; exact e (Option.some.inj h9)
                    · exact Hi.out.2 j (by omega)⟩
                  go_wp2
                  go_roundw
                  case rel => exact ⟨i + 1, by omega, by go_num, HN⟩
                  case measure => simp [intOf]; omega
              · have hnc : c ∉ cs := fun h9 => by
                  obtain ⟨j, hj, e⟩ := List.getElem_of_mem h9
                  exact Hi.out.2 j (by rw [← HR.out.2.2.2.2.2.1]; exact hj) (by rw [List.getElem?_eq_getElem hj, e])
                have hsh := shold_walk P wr mp name cs H c (HR.out.1.kept Hi.out.1) HM.out.2.2.2.1
                unfold ptrOf at hsh
                rw [if_neg hnc] at hsh
                have Hsh := Lib.hid hsh
                clear hsh hnc
                go_wp2_with fail
                refine Hsh.out.mono ?_
                rintro e w7 ⟨rfl, hw7⟩
                rw [← hw7]
                clear hw7
                go_wp2
                go_ret
                exact ⟨rfl, HR.out.2.2.1.b.trans (Hi.out.1.mono HR.out.2.2.1.b.size)⟩
theorem walk (name : ByteArray) (a : Option Addr) (len cap : Nat) (l : List Msg) (c : Int) (w : World) (hnm : name.size ≤ maxLen) (hA : MsgsIn w a len cap l) (hr : ∀ i, i < len → (l[i]?.getD msg0).L.length * 48 ≤ reachBytes) (hc : (Lit.int .i64 c).wf = true) (hL : laidMetH Tryz.prog Rows.serveHearsRow.laid w) :
    Calls Tryz.prog 3 #[.string name, .slice a len cap, .int .i64 c] w fun e w' => e = .returned (.bool true) ∧ Below w.heap.size w w' := by
  obtain ⟨E, hE⟩ := env_of_laid hL
  exact walk_in w E hE name hnm a len cap l hA hr c (bounds_i64 hc)
end Go.Proofs.YtpjbecmedidfgaaGreatDoor.serveHears
