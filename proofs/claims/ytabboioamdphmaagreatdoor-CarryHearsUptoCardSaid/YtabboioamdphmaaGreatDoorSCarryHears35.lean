/- The walk of a carry's Hear. -/
import Derived.Test.YtabboioamdphmaaGreatDoorSCarryHears33
import Derived.Test.YtabboioamdphmaaGreatDoorSCarryHears29
namespace Go.Proofs.YtabboioamdphmaaGreatDoor
section
open Go.RowKit Go.Maps Go.BigFrame

set_option maxRecDepth 100000 in
set_option maxHeartbeats 16000000 in
theorem chear_walk (F : Nat → Prop) (w : World) (ab bm : Nat) (ma : Option Addr) (mc : Nat) (na : Option Addr) (nc : Nat) (a : AskS) (fr dst kind key : ByteArray) (op cf : Int) (sl : Bool) (ad : Option Addr) (len cap : Nat) (L : List Ver) (hx : CarX F w ab bm ma mc na nc a) (hco : CarOk a) (htot : totV (a.t.got.map (·.2)) + L.length ≤ 1000000)
    (hfr : fr.size ≤ maxLen) (hlen : L.length = len) (hcap : len ≤ cap) (ha : ad = none → cap = 0) (hL : VrS (fun b => ¬ F b) w ad L) (E : Nat → Addr) (W0 : World) (hE : ErrEnv W0 E) (hW : Below W0.heap.size W0 w) (hFW : ∀ b, F b → W0.heap.size ≤ b) :
    Calls Tryz.prog 18 #[.pointer (some ⟨ab, 0, none⟩), .agg #[.string fr, .string dst, .string kind, .string key, .int .i64 op, .int .i64 cf, .bool sl, .slice ad len cap]] w fun e w' => CarPost F w w' ab na nc a ⟨fr, dst, kind, key, op, cf, sl, L⟩ e := by
  obtain ⟨t, who, put, moves, n2, k2, mem2, st, tag, text, found⟩ := a
  have h := hx.x
  have hok := hco.ok
  have hmv := hco.mv
  have hpt := hco.pt
  have hst := hco.st
  have htx := hco.tx
  have hnx := hco.nx
  dsimp only at h hok hmv hpt hst htx htot hnx
  subst hmv hpt
  obtain ⟨W1, hW1⟩ : ∃ W1, w.alloc (.cells #[.string fr, .string dst, .string kind, .string key, .int .i64 op, .int .i64 cf, .bool sl, .slice ad len cap] 55) = W1 := ⟨_, rfl⟩
  obtain ⟨xb, hxb⟩ : ∃ xb, w.heap.size = xb := ⟨_, rfl⟩
  have hb1 : Below w.heap.size w W1 := by rw [← hW1]; exact (Below.refl _ _).alloc (Nat.le_refl _) _
  have r0 : W1.cell? ⟨xb, 0, none⟩ = some (.string fr) := by rw [← hW1, ← hxb]; simp
  have r1 : W1.cell? ⟨xb, 1, none⟩ = some (.string dst) := by rw [← hW1, ← hxb]; simp
  have r2 : W1.cell? ⟨xb, 2, none⟩ = some (.string kind) := by rw [← hW1, ← hxb]; simp
  have r3 : W1.cell? ⟨xb, 3, none⟩ = some (.string key) := by rw [← hW1, ← hxb]; simp
  have r4 : W1.cell? ⟨xb, 4, none⟩ = some (.int .i64 op) := by rw [← hW1, ← hxb]; simp
  have r5 : W1.cell? ⟨xb, 5, none⟩ = some (.int .i64 cf) := by rw [← hW1, ← hxb]; simp
  have r6 : W1.cell? ⟨xb, 6, none⟩ = some (.bool sl) := by rw [← hW1, ← hxb]; simp
  have r7 : W1.cell? ⟨xb, 7, none⟩ = some (.slice ad len cap) := by rw [← hW1, ← hxb]; simp
  have hs1 : W1.heap.size = xb + 1 := by rw [← hW1, ← hxb]; simp
  have hX1 := h.below hb1 (Nat.le_refl _)
  have KS : Hid (∀ W, Below W1.heap.size W1 W → W.cell? ⟨xb, 0, none⟩ = some (.string fr) ∧ W.cell? ⟨xb, 1, none⟩ = some (.string dst) ∧ W.cell? ⟨xb, 2, none⟩ = some (.string kind) ∧ W.cell? ⟨xb, 3, none⟩ = some (.string key) ∧ W.cell? ⟨xb, 4, none⟩ = some (.int .i64 op) ∧ W.cell? ⟨xb, 5, none⟩ = some (.int .i64 cf) ∧ W.cell? ⟨xb, 6, none⟩ = some (.bool sl) ∧ W.cell? ⟨xb, 7, none⟩ = some (.slice ad len cap)) := Lib.hid fun W hb => by
    have c : ∀ {p : Addr} {v}, W1.cell? p = some v → W.cell? p = some v := fun {p v} h => (hb.cell (lt_of_cell h)).trans h
    exact ⟨c r0, c r1, c r2, c r3, c r4, c r5, c r6, c r7⟩
  obtain ⟨fb, hfb⟩ : ∃ fb, fitsB t ⟨fr, dst, kind, key, op, cf, sl, L⟩ = fb := ⟨_, rfl⟩
  have Cf := fun d os => Calls.regrown_of (fits_walk F (Go.Sort.grow (redrawn W1 d) os) ab bm ma mc t fr dst kind key op cf sl ad len cap L (hX1.talk.below (below_regrown W1 d os) (Nat.le_refl _)) hfr)
  rw [hfb] at Cf
  have c15 : W1.cell? ⟨ab, 16, none⟩ = some (.string (stT ⟨t, who, false, true, n2, k2, mem2, st, tag, text, found⟩)) := hX1.cell 7 (by show 7 < 8; decide)
  have k0 := cell_regrown r0
  have k1 := cell_regrown r1
  have k2 := cell_regrown r2
  have k3 := cell_regrown r3
  have k4 := cell_regrown r4
  have k5 := cell_regrown r5
  have k6 := cell_regrown r6
  have k7 := cell_regrown r7
  have hLW : VrR w.heap.size w ad L := hL.read
  have H := Lib.hid (And.intro h (And.intro hX1 (And.intro hok (And.intro htx (And.intro htot (And.intro hfb (And.intro hb1 (And.intro hW1 (And.intro hxb (And.intro hs1 hx))))))))))
  have HA := Lib.hid (And.intro hfr (And.intro hlen (And.intro hcap (And.intro ha (And.intro hLW (And.intro hE (And.intro hW (And.intro hFW hnx))))))))
  have hcs : st = 0 ∨ st = 1 ∨ st = 2 ∨ st = 3 := by omega
  clear hfr hlen hcap ha hLW hE hW hFW h hX1 hok htx htot hfb hb1 hW1 hxb hs1 hst hL hx hco hnx r0 r1 r2 r3 r4 r5 r6 r7
  go_enter Tryz.func18, Tryz.ntmps18
  go_wp2
  rw [H.out.2.2.2.2.2.2.2.1, H.out.2.2.2.2.2.2.2.2.1]
  rcases hcs with rfl | rfl | rfl | rfl
  · have c15' : W1.cell? ⟨ab, 16, none⟩ = some (.string ⟨#[115, 101, 97, 108, 105, 110, 103]⟩) := c15
    clear c15
    have c15 := c15'
    clear c15'
    have k15 := cell_regrown c15
    cases fb with
    | false =>
      refine wp_region_quiet_below (by kernel_rfl) (by kernel_rfl) ?_
      repeat (go_big_quiet_step (first | exact Cf _ _))
      refine wpQuiet_nil ?_
      intro w2 hw'
      obtain ⟨⟨dq, osq⟩, hw2⟩ := hw'
      have H2 := Lib.hid (show Below W1.heap.size W1 w2 by rw [hw2]; exact below_regrown W1 dq osq)
      clear hw2 k0 k1 k2 k3 k4 k5 k6 k7 k15 c15 Cf
      go_wp2
      go_ret
      exact CarPost.mk H.out.2.2.2.2.2.2.2.2.2.2 (hear_no (.inr H.out.2.2.2.2.2.1)) rfl (fun _ hb => hb) (fun b hb => .inl hb) (.inl rfl) (KeptBut.of_below (H.out.2.2.2.2.2.2.1.trans (H2.out.mono H.out.2.2.2.2.2.2.1.size)) (fun k h1 h2 => by omega)) (H.out.2.1.below H2.out (Nat.le_refl _)) (RetMsgs.nil _ _)
    | true =>
      refine wp_region_quiet_below (by kernel_rfl) (by kernel_rfl) ?_
      repeat (go_big_quiet_step (first | exact Cf _ _))
      refine wpQuiet_nil ?_
      intro w2 hw'
      obtain ⟨⟨dq, osq⟩, hw2⟩ := hw'
      have H2 := Lib.hid (show Below W1.heap.size W1 w2 by rw [hw2]; exact below_regrown W1 dq osq)
      clear hw2 k0 k1 k2 k3 k4 k5 k6 k7 k15 c15 Cf
      have hX2 := H.out.2.1.below H2.out (Nat.le_refl _)
      obtain ⟨q0, q1, q2, q3, q4, q5, q6, q7⟩ := KS.out w2 H2.out
      have d15 : w2.cell? ⟨ab, 16, none⟩ = some (.string ⟨#[115, 101, 97, 108, 105, 110, 103]⟩) := hX2.cell 7 (by show 7 < 8; decide)
      have z15 := hX2.talk.z 16
      have HX2 := Lib.hid hX2
      clear hX2
      
      have hnew := (fits_mem H.out.2.2.2.2.2.1).2
      have hbw : Below w.heap.size w w2.drew := (H.out.2.2.2.2.2.2.1.trans (H2.out.mono H.out.2.2.2.2.2.2.1.size)).drew
      have hW2 : Below W0.heap.size W0 w2.drew := HA.out.2.2.2.2.2.2.1.trans (hbw.mono HA.out.2.2.2.2.2.2.1.size)
      have Htk := Lib.hid (take_walk F w2.drew ab bm ma mc t fr dst kind key op cf sl ad len cap L (HX2.out.talk.below (Below.refl w2.heap.size w2).drew (Nat.le_refl _)) H.out.2.2.1 HA.out.1 hnew HA.out.2.1 HA.out.2.2.1 (by have := H.out.2.2.2.2.1; have := HA.out.2.1; omega) HA.out.2.2.2.1 ((HA.out.2.2.2.2.1.below hbw).mono hbw.size) E W0 HA.out.2.2.2.2.2.1.qx hW2 HA.out.2.2.2.2.2.2.2.1)
      have HB := Lib.hid (And.intro hbw hW2)
      clear hnew hbw hW2
      go_wp2
      go_region_held3 (fun W => W.cell? ⟨xb, 0, none⟩ = some (.string fr) ∧ W.cell? ⟨xb, 1, none⟩ = some (.string dst) ∧ W.cell? ⟨xb, 2, none⟩ = some (.string kind) ∧ W.cell? ⟨xb, 3, none⟩ = some (.string key) ∧ W.cell? ⟨xb, 4, none⟩ = some (.int .i64 op) ∧ W.cell? ⟨xb, 5, none⟩ = some (.int .i64 cf) ∧ W.cell? ⟨xb, 6, none⟩ = some (.bool sl) ∧ W.cell? ⟨xb, 7, none⟩ = some (.slice ad len cap))
        (first | exact ⟨q0, q1, q2, q3, q4, q5, q6, q7⟩ | exact KS.out _ H2.out.drew | exact ⟨p0, p1, p2, p3, p4, p5, p6, p7⟩)
        (first | (go_at_call 45; refine Htk.out.mono ?_; rintro e w3 ⟨rfl, hT3, hk3⟩; obtain ⟨⟨p0, p1, p2, p3, p4, p5, p6, p7⟩, HT3⟩ : (w3.cell? ⟨xb, 0, none⟩ = some (.string fr) ∧ w3.cell? ⟨xb, 1, none⟩ = some (.string dst) ∧ w3.cell? ⟨xb, 2, none⟩ = some (.string kind) ∧ w3.cell? ⟨xb, 3, none⟩ = some (.string key) ∧ w3.cell? ⟨xb, 4, none⟩ = some (.int .i64 op) ∧ w3.cell? ⟨xb, 5, none⟩ = some (.int .i64 cf) ∧ w3.cell? ⟨xb, 6, none⟩ = some (.bool sl) ∧ w3.cell? ⟨xb, 7, none⟩ = some (.slice ad len cap)) ∧ Hid (TalkAt (grownF F w2.drew w3) w3 ab bm ma mc (takeT t ⟨fr, dst, kind, key, op, cf, sl, L⟩) ∧ KeptBut (fun b => b = bm) w2.drew w3) := by {
          have hne : xb ≠ bm := fun e => by { have := H.out.1.talk.lt bm H.out.1.talk.bF; have := H.out.2.2.2.2.2.2.2.2.1; omega }
          exact ⟨⟨hk3.cell (p := ⟨xb, 0, none⟩) q0 hne, hk3.cell (p := ⟨xb, 1, none⟩) q1 hne, hk3.cell (p := ⟨xb, 2, none⟩) q2 hne, hk3.cell (p := ⟨xb, 3, none⟩) q3 hne, hk3.cell (p := ⟨xb, 4, none⟩) q4 hne, hk3.cell (p := ⟨xb, 5, none⟩) q5 hne, hk3.cell (p := ⟨xb, 6, none⟩) q6 hne, hk3.cell (p := ⟨xb, 7, none⟩) q7 hne⟩, Lib.hid ⟨hT3, hk3⟩⟩ }; clear hT3 hk3))
      rename_i hHeld
      clear hHeld q0 q1 q2 q3 q4 q5 q6 q7 p0 p1 p2 p3 p4 p5 p6 p7 d15 z15 Htk
      have hX3 := (HX2.out.below (Below.refl w2.heap.size w2).drew (Nat.le_refl _)).turn HT3.out.1 HT3.out.2
      have d15 : w3.cell? ⟨ab, 16, none⟩ = some (.string ⟨#[115, 101, 97, 108, 105, 110, 103]⟩) := hX3.cell 7 (by show 7 < 8; decide)
      have z15 := hX3.talk.z 16
      have hkw3 : KeptBut (fun b => b = ab ∨ b = bm) w w3 := (KeptBut.of_below HB.out.1 (fun k h1 h2 => by omega)).trans (HT3.out.2.mono fun b _ e => .inr e)
      have hF3 : ∀ b, grownF F w2.drew w3 b → F b ∨ w.heap.size ≤ b := fun b hb => hb.imp id (fun h9 => Nat.le_trans HB.out.1.size h9.1)
      have hW3 : Below W0.heap.size W0 w3 := HB.out.2.trans (HT3.out.2.below HB.out.2.size (fun b e => by rw [e]; exact HA.out.2.2.2.2.2.2.2.1 bm H.out.1.talk.bF))
      have H3 := Lib.hid (And.intro hX3 (And.intro hkw3 (And.intro hF3 hW3)))
      obtain ⟨eb, heb⟩ : ∃ eb, enoughB (takeT t ⟨fr, dst, kind, key, op, cf, sl, L⟩) = eb := ⟨_, rfl⟩
      rw [heb]
      have Heb := Lib.hid heb
      clear heb hX3 hkw3 hF3 hW3 HT3
      cases eb with
      | false =>
        go_wp2
        go_ret
        exact CarPost.mk H.out.2.2.2.2.2.2.2.2.2.2 (hear_few (by show 0 < 2; decide) H.out.2.2.2.2.2.1 (.inr ⟨rfl, rfl⟩) Heb.out) rfl (fun _ hb => .inl hb) H3.out.2.2.1 (.inl rfl) H3.out.2.1 H3.out.1 (RetMsgs.nil _ _)
      | true =>
        obtain ⟨t', ht'⟩ : ∃ t', takeT t ⟨fr, dst, kind, key, op, cf, sl, L⟩ = t' := ⟨_, rfl⟩
        have hok3 : TalkOk t' := by rw [← ht']; exact take_ok H.out.2.2.1 H.out.2.2.2.2.2.1
        have htt : totV (t'.got.map (·.2)) ≤ 1000000 := by
          rw [← ht']
          show totV ((t.got ++ [(fr, L)]).map (·.2)) ≤ 1000000
          have := H.out.2.2.2.2.1
          unfold totV at this ⊢
          simp only [List.map_append, List.map_cons, List.map_nil, List.sum_append, List.sum_cons, List.sum_nil]
          omega
        have hcf' : t'.cf = t.cf := by rw [← ht']; rfl
        rw [ht'] at H3
        have hX3 := H3.out.1
        have hE3 := HA.out.2.2.2.2.2.1.below H3.out.2.2.2 (Nat.le_refl _)
        obtain ⟨hk1, hkn, hn12, hmn, _⟩ := talk_cfg hok3
        have c4 := hX3.talk.c4
        have c5 := hX3.talk.c5
        have c6 := hX3.talk.c6
        have hd := hX3.below (Below.refl w3.heap.size w3).drew (Nat.le_refl _)
        have Hto := Lib.hid (told_walk _ w3.drew ab bm ma mc t' hd.talk hok3)
        have htl : (toldT t').length ≤ t'.n := by rw [← hmn]; exact List.length_filterMap_le ..
        have HB4 : Hid (∀ (w5 : World) (a5 : Option Addr) (cp5 : Nat), Below w3.drew.heap.size w3.drew w5 → VssR w5 a5 (toldT t') → (w5.cell? ⟨ab, 4, none⟩ = some (.int .i64 (t'.n : Nat)) ∧ w5.cell? ⟨ab, 5, none⟩ = some (.int .i64 (t'.k : Nat)) ∧ w5.cell? ⟨ab, 6, none⟩ = some (.slice ma t'.mem.length mc)) ∧
            Hid (Calls Tryz.prog 46 #[.agg #[.int .i64 (t'.n : Nat), .int .i64 (t'.k : Nat), .slice ma t'.mem.length mc], .slice a5 (toldT t').length cp5] w5 fun e w6 => ∃ (tg : Int × Int) (s : ByteArray) (f : Bool), e = .returned (.tuple #[.agg #[.int .i64 tg.1, .int .i64 tg.2], .string s, .bool f, .nilIface]) ∧ Hid (Below w3.heap.size w3 w6 ∧ (tg, s, f) = bestAns t'.k (bestG t'.k (groupsL t'.n t'.k (toldT t').flatten))))) := Lib.hid (by
          intro w5 a5 cp5 hb5 hv5
          have hb : Below w3.heap.size w3 w5 := (Below.refl _ _).drew.trans hb5
          have hT := hX3.talk.below hb (Nat.le_refl _)
          refine ⟨⟨hT.c4, hT.c5, hT.c6⟩, Lib.hid ?_⟩
          have hE5 := hE3.below hb (Nat.le_refl _)
          refine (best_walk (t'.n : Nat) (t'.k : Nat) w5.heap.size ma t'.mem.length mc t'.mem a5 (toldT t').length cp5 (toldT t') w5 E hE5.qx hE5.ef rfl hX3.talk.mcap (mem_size hok3) hT.mem.at_ (Nat.le_refl _) rfl (by unfold maxLen; omega) hv5 (by rw [told_tot hok3]; exact htt)).mono ?_
          rintro e w6 ⟨hb6, tg, s, f, v, rfl, hres⟩
          have hz : (configF (t'.n : Int) (t'.k : Int) t'.mem).1 = 0 := by rw [hok3.cfg]
          rcases hres with ⟨r0, _⟩ | ⟨_, r1, _⟩ | ⟨_, _, rfl, r3⟩
          · exact absurd hz r0
          · exfalso; omega
          · exact ⟨tg, s, f, rfl, Lib.hid ⟨hb.trans (hb6.mono hb.size), r3⟩⟩)
        have Hm := Lib.hid (And.intro hok3 (And.intro ht' hcf'))
        clear hk1 hkn hn12 hmn hd htl hE3 hok3 htt hX3 ht' hcf'
        go_wp2
        go_region_held3 (fun W => W.cell? ⟨ab, 4, none⟩ = some (.int .i64 (t'.n : Nat)) ∧ W.cell? ⟨ab, 5, none⟩ = some (.int .i64 (t'.k : Nat)) ∧ W.cell? ⟨ab, 6, none⟩ = some (.slice ma t'.mem.length mc))
          (first | exact ⟨c4, c5, c6⟩ | exact ⟨d4, d5, d6⟩ | exact ⟨e4, e5, e6⟩ | (refine ⟨?_, ?_, ?_⟩ <;> (repeat (rw [World.cell?_setCell_other _ _ _ _ (by simp)])) <;> assumption))
          (first
            | (go_at_call 47; refine Hto.out.mono ?_; rintro e w5 ⟨hb5, a5, cp5, rfl, hv5⟩; obtain ⟨⟨d4, d5, d6⟩, HBe⟩ := HB4.out w5 a5 cp5 hb5 hv5; clear hb5 hv5)
            | (go_at_call 46; refine HBe.out.mono ?_; rintro e w6 ⟨⟨t1, t2⟩, s, f, rfl, HF⟩; have hT6 := H3.out.1.below HF.out.1 (Nat.le_refl _); have e4 := hT6.talk.c4; have e5 := hT6.talk.c5; have e6 := hT6.talk.c6; have e12 : w6.cell? ⟨ab, 12, none⟩ = _ := hT6.cell 3 (by show 3 < 8; decide); have e13 : w6.cell? ⟨ab, 13, none⟩ = _ := hT6.cell 4 (by show 4 < 8; decide); have e14 : w6.cell? ⟨ab, 14, none⟩ = _ := hT6.cell 5 (by show 5 < 8; decide); have e15 : w6.cell? ⟨ab, 15, none⟩ = _ := hT6.cell 6 (by show 6 < 8; decide); have z12 := hT6.talk.z 12; have z13 := hT6.talk.z 13; have z14 := hT6.talk.z 14; have z15 := hT6.talk.z 15; clear hT6))
        rename_i hHeld
        obtain ⟨W7, hW7⟩ : ∃ W7, (((w6.setCell ⟨ab, 12, none⟩ (.int .i64 t1)).setCell ⟨ab, 13, none⟩ (.int .i64 t2)).setCell ⟨ab, 14, none⟩ (.string s)).setCell ⟨ab, 15, none⟩ (.bool f) = W7 := ⟨_, rfl⟩
        have hX7 := ((((H3.out.1.below HF.out.1 (Nat.le_refl _)).set 3 (by show 3 < 8; decide) (.int .i64 t1)).set 4 (by show 4 < 8; decide) (.int .i64 t2)).set 5 (by show 5 < 8; decide) (.string s)).set 6 (by show 6 < 8; decide) (.bool f)
        have hk67 : KeptBut (fun b => b = ab) w3 W7 := by
          rw [← hW7]
          have hk := KeptBut.of_below (F := fun b => b = ab) HF.out.1 (fun k h1 h2 => by omega)
          exact (((hk.set1 (p := ⟨ab, 12, none⟩) rfl _).set1 (p := ⟨ab, 13, none⟩) rfl _).set1 (p := ⟨ab, 14, none⟩) rfl _).set1 (p := ⟨ab, 15, none⟩) rfl _
        obtain ⟨b3, hb3⟩ : ∃ b3 : AskS, (⟨t', who, false, true, n2, k2, mem2, 0, (t1, t2), s, f⟩ : AskS) = b3 := ⟨_, rfl⟩
        have hch : chooseT ⟨t', who, false, true, n2, k2, mem2, 0, tag, text, found⟩ = b3 := by
          unfold chooseT
          rw [if_neg (show ¬ ((false : Bool) = true) by decide)]
          dsimp only
          rw [← HF.out.2, ← hb3]
        have hts : s.size ≤ 1000 := by
          have h9 := choose_size (a := ⟨t', who, false, true, n2, k2, mem2, 0, tag, text, found⟩) H.out.2.2.2.1
          rw [hch, ← hb3] at h9
          exact h9
        have hX7' : TalkX (grownF F w2.drew w3) W7 ab bm ma mc t' (carV na nc b3) := by
          rw [← hb3, ← hW7]
          exact hX7
        rw [hW7]
        have c16 : W7.cell? ⟨ab, 16, none⟩ = some (.string ⟨#[115, 101, 97, 108, 105, 110, 103]⟩) := by
          have h9 := hX7'.cell 7 (by show 7 < 8; decide)
          rw [← hb3] at h9
          exact h9
        have c15 : W7.cell? ⟨ab, 15, none⟩ = some (.bool f) := by
          have h9 := hX7'.cell 6 (by show 6 < 8; decide)
          rw [← hb3] at h9
          exact h9
        have z16 := hX7'.talk.z 16
        have hkw7 : KeptBut (fun b => b = ab ∨ b = bm) w W7 := H3.out.2.1.trans (hk67.mono fun b _ e => .inl e)
        have hWW7 : Below W0.heap.size W0 W7 := H3.out.2.2.2.trans (hk67.below H3.out.2.2.2.size (fun b e => by rw [e]; exact HA.out.2.2.2.2.2.2.2.1 ab H.out.1.talk.hF))
        have H7 := Lib.hid (And.intro hX7' (And.intro hkw7 (And.intro hWW7 (And.intro hb3 (And.intro hch hts)))))
        clear hHeld hX7 hX7' hk67 hW7 d4 d5 d6 e4 e5 e6 e12 e13 e14 e15 z12 z13 z14 z15 c4 c5 c6 HF HBe d15 hch hts hb3 hkw7 hWW7 Hto HB4
        have hct : chooseT { (⟨t, who, false, true, n2, k2, mem2, 0, tag, text, found⟩ : AskS) with t := takeT t ⟨fr, dst, kind, key, op, cf, sl, L⟩ } = b3 := by
          rw [← H7.out.2.2.2.2.1, ← Hm.out.2.1]
        have Hct := Lib.hid hct
        clear hct
        cases f with
        | false =>
          have hkr : KeptBut (fun b => b = ab ∨ b = bm) w (W7.setCell ⟨ab, 16, none⟩ (.string ⟨#[100, 111, 110, 101]⟩)) := H7.out.2.1.set1 (p := ⟨ab, 16, none⟩) (.inl rfl) _
          have hXr := H7.out.1.set 7 (by show 7 < 8; decide) (.string ⟨#[100, 111, 110, 101]⟩)
          have hXr' : TalkX (grownF F w2.drew w3) (W7.setCell ⟨ab, 16, none⟩ (.string ⟨#[100, 111, 110, 101]⟩)) ab bm ma mc ({ b3 with st := 2 } : AskS).t (carV na nc { b3 with st := 2 }) := by
            have e : carV na nc { b3 with st := 2 } = (carV na nc b3).set 7 (.string ⟨#[100, 111, 110, 101]⟩) := by rw [← H7.out.2.2.2.1]; rfl
            rw [e]
            have e2 : ({ b3 with st := 2 } : AskS).t = t' := by rw [← H7.out.2.2.2.1]
            rw [e2]
            exact hXr
          have HR := Lib.hid (And.intro hkr hXr')
          clear hkr hXr hXr'
          go_wp2
          go_ret
          exact CarPost.mk H.out.2.2.2.2.2.2.2.2.2.2 (a' := { b3 with st := 2 }) (by rw [hear_none' rfl H.out.2.2.2.2.2.1 (.inr ⟨rfl, rfl⟩) Heb.out (by rw [Hct.out, ← H7.out.2.2.2.1]), Hct.out]) (by rw [← H7.out.2.2.2.1]) (fun _ hb => .inl hb) H3.out.2.2.1 (.inl rfl) HR.out.1 HR.out.2 (RetMsgs.nil _ _)
        | true =>
          have hwr : (0 : Int) ≤ t'.cf ∧ t'.cf < 9223372036854775807 := by rw [Hm.out.2.2]; exact (HA.out.2.2.2.2.2.2.2.2 (by trivial)).1
          obtain ⟨hw1, hw2⟩ := hwr
          have hC7 := H7.out.1.cells
          have c3 : W7.cell? ⟨ab, 3, none⟩ = some (.int .i64 t'.cf) := H7.out.1.talk.c3
          have c4 := H7.out.1.talk.c4
          have c5 := H7.out.1.talk.c5
          have c6 := H7.out.1.talk.c6
          have c9 : W7.cell? ⟨ab, 9, none⟩ = some (.int .i64 (n2 : Nat)) := by
            have h9 := H7.out.1.cell 0 (by show 0 < 8; decide)
            rw [← H7.out.2.2.2.1] at h9
            exact h9
          have c10 : W7.cell? ⟨ab, 10, none⟩ = some (.int .i64 (k2 : Nat)) := by
            have h9 := H7.out.1.cell 1 (by show 1 < 8; decide)
            rw [← H7.out.2.2.2.1] at h9
            exact h9
          have c11 : W7.cell? ⟨ab, 11, none⟩ = some (.slice na mem2.length nc) := by
            have h9 := H7.out.1.cell 2 (by show 2 < 8; decide)
            rw [← H7.out.2.2.2.1] at h9
            exact h9
          have z3 := H7.out.1.talk.z 3
          have z4 := H7.out.1.talk.z 4
          have z5 := H7.out.1.talk.z 5
          have z6 := H7.out.1.talk.z 6
          obtain ⟨w8, hw8⟩ : ∃ w8, ((((W7.setCell ⟨ab, 16, none⟩ (.string ⟨#[107, 101, 101, 112, 105, 110, 103]⟩)).setCell ⟨ab, 4, none⟩ (.int .i64 (n2 : Nat))).setCell ⟨ab, 5, none⟩ (.int .i64 (k2 : Nat))).setCell ⟨ab, 6, none⟩ (.slice na mem2.length nc)).setCell ⟨ab, 3, none⟩ (.int .i64 (t'.cf + 1)) = w8 := ⟨_, rfl⟩
          have hC8 := ((((hC7.set 16 (by show 16 < 17; decide) (.string ⟨#[107, 101, 101, 112, 105, 110, 103]⟩)).set 4 (by rw [List.length_set]; show 4 < 17; decide) (.int .i64 (n2 : Nat))).set 5 (by rw [List.length_set, List.length_set]; show 5 < 17; decide) (.int .i64 (k2 : Nat))).set 6 (by rw [List.length_set, List.length_set, List.length_set]; show 6 < 17; decide) (.slice na mem2.length nc)).set 3 (by rw [List.length_set, List.length_set, List.length_set, List.length_set]; show 3 < 17; decide) (.int .i64 (t'.cf + 1))
          rw [hw8] at hC8
          have hk78 : KeptBut (fun b => b = ab) W7 w8 := by
            rw [← hw8]
            exact (((((KeptBut.refl (fun b => b = ab) W7).set1 (p := ⟨ab, 16, none⟩) rfl _).set1 (p := ⟨ab, 4, none⟩) rfl _).set1 (p := ⟨ab, 5, none⟩) rfl _).set1 (p := ⟨ab, 6, none⟩) rfl _).set1 (p := ⟨ab, 3, none⟩) rfl _
          have hkw8 : KeptBut (fun b => b = ab ∨ b = bm) w w8 := H7.out.2.1.trans (hk78.mono fun b _ e => .inl e)
          have hM8 := H.out.2.2.2.2.2.2.2.2.2.2.m2.kept (F' := grownF F w2.drew w3) (fun _ hb => .inl hb) (.inl rfl) hkw8
          obtain ⟨t8, ht8⟩ : ∃ t8 : TalkS, ({ t' with n := n2, k := k2, mem := mem2, cf := t'.cf + 1 } : TalkS) = t8 := ⟨_, rfl⟩
          obtain ⟨b8, hb8⟩ : ∃ b8 : AskS, (⟨t8, who, false, true, n2, k2, mem2, 1, (t1, t2), s, true⟩ : AskS) = b8 := ⟨_, rfl⟩
          have hX8 : TalkX (grownF F w2.drew w3) w8 ab bm na nc t8 (carV na nc b8) := H7.out.1.turnC hk78 (by
            rw [← hb8, ← ht8]
            rw [← H7.out.2.2.2.1] at hC8
            exact hC8) (by rw [← ht8]) (by rw [← ht8]; exact hM8.2) (by rw [← ht8]; exact hM8.1)
          have hW8 : Below W0.heap.size W0 w8 := H7.out.2.2.1.trans (hk78.below H7.out.2.2.1.size (fun b e => by rw [e]; exact HA.out.2.2.2.2.2.2.2.1 ab H.out.1.talk.hF))
          have Hst := Lib.hid (start_walk w8 ab kKept _ _ hX8.talk.c7 hX8.talk.c8 hX8.talk.z)
          have H8 := Lib.hid (And.intro hX8 (And.intro hkw8 (And.intro hW8 (And.intro hw8 (And.intro ht8 hb8)))))
          unfold kKept at Hst
          clear hX8 hkw8 hM8 hk78 hC8 hC7 hW8 hb8
          go_wp2_with fail
          clear hw8 ht8 c3 c4 c5 c6 c9 c10 c11 z3 z4 z5 z6 c15 c16 z16
          refine Hst.out.mono ?_
          rintro e w6 ⟨rfl, rfl⟩
          have hX6 := H8.out.1.start kKept
          have hk6 := startW_kept w8 ab kKept
          have hsz6 := startW_size w8 ab kKept
          obtain ⟨w6, hw6⟩ : ∃ w6, startW w8 ab kKept = w6 := ⟨_, rfl⟩
          have hw6' := hw6
          unfold startW kKept at hw6'
          rw [hw6']
          rw [hw6] at hX6 hk6 hsz6
          have c9 : w6.cell? ⟨ab, 12, none⟩ = some (.int .i64 t1) := by
            have h9 := hX6.cell 3 (by show 3 < 8; decide)
            rw [← H8.out.2.2.2.2.2] at h9
            exact h9
          have c10 : w6.cell? ⟨ab, 13, none⟩ = some (.int .i64 t2) := by
            have h9 := hX6.cell 4 (by show 4 < 8; decide)
            rw [← H8.out.2.2.2.2.2] at h9
            exact h9
          have c11 : w6.cell? ⟨ab, 14, none⟩ = some (.string s) := by
            have h9 := hX6.cell 5 (by show 5 < 8; decide)
            rw [← H8.out.2.2.2.2.2] at h9
            exact h9
          have hW6 : Below W0.heap.size W0 w6.drew := (H8.out.2.2.1.trans (hk6.below H8.out.2.2.1.size (fun b e => by rw [e]; exact HA.out.2.2.2.2.2.2.2.1 ab H.out.1.talk.hF))).drew
          have hokb : TalkOk { t8 with wait := kKept, got := [] } := ⟨by rw [← H8.out.2.2.2.2.1]; exact (HA.out.2.2.2.2.2.2.2.2 (by trivial)).2, List.nodup_nil, fun p hp => by cases hp⟩
          have Hkp := Lib.hid (keep_walk _ w6.drew ab w8.heap.size na nc { t8 with wait := kKept, got := [] } (t1, t2) s (hX6.talk.below (Below.refl w6.heap.size w6).drew (Nat.le_refl _)) hokb H7.out.2.2.2.2.2 E (HA.out.2.2.2.2.2.1.below hW6 (Nat.le_refl _)).ez)
          have KC : Hid (∀ W, Below w6.heap.size w6 W → W.cell? ⟨ab, 12, none⟩ = some (.int .i64 t1) ∧ W.cell? ⟨ab, 13, none⟩ = some (.int .i64 t2) ∧ W.cell? ⟨ab, 14, none⟩ = some (.string s)) := Lib.hid fun W hb => by
            have c : ∀ {p : Addr} {v}, w6.cell? p = some v → W.cell? p = some v := fun {p v} h => (hb.cell (lt_of_cell h)).trans h
            exact ⟨c c9, c c10, c c11⟩
          have hk6w : KeptBut (fun b => b = ab ∨ b = bm) w w6 := H8.out.2.1.trans (hk6.mono fun b _ e => .inl e)
          have H6 := Lib.hid (And.intro hX6 (And.intro hk6w hsz6))
          clear hX6 hk6 hsz6 hw6 hw6' hW6 hokb hk6w Hst
          go_wp2
          go_region_held3 (fun W => W.cell? ⟨ab, 12, none⟩ = some (.int .i64 t1) ∧ W.cell? ⟨ab, 13, none⟩ = some (.int .i64 t2) ∧ W.cell? ⟨ab, 14, none⟩ = some (.string s))
            (first | exact ⟨c9, c10, c11⟩ | exact KC.out _ (Below.refl _ _).drew | exact KC.out _ kr7)
            (first | (go_at_call 48; refine Hkp.out.mono ?_; rintro e w7 ⟨hb7, a7, cp7, rfl, r1, r2, r3, r4⟩; have kr7 : Below w6.heap.size w6 w7 := (Below.refl _ _).drew.trans hb7; have HZ := Lib.hid (And.intro r1 (And.intro r2 (And.intro r3 r4))); clear hb7 r1 r2 r3 r4))
          rename_i hHeld
          have HK7 := Lib.hid kr7
          clear hHeld c9 c10 c11 kr7
          go_wp2
          go_ret
          have hks : keepS b3 = { b8 with t := { t8 with wait := kKept, got := [] } } := by
            rw [← H7.out.2.2.2.1, ← H8.out.2.2.2.2.2, ← H8.out.2.2.2.2.1]
            unfold keepS
            rw [if_pos rfl]
          refine CarPost.mk (F' := fun b => grownF F w2.drew w3 b ∨ b = w8.heap.size) (bm' := w8.heap.size) (ma' := na) (mc' := nc) H.out.2.2.2.2.2.2.2.2.2.2 (a' := keepS b3) (l := keepT (keepS b3).t (keepS b3).tag (keepS b3).text) (by rw [hear_keep rfl H.out.2.2.2.2.2.1 (.inr ⟨rfl, rfl⟩) Heb.out (by rw [Hct.out, ← H7.out.2.2.2.1]), Hct.out]) (by rw [hks, ← H8.out.2.2.2.2.2]) (fun _ hb => .inl (.inl hb)) (fun b hb => ?_) (.inr H8.out.2.1.size) (H6.out.2.1.trans (KeptBut.of_below HK7.out (fun k h1 h2 => by omega))) ?_ ?_
          · rcases hb with hb | hb
            · exact H3.out.2.2.1 b hb
            · right; rw [hb]; exact H8.out.2.1.size
          · rw [hks]
            have e : carV na nc { b8 with t := { t8 with wait := kKept, got := [] } } = carV na nc b8 := rfl
            rw [e]
            exact H6.out.1.below HK7.out (Nat.le_refl _)
          · rw [hks, ← H8.out.2.2.2.2.2]
            refine ⟨a7, cp7, rfl, HZ.out.1, HZ.out.2.1, HZ.out.2.2.1, HZ.out.2.2.2.mono (fun b _ hb => ?_)⟩
            have hb' : w6.heap.size ≤ b := hb
            refine ⟨Nat.le_trans H6.out.2.1.size hb', fun h9 => ?_⟩
            have := H6.out.1.talk.lt b h9
            omega
  · have c15' : W1.cell? ⟨ab, 16, none⟩ = some (.string ⟨#[107, 101, 101, 112, 105, 110, 103]⟩) := c15
    clear c15
    have c15 := c15'
    clear c15'
    have k15 := cell_regrown c15
    cases fb with
    | false =>
      refine wp_region_quiet_below (by kernel_rfl) (by kernel_rfl) ?_
      repeat (go_big_quiet_step (first | exact Cf _ _))
      refine wpQuiet_nil ?_
      intro w2 hw'
      obtain ⟨⟨dq, osq⟩, hw2⟩ := hw'
      have H2 := Lib.hid (show Below W1.heap.size W1 w2 by rw [hw2]; exact below_regrown W1 dq osq)
      clear hw2 k0 k1 k2 k3 k4 k5 k6 k7 k15 c15 Cf
      go_wp2
      go_ret
      exact CarPost.mk H.out.2.2.2.2.2.2.2.2.2.2 (hear_no (.inr H.out.2.2.2.2.2.1)) rfl (fun _ hb => hb) (fun b hb => .inl hb) (.inl rfl) (KeptBut.of_below (H.out.2.2.2.2.2.2.1.trans (H2.out.mono H.out.2.2.2.2.2.2.1.size)) (fun k h1 h2 => by omega)) (H.out.2.1.below H2.out (Nat.le_refl _)) (RetMsgs.nil _ _)
    | true =>
      refine wp_region_quiet_below (by kernel_rfl) (by kernel_rfl) ?_
      repeat (go_big_quiet_step (first | exact Cf _ _))
      refine wpQuiet_nil ?_
      intro w2 hw'
      obtain ⟨⟨dq, osq⟩, hw2⟩ := hw'
      have H2 := Lib.hid (show Below W1.heap.size W1 w2 by rw [hw2]; exact below_regrown W1 dq osq)
      clear hw2 k0 k1 k2 k3 k4 k5 k6 k7 k15 c15 Cf
      have hX2 := H.out.2.1.below H2.out (Nat.le_refl _)
      obtain ⟨q0, q1, q2, q3, q4, q5, q6, q7⟩ := KS.out w2 H2.out
      have d15 : w2.cell? ⟨ab, 16, none⟩ = some (.string ⟨#[107, 101, 101, 112, 105, 110, 103]⟩) := hX2.cell 7 (by show 7 < 8; decide)
      have z15 := hX2.talk.z 16
      have HX2 := Lib.hid hX2
      clear hX2
      
      cases sl with
      | true =>
        have hkr : KeptBut (fun b => b = ab ∨ b = bm) w (w2.setCell ⟨ab, 16, none⟩ (.string ⟨#[114, 101, 102, 117, 115, 101, 100]⟩)) := (KeptBut.of_below (F := fun b => b = ab ∨ b = bm) (H.out.2.2.2.2.2.2.1.trans (H2.out.mono H.out.2.2.2.2.2.2.1.size)) (fun k h1 h2 => by omega)).set1 (p := ⟨ab, 16, none⟩) (.inl rfl) _
        have hXr := HX2.out.set 7 (by show 7 < 8; decide) (.string ⟨#[114, 101, 102, 117, 115, 101, 100]⟩)
        have HR := Lib.hid (And.intro hkr hXr)
        clear hkr hXr
        go_wp2
        go_ret
        exact CarPost.mk H.out.2.2.2.2.2.2.2.2.2.2 (hear_sealed (by show 1 < 2; decide) H.out.2.2.2.2.2.1 rfl (by simp)) rfl (fun _ hb => hb) (fun b hb => .inl hb) (.inl rfl) HR.out.1 HR.out.2 (RetMsgs.nil _ _)
      | false =>
        have hnew := (fits_mem H.out.2.2.2.2.2.1).2
        have hbw : Below w.heap.size w w2.drew := (H.out.2.2.2.2.2.2.1.trans (H2.out.mono H.out.2.2.2.2.2.2.1.size)).drew
        have hW2 : Below W0.heap.size W0 w2.drew := HA.out.2.2.2.2.2.2.1.trans (hbw.mono HA.out.2.2.2.2.2.2.1.size)
        have Htk := Lib.hid (take_walk F w2.drew ab bm ma mc t fr dst kind key op cf false ad len cap L (HX2.out.talk.below (Below.refl w2.heap.size w2).drew (Nat.le_refl _)) H.out.2.2.1 HA.out.1 hnew HA.out.2.1 HA.out.2.2.1 (by have := H.out.2.2.2.2.1; have := HA.out.2.1; omega) HA.out.2.2.2.1 ((HA.out.2.2.2.2.1.below hbw).mono hbw.size) E W0 HA.out.2.2.2.2.2.1.qx hW2 HA.out.2.2.2.2.2.2.2.1)
        have HB := Lib.hid (And.intro hbw hW2)
        clear hnew hbw hW2
        go_wp2
        go_region_held3 (fun W => W.cell? ⟨xb, 0, none⟩ = some (.string fr) ∧ W.cell? ⟨xb, 1, none⟩ = some (.string dst) ∧ W.cell? ⟨xb, 2, none⟩ = some (.string kind) ∧ W.cell? ⟨xb, 3, none⟩ = some (.string key) ∧ W.cell? ⟨xb, 4, none⟩ = some (.int .i64 op) ∧ W.cell? ⟨xb, 5, none⟩ = some (.int .i64 cf) ∧ W.cell? ⟨xb, 6, none⟩ = some (.bool false) ∧ W.cell? ⟨xb, 7, none⟩ = some (.slice ad len cap))
          (first | exact ⟨q0, q1, q2, q3, q4, q5, q6, q7⟩ | exact KS.out _ H2.out.drew | exact ⟨p0, p1, p2, p3, p4, p5, p6, p7⟩)
          (first | (go_at_call 45; refine Htk.out.mono ?_; rintro e w3 ⟨rfl, hT3, hk3⟩; obtain ⟨⟨p0, p1, p2, p3, p4, p5, p6, p7⟩, HT3⟩ : (w3.cell? ⟨xb, 0, none⟩ = some (.string fr) ∧ w3.cell? ⟨xb, 1, none⟩ = some (.string dst) ∧ w3.cell? ⟨xb, 2, none⟩ = some (.string kind) ∧ w3.cell? ⟨xb, 3, none⟩ = some (.string key) ∧ w3.cell? ⟨xb, 4, none⟩ = some (.int .i64 op) ∧ w3.cell? ⟨xb, 5, none⟩ = some (.int .i64 cf) ∧ w3.cell? ⟨xb, 6, none⟩ = some (.bool false) ∧ w3.cell? ⟨xb, 7, none⟩ = some (.slice ad len cap)) ∧ Hid (TalkAt (grownF F w2.drew w3) w3 ab bm ma mc (takeT t ⟨fr, dst, kind, key, op, cf, false, L⟩) ∧ KeptBut (fun b => b = bm) w2.drew w3) := by {
            have hne : xb ≠ bm := fun e => by { have := H.out.1.talk.lt bm H.out.1.talk.bF; have := H.out.2.2.2.2.2.2.2.2.1; omega }
            exact ⟨⟨hk3.cell (p := ⟨xb, 0, none⟩) q0 hne, hk3.cell (p := ⟨xb, 1, none⟩) q1 hne, hk3.cell (p := ⟨xb, 2, none⟩) q2 hne, hk3.cell (p := ⟨xb, 3, none⟩) q3 hne, hk3.cell (p := ⟨xb, 4, none⟩) q4 hne, hk3.cell (p := ⟨xb, 5, none⟩) q5 hne, hk3.cell (p := ⟨xb, 6, none⟩) q6 hne, hk3.cell (p := ⟨xb, 7, none⟩) q7 hne⟩, Lib.hid ⟨hT3, hk3⟩⟩ }; clear hT3 hk3))
        rename_i hHeld
        clear hHeld q0 q1 q2 q3 q4 q5 q6 q7 p0 p1 p2 p3 p4 p5 p6 p7 d15 z15 Htk
        have hX3 := (HX2.out.below (Below.refl w2.heap.size w2).drew (Nat.le_refl _)).turn HT3.out.1 HT3.out.2
        have d15 : w3.cell? ⟨ab, 16, none⟩ = some (.string ⟨#[107, 101, 101, 112, 105, 110, 103]⟩) := hX3.cell 7 (by show 7 < 8; decide)
        have z15 := hX3.talk.z 16
        have hkw3 : KeptBut (fun b => b = ab ∨ b = bm) w w3 := (KeptBut.of_below HB.out.1 (fun k h1 h2 => by omega)).trans (HT3.out.2.mono fun b _ e => .inr e)
        have hF3 : ∀ b, grownF F w2.drew w3 b → F b ∨ w.heap.size ≤ b := fun b hb => hb.imp id (fun h9 => Nat.le_trans HB.out.1.size h9.1)
        have hW3 : Below W0.heap.size W0 w3 := HB.out.2.trans (HT3.out.2.below HB.out.2.size (fun b e => by rw [e]; exact HA.out.2.2.2.2.2.2.2.1 bm H.out.1.talk.bF))
        have H3 := Lib.hid (And.intro hX3 (And.intro hkw3 (And.intro hF3 hW3)))
        obtain ⟨eb, heb⟩ : ∃ eb, enoughB (takeT t ⟨fr, dst, kind, key, op, cf, false, L⟩) = eb := ⟨_, rfl⟩
        rw [heb]
        have Heb := Lib.hid heb
        clear heb hX3 hkw3 hF3 hW3 HT3
        cases eb with
        | false =>
          go_wp2
          go_ret
          exact CarPost.mk H.out.2.2.2.2.2.2.2.2.2.2 (hear_few (by show 1 < 2; decide) H.out.2.2.2.2.2.1 (.inl rfl) Heb.out) rfl (fun _ hb => .inl hb) H3.out.2.2.1 (.inl rfl) H3.out.2.1 H3.out.1 (RetMsgs.nil _ _)
        | true =>
          have hkr : KeptBut (fun b => b = ab ∨ b = bm) w (w3.setCell ⟨ab, 16, none⟩ (.string ⟨#[100, 111, 110, 101]⟩)) := H3.out.2.1.set1 (p := ⟨ab, 16, none⟩) (.inl rfl) _
          have hXr := H3.out.1.set 7 (by show 7 < 8; decide) (.string ⟨#[100, 111, 110, 101]⟩)
          have HR := Lib.hid (And.intro hkr hXr)
          clear hkr hXr
          go_wp2
          go_ret
          exact CarPost.mk H.out.2.2.2.2.2.2.2.2.2.2 (hear_done rfl H.out.2.2.2.2.2.1 rfl Heb.out) rfl (fun _ hb => .inl hb) H3.out.2.2.1 (.inl rfl) HR.out.1 HR.out.2 (RetMsgs.nil _ _)
  · have c15' : W1.cell? ⟨ab, 16, none⟩ = some (.string ⟨#[100, 111, 110, 101]⟩) := c15
    clear c15
    have c15 := c15'
    clear c15'
    have k15 := cell_regrown c15
    refine wp_region_quiet_below (by kernel_rfl) (by kernel_rfl) ?_
    repeat (go_big_quiet_step (first | exact Cf _ _))
    refine wpQuiet_nil ?_
    intro w2 hw'
    obtain ⟨⟨dq, osq⟩, hw2⟩ := hw'
    have H2 := Lib.hid (show Below W1.heap.size W1 w2 by rw [hw2]; exact below_regrown W1 dq osq)
    clear hw2 k0 k1 k2 k3 k4 k5 k6 k7 k15 c15 Cf
    go_wp2
    go_ret
    exact CarPost.mk H.out.2.2.2.2.2.2.2.2.2.2 (hear_no (.inl (by show 2 ≤ 2; decide))) rfl (fun _ hb => hb) (fun b hb => .inl hb) (.inl rfl) (KeptBut.of_below (H.out.2.2.2.2.2.2.1.trans (H2.out.mono H.out.2.2.2.2.2.2.1.size)) (fun k h1 h2 => by omega)) (H.out.2.1.below H2.out (Nat.le_refl _)) (RetMsgs.nil _ _)
  · have c15' : W1.cell? ⟨ab, 16, none⟩ = some (.string ⟨#[114, 101, 102, 117, 115, 101, 100]⟩) := c15
    clear c15
    have c15 := c15'
    clear c15'
    have k15 := cell_regrown c15
    refine wp_region_quiet_below (by kernel_rfl) (by kernel_rfl) ?_
    repeat (go_big_quiet_step (first | exact Cf _ _))
    refine wpQuiet_nil ?_
    intro w2 hw'
    obtain ⟨⟨dq, osq⟩, hw2⟩ := hw'
    have H2 := Lib.hid (show Below W1.heap.size W1 w2 by rw [hw2]; exact below_regrown W1 dq osq)
    clear hw2 k0 k1 k2 k3 k4 k5 k6 k7 k15 c15 Cf
    go_wp2
    go_ret
    exact CarPost.mk H.out.2.2.2.2.2.2.2.2.2.2 (hear_no (.inl (by show 2 ≤ 3; decide))) rfl (fun _ hb => hb) (fun b hb => .inl hb) (.inl rfl) (KeptBut.of_below (H.out.2.2.2.2.2.2.1.trans (H2.out.mono H.out.2.2.2.2.2.2.1.size)) (fun k h1 h2 => by omega)) (H.out.2.1.below H2.out (Nat.le_refl _)) (RetMsgs.nil _ _)
end
end Go.Proofs.YtabboioamdphmaaGreatDoor

