/- The walk of the document's Hear (the mover's). -/
import Derived.Test.YtabboioamdphmaaGreatDoorSCarryHears32
import Derived.Test.YtabboioamdphmaaGreatDoorSCarryHears36
import Derived.Test.YtabboioamdphmaaGreatDoorSCarryHears40
import Derived.Test.YtabboioamdphmaaGreatDoorSCarryHears43
namespace Go.Proofs.YtabboioamdphmaaGreatDoor
section
open Go.RowKit Go.Maps Go.BigFrame

set_option maxRecDepth 100000 in
set_option maxHeartbeats 16000000 in
theorem mhear2_true (S F : Nat → Prop) (w : World) (mo : Nat) (ma : Option Addr) (mc : Nat) (na : Option Addr) (nc : Nat) (fv lv : Value) (us : List Value) (a : AskS) (fr dst kind key : ByteArray) (op cf : Int) (ad : Option Addr) (len cap : Nat) (L : List Ver) (h : RAskAt S F w mo ma mc na nc fv lv us a) (hok : TalkOk a.t) (hmv : a.moves = true) (hst : a.st ≤ 3) (hwt : a.st < 2 → a.t.wait = waitT a) (htx : a.text.size ≤ 1000)
    (htot : totV (a.t.got.map (·.2)) + L.length ≤ 1000000) (hlen : L.length = len) (ha : ad = none → cap = 0) (hL : VrS (fun b => ¬ F b) w ad L) (hS : ∀ b, S b → b < w.heap.size) (hpt : a.put = false) (hnx : a.st = 0 → (0 ≤ a.t.cf ∧ a.t.cf < 9223372036854775807) ∧ configF (a.n2 : Int) (a.k2 : Int) a.mem2 = (0, -1)) :
    Calls Tryz.prog 20 #[.pointer (some ⟨mo, 0, none⟩), .agg #[.string fr, .string dst, .string kind, .string key, .int .i64 op, .int .i64 cf, .bool true, .slice ad len cap]] w fun e w' => RAskPost S F w w' mo na nc a ⟨fr, dst, kind, key, op, cf, true, L⟩ e := by
  obtain ⟨⟨name, tkey, top, tcf, n, k, mem, wait, got⟩, who, put, moves, n2, k2, mem2, st, tag, text, found⟩ := a
  dsimp only at h hok hmv hst htx htot hwt hpt hnx
  subst hmv hpt
  obtain ⟨W1, hW1⟩ : ∃ W1, w.alloc (.cells #[.string fr, .string dst, .string kind, .string key, .int .i64 op, .int .i64 cf, .bool true, .slice ad len cap] 57) = W1 := ⟨_, rfl⟩
  obtain ⟨xb, hxb⟩ : ∃ xb, w.heap.size = xb := ⟨_, rfl⟩
  have hb1 : Below w.heap.size w W1 := by rw [← hW1]; exact (Below.refl _ _).alloc (Nat.le_refl _) _
  have r0 : W1.cell? ⟨xb, 0, none⟩ = some (.string fr) := by rw [← hW1, ← hxb]; simp
  have r1 : W1.cell? ⟨xb, 1, none⟩ = some (.string dst) := by rw [← hW1, ← hxb]; simp
  have r2 : W1.cell? ⟨xb, 2, none⟩ = some (.string kind) := by rw [← hW1, ← hxb]; simp
  have r3 : W1.cell? ⟨xb, 3, none⟩ = some (.string key) := by rw [← hW1, ← hxb]; simp
  have r4 : W1.cell? ⟨xb, 4, none⟩ = some (.int .i64 op) := by rw [← hW1, ← hxb]; simp
  have r5 : W1.cell? ⟨xb, 5, none⟩ = some (.int .i64 cf) := by rw [← hW1, ← hxb]; simp
  have r6 : W1.cell? ⟨xb, 6, none⟩ = some (.bool true) := by rw [← hW1, ← hxb]; simp
  have r7 : W1.cell? ⟨xb, 7, none⟩ = some (.slice ad len cap) := by rw [← hW1, ← hxb]; simp
  have hs1 : W1.heap.size = xb + 1 := by rw [← hW1, ← hxb]; simp
  have hX1 := h.below hb1 (Nat.le_refl _)
  have KS : Hid (∀ W G, KeptBut G W1 W → ¬ G xb → W.cell? ⟨xb, 0, none⟩ = some (.string fr) ∧ W.cell? ⟨xb, 6, none⟩ = some (.bool true) ∧ W.cell? ⟨xb, 7, none⟩ = some (.slice ad len cap)) := Lib.hid fun W G hk hg => ⟨hk.cell r0 hg, hk.cell r6 hg, hk.cell r7 hg⟩
  have d13 : W1.cell? ⟨mo, 13, none⟩ = some (.string (stT ⟨⟨name, tkey, top, tcf, n, k, mem, wait, got⟩, who, false, true, n2, k2, mem2, st, tag, text, found⟩)) := hX1.cs.cell 13 (by show 13 < 20; decide)
  have Hwa := Lib.hid (rwaits_walk W1 mo _ hst d13)
  have d0 : W1.cell? ⟨mo, 0, none⟩ = some (.string name) := hX1.cs.cell 0 (by show 0 < 20; decide)
  have d1 : W1.cell? ⟨mo, 1, none⟩ = some (.string tkey) := hX1.cs.cell 1 (by show 1 < 20; decide)
  have d3 : W1.cell? ⟨mo, 3, none⟩ = some (.int .i64 top) := hX1.cs.cell 3 (by show 3 < 20; decide)
  have d4 : W1.cell? ⟨mo, 4, none⟩ = some (.int .i64 tcf) := hX1.cs.cell 4 (by show 4 < 20; decide)
  have hgn := hok.nd
  have H := Lib.hid (And.intro h (And.intro hX1 (And.intro hok (And.intro htx (And.intro htot (And.intro hb1 (And.intro hW1 (And.intro hxb hs1))))))))
  have HA := Lib.hid (And.intro hlen (And.intro ha (And.intro hL (And.intro hS (And.intro hwt hnx)))))
  have hcs : st = 0 ∨ st = 1 ∨ st = 2 ∨ st = 3 := by omega
  have hmo1 := hX1.cs.lt
  clear hlen ha h hX1 hok htx htot hb1 hW1 hxb hs1 hst hL hS hwt hnx d13 hgn
  go_enter Tryz.func20, Tryz.ntmps20
  go_wp2_with fail
  rw [H.out.2.2.2.2.2.2.1, H.out.2.2.2.2.2.2.2.1]
  refine Hwa.out.mono ?_
  rintro e w1 ⟨rfl, rfl⟩
  have k1 := cell_regrown r1
  have k2' := cell_regrown r2
  have k3 := cell_regrown r3
  have k4 := cell_regrown r4
  have k5 := cell_regrown r5
  have t0 := cell_regrown d0
  have t1 := cell_regrown d1
  have t3 := cell_regrown d3
  have t4 := cell_regrown d4
  rcases hcs with rfl | rfl | rfl | rfl
  · rw [show rwaitT ⟨⟨name, tkey, top, tcf, n, k, mem, wait, got⟩, who, false, true, n2, k2, mem2, 0, tag, text, found⟩ = (⟨#[115, 101, 97, 108, 101, 100]⟩ : ByteArray) from rfl]
    have hwt : wait = (⟨#[115, 101, 97, 108, 101, 100]⟩ : ByteArray) := HA.out.2.2.2.2.1 (by first | decide | trivial)
    subst hwt
    obtain ⟨fb, hfb⟩ : ∃ fb, fitsB ⟨name, tkey, top, tcf, n, k, mem, ⟨#[115, 101, 97, 108, 101, 100]⟩, got⟩ ⟨fr, dst, kind, key, op, cf, true, L⟩ = fb := ⟨_, rfl⟩
    have hf : fb = (decide (dst = name ∧ key = tkey ∧ op = top ∧ cf = tcf ∧ kind = (⟨#[115, 101, 97, 108, 101, 100]⟩ : ByteArray)) && !(got.any fun p => decide (p.1 = fr)) && mem.any fun s => decide (s = fr)) := hfb.symm
    have hcs : (fb = false ∧ (((kind.toList == ([115, 101, 97, 108, 101, 100] : List UInt8)) = false ∧ kind ≠ (⟨#[115, 101, 97, 108, 101, 100]⟩ : ByteArray)) ∨ (kind = (⟨#[115, 101, 97, 108, 101, 100]⟩ : ByteArray) ∧ (dst.toList == name.toList) = false ∧ dst ≠ name) ∨ (kind = (⟨#[115, 101, 97, 108, 101, 100]⟩ : ByteArray) ∧ dst = name ∧ (key.toList == tkey.toList) = false ∧ key ≠ tkey) ∨ (kind = (⟨#[115, 101, 97, 108, 101, 100]⟩ : ByteArray) ∧ dst = name ∧ key = tkey ∧ (op != top) = true ∧ op ≠ top) ∨
        (kind = (⟨#[115, 101, 97, 108, 101, 100]⟩ : ByteArray) ∧ dst = name ∧ key = tkey ∧ op = top ∧ (cf != tcf) = true ∧ cf ≠ tcf))) ∨ (fb = (!(got.any fun p => decide (p.1 = fr)) && mem.any fun s => decide (s = fr)) ∧ kind = (⟨#[115, 101, 97, 108, 101, 100]⟩ : ByteArray) ∧ dst = name ∧ key = tkey ∧ op = top ∧ cf = tcf) := by
      rw [hf]
      by_cases e5 : kind = (⟨#[115, 101, 97, 108, 101, 100]⟩ : ByteArray)
      · by_cases e1 : dst = name
        · by_cases e2 : key = tkey
          · by_cases e3 : op = top
            · by_cases e4 : cf = tcf
              · exact .inr ⟨by simp [e1, e2, e3, e4, e5], e5, e1, e2, e3, e4⟩
              · exact .inl ⟨by simp [e4], .inr (.inr (.inr (.inr ⟨e5, e1, e2, e3, by simpa using e4, e4⟩)))⟩
            · exact .inl ⟨by simp [e3], .inr (.inr (.inr (.inl ⟨e5, e1, e2, by simpa using e3, e3⟩)))⟩
          · exact .inl ⟨by simp [e2], .inr (.inr (.inl ⟨e5, e1, txt_neV e2, e2⟩))⟩
        · exact .inl ⟨by simp [e1], .inr (.inl ⟨e5, txt_neV e1, e1⟩)⟩
      · exact .inl ⟨by simp [e5], .inl ⟨by have h := txt_neV e5; rwa [show (⟨#[115, 101, 97, 108, 101, 100]⟩ : ByteArray).toList = [115, 101, 97, 108, 101, 100] from by rw [ByteArray.toList_eq]] at h, e5⟩⟩
    have Hfb := Lib.hid hfb
    clear hf hfb
    rcases hcs with ⟨rfl, hcs⟩ | ⟨hN, rfl, rfl, rfl, rfl, rfl⟩
    · rcases hcs with ⟨e1, e2⟩ | ⟨rfl, e1, e2⟩ | ⟨rfl, rfl, e1, e2⟩ | ⟨rfl, rfl, rfl, e1, e2⟩ | ⟨rfl, rfl, rfl, rfl, e1, e2⟩
      all_goals
        go_wp2
        refine wp_region_quiet_below (by kernel_rfl) (by kernel_rfl) ?_
        repeat (go_big_quiet_step (fail))
        refine wpQuiet_nil ?_
        intro w2 hw'
        obtain ⟨⟨dq, osq⟩, hw2⟩ := hw'
        have H2 := Lib.hid (show Below W1.heap.size W1 w2 by rw [hw2]; exact below_regrown W1 dq osq)
        clear hw2 k1 k2' k3 k4 k5 t0 t1 t3 t4
        go_wp2
        go_ret
        exact ⟨F, ma, mc, fv, lv, us, fun b hb => .inl hb, KeptBut.of_below (H.out.2.2.2.2.2.1.trans (H2.out.mono H.out.2.2.2.2.2.1.size)) (fun k h1 h2 => by omega), by rw [hear_no (.inr Hfb.out)]; exact H.out.2.1.below H2.out (Nat.le_refl _), by rw [hear_no (.inr Hfb.out)]; exact RetMsgs.nil _ _⟩
    · have HN := Lib.hid hN
      clear hN
      go_wp2
      refine wp_region_quiet_below (by kernel_rfl) (by kernel_rfl) ?_
      repeat (go_big_quiet_step (fail))
      refine wpQuiet_nil ?_
      intro w2 hw'
      obtain ⟨⟨dq, osq⟩, hw2⟩ := hw'
      have H2 := Lib.hid (show Below W1.heap.size W1 w2 by rw [hw2]; exact below_regrown W1 dq osq)
      clear hw2 k1 k2' k3 k4 k5 t0 t1 t3 t4
      have hX2 := H.out.2.1.below H2.out (Nat.le_refl _)
      obtain ⟨fa, fc, hfv, f1, f2, f3, f4⟩ := hX2.fr.read
      rw [List.length_map] at hfv f1
      dsimp only at hfv f1
      obtain ⟨g, hg⟩ : ∃ g, got.length = g := ⟨_, rfl⟩
      rw [hg] at hfv f1
      obtain ⟨m, hm⟩ : ∃ m, mem.length = m := ⟨_, rfl⟩
      have d7 : w2.cell? ⟨mo, 7, none⟩ = some (.slice ma mem.length mc) := hX2.cs.cell 7 (by show 7 < 20; decide)
      have d14 : w2.cell? ⟨mo, 14, none⟩ = some fv := hX2.cs.cell 14 (by show 14 < 20; decide)
      rw [hm] at d7
      rw [hfv] at d14
      have q0 := (KS.out w2 (fun b => W1.heap.size ≤ b) (KeptBut.of_below H2.out (fun _ _ h => h)) (by have := H.out.2.2.2.2.2.2.2.2; omega)).1
      have hg12 : g ≤ 12 := by have h1 := got_len H.out.2.2.1; have h2 := talk_cfg H.out.2.2.1; dsimp only at h1 h2; omega
      have hm12 : m ≤ 12 := by have h2 := talk_cfg H.out.2.2.1; dsimp only at h2; omega
      have Ci1 := fun d os => Calls.regrown_of ((ridx_walk w2.heap.size ma m mc mem fr (Go.Sort.grow (redrawn w2 d) os) hm (by unfold maxLen; omega) (hX2.mem.at_.below (below_regrown w2 d os))).mono fun e w' h => ⟨h.1, h.2 ▸ Below.refl _ _⟩)
      have Ci2 := fun d os => Calls.regrown_of ((ridx_walk w2.heap.size fa g fc (got.map (·.1)) fr (Go.Sort.grow (redrawn w2 d) os) (by rw [List.length_map]; exact hg) (by unfold maxLen; omega) (f4.below (below_regrown w2 d os))).mono fun e w' h => ⟨h.1, h.2 ▸ Below.refl _ _⟩)
      have v7 := cell_regrown d7
      have v14 := cell_regrown d14
      have v0 := cell_regrown q0
      have hcs : (idxT mem fr = -1 ∧ fr ∉ mem) ∨ ((∃ q : Nat, idxT mem fr = q) ∧ fr ∈ mem ∧ (∃ q : Nat, idxT (got.map (·.1)) fr = q) ∧ fr ∈ got.map (·.1)) ∨ ((∃ q : Nat, idxT mem fr = q) ∧ fr ∈ mem ∧ idxT (got.map (·.1)) fr = -1 ∧ fr ∉ got.map (·.1)) := by
        have r1 := idxT_range mem fr
        have r2 := idxT_range (got.map (·.1)) fr
        by_cases h1 : fr ∈ mem
        · have p1 := r1.2.2.2 h1
          obtain ⟨q1, e1, _⟩ := idxT_hit p1
          by_cases h2 : fr ∈ got.map (·.1)
          · obtain ⟨q2, e2, _⟩ := idxT_hit (r2.2.2.2 h2)
            exact .inr (.inl ⟨⟨q1, e1⟩, h1, ⟨q2, e2⟩, h2⟩)
          · exact .inr (.inr ⟨⟨q1, e1⟩, h1, by have : ¬ 0 ≤ idxT (got.map (·.1)) fr := fun h9 => h2 (r2.2.2.1 h9); omega, h2⟩)
        · exact .inl ⟨by have : ¬ 0 ≤ idxT mem fr := fun h9 => h1 (r1.2.2.1 h9); omega, h1⟩
      have hmem : (mem.any fun s => decide (s = fr)) = decide (fr ∈ mem) := by
        by_cases h1 : fr ∈ mem
        · rw [decide_eq_true h1]; exact List.any_eq_true.2 ⟨fr, h1, by simp⟩
        · rw [decide_eq_false h1, List.any_eq_false]; intro s hs e; exact h1 (by rw [← of_decide_eq_true e]; exact hs)
      have hgm : (got.any fun p => decide (p.1 = fr)) = decide (fr ∈ got.map (·.1)) := by
        by_cases h1 : fr ∈ got.map (·.1)
        · rw [decide_eq_true h1]
          obtain ⟨p, hp, e⟩ := List.mem_map.1 h1
          exact List.any_eq_true.2 ⟨p, hp, decide_eq_true e⟩
        · rw [decide_eq_false h1, List.any_eq_false]; intro p hp e; exact h1 (List.mem_map.2 ⟨p, hp, of_decide_eq_true e⟩)
      have HM := Lib.hid (And.intro hmem (And.intro hgm (And.intro hfv (And.intro hg (And.intro hm f1)))))
      have HX2 := Lib.hid hX2
      clear hmem hgm hfv hg hm hX2 f1 f2 f3 f4
      rcases hcs with ⟨e1, e2⟩ | ⟨⟨q1, e1⟩, e2, ⟨q2, e3⟩, e4⟩ | ⟨⟨q1, e1⟩, e2, e3, e4⟩
      · have hno : fitsB ⟨dst, key, op, cf, n, k, mem, ⟨#[115, 101, 97, 108, 101, 100]⟩, got⟩ ⟨fr, dst, ⟨#[115, 101, 97, 108, 101, 100]⟩, key, op, cf, true, L⟩ = false := by rw [Hfb.out, HN.out, HM.out.1, decide_eq_false e2]; simp
        have Hno := Lib.hid hno
        rw [e1] at Ci1
        clear hno e1 e2
        go_wp2
        refine wp_region_quiet_below (by kernel_rfl) (by kernel_rfl) ?_
        repeat (go_big_quiet_step (first | with_reducible exact Ci1 _ _ | with_reducible exact Ci2 _ _))
        refine wpQuiet_nil ?_
        intro w3 hw'
        obtain ⟨⟨dr, osr⟩, hw3⟩ := hw'
        have H3 := Lib.hid (show Below W1.heap.size W1 w3 by rw [hw3]; exact H2.out.trans ((below_regrown w2 dr osr).mono H2.out.size))
        clear hw3 v0 v7 v14 Ci1 Ci2 d7 d14 q0
        go_wp2
        go_ret
        exact ⟨F, ma, mc, fv, lv, us, fun b hb => .inl hb, KeptBut.of_below (H.out.2.2.2.2.2.1.trans (H3.out.mono H.out.2.2.2.2.2.1.size)) (fun k h1 h2 => by omega), by rw [hear_no (.inr Hno.out)]; exact H.out.2.1.below H3.out (Nat.le_refl _), by rw [hear_no (.inr Hno.out)]; exact RetMsgs.nil _ _⟩
      · have hno : fitsB ⟨dst, key, op, cf, n, k, mem, ⟨#[115, 101, 97, 108, 101, 100]⟩, got⟩ ⟨fr, dst, ⟨#[115, 101, 97, 108, 101, 100]⟩, key, op, cf, true, L⟩ = false := by rw [Hfb.out, HN.out, HM.out.2.1, decide_eq_true e4]; simp
        have Hno := Lib.hid hno
        rw [e1] at Ci1
        rw [e3] at Ci2
        have z1 : decide ((q1 : Int) < 0) = false := decide_eq_false (by omega)
        clear hno e1 e2 e3 e4
        go_wp2
        refine wp_region_quiet_below (by kernel_rfl) (by kernel_rfl) ?_
        repeat (go_big_quiet_step (first | with_reducible exact Ci1 _ _ | with_reducible exact Ci2 _ _))
        refine wpQuiet_nil ?_
        intro w3 hw'
        obtain ⟨⟨dr, osr⟩, hw3⟩ := hw'
        have H3 := Lib.hid (show Below W1.heap.size W1 w3 by rw [hw3]; exact H2.out.trans ((below_regrown w2 dr osr).mono H2.out.size))
        clear hw3 v0 v7 v14 Ci1 Ci2 d7 d14 q0
        go_wp2
        go_ret
        exact ⟨F, ma, mc, fv, lv, us, fun b hb => .inl hb, KeptBut.of_below (H.out.2.2.2.2.2.1.trans (H3.out.mono H.out.2.2.2.2.2.1.size)) (fun k h1 h2 => by omega), by rw [hear_no (.inr Hno.out)]; exact H.out.2.1.below H3.out (Nat.le_refl _), by rw [hear_no (.inr Hno.out)]; exact RetMsgs.nil _ _⟩
      · have hyes : fitsB ⟨dst, key, op, cf, n, k, mem, ⟨#[115, 101, 97, 108, 101, 100]⟩, got⟩ ⟨fr, dst, ⟨#[115, 101, 97, 108, 101, 100]⟩, key, op, cf, true, L⟩ = true := by rw [Hfb.out, HN.out, HM.out.1, HM.out.2.1, decide_eq_true e2, decide_eq_false e4]; rfl
        have Hyes := Lib.hid hyes
        rw [e1] at Ci1
        rw [e3] at Ci2
        have z1 : decide ((q1 : Int) < 0) = false := decide_eq_false (by omega)
        clear hyes e1 e2 e3 e4 Hfb HN
        go_wp2
        refine wp_region_quiet_below (by kernel_rfl) (by kernel_rfl) ?_
        repeat (go_big_quiet_step (first | with_reducible exact Ci1 _ _ | with_reducible exact Ci2 _ _))
        refine wpQuiet_nil ?_
        intro w3 hw'
        obtain ⟨⟨dr, osr⟩, hw3⟩ := hw'
        have H3 := Lib.hid (show Below W1.heap.size W1 w3 by rw [hw3]; exact H2.out.trans ((below_regrown w2 dr osr).mono H2.out.size))
        clear hw3 v0 v7 v14 Ci1 Ci2 d7 d14 q0
        have hX3 := H.out.2.1.below H3.out (Nat.le_refl _)
        have hk3 : KeptBut F w w3 := KeptBut.of_below (H.out.2.2.2.2.2.1.trans (H3.out.mono H.out.2.2.2.2.2.1.size)) (fun k h1 h2 => by omega)
        have hxs : xb < W1.heap.size := by have := H.out.2.2.2.2.2.2.2.2; omega
        obtain ⟨q0, q6, q7⟩ := KS.out w3 (fun b => W1.heap.size ≤ b) (KeptBut.of_below H3.out (fun _ _ h => h)) (by omega)
        have d13 : w3.cell? ⟨mo, 13, none⟩ = some (.string ⟨#[115, 101, 97, 108, 105, 110, 103]⟩) := hX3.cs.cell 13 (by show 13 < 20; decide)
        have z13 := hX3.cs.z 13
        have HX3 := Lib.hid (And.intro hX3 hk3)
        clear hX3 hk3
        have d14 : w3.cell? ⟨mo, 14, none⟩ = some (.slice fa g fc) := (HX3.out.1.cs.cell 14 (by show 14 < 20; decide)).trans (congrArg some HM.out.2.2.1)
        have HT : Hid (∀ W, Below w3.heap.size w3 W → OwnT 0 W (.slice fa g fc) (got.map (·.1))) := Lib.hid fun W hb => by
          have h9 : OwnT 0 w3 fv (got.map (·.1)) := HX3.out.1.fr
          rw [HM.out.2.2.1] at h9
          exact h9.heapK (fun g' e => hb.block g' (h9.lt g' e).2)
        have hfg : (got.map (·.1)).length = g := by rw [List.length_map]; exact HM.out.2.2.2.1
        have hx3 : xb < w3.heap.size := Nat.lt_of_lt_of_le hxs H3.out.size
        have HN4 : Hid (∀ (W w4 : World) (g4 : Nat), Below w3.heap.size w3 W → W.grownBy w4 (Value.slice fa g fc).ownBlock → ((Value.slice fa g fc).ownBlock = some g4 ∨ g4 = W.heap.size) → (w4.cell? ⟨mo, 14, none⟩ = some (.slice fa g fc) ∧ w4.cell? ⟨xb, 0, none⟩ = some (.string fr)) ∧
            Hid (KeptBut (fun b => fv.ownBlock = some b) w3 w4 ∧ (some g4 = fv.ownBlock ∨ w3.heap.size ≤ g4))) := Lib.hid (by
          intro W w4 g4 hb hg h4
          rw [← HM.out.2.2.1] at hg h4 ⊢
          have hk : KeptBut (fun b => fv.ownBlock = some b) w3 w4 := (KeptBut.of_below hb (fun k h1 h2 => by omega)).trans (KeptBut.of_grown hg (fun k e => e))
          refine ⟨⟨hk.cell (by rw [d14, HM.out.2.2.1]) (fun e => (HX3.out.1.frF mo e).2 rfl), hk.cell q0 (fun e => ?_)⟩, Lib.hid ⟨hk, ?_⟩⟩
          · have h9 := (HX3.out.1.frF xb e).1
            have := H.out.1.lt xb h9
            have := H.out.2.2.2.2.2.2.2.1
            omega
          · rcases h4 with h4 | h4
            · exact .inl h4.symm
            · exact .inr (by rw [h4]; exact hb.size))
        have KX : Hid (∀ W, Below w3.heap.size w3 W → W.cell? ⟨mo, 14, none⟩ = some (.slice fa g fc) ∧ W.cell? ⟨xb, 0, none⟩ = some (.string fr)) := Lib.hid fun W hb => by
          have c : ∀ {p : Addr} {v}, w3.cell? p = some v → W.cell? p = some v := fun {p v} h => (hb.cell (lt_of_cell h)).trans h
          exact ⟨c d14, c q0⟩
        go_wp2
        go_region_held3 (fun W => W.cell? ⟨mo, 14, none⟩ = some (.slice fa g fc) ∧ W.cell? ⟨xb, 0, none⟩ = some (.string fr))
          (first | exact ⟨d14, q0⟩ | exact p4 | (refine KX.out _ ?_; repeat (first | exact Below.refl _ _ | apply Below.drew | refine Below.alloc ?_ (Nat.le_refl _) _)))
          ((refine step_append_txt 96 99 (by rfl) (by rfl) 0 _ (got.map (·.1)) fr w3.heap.size (by rfl) (by rfl) (by simp) (HT.out _ (by repeat (first | exact Below.refl _ _ | apply Below.drew | refine Below.alloc ?_ (Nat.le_refl _) _))) g hfg (by omega) (Nat.zero_le _) ?_; intro g4 c4 w4 k1 k2 k3; obtain ⟨p4, HF4⟩ := HN4.out _ w4 g4 (by repeat (first | exact Below.refl _ _ | apply Below.drew | refine Below.alloc ?_ (Nat.le_refl _) _)) k2 k3; have Hk1 := Lib.hid k1; clear k1 k2 k3))
        rename_i hHeld
        obtain ⟨p14, p0⟩ := p4
        obtain ⟨la, lc, hlv, l4⟩ := HX3.out.1.L.read
        rw [List.length_map] at hlv
        dsimp only at hlv
        rw [HM.out.2.2.2.1] at hlv
        have hlt3 := HX3.out.1.cs.lt
        have hlt4 : mo < w4.heap.size := Nat.lt_of_lt_of_le hlt3 HF4.out.1.size
        have z14 : w4.frozen? ⟨mo, 14, none⟩ = false := (HF4.out.1.frozen (p := ⟨mo, 14, none⟩) hlt3 (fun e => (HX3.out.1.frF mo e).2 rfl)).trans (HX3.out.1.cs.z 14)
        have ho5 := HX3.out.1.lv_at HF4.out.1 (.slice (some ⟨g4, 0, none⟩) (g + 1) c4)
        obtain ⟨w5, hw5⟩ : ∃ w5, w4.setCell ⟨mo, 14, none⟩ (.slice (some ⟨g4, 0, none⟩) (g + 1) c4) = w5 := ⟨_, rfl⟩
        rw [hw5] at ho5
        have hs5 : w5.heap.size = w4.heap.size := by rw [← hw5, setCell_size]
        have hkF4 : KeptBut F w w4 := HX3.out.2.trans (HF4.out.1.mono fun b _ e => (HX3.out.1.frF b e).1)
        have hkF5 : KeptBut F w w5 := by rw [← hw5]; exact hkF4.set1 (p := ⟨mo, 14, none⟩) H.out.1.hF _
        have d15 : w5.cell? ⟨mo, 15, none⟩ = some (.slice la g lc) := by
          rw [← hw5, World.cell?_setCell_other _ _ _ _ (by simp)]
          exact HF4.out.1.cell ((HX3.out.1.cs.cell 15 (by show 15 < 20; decide)).trans (congrArg some hlv)) (fun e => (HX3.out.1.frF mo e).2 rfl)
        have hxF : ¬ F xb := fun e => by have := H.out.1.lt xb e; have := H.out.2.2.2.2.2.2.2.1; omega
        have x7 : w5.cell? ⟨xb, 7, none⟩ = some (.slice ad len cap) := by
          rw [← hw5, World.cell?_setCell_far _ _ _ _ (show (⟨mo, 14, none⟩ : Addr).block ≠ (⟨xb, 7, none⟩ : Addr).block from fun e => hxF (by have e2 : mo = xb := e; rw [← e2]; exact H.out.1.hF))]
          exact HF4.out.1.cell q7 (fun e => hxF (HX3.out.1.frF xb e).1)
        have hv5 : VrR w5.heap.size w5 ad L := (HA.out.2.2.1.kept hkF5 (fun b _ hb hf => hb hf)).read
        have hug : us.length = g := by rw [HX3.out.1.L.lenu, List.length_map]; exact HM.out.2.2.2.1
        have H5 := Lib.hid (And.intro ho5 (And.intro hs5 (And.intro hkF5 (And.intro hv5 (And.intro hug (And.intro hw5 hxF))))))
        have KY : Hid (∀ W, Below w5.heap.size w5 W → W.cell? ⟨mo, 15, none⟩ = some (.slice la g lc) ∧ W.cell? ⟨xb, 7, none⟩ = some (.slice ad len cap)) := Lib.hid fun W hb => by
          have c : ∀ {p : Addr} {v}, w5.cell? p = some v → W.cell? p = some v := fun {p v} h => (hb.cell (lt_of_cell h)).trans h
          exact ⟨c d15, c x7⟩
        have Hlv := Lib.hid hlv
        clear hHeld ho5 hs5 hkF4 hkF5 hv5 hug hlv l4 q0 q6 q7 d14 p0
        have HO5 : Hid (∀ W, Below w5.heap.size w5 W → Own1 53 0 W (.slice la g lc) us) := Lib.hid fun W hb => by
          have h9 := H5.out.1
          rw [Hlv.out] at h9
          exact h9.heapK (fun g' e => hb.block g' (h9.lt g' e).2)
        have HN7 : Hid (∀ (w6 W w7 : World) (u : Value) (g7 c7 : Nat), Below w5.heap.size w5 w6 → OwnV w5.heap.size w6 u L → Below w6.heap.size w6 W → W.grownBy w7 (Value.slice la g lc).ownBlock → ((Value.slice la g lc).ownBlock = some g7 ∨ g7 = W.heap.size) → Own1 53 0 w7 (.slice (some ⟨g7, 0, none⟩) (g + 1) c7) (us ++ [u]) →
            (w7.cell? ⟨mo, 15, none⟩ = some (.slice la g lc) ∧ w7.cell? ⟨xb, 7, none⟩ = some (.slice ad len cap)) ∧ w7.frozen? ⟨mo, 15, none⟩ = false ∧
            Hid (RAskAt S (grownF F w3 (w7.setCell ⟨mo, 15, none⟩ (.slice (some ⟨g7, 0, none⟩) (g + 1) c7))) (w7.setCell ⟨mo, 15, none⟩ (.slice (some ⟨g7, 0, none⟩) (g + 1) c7)) mo ma mc na nc (.slice (some ⟨g4, 0, none⟩) (g + 1) c4) (.slice (some ⟨g7, 0, none⟩) (g + 1) c7) (us ++ [u]) { (⟨⟨dst, key, op, cf, n, k, mem, ⟨#[115, 101, 97, 108, 101, 100]⟩, got⟩, who, false, true, n2, k2, mem2, 0, tag, text, found⟩ : AskS) with t := takeT ⟨dst, key, op, cf, n, k, mem, ⟨#[115, 101, 97, 108, 101, 100]⟩, got⟩ ⟨fr, dst, ⟨#[115, 101, 97, 108, 101, 100]⟩, key, op, cf, true, L⟩ } ∧
              KeptBut F w3 (w7.setCell ⟨mo, 15, none⟩ (.slice (some ⟨g7, 0, none⟩) (g + 1) c7)))) := Lib.hid (by
          intro w6 W w7 u g7 c7 hb6 hu hbW hg h7 k7
          rw [← Hlv.out] at hg h7 ⊢
          have hk7 : KeptBut (fun b => lv.ownBlock = some b) w6 w7 := (KeptBut.of_below hbW (fun k h1 h2 => by omega)).trans (KeptBut.of_grown hg (fun k e => e))
          have hT := took_all (m := ⟨fr, dst, ⟨#[115, 101, 97, 108, 101, 100]⟩, key, op, cf, true, L⟩) (w6 := w6) (w7 := w7) (lv' := .slice (some ⟨g7, 0, none⟩) (g + 1) c7) (u := u) HX3.out.1 (fun b hb => Nat.lt_of_lt_of_le (HA.out.2.2.2.1 b hb) HX3.out.2.size) Hk1.out HF4.out.1 (by
              rcases HF4.out.2 with e | e
              · exact .inl e
              · exact .inr (fun g' e2 => by have e3 : g4 = g' := by simpa [Value.ownBlock] using e2
                                            omega)) (by rw [H5.out.2.2.2.2.2.1, ← H5.out.2.1]; exact hb6) (by rw [← H5.out.2.1]; exact hu) hk7 k7 (by
              rcases h7 with e | e
              · exact .inl (by rw [e]; rfl)
              · exact .inr (fun g' e2 => by have e3 : g7 = g' := by simpa [Value.ownBlock] using e2
                                            have := hbW.size; have := hb6.size; have := H5.out.2.1; have := HF4.out.1.size; omega))
          have hm6 : mo < w6.heap.size := by have := hb6.size; have := H5.out.2.1; omega
          obtain ⟨y15, y7⟩ := KY.out w6 hb6
          exact ⟨⟨hk7.cell (by rw [y15, Hlv.out]) (fun e => (HX3.out.1.lF mo e).2 rfl), hk7.cell y7 (fun e => H5.out.2.2.2.2.2.2 (HX3.out.1.lF xb e).1)⟩, (hk7.frozen (p := ⟨mo, 15, none⟩) hm6 (fun e => (HX3.out.1.lF mo e).2 rfl)).trans ((World.frozen?_of_block (a := ⟨mo, 15, none⟩) (hb6.block mo (by have := H5.out.2.1; omega))).trans (by rw [← H5.out.2.2.2.2.2.1, World.frozen?_setCell]; exact (HF4.out.1.frozen (p := ⟨mo, 15, none⟩) hlt3 (fun e => (HX3.out.1.frF mo e).2 rfl)).trans (HX3.out.1.cs.z 15))), Lib.hid hT⟩)
        have hl6 : len ≤ 1000000 := by have h1 := H.out.2.2.2.2.1; have h2 := HA.out.1; omega
        go_wp2
        go_region_held3 (fun W => W.cell? ⟨mo, 15, none⟩ = some (.slice la g lc) ∧ W.cell? ⟨xb, 7, none⟩ = some (.slice ad len cap))
          (first | exact ⟨d15, x7⟩ | exact p7 | exact KY.out _ Q6.out.1 | exact KY.out _ (Q6.out.1.alloc Q6.out.1.size _) | (refine KY.out _ ?_; repeat (first | exact Below.refl _ _ | apply Below.drew | refine Below.alloc ?_ (Nat.le_refl _) _)))
          (first
            | (refine step_append_vG 109 111 (by rfl) (by rfl) w5.heap.size ad len cap L (by rfl) (by rfl) HA.out.1 hl6 HA.out.2.1 (H5.out.2.2.2.1.below (Below.refl _ _).drew) ?_; intro ra6 rc6 w6 k0 k1; have Q6 := Lib.hid (And.intro (show Below w5.heap.size w5 w6 from (Below.refl _ _).drew.trans (World.grownBy.below k1 (Nat.le_refl _) (fun k hk => by cases hk))) (show OwnV w5.heap.size w6 (.slice ra6 len rc6) L from k0)); clear k0 k1)
            | (refine step_append_row 108 113 (by rfl) (by rfl) 0 _ us ra6 len rc6 w6.heap.size (by rfl) (by rfl) (by simp) (HO5.out _ (Q6.out.1.alloc Q6.out.1.size _)) g H5.out.2.2.2.2.1 (by omega) (Nat.zero_le _) ?_; intro g7 c7 w7 k1 k2 k3; obtain ⟨p7, z15, HF7⟩ := HN7.out w6 _ w7 _ g7 c7 Q6.out.1 Q6.out.2 ((Below.refl _ _).alloc (Nat.le_refl _) _) k2 k3 k1; clear k1 k2 k3)
            | fail)
        rename_i hHeld
        obtain ⟨w8, hw8⟩ : ∃ w8, w7.setCell ⟨mo, 15, none⟩ (.slice (some ⟨g7, 0, none⟩) (g + 1) c7) = w8 := ⟨_, rfl⟩
        rw [hw8] at HF7
        have p15 := p7.1
        have hX8 := HF7.out.1
        have e14 : w8.cell? ⟨mo, 14, none⟩ = some (.slice (some ⟨g4, 0, none⟩) (g + 1) c4) := hX8.cs.cell 14 (by show 14 < 20; decide)
        have e5 : w8.cell? ⟨mo, 5, none⟩ = some (.int .i64 (n : Nat)) := hX8.cs.cell 5 (by show 5 < 20; decide)
        have e6 : w8.cell? ⟨mo, 6, none⟩ = some (.int .i64 (k : Nat)) := hX8.cs.cell 6 (by show 6 < 20; decide)
        have e7 : w8.cell? ⟨mo, 7, none⟩ = some (.slice ma m mc) := (hX8.cs.cell 7 (by show 7 < 20; decide)).trans (by show some (Value.slice ma mem.length mc) = _; rw [HM.out.2.2.2.2.1])
        have hcfg := talk_cfg H.out.2.2.1
        dsimp only at hcfg
        obtain ⟨q, hq⟩ : ∃ q, (n + k + 1) / 2 = q := ⟨_, rfl⟩
        have Cn := fun d os => Calls.regrown_of (renough_walk n k (.slice ma m mc) (Go.Sort.grow (redrawn w8 d) os) hcfg.1 hcfg.2.1 hcfg.2.2.1)
        rw [hq] at Cn
        have Hq := Lib.hid hq
        have v14 := cell_regrown e14
        have v5 := cell_regrown e5
        have v6 := cell_regrown e6
        have v7 := cell_regrown e7
        clear hHeld p7 d15 x7 hcfg hX8 hlt4 hq
        go_wp2
        refine wp_region_quiet_below (by kernel_rfl) (by kernel_rfl) ?_
        repeat (go_big_quiet_step (first | with_reducible exact Cn _ _))
        refine wpQuiet_nil ?_
        intro w9 hw'
        obtain ⟨⟨ds, oss⟩, hw9⟩ := hw'
        have H9 := Lib.hid (show Below w8.heap.size w8 w9 by rw [hw9]; exact below_regrown w8 ds oss)
        clear hw9 v5 v6 v7 v14 Cn e14 e5 e6 e7
        have hX9 := HF7.out.1.below H9.out (Nat.le_refl _)
        have hk9 : KeptBut F w w9 := (HX3.out.2.trans HF7.out.2).trans (KeptBut.of_below H9.out (fun k h1 h2 => by omega))
        have hF8 : ∀ b, grownF F w3 w8 b → F b ∨ w.heap.size ≤ b := fun b hb => hb.imp id (fun h9 => Nat.le_trans HX3.out.2.size h9.1)
        have H9' := Lib.hid (And.intro hX9 (And.intro hk9 hF8))
        obtain ⟨eb, heb⟩ : ∃ eb, enoughB (takeT ⟨dst, key, op, cf, n, k, mem, ⟨#[115, 101, 97, 108, 101, 100]⟩, got⟩ ⟨fr, dst, ⟨#[115, 101, 97, 108, 101, 100]⟩, key, op, cf, true, L⟩) = eb := ⟨_, rfl⟩
        have heq : eb = decide (n + k ≤ 2 * (g + 1)) := by
          rw [← heb]
          unfold enoughB
          rw [decide_eq_decide]
          show n + k ≤ 2 * (got ++ [(fr, L)]).length ↔ _
          have := HM.out.2.2.2.1
          simp
          omega
        have Heb := Lib.hid heb
        clear heb hX9 hk9 hF8
        cases eb with
        | false =>
          have hlq : (g : Int) + 1 < (q : Int) := by have h1 := of_decide_eq_false heq.symm; have := Hq.out; omega
          clear heq
          go_wp2
          go_ret
          exact ⟨_, ma, mc, _, _, _, H9'.out.2.2, H9'.out.2.1, by rw [hear_few (by show 0 < 2; decide) Hyes.out (.inr ⟨rfl, rfl⟩) Heb.out]; exact H9'.out.1, by rw [hear_few (by show 0 < 2; decide) Hyes.out (.inr ⟨rfl, rfl⟩) Heb.out]; exact RetMsgs.nil _ _⟩
        | true =>
          have hlq : ¬ (g : Int) + 1 < (q : Int) := by have h1 := of_decide_eq_true heq.symm; have := Hq.out; omega
          have d13 : w9.cell? ⟨mo, 13, none⟩ = some (.string ⟨#[115, 101, 97, 108, 105, 110, 103]⟩) := H9'.out.1.cs.cell 13 (by show 13 < 20; decide)
          have z13 := H9'.out.1.cs.z 13
          clear heq
          obtain ⟨t', ht'⟩ : ∃ t', takeT ⟨dst, key, op, cf, n, k, mem, ⟨#[115, 101, 97, 108, 101, 100]⟩, got⟩ ⟨fr, dst, ⟨#[115, 101, 97, 108, 101, 100]⟩, key, op, cf, true, L⟩ = t' := ⟨_, rfl⟩
          have hok9 : TalkOk t' := by rw [← ht']; exact take_ok H.out.2.2.1 Hyes.out
          have htt : totV (t'.got.map (·.2)) ≤ 1000000 := by
            rw [← ht']
            show totV ((got ++ [(fr, L)]).map (·.2)) ≤ 1000000
            have := H.out.2.2.2.2.1
            unfold totV at this ⊢
            simp only [List.map_append, List.map_cons, List.map_nil, List.sum_append, List.sum_cons, List.sum_nil]
            omega
          obtain ⟨a3, ha3⟩ : ∃ a3 : AskS, (⟨t', who, false, true, n2, k2, mem2, 0, tag, text, found⟩ : AskS) = a3 := ⟨_, rfl⟩
          have hX9 : RAskAt S (grownF F w3 w8) w9 mo ma mc na nc (.slice (some ⟨g4, 0, none⟩) (g + 1) c4) (.slice (some ⟨g7, 0, none⟩) (g + 1) c7) (us ++ [.slice ra6 len rc6]) a3 := by
            rw [← ha3, ← ht']; exact H9'.out.1
          have hta : a3.t = t' := by rw [← ha3]
          have hnk : t'.n = n ∧ t'.k = k ∧ t'.mem = mem := by rw [← ht']; exact ⟨rfl, rfl, rfl⟩
          have hcfg := talk_cfg H.out.2.2.1
          dsimp only at hcfg
          have htl : (toldT t').length ≤ n := by
            have h1 : (toldT t').length ≤ t'.mem.length := List.length_filterMap_le ..
            rw [hnk.2.2] at h1
            omega
          obtain ⟨ll, hll⟩ : ∃ ll, (toldT t').length = ll := ⟨_, rfl⟩
          have Hto : Hid (∀ W, Below w9.heap.size w9 W → Calls Tryz.prog 53 #[.pointer (some ⟨mo, 0, none⟩)] W fun e w' => Below W.heap.size W w' ∧ ∃ a' cap, e = .returned (.slice a' ll cap) ∧ VssR w' a' (toldT t')) := Lib.hid fun W hb => by
            have h9 := rtold_walk _ _ W mo ma mc na nc _ _ _ a3 (hX9.below hb (Nat.le_refl _)) (by rw [hta]; exact hok9)
            rw [hta, hll] at h9
            exact h9
          have Hbe : Hid (∀ W a5 cp5, VssR W a5 (toldT t') → Calls Tryz.prog 52 #[.agg #[.int .i64 (n : Nat), .int .i64 (k : Nat), .slice ma m mc], .slice a5 ll cp5] W fun e w' => RBestOut W w' n k (toldT t') e) := Lib.hid fun W a5 cp5 hv =>
            rbest_walk n k ma m mc a5 ll cp5 (toldT t') W hcfg.1 hcfg.2.1 hcfg.2.2.1 hll (by unfold maxLen; omega) hv (by rw [told_tot hok9]; exact htt)
          have f5 : w9.cell? ⟨mo, 5, none⟩ = some (.int .i64 (n : Nat)) := H9'.out.1.cs.cell 5 (by show 5 < 20; decide)
          have f6 : w9.cell? ⟨mo, 6, none⟩ = some (.int .i64 (k : Nat)) := H9'.out.1.cs.cell 6 (by show 6 < 20; decide)
          have f7 : w9.cell? ⟨mo, 7, none⟩ = some (.slice ma m mc) := (H9'.out.1.cs.cell 7 (by show 7 < 20; decide)).trans (by show some (Value.slice ma mem.length mc) = _; rw [HM.out.2.2.2.2.1])
          have f11 : w9.cell? ⟨mo, 11, none⟩ = some (.bool false) := H9'.out.1.cs.cell 11 (by show 11 < 20; decide)
          have KF : Hid (∀ W, Below w9.heap.size w9 W → W.cell? ⟨mo, 5, none⟩ = some (.int .i64 (n : Nat)) ∧ W.cell? ⟨mo, 6, none⟩ = some (.int .i64 (k : Nat)) ∧ W.cell? ⟨mo, 7, none⟩ = some (.slice ma m mc)) := Lib.hid fun W hb => by
            have c : ∀ {p : Addr} {v}, w9.cell? p = some v → W.cell? p = some v := fun {p v} h => (hb.cell (lt_of_cell h)).trans h
            exact ⟨c f5, c f6, c f7⟩
          have HT9 := Lib.hid (And.intro hX9 (And.intro hok9 (And.intro htt (And.intro ha3 (And.intro ht' (And.intro hta (And.intro hll hnk)))))))
          clear hX9 hok9 htt ha3 ht' hta hnk hcfg htl hll
          go_wp2
          go_region_held3 (fun W => W.cell? ⟨mo, 5, none⟩ = some (.int .i64 (n : Nat)) ∧ W.cell? ⟨mo, 6, none⟩ = some (.int .i64 (k : Nat)) ∧ W.cell? ⟨mo, 7, none⟩ = some (.slice ma m mc))
            (first | exact ⟨f5, f6, f7⟩ | exact KF.out _ Q10.out.1 | exact KF.out _ Q11.out.1 | exact KF.out _ (Q11.out.1.setCell (Nat.le_refl w9.heap.size) _) | exact KF.out _ ((Q11.out.1.setCell (Nat.le_refl w9.heap.size) _).setCell (Nat.le_refl w9.heap.size) _) | exact KF.out _ (Q11.out.1.setCell Q10.out.1.size _) | exact KF.out _ ((Q11.out.1.setCell Q10.out.1.size _).setCell Q10.out.1.size _) | (refine KF.out _ ?_; repeat (first | exact Below.refl _ _ | exact Q11.out.1 | exact Q10.out.1 | apply Below.drew | refine Below.alloc ?_ (Nat.le_refl _) _ | refine Below.alloc ?_ Q10.out.1.size _ | refine Below.alloc ?_ Q11.out.1.size _ | refine Below.setCell ?_ (Nat.le_refl _) _ | refine Below.setCell ?_ Q10.out.1.size _)))
            (first
              | (go_at_call 53; refine (Hto.out _ (by repeat (first | exact Below.refl _ _ | apply Below.drew | refine Below.alloc ?_ (Nat.le_refl _) _))).mono ?_; rintro e w10 ⟨hb10, a5, cp5, rfl, hv5⟩; have Q10 := Lib.hid (And.intro (below_then (w := w9) (by repeat (first | exact Below.refl _ _ | apply Below.drew | refine Below.alloc ?_ (Nat.le_refl _) _)) hb10) (And.intro hb10 hv5)); (try have T10 := Lib.hid ((TagBox.newD w9 (.int .i64 0) (.int .i64 0)).below hb10)); clear hb10 hv5)
              | (go_at_call 52; refine (Hbe.out _ a5 cp5 (by first | exact Q10.out.2.2 | exact Q10.out.2.2.below ((Below.refl _ _).alloc (Nat.le_refl _) _))).mono ?_; rintro e w11 ⟨hb11, ⟨t1, t2⟩, s1, f1, rfl, hba⟩; have Q11 := Lib.hid (And.intro (below_then (w := w9) (by first | exact Q10.out.1 | exact Q10.out.1.alloc Q10.out.1.size _) hb11) (And.intro hb11 hba)); (try have T11 := Lib.hid (T10.out.below hb11)); (try have T11 := Lib.hid ((TagBox.new w10 (.int .i64 0) (.int .i64 0)).below hb11)); (try obtain ⟨x0, x1, y0, y1⟩ := T11.out.c); clear hb11 hba))
          all_goals
            rename_i hHeld
            first
            | (obtain ⟨W12, hW12⟩ : ∃ W12, w11.alloc (.cells #[.int .i64 t1, .int .i64 t2] 44) = W12 := ⟨_, rfl⟩
               obtain ⟨vb, hvb⟩ : ∃ vb, w11.heap.size = vb := ⟨_, rfl⟩
               have HZ := Lib.hid (And.intro (show TagBox W12 vb (.int .i64 t1) (.int .i64 t2) by rw [← hW12, ← hvb]; exact TagBox.new _ _ _) (show Below w9.heap.size w9 W12 by rw [← hW12]; exact Q11.out.1.alloc Q11.out.1.size _))
               rw [hW12, hvb]
               clear hW12 hvb)
            | (obtain ⟨W12, hW12⟩ : ∃ W12, (w11.setCell ⟨w10.heap.size, 0, none⟩ (.int .i64 t1)).setCell ⟨w10.heap.size, 1, none⟩ (.int .i64 t2) = W12 := ⟨_, rfl⟩
               obtain ⟨vb, hvb⟩ : ∃ vb, w10.heap.size = vb := ⟨_, rfl⟩
               have HZ := Lib.hid (And.intro (show TagBox W12 vb (.int .i64 t1) (.int .i64 t2) by rw [← hW12, ← hvb]; exact T11.out.set _ _) (show Below w9.heap.size w9 W12 by rw [← hW12]; exact (Q11.out.1.setCell Q10.out.1.size _).setCell Q10.out.1.size _))
               rw [hW12, hvb]
               clear hW12 hvb)
            | (obtain ⟨W12, hW12⟩ : ∃ W12, (w11.setCell ⟨w9.heap.size, 0, none⟩ (.int .i64 t1)).setCell ⟨w9.heap.size, 1, none⟩ (.int .i64 t2) = W12 := ⟨_, rfl⟩
               obtain ⟨vb, hvb⟩ : ∃ vb, w9.heap.size = vb := ⟨_, rfl⟩
               have HZ := Lib.hid (And.intro (show TagBox W12 vb (.int .i64 t1) (.int .i64 t2) by rw [← hW12, ← hvb]; exact T11.out.set _ _) (show Below w9.heap.size w9 W12 by rw [← hW12]; exact (Q11.out.1.setCell (Nat.le_refl _) _).setCell (Nat.le_refl _) _))
               rw [hW12, hvb]
               clear hW12 hvb)
            have hX12 := HT9.out.1.below HZ.out.2 (Nat.le_refl _)
            obtain ⟨b0, b1, -, -⟩ := HZ.out.1.c
            have g16 : W12.cell? ⟨mo, 16, none⟩ = some (.int .i64 a3.tag.1) := hX12.cs.cell 16 (by show 16 < 20; decide)
            have g17 : W12.cell? ⟨mo, 17, none⟩ = some (.int .i64 a3.tag.2) := hX12.cs.cell 17 (by show 17 < 20; decide)
            have g18 : W12.cell? ⟨mo, 18, none⟩ = some (.string a3.text) := hX12.cs.cell 18 (by show 18 < 20; decide)
            have g19 : W12.cell? ⟨mo, 19, none⟩ = some (.bool a3.found) := hX12.cs.cell 19 (by show 19 < 20; decide)
            have y16 := hX12.cs.z 16
            have y17 := hX12.cs.z 17
            have y18 := hX12.cs.z 18
            have y19 := hX12.cs.z 19
            have hce : chooseT a3 = { a3 with tag := (t1, t2), text := s1, found := f1 } := by
              have hp : a3.put = false := by rw [← HT9.out.2.2.2.1]
              unfold chooseT
              rw [if_neg (by rw [hp]; decide), HT9.out.2.2.2.2.2.1, HT9.out.2.2.2.2.2.2.2.1, HT9.out.2.2.2.2.2.2.2.2.1, ← Q11.out.2.2]
            have hcs := (((hX12.cs.set 16 (by show 16 < 20; decide) (.int .i64 t1)).set 17 (by show 17 < 20; decide) (.int .i64 t2)).set 18 (by show 18 < 20; decide) (.string s1)).set 19 (by show 19 < 20; decide) (.bool f1)
            obtain ⟨W13, hW13⟩ : ∃ W13, (((W12.setCell ⟨mo, 16, none⟩ (.int .i64 t1)).setCell ⟨mo, 17, none⟩ (.int .i64 t2)).setCell ⟨mo, 18, none⟩ (.string s1)).setCell ⟨mo, 19, none⟩ (.bool f1) = W13 := ⟨_, rfl⟩
            have hk13 : KeptBut (fun b => b = mo) W12 W13 := by
              rw [← hW13]
              exact ((((KeptBut.refl (fun b => b = mo) W12).set1 (p := ⟨mo, 16, none⟩) rfl _).set1 (p := ⟨mo, 17, none⟩) rfl _).set1 (p := ⟨mo, 18, none⟩) rfl _).set1 (p := ⟨mo, 19, none⟩) rfl _
            rw [hW13] at hcs
            have hX13 : RAskAt S (grownF F w3 w8) W13 mo ma mc na nc (.slice (some ⟨g4, 0, none⟩) (g + 1) c4) (.slice (some ⟨g7, 0, none⟩) (g + 1) c7) (us ++ [.slice ra6 len rc6]) (chooseT a3) := by
              rw [hce]
              exact RAskAt.turn hX12 hk13 hcs rfl rfl rfl
            have HX13 := Lib.hid (And.intro hX13 ((H9'.out.2.1.trans (KeptBut.of_below HZ.out.2 (fun k h1 h2 => by omega))).trans (hk13.mono fun b _ e => by rw [e]; exact H.out.1.hF)))
            have HF13 := Lib.hid (show (chooseT a3).found = f1 by rw [hce])
            clear hHeld hX12 hce hcs hk13 hX13 f5 f6 f7 f11
            have hb3t := choose_t a3
            obtain ⟨b3, hb3⟩ : ∃ b3, chooseT a3 = b3 := ⟨_, rfl⟩
            rw [hb3] at hb3t
            have hts : b3.text.size ≤ 1000 := by rw [← hb3]; exact choose_size (by rw [← HT9.out.2.2.2.1]; exact H.out.2.2.2.1)
            have hcf : chooseT { (⟨⟨dst, key, op, cf, n, k, mem, ⟨#[115, 101, 97, 108, 101, 100]⟩, got⟩, who, false, true, n2, k2, mem2, 0, tag, text, found⟩ : AskS) with t := takeT ⟨dst, key, op, cf, n, k, mem, ⟨#[115, 101, 97, 108, 101, 100]⟩, got⟩ ⟨fr, dst, ⟨#[115, 101, 97, 108, 101, 100]⟩, key, op, cf, true, L⟩ } = b3 := by rw [← hb3, ← HT9.out.2.2.2.1, ← HT9.out.2.2.2.2.1]
            have hb3n : (chooseT a3).n2 = a3.n2 ∧ (chooseT a3).k2 = a3.k2 ∧ (chooseT a3).mem2 = a3.mem2 := by
              unfold chooseT
              split <;> exact ⟨rfl, rfl, rfl⟩
            rw [hb3] at hb3n
            have hst3 : b3.st = 0 ∧ b3.moves = true ∧ b3.t = a3.t ∧ b3.n2 = n2 ∧ b3.k2 = k2 ∧ b3.mem2 = mem2 := ⟨by rw [hb3t.2.2.2.2, ← HT9.out.2.2.2.1], by rw [hb3t.2.2.2.1, ← HT9.out.2.2.2.1], hb3t.1, by rw [hb3n.1, ← HT9.out.2.2.2.1], by rw [hb3n.2.1, ← HT9.out.2.2.2.1], by rw [hb3n.2.2, ← HT9.out.2.2.2.1]⟩
            rw [hb3] at HX13 HF13
            have c19 : W13.cell? ⟨mo, 19, none⟩ = some (.bool b3.found) := HX13.out.1.cs.cell 19 (by show 19 < 20; decide)
            have g13 : ∃ x, W13.cell? ⟨mo, 13, none⟩ = some x := ⟨_, HX13.out.1.cs.cell 13 (by show 13 < 20; decide)⟩
            have g14 : ∃ x, W13.cell? ⟨mo, 14, none⟩ = some x := ⟨_, HX13.out.1.cs.cell 14 (by show 14 < 20; decide)⟩
            have g15 : ∃ x, W13.cell? ⟨mo, 15, none⟩ = some x := ⟨_, HX13.out.1.cs.cell 15 (by show 15 < 20; decide)⟩
            obtain ⟨x13, g13⟩ := g13
            obtain ⟨x14, g14⟩ := g14
            obtain ⟨x15, g15⟩ := g15
            have y13 := HX13.out.1.cs.z 13
            have y14 := HX13.out.1.cs.z 14
            have y15 := HX13.out.1.cs.z 15
            have g12 : W13.cell? ⟨mo, 12, none⟩ = some (.bool b3.moves) := HX13.out.1.cs.cell 12 (by show 12 < 20; decide)
            rw [hst3.2.1] at g12
            have HB3 := Lib.hid (And.intro hts (And.intro hcf (And.intro hst3 HF13.out)))
            have hltm := HX13.out.1.cs.lt
            obtain ⟨fo, hfo⟩ : ∃ fo, b3.found = fo := ⟨_, rfl⟩
            rw [hfo] at c19
            have Hfo := Lib.hid hfo
            clear hb3t hb3 hb3n hts hcf hst3 hfo HF13
            cases fo with
            | false =>
              have hc := HX13.out.1.cs.set 13 (by show 13 < 20; decide) (.string ⟨#[100, 111, 110, 101]⟩)
              have hkm : KeptBut (fun b => b = mo) W13 (W13.setCell ⟨mo, 13, none⟩ (.string ⟨#[100, 111, 110, 101]⟩)) := (KeptBut.refl (fun b => b = mo) W13).set1 (p := ⟨mo, 13, none⟩) rfl _
              have hR := RAskAt.turn (a' := { b3 with st := 2 }) HX13.out.1 hkm hc rfl rfl rfl
              have HR := Lib.hid (And.intro hR (HX13.out.2.trans (hkm.mono fun b _ e => by rw [e]; exact H.out.1.hF)))
              clear hc hkm hR
              go_wp2
              go_ret
              exact ⟨_, ma, mc, _, _, _, H9'.out.2.2, HR.out.2, by rw [hear_none' rfl Hyes.out (.inr ⟨rfl, rfl⟩) Heb.out (by rw [HB3.out.2.1]; exact Hfo.out), HB3.out.2.1]; exact HR.out.1, by rw [hear_none' rfl Hyes.out (.inr ⟨rfl, rfl⟩) Heb.out (by rw [HB3.out.2.1]; exact Hfo.out)]; exact RetMsgs.nil _ _⟩
            | true =>
              have hks : keepS b3 = { b3 with st := 1, t := { b3.t with n := b3.n2, k := b3.k2, mem := b3.mem2, cf := b3.t.cf + 1, wait := kKept, got := [] } } := by
                unfold keepS
                rw [if_pos HB3.out.2.2.1.2.1]
              have hcs := ((HX13.out.1.cs.set 13 (by show 13 < 20; decide) (.string ⟨#[107, 101, 101, 112, 105, 110, 103]⟩)).set 14 (by show 14 < 20; decide) (.slice none 0 0)).set 15 (by show 15 < 20; decide) (.slice none 0 0)
              obtain ⟨W16, hW16⟩ : ∃ W16, ((W13.setCell ⟨mo, 13, none⟩ (.string ⟨#[107, 101, 101, 112, 105, 110, 103]⟩)).setCell ⟨mo, 14, none⟩ (.slice none 0 0)).setCell ⟨mo, 15, none⟩ (.slice none 0 0) = W16 := ⟨_, rfl⟩
              have hk16 : KeptBut (fun b => b = mo) W13 W16 := by
                rw [← hW16]
                exact (((KeptBut.refl (fun b => b = mo) W13).set1 (p := ⟨mo, 13, none⟩) rfl _).set1 (p := ⟨mo, 14, none⟩) rfl _).set1 (p := ⟨mo, 15, none⟩) rfl _
              rw [hW16] at hcs
              have hc16 : CellsAt W16 mo (rAskV { b3 with st := 1 } (.slice ma b3.t.mem.length mc) (.slice na b3.mem2.length nc) (.slice none 0 0) (.slice none 0 0)) := hcs
              have j12 : W16.cell? ⟨mo, 12, none⟩ = some (.bool true) := (hc16.cell 12 (by show 12 < 20; decide)).trans (congrArg (fun x => some (Value.bool x)) HB3.out.2.2.1.2.1)
              have i4 : W16.cell? ⟨mo, 4, none⟩ = some (.int .i64 b3.t.cf) := hc16.cell 4 (by show 4 < 20; decide)
              have i5 : W16.cell? ⟨mo, 5, none⟩ = some (.int .i64 (b3.t.n : Nat)) := hc16.cell 5 (by show 5 < 20; decide)
              have i6 : W16.cell? ⟨mo, 6, none⟩ = some (.int .i64 (b3.t.k : Nat)) := hc16.cell 6 (by show 6 < 20; decide)
              have i7 : W16.cell? ⟨mo, 7, none⟩ = some (.slice ma b3.t.mem.length mc) := hc16.cell 7 (by show 7 < 20; decide)
              have i8 : W16.cell? ⟨mo, 8, none⟩ = some (.int .i64 (b3.n2 : Nat)) := hc16.cell 8 (by show 8 < 20; decide)
              have i9 : W16.cell? ⟨mo, 9, none⟩ = some (.int .i64 (b3.k2 : Nat)) := hc16.cell 9 (by show 9 < 20; decide)
              have i10 : W16.cell? ⟨mo, 10, none⟩ = some (.slice na b3.mem2.length nc) := hc16.cell 10 (by show 10 < 20; decide)
              have u4 := hc16.z 4
              have u5 := hc16.z 5
              have u6 := hc16.z 6
              have u7 := hc16.z 7
              have hnx := HA.out.2.2.2.2.2 (by first | rfl | trivial)
              obtain ⟨hw1, hw2⟩ : (0 : Int) ≤ b3.t.cf ∧ b3.t.cf < 9223372036854775807 := by
                rw [HB3.out.2.2.1.2.2.1, HT9.out.2.2.2.2.2.1, ← HT9.out.2.2.2.2.1]
                exact hnx.1
              obtain ⟨W20, hW20⟩ : ∃ W20, (((W16.setCell ⟨mo, 5, none⟩ (.int .i64 (b3.n2 : Nat))).setCell ⟨mo, 6, none⟩ (.int .i64 (b3.k2 : Nat))).setCell ⟨mo, 7, none⟩ (.slice na b3.mem2.length nc)).setCell ⟨mo, 4, none⟩ (.int .i64 (b3.t.cf + 1)) = W20 := ⟨_, rfl⟩
              have hc20 := (((hc16.set 5 (by show 5 < 20; decide) (.int .i64 (b3.n2 : Nat))).set 6 (by show 6 < 20; decide) (.int .i64 (b3.k2 : Nat))).set 7 (by show 7 < 20; decide) (.slice na b3.mem2.length nc)).set 4 (by show 4 < 20; decide) (.int .i64 (b3.t.cf + 1))
              rw [hW20] at hc20
              have hk20 : KeptBut (fun b => b = mo) W13 W20 := by
                rw [← hW20]
                exact hk16.trans (((((KeptBut.refl (fun b => b = mo) W16).set1 (p := ⟨mo, 5, none⟩) rfl _).set1 (p := ⟨mo, 6, none⟩) rfl _).set1 (p := ⟨mo, 7, none⟩) rfl _).set1 (p := ⟨mo, 4, none⟩) rfl _)
              have hX20 := RAskAt.anew2 (a' := keepS b3) HX13.out.1 hk20 (by rw [hks]; exact hc20) (by rw [hks]) (by rw [hks]) (by rw [hks])
              have hokb : TalkOk (keepS b3).t := by
                rw [hks]
                refine ⟨?_, List.nodup_nil, fun p hp => by cases hp⟩
                have h9 := hnx.2
                rw [← HB3.out.2.2.1.2.2.2.1, ← HB3.out.2.2.1.2.2.2.2.1, ← HB3.out.2.2.1.2.2.2.2.2] at h9
                exact h9
              have Hsd := Lib.hid (rsend_keep S _ W20 mo na nc na nc _ _ _ (keepS b3) hX20 hokb (by rw [hks]; exact HB3.out.1))
              unfold kKeep at Hsd
              have HX16 := Lib.hid (And.intro hX20 (HX13.out.2.trans (hk20.mono fun b _ e => by rw [e]; exact H.out.1.hF)))
              clear hks hcs hk16 hc16 hc20 hk20 hX20 hokb hnx
              go_wp2_with fail
              refine Hsd.out.mono ?_
              rintro e w17 ⟨hb17, a17, cp17, rfl, r1, r2, r3, r4⟩
              have H17 := Lib.hid (And.intro hb17 (And.intro r1 (And.intro r2 (And.intro r3 r4))))
              clear hb17 r1 r2 r3 r4 hW16 hW20 j12 i4 i5 i6 i7 i8 i9 i10 u4 u5 u6 u7
              go_wp2
              go_ret
              refine ⟨grownF F w3 w8, na, nc, _, _, _, H9'.out.2.2, HX16.out.2.trans (KeptBut.of_below H17.out.1 (fun k h1 h2 => by omega)), by rw [hear_keep rfl Hyes.out (.inr ⟨rfl, rfl⟩) Heb.out (by rw [HB3.out.2.1]; exact Hfo.out), HB3.out.2.1]; exact HX16.out.1.below H17.out.1 (Nat.le_refl _), ?_⟩
              rw [hear_keep rfl Hyes.out (.inr ⟨rfl, rfl⟩) Heb.out (by rw [HB3.out.2.1]; exact Hfo.out), HB3.out.2.1]
              refine ⟨a17, cp17, rfl, H17.out.2.1, H17.out.2.2.1, H17.out.2.2.2.1, H17.out.2.2.2.2.mono (fun b _ hb => ?_)⟩
              have hb' : W20.heap.size ≤ b := hb
              refine ⟨Nat.le_trans HX16.out.2.size hb', fun h9 => ?_⟩
              have := HX16.out.1.lt b h9
              omega
  · rw [show rwaitT ⟨⟨name, tkey, top, tcf, n, k, mem, wait, got⟩, who, false, true, n2, k2, mem2, 1, tag, text, found⟩ = (⟨#[107, 101, 112, 116]⟩ : ByteArray) from rfl]
    have hwt : wait = (⟨#[107, 101, 112, 116]⟩ : ByteArray) := HA.out.2.2.2.2.1 (by first | decide | trivial)
    subst hwt
    obtain ⟨fb, hfb⟩ : ∃ fb, fitsB ⟨name, tkey, top, tcf, n, k, mem, ⟨#[107, 101, 112, 116]⟩, got⟩ ⟨fr, dst, kind, key, op, cf, true, L⟩ = fb := ⟨_, rfl⟩
    have hf : fb = (decide (dst = name ∧ key = tkey ∧ op = top ∧ cf = tcf ∧ kind = (⟨#[107, 101, 112, 116]⟩ : ByteArray)) && !(got.any fun p => decide (p.1 = fr)) && mem.any fun s => decide (s = fr)) := hfb.symm
    have hcs : (fb = false ∧ (((kind.toList == ([107, 101, 112, 116] : List UInt8)) = false ∧ kind ≠ (⟨#[107, 101, 112, 116]⟩ : ByteArray)) ∨ (kind = (⟨#[107, 101, 112, 116]⟩ : ByteArray) ∧ (dst.toList == name.toList) = false ∧ dst ≠ name) ∨ (kind = (⟨#[107, 101, 112, 116]⟩ : ByteArray) ∧ dst = name ∧ (key.toList == tkey.toList) = false ∧ key ≠ tkey) ∨ (kind = (⟨#[107, 101, 112, 116]⟩ : ByteArray) ∧ dst = name ∧ key = tkey ∧ (op != top) = true ∧ op ≠ top) ∨
        (kind = (⟨#[107, 101, 112, 116]⟩ : ByteArray) ∧ dst = name ∧ key = tkey ∧ op = top ∧ (cf != tcf) = true ∧ cf ≠ tcf))) ∨ (fb = (!(got.any fun p => decide (p.1 = fr)) && mem.any fun s => decide (s = fr)) ∧ kind = (⟨#[107, 101, 112, 116]⟩ : ByteArray) ∧ dst = name ∧ key = tkey ∧ op = top ∧ cf = tcf) := by
      rw [hf]
      by_cases e5 : kind = (⟨#[107, 101, 112, 116]⟩ : ByteArray)
      · by_cases e1 : dst = name
        · by_cases e2 : key = tkey
          · by_cases e3 : op = top
            · by_cases e4 : cf = tcf
              · exact .inr ⟨by simp [e1, e2, e3, e4, e5], e5, e1, e2, e3, e4⟩
              · exact .inl ⟨by simp [e4], .inr (.inr (.inr (.inr ⟨e5, e1, e2, e3, by simpa using e4, e4⟩)))⟩
            · exact .inl ⟨by simp [e3], .inr (.inr (.inr (.inl ⟨e5, e1, e2, by simpa using e3, e3⟩)))⟩
          · exact .inl ⟨by simp [e2], .inr (.inr (.inl ⟨e5, e1, txt_neV e2, e2⟩))⟩
        · exact .inl ⟨by simp [e1], .inr (.inl ⟨e5, txt_neV e1, e1⟩)⟩
      · exact .inl ⟨by simp [e5], .inl ⟨by have h := txt_neV e5; rwa [show (⟨#[107, 101, 112, 116]⟩ : ByteArray).toList = [107, 101, 112, 116] from by rw [ByteArray.toList_eq]] at h, e5⟩⟩
    have Hfb := Lib.hid hfb
    clear hf hfb
    rcases hcs with ⟨rfl, hcs⟩ | ⟨hN, rfl, rfl, rfl, rfl, rfl⟩
    · rcases hcs with ⟨e1, e2⟩ | ⟨rfl, e1, e2⟩ | ⟨rfl, rfl, e1, e2⟩ | ⟨rfl, rfl, rfl, e1, e2⟩ | ⟨rfl, rfl, rfl, rfl, e1, e2⟩
      all_goals
        go_wp2
        refine wp_region_quiet_below (by kernel_rfl) (by kernel_rfl) ?_
        repeat (go_big_quiet_step (fail))
        refine wpQuiet_nil ?_
        intro w2 hw'
        obtain ⟨⟨dq, osq⟩, hw2⟩ := hw'
        have H2 := Lib.hid (show Below W1.heap.size W1 w2 by rw [hw2]; exact below_regrown W1 dq osq)
        clear hw2 k1 k2' k3 k4 k5 t0 t1 t3 t4
        go_wp2
        go_ret
        exact ⟨F, ma, mc, fv, lv, us, fun b hb => .inl hb, KeptBut.of_below (H.out.2.2.2.2.2.1.trans (H2.out.mono H.out.2.2.2.2.2.1.size)) (fun k h1 h2 => by omega), by rw [hear_no (.inr Hfb.out)]; exact H.out.2.1.below H2.out (Nat.le_refl _), by rw [hear_no (.inr Hfb.out)]; exact RetMsgs.nil _ _⟩
    · have HN := Lib.hid hN
      clear hN
      go_wp2
      refine wp_region_quiet_below (by kernel_rfl) (by kernel_rfl) ?_
      repeat (go_big_quiet_step (fail))
      refine wpQuiet_nil ?_
      intro w2 hw'
      obtain ⟨⟨dq, osq⟩, hw2⟩ := hw'
      have H2 := Lib.hid (show Below W1.heap.size W1 w2 by rw [hw2]; exact below_regrown W1 dq osq)
      clear hw2 k1 k2' k3 k4 k5 t0 t1 t3 t4
      have hX2 := H.out.2.1.below H2.out (Nat.le_refl _)
      obtain ⟨fa, fc, hfv, f1, f2, f3, f4⟩ := hX2.fr.read
      rw [List.length_map] at hfv f1
      dsimp only at hfv f1
      obtain ⟨g, hg⟩ : ∃ g, got.length = g := ⟨_, rfl⟩
      rw [hg] at hfv f1
      obtain ⟨m, hm⟩ : ∃ m, mem.length = m := ⟨_, rfl⟩
      have d7 : w2.cell? ⟨mo, 7, none⟩ = some (.slice ma mem.length mc) := hX2.cs.cell 7 (by show 7 < 20; decide)
      have d14 : w2.cell? ⟨mo, 14, none⟩ = some fv := hX2.cs.cell 14 (by show 14 < 20; decide)
      rw [hm] at d7
      rw [hfv] at d14
      have q0 := (KS.out w2 (fun b => W1.heap.size ≤ b) (KeptBut.of_below H2.out (fun _ _ h => h)) (by have := H.out.2.2.2.2.2.2.2.2; omega)).1
      have hg12 : g ≤ 12 := by have h1 := got_len H.out.2.2.1; have h2 := talk_cfg H.out.2.2.1; dsimp only at h1 h2; omega
      have hm12 : m ≤ 12 := by have h2 := talk_cfg H.out.2.2.1; dsimp only at h2; omega
      have Ci1 := fun d os => Calls.regrown_of ((ridx_walk w2.heap.size ma m mc mem fr (Go.Sort.grow (redrawn w2 d) os) hm (by unfold maxLen; omega) (hX2.mem.at_.below (below_regrown w2 d os))).mono fun e w' h => ⟨h.1, h.2 ▸ Below.refl _ _⟩)
      have Ci2 := fun d os => Calls.regrown_of ((ridx_walk w2.heap.size fa g fc (got.map (·.1)) fr (Go.Sort.grow (redrawn w2 d) os) (by rw [List.length_map]; exact hg) (by unfold maxLen; omega) (f4.below (below_regrown w2 d os))).mono fun e w' h => ⟨h.1, h.2 ▸ Below.refl _ _⟩)
      have v7 := cell_regrown d7
      have v14 := cell_regrown d14
      have v0 := cell_regrown q0
      have hcs : (idxT mem fr = -1 ∧ fr ∉ mem) ∨ ((∃ q : Nat, idxT mem fr = q) ∧ fr ∈ mem ∧ (∃ q : Nat, idxT (got.map (·.1)) fr = q) ∧ fr ∈ got.map (·.1)) ∨ ((∃ q : Nat, idxT mem fr = q) ∧ fr ∈ mem ∧ idxT (got.map (·.1)) fr = -1 ∧ fr ∉ got.map (·.1)) := by
        have r1 := idxT_range mem fr
        have r2 := idxT_range (got.map (·.1)) fr
        by_cases h1 : fr ∈ mem
        · have p1 := r1.2.2.2 h1
          obtain ⟨q1, e1, _⟩ := idxT_hit p1
          by_cases h2 : fr ∈ got.map (·.1)
          · obtain ⟨q2, e2, _⟩ := idxT_hit (r2.2.2.2 h2)
            exact .inr (.inl ⟨⟨q1, e1⟩, h1, ⟨q2, e2⟩, h2⟩)
          · exact .inr (.inr ⟨⟨q1, e1⟩, h1, by have : ¬ 0 ≤ idxT (got.map (·.1)) fr := fun h9 => h2 (r2.2.2.1 h9); omega, h2⟩)
        · exact .inl ⟨by have : ¬ 0 ≤ idxT mem fr := fun h9 => h1 (r1.2.2.1 h9); omega, h1⟩
      have hmem : (mem.any fun s => decide (s = fr)) = decide (fr ∈ mem) := by
        by_cases h1 : fr ∈ mem
        · rw [decide_eq_true h1]; exact List.any_eq_true.2 ⟨fr, h1, by simp⟩
        · rw [decide_eq_false h1, List.any_eq_false]; intro s hs e; exact h1 (by rw [← of_decide_eq_true e]; exact hs)
      have hgm : (got.any fun p => decide (p.1 = fr)) = decide (fr ∈ got.map (·.1)) := by
        by_cases h1 : fr ∈ got.map (·.1)
        · rw [decide_eq_true h1]
          obtain ⟨p, hp, e⟩ := List.mem_map.1 h1
          exact List.any_eq_true.2 ⟨p, hp, decide_eq_true e⟩
        · rw [decide_eq_false h1, List.any_eq_false]; intro p hp e; exact h1 (List.mem_map.2 ⟨p, hp, of_decide_eq_true e⟩)
      have HM := Lib.hid (And.intro hmem (And.intro hgm (And.intro hfv (And.intro hg (And.intro hm f1)))))
      have HX2 := Lib.hid hX2
      clear hmem hgm hfv hg hm hX2 f1 f2 f3 f4
      rcases hcs with ⟨e1, e2⟩ | ⟨⟨q1, e1⟩, e2, ⟨q2, e3⟩, e4⟩ | ⟨⟨q1, e1⟩, e2, e3, e4⟩
      · have hno : fitsB ⟨dst, key, op, cf, n, k, mem, ⟨#[107, 101, 112, 116]⟩, got⟩ ⟨fr, dst, ⟨#[107, 101, 112, 116]⟩, key, op, cf, true, L⟩ = false := by rw [Hfb.out, HN.out, HM.out.1, decide_eq_false e2]; simp
        have Hno := Lib.hid hno
        rw [e1] at Ci1
        clear hno e1 e2
        go_wp2
        refine wp_region_quiet_below (by kernel_rfl) (by kernel_rfl) ?_
        repeat (go_big_quiet_step (first | with_reducible exact Ci1 _ _ | with_reducible exact Ci2 _ _))
        refine wpQuiet_nil ?_
        intro w3 hw'
        obtain ⟨⟨dr, osr⟩, hw3⟩ := hw'
        have H3 := Lib.hid (show Below W1.heap.size W1 w3 by rw [hw3]; exact H2.out.trans ((below_regrown w2 dr osr).mono H2.out.size))
        clear hw3 v0 v7 v14 Ci1 Ci2 d7 d14 q0
        go_wp2
        go_ret
        exact ⟨F, ma, mc, fv, lv, us, fun b hb => .inl hb, KeptBut.of_below (H.out.2.2.2.2.2.1.trans (H3.out.mono H.out.2.2.2.2.2.1.size)) (fun k h1 h2 => by omega), by rw [hear_no (.inr Hno.out)]; exact H.out.2.1.below H3.out (Nat.le_refl _), by rw [hear_no (.inr Hno.out)]; exact RetMsgs.nil _ _⟩
      · have hno : fitsB ⟨dst, key, op, cf, n, k, mem, ⟨#[107, 101, 112, 116]⟩, got⟩ ⟨fr, dst, ⟨#[107, 101, 112, 116]⟩, key, op, cf, true, L⟩ = false := by rw [Hfb.out, HN.out, HM.out.2.1, decide_eq_true e4]; simp
        have Hno := Lib.hid hno
        rw [e1] at Ci1
        rw [e3] at Ci2
        have z1 : decide ((q1 : Int) < 0) = false := decide_eq_false (by omega)
        clear hno e1 e2 e3 e4
        go_wp2
        refine wp_region_quiet_below (by kernel_rfl) (by kernel_rfl) ?_
        repeat (go_big_quiet_step (first | with_reducible exact Ci1 _ _ | with_reducible exact Ci2 _ _))
        refine wpQuiet_nil ?_
        intro w3 hw'
        obtain ⟨⟨dr, osr⟩, hw3⟩ := hw'
        have H3 := Lib.hid (show Below W1.heap.size W1 w3 by rw [hw3]; exact H2.out.trans ((below_regrown w2 dr osr).mono H2.out.size))
        clear hw3 v0 v7 v14 Ci1 Ci2 d7 d14 q0
        go_wp2
        go_ret
        exact ⟨F, ma, mc, fv, lv, us, fun b hb => .inl hb, KeptBut.of_below (H.out.2.2.2.2.2.1.trans (H3.out.mono H.out.2.2.2.2.2.1.size)) (fun k h1 h2 => by omega), by rw [hear_no (.inr Hno.out)]; exact H.out.2.1.below H3.out (Nat.le_refl _), by rw [hear_no (.inr Hno.out)]; exact RetMsgs.nil _ _⟩
      · have hyes : fitsB ⟨dst, key, op, cf, n, k, mem, ⟨#[107, 101, 112, 116]⟩, got⟩ ⟨fr, dst, ⟨#[107, 101, 112, 116]⟩, key, op, cf, true, L⟩ = true := by rw [Hfb.out, HN.out, HM.out.1, HM.out.2.1, decide_eq_true e2, decide_eq_false e4]; rfl
        have Hyes := Lib.hid hyes
        rw [e1] at Ci1
        rw [e3] at Ci2
        have z1 : decide ((q1 : Int) < 0) = false := decide_eq_false (by omega)
        clear hyes e1 e2 e3 e4 Hfb HN
        go_wp2
        refine wp_region_quiet_below (by kernel_rfl) (by kernel_rfl) ?_
        repeat (go_big_quiet_step (first | with_reducible exact Ci1 _ _ | with_reducible exact Ci2 _ _))
        refine wpQuiet_nil ?_
        intro w3 hw'
        obtain ⟨⟨dr, osr⟩, hw3⟩ := hw'
        have H3 := Lib.hid (show Below W1.heap.size W1 w3 by rw [hw3]; exact H2.out.trans ((below_regrown w2 dr osr).mono H2.out.size))
        clear hw3 v0 v7 v14 Ci1 Ci2 d7 d14 q0
        have hX3 := H.out.2.1.below H3.out (Nat.le_refl _)
        have hk3 : KeptBut F w w3 := KeptBut.of_below (H.out.2.2.2.2.2.1.trans (H3.out.mono H.out.2.2.2.2.2.1.size)) (fun k h1 h2 => by omega)
        have hxs : xb < W1.heap.size := by have := H.out.2.2.2.2.2.2.2.2; omega
        obtain ⟨q0, q6, q7⟩ := KS.out w3 (fun b => W1.heap.size ≤ b) (KeptBut.of_below H3.out (fun _ _ h => h)) (by omega)
        have d13 : w3.cell? ⟨mo, 13, none⟩ = some (.string ⟨#[107, 101, 101, 112, 105, 110, 103]⟩) := hX3.cs.cell 13 (by show 13 < 20; decide)
        have z13 := hX3.cs.z 13
        have HX3 := Lib.hid (And.intro hX3 hk3)
        clear hX3 hk3
        have hc := HX3.out.1.cs.set 13 (by show 13 < 20; decide) (.string ⟨#[114, 101, 102, 117, 115, 101, 100]⟩)
        have hkm : KeptBut (fun b => b = mo) w3 (w3.setCell ⟨mo, 13, none⟩ (.string ⟨#[114, 101, 102, 117, 115, 101, 100]⟩)) := (KeptBut.refl (fun b => b = mo) w3).set1 (p := ⟨mo, 13, none⟩) rfl _
        have hR := RAskAt.turn (a' := { (⟨⟨dst, key, op, cf, n, k, mem, ⟨#[107, 101, 112, 116]⟩, got⟩, who, false, true, n2, k2, mem2, 1, tag, text, found⟩ : AskS) with st := 3 }) HX3.out.1 hkm hc rfl rfl rfl
        have HR := Lib.hid (And.intro hR (HX3.out.2.trans (hkm.mono fun b _ e => by rw [e]; exact H.out.1.hF)))
        clear hc hkm hR
        go_wp2
        go_ret
        exact ⟨F, ma, mc, fv, lv, us, fun b hb => .inl hb, HR.out.2, by rw [hear_sealed (by show 1 < 2; decide) Hyes.out rfl (by simp)]; exact HR.out.1, by rw [hear_sealed (by show 1 < 2; decide) Hyes.out rfl (by simp)]; exact RetMsgs.nil _ _⟩
  · rw [show rwaitT ⟨⟨name, tkey, top, tcf, n, k, mem, wait, got⟩, who, false, true, n2, k2, mem2, 2, tag, text, found⟩ = (⟨#[]⟩ : ByteArray) from rfl]
    go_wp2
    refine wp_region_quiet_below (by kernel_rfl) (by kernel_rfl) ?_
    repeat (go_big_quiet_step (fail))
    refine wpQuiet_nil ?_
    intro w2 hw'
    obtain ⟨⟨dq, osq⟩, hw2⟩ := hw'
    have H2 := Lib.hid (show Below W1.heap.size W1 w2 by rw [hw2]; exact below_regrown W1 dq osq)
    clear hw2 k1 k2' k3 k4 k5 t0 t1 t3 t4
    go_wp2
    go_ret
    exact ⟨F, ma, mc, fv, lv, us, fun b hb => .inl hb, KeptBut.of_below (H.out.2.2.2.2.2.1.trans (H2.out.mono H.out.2.2.2.2.2.1.size)) (fun k h1 h2 => by omega), by rw [hear_no (.inl (by show 2 ≤ 2; decide))]; exact H.out.2.1.below H2.out (Nat.le_refl _), by rw [hear_no (.inl (by show 2 ≤ 2; decide))]; exact RetMsgs.nil _ _⟩
  · rw [show rwaitT ⟨⟨name, tkey, top, tcf, n, k, mem, wait, got⟩, who, false, true, n2, k2, mem2, 3, tag, text, found⟩ = (⟨#[]⟩ : ByteArray) from rfl]
    go_wp2
    refine wp_region_quiet_below (by kernel_rfl) (by kernel_rfl) ?_
    repeat (go_big_quiet_step (fail))
    refine wpQuiet_nil ?_
    intro w2 hw'
    obtain ⟨⟨dq, osq⟩, hw2⟩ := hw'
    have H2 := Lib.hid (show Below W1.heap.size W1 w2 by rw [hw2]; exact below_regrown W1 dq osq)
    clear hw2 k1 k2' k3 k4 k5 t0 t1 t3 t4
    go_wp2
    go_ret
    exact ⟨F, ma, mc, fv, lv, us, fun b hb => .inl hb, KeptBut.of_below (H.out.2.2.2.2.2.1.trans (H2.out.mono H.out.2.2.2.2.2.1.size)) (fun k h1 h2 => by omega), by rw [hear_no (.inl (by show 2 ≤ 3; decide))]; exact H.out.2.1.below H2.out (Nat.le_refl _), by rw [hear_no (.inl (by show 2 ≤ 3; decide))]; exact RetMsgs.nil _ _⟩
theorem mhear2_walk (S F : Nat → Prop) (w : World) (mo : Nat) (ma : Option Addr) (mc : Nat) (na : Option Addr) (nc : Nat) (fv lv : Value) (us : List Value) (a : AskS) (fr dst kind key : ByteArray) (op cf : Int) (sl : Bool) (ad : Option Addr) (len cap : Nat) (L : List Ver) (h : RAskAt S F w mo ma mc na nc fv lv us a) (hok : TalkOk a.t) (hmv : a.moves = true) (hst : a.st ≤ 3) (hwt : a.st < 2 → a.t.wait = waitT a) (htx : a.text.size ≤ 1000)
    (htot : totV (a.t.got.map (·.2)) + L.length ≤ 1000000) (hlen : L.length = len) (ha : ad = none → cap = 0) (hL : VrS (fun b => ¬ F b) w ad L) (hS : ∀ b, S b → b < w.heap.size) (hpt : a.put = false) (hnx : a.st = 0 → (0 ≤ a.t.cf ∧ a.t.cf < 9223372036854775807) ∧ configF (a.n2 : Int) (a.k2 : Int) a.mem2 = (0, -1)) :
    Calls Tryz.prog 20 #[.pointer (some ⟨mo, 0, none⟩), .agg #[.string fr, .string dst, .string kind, .string key, .int .i64 op, .int .i64 cf, .bool sl, .slice ad len cap]] w fun e w' => RAskPost S F w w' mo na nc a ⟨fr, dst, kind, key, op, cf, sl, L⟩ e := by
  cases sl with
  | false => exact mhear2_false S F w mo ma mc na nc fv lv us a fr dst kind key op cf ad len cap L h hok hmv hst hwt htx htot hlen ha hL hS hpt hnx
  | true => exact mhear2_true S F w mo ma mc na nc fv lv us a fr dst kind key op cf ad len cap L h hok hmv hst hwt htx htot hlen ha hL hS hpt hnx
end
end Go.Proofs.YtabboioamdphmaaGreatDoor

