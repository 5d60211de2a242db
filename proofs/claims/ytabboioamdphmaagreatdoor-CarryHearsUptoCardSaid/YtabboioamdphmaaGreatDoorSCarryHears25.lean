/- Walks of a talk's Fits, Take, Start. -/
import Derived.Test.YtabboioamdphmaaGreatDoorSCarryHears24
import Derived.Test.YtabboioamdphmaaGreatDoorSCarryHears16
import Derived.Test.YtabboioamdphmaaGreatDoorSCarryHears19
import Derived.Test.YtabboioamdphmaaGreatDoorSCarryHears14
namespace Go.Proofs.YtabboioamdphmaaGreatDoor
section
open Go.RowKit Go.Maps Go.BigFrame

set_option maxRecDepth 100000 in
set_option maxHeartbeats 4000000 in
theorem fits_walk (F : Nat → Prop) (w : World) (tb bm : Nat) (ma : Option Addr) (mc : Nat) (t : TalkS) (fr dst kind key : ByteArray) (op cf : Int) (sl : Bool) (a : Option Addr) (len cap : Nat) (L : List Ver) (h : TalkAt F w tb bm ma mc t) (hfr : fr.size ≤ maxLen) :
    Calls Tryz.prog 44 #[.pointer (some ⟨tb, 0, none⟩), .agg #[.string fr, .string dst, .string kind, .string key, .int .i64 op, .int .i64 cf, .bool sl, .slice a len cap]] w fun e w' => e = .returned (.bool (fitsB t ⟨fr, dst, kind, key, op, cf, sl, L⟩)) ∧ Below w.heap.size w w' := by
  obtain ⟨name, tkey, top, tcf, n, k, mem, wait, got⟩ := t
  obtain ⟨W1, hW1⟩ : ∃ W1, w.alloc (.cells #[.string fr, .string dst, .string kind, .string key, .int .i64 op, .int .i64 cf, .bool sl, .slice a len cap] 55) = W1 := ⟨_, rfl⟩
  obtain ⟨ab, hab⟩ : ∃ ab, w.heap.size = ab := ⟨_, rfl⟩
  have hb1 : Below w.heap.size w W1 := by rw [← hW1]; exact (Below.refl _ _).alloc (Nat.le_refl _) _
  have r0 : W1.cell? ⟨ab, 0, none⟩ = some (.string fr) := by rw [← hW1, ← hab]; simp
  have r1 : W1.cell? ⟨ab, 1, none⟩ = some (.string dst) := by rw [← hW1, ← hab]; simp
  have r2 : W1.cell? ⟨ab, 2, none⟩ = some (.string kind) := by rw [← hW1, ← hab]; simp
  have r3 : W1.cell? ⟨ab, 3, none⟩ = some (.string key) := by rw [← hW1, ← hab]; simp
  have r4 : W1.cell? ⟨ab, 4, none⟩ = some (.int .i64 op) := by rw [← hW1, ← hab]; simp
  have r5 : W1.cell? ⟨ab, 5, none⟩ = some (.int .i64 cf) := by rw [← hW1, ← hab]; simp
  have h1 := h.below hb1 (Nat.le_refl _)
  have k0 := cell_regrown r0
  have k1 := cell_regrown r1
  have k2 := cell_regrown r2
  have k3 := cell_regrown r3
  have k4 := cell_regrown r4
  have k5 := cell_regrown r5
  have t0 := cell_regrown h1.c0
  have t1 := cell_regrown h1.c1
  have t2 := cell_regrown h1.c2
  have t3 := cell_regrown h1.c3
  have t7 := cell_regrown h1.c7
  dsimp only at t0 t1 t2 t3 t7
  have H1 := Lib.hid (And.intro hb1 (And.intro h1 (And.intro hW1 hab)))
  have Hr0 := Lib.hid r0
  have Hm := Lib.hid (And.intro H1.out.2.1.mem.at_ H1.out.2.1.mmax)
  obtain ⟨v, hlook, _⟩ := H1.out.2.1.got.look (k := fr) hfr
  obtain ⟨ib, hib⟩ : ∃ ib, (got.any fun p => decide (p.1 = fr)) = ib := ⟨_, rfl⟩
  obtain ⟨mb, hmb⟩ : ∃ mb, (mem.any fun s => decide (s = fr)) = mb := ⟨_, rfl⟩
  have hmb2 : decide (fr ∈ mem) = mb := by
    rw [← hmb]
    cases h9 : mem.any fun s => decide (s = fr) with
    | true =>
      obtain ⟨s, hs, e⟩ := List.any_eq_true.1 h9
      rw [← of_decide_eq_true e]; exact decide_eq_true hs
    | false =>
      refine decide_eq_false (fun hs => ?_)
      have := List.any_eq_false.1 h9 fr hs
      simp at this
  have hcs : (fitsB ⟨name, tkey, top, tcf, n, k, mem, wait, got⟩ ⟨fr, dst, kind, key, op, cf, sl, L⟩ = false ∧ (((dst.toList == name.toList) = false ∧ dst ≠ name) ∨ (dst = name ∧ (key.toList == tkey.toList) = false ∧ key ≠ tkey) ∨ (dst = name ∧ key = tkey ∧ (op != top) = true ∧ op ≠ top) ∨ (dst = name ∧ key = tkey ∧ op = top ∧ (cf != tcf) = true ∧ cf ≠ tcf) ∨
      (dst = name ∧ key = tkey ∧ op = top ∧ cf = tcf ∧ (kind.toList == wait.toList) = false ∧ kind ≠ wait))) ∨ (fitsB ⟨name, tkey, top, tcf, n, k, mem, wait, got⟩ ⟨fr, dst, kind, key, op, cf, sl, L⟩ = (!ib && mb) ∧ dst = name ∧ key = tkey ∧ op = top ∧ cf = tcf ∧ kind = wait) := by
    have hf : fitsB ⟨name, tkey, top, tcf, n, k, mem, wait, got⟩ ⟨fr, dst, kind, key, op, cf, sl, L⟩ = (decide (dst = name ∧ key = tkey ∧ op = top ∧ cf = tcf ∧ kind = wait) && !ib && mb) := by
      rw [← hib, ← hmb]
      rfl
    rw [hf]
    by_cases e1 : dst = name
    · by_cases e2 : key = tkey
      · by_cases e3 : op = top
        · by_cases e4 : cf = tcf
          · by_cases e5 : kind = wait
            · exact .inr ⟨by simp [e1, e2, e3, e4, e5], e1, e2, e3, e4, e5⟩
            · exact .inl ⟨by simp [e5], .inr (.inr (.inr (.inr ⟨e1, e2, e3, e4, txt_neV e5, e5⟩)))⟩
          · exact .inl ⟨by simp [e4], .inr (.inr (.inr (.inl ⟨e1, e2, e3, by simpa using e4, e4⟩)))⟩
        · exact .inl ⟨by simp [e3], .inr (.inr (.inl ⟨e1, e2, by simpa using e3, e3⟩))⟩
      · exact .inl ⟨by simp [e2], .inr (.inl ⟨e1, txt_neV e2, e2⟩)⟩
    · exact .inl ⟨by simp [e1], .inl ⟨txt_neV e1, e1⟩⟩
  rw [hib] at hlook
  have Hlk := Lib.hid (And.intro hlook hmb2)
  clear r0 r1 r2 r3 r4 r5 hb1 h h1 hW1 hab hlook hib hmb hmb2
  go_enter Tryz.func44, Tryz.ntmps44
  go_wp2
  rw [H1.out.2.2.1, H1.out.2.2.2]
  rcases hcs with ⟨hN, hcs⟩ | ⟨hN, rfl, rfl, rfl, rfl, rfl⟩
  · have HN := Lib.hid hN
    clear hN
    rcases hcs with ⟨e1, e2⟩ | ⟨rfl, e1, e2⟩ | ⟨rfl, rfl, e1, e2⟩ | ⟨rfl, rfl, rfl, e1, e2⟩ | ⟨rfl, rfl, rfl, rfl, e1, e2⟩
    all_goals
      refine wp_region_quiet_below (by kernel_rfl) (by kernel_rfl) ?_
      repeat (go_big_quiet_step (fail))
      refine wpQuiet_nil ?_
      intro w2 hw'
      obtain ⟨⟨dq, osq⟩, hw2⟩ := hw'
      have H2 := Lib.hid (show Below W1.heap.size W1 w2 by rw [hw2]; exact below_regrown W1 dq osq)
      clear hw2 k0 k1 k2 k3 k4 k5 t0 t1 t2 t3 t7
      go_wp2
      go_ret
      exact ⟨by rw [HN.out]; rfl, H1.out.1.trans (H2.out.mono H1.out.1.size)⟩
  · have HN := Lib.hid hN
    clear hN
    refine wp_region_quiet_below (by kernel_rfl) (by kernel_rfl) ?_
    repeat (go_big_quiet_step (fail))
    refine wpQuiet_nil ?_
    intro w2 hw'
    obtain ⟨⟨dq, osq⟩, hw2⟩ := hw'
    have hb2 : Below W1.heap.size W1 w2 := by rw [hw2]; exact below_regrown W1 dq osq
    have H2 := Lib.hid hb2
    have h2 := H1.out.2.1.below hb2 (Nat.le_refl _)
    have q0 := cell_regrown ((hb2.cell (p := ⟨ab, 0, none⟩) (lt_of_cell Hr0.out)).trans Hr0.out)
    have q8 := cell_regrown h2.c8
    have hlk := fun d os => Hlk.out.1 (Go.Sort.grow (redrawn w2 d) os) (hb2.trans ((below_regrown w2 d os).mono hb2.size))
    clear hw2 k0 k1 k2 k3 k4 k5 t0 t1 t2 t3 t7 hb2 h2
    go_wp2
    refine wp_region_quiet_below (by kernel_rfl) (by kernel_rfl) ?_
    repeat (go_big_quiet_step (fail))
    refine wpQuiet_nil ?_
    intro w3 hw'
    obtain ⟨⟨dr, osr⟩, hw3⟩ := hw'
    have hb3 : Below W1.heap.size W1 w3 := by rw [hw3]; exact H2.out.trans ((below_regrown w2 dr osr).mono H2.out.size)
    have H3 := Lib.hid hb3
    have h3 := H1.out.2.1.below hb3 (Nat.le_refl _)
    have s0 := cell_regrown ((hb3.cell (p := ⟨ab, 0, none⟩) (lt_of_cell Hr0.out)).trans Hr0.out)
    have s6 := cell_regrown h3.c6
    have Cc := fun d os => Calls.regrown_of ((contS_walk W1.heap.size ma mem.length mc mem fr mb (Go.Sort.grow (redrawn w3 d) os) rfl (Nat.le_trans H1.out.2.1.mcap H1.out.2.1.mmax) ((Hm.out.1.below hb3).below ((below_regrown w3 d os).mono hb3.size)) Hlk.out.2).mono fun e w' h => ⟨h.1, h.2 ▸ Below.refl _ _⟩)
    clear hw3 hb3 h3 q0 q8 hlk
    go_wp2
    cases ib with
    | true =>
      refine wp_region_quiet_below (by kernel_rfl) (by kernel_rfl) ?_
      repeat (go_big_quiet_step (first | exact Cc _ _))
      refine wpQuiet_nil ?_
      intro w4 hw'
      obtain ⟨⟨ds, oss⟩, hw4⟩ := hw'
      have H4 := Lib.hid (show Below W1.heap.size W1 w4 by rw [hw4]; exact H3.out.trans ((below_regrown w3 ds oss).mono H3.out.size))
      clear hw4 s0 s6 Cc
      go_wp2
      go_ret
      exact ⟨by rw [HN.out]; rfl, H1.out.1.trans (H4.out.mono H1.out.1.size)⟩
    | false =>
      refine wp_region_quiet_below (by kernel_rfl) (by kernel_rfl) ?_
      repeat (go_big_quiet_step (first | exact Cc _ _))
      refine wpQuiet_nil ?_
      intro w4 hw'
      obtain ⟨⟨ds, oss⟩, hw4⟩ := hw'
      have H4 := Lib.hid (show Below W1.heap.size W1 w4 by rw [hw4]; exact H3.out.trans ((below_regrown w3 ds oss).mono H3.out.size))
      clear hw4 s0 s6 Cc
      go_wp2
      go_ret
      exact ⟨by rw [HN.out]; rfl, H1.out.1.trans (H4.out.mono H1.out.1.size)⟩
theorem got_len {t : TalkS} (h : TalkOk t) : t.got.length ≤ t.mem.length := by
  have h1 := (told_perm h).length_eq
  rw [List.length_map] at h1
  rw [← h1]
  exact List.length_filterMap_le ..
theorem talk_cfg {t : TalkS} (h : TalkOk t) : 1 ≤ t.k ∧ t.k ≤ t.n ∧ t.n ≤ 12 ∧ t.mem.length = t.n ∧ ∀ s ∈ t.mem, nameB s = true := by
  obtain ⟨⟨h1, h2, h3⟩, h4, _, h5, _⟩ := configF_zero (by rw [h.cfg])
  exact ⟨by omega, by omega, by omega, by omega, h5⟩
theorem name_size {s : ByteArray} (h : nameB s = true) : s.size ≤ maxLen := by
  unfold nameB at h
  simp at h
  unfold maxLen
  omega
theorem mem_size {t : TalkS} (h : TalkOk t) (j : Nat) : (t.mem[j]?.getD (⟨#[]⟩ : ByteArray)).size ≤ maxLen := by
  by_cases hj : j < t.mem.length
  · rw [List.getElem?_eq_getElem hj]; exact name_size ((talk_cfg h).2.2.2.2 _ (List.getElem_mem hj))
  · rw [List.getElem?_eq_none (by omega)]; exact Nat.zero_le _
set_option maxRecDepth 100000 in
set_option maxHeartbeats 4000000 in
theorem take_walk (F : Nat → Prop) (w : World) (tb bm : Nat) (ma : Option Addr) (mc : Nat) (t : TalkS) (fr dst kind key : ByteArray) (op cf : Int) (sl : Bool) (a : Option Addr) (len cap : Nat) (L : List Ver) (h : TalkAt F w tb bm ma mc t) (hok : TalkOk t) (hfr : fr.size ≤ maxLen) (hnew : fr ∉ t.got.map (·.1))
    (hlen : L.length = len) (hcap : len ≤ cap) (hl : len ≤ 1000000) (ha : a = none → cap = 0) (hL : VrR w.heap.size w a L) (E : Nat → Addr) (W0 : World) (hE : ErrQx W0 E) (hW : Below W0.heap.size W0 w) (hFW : ∀ b, F b → W0.heap.size ≤ b) :
    Calls Tryz.prog 45 #[.pointer (some ⟨tb, 0, none⟩), .agg #[.string fr, .string dst, .string kind, .string key, .int .i64 op, .int .i64 cf, .bool sl, .slice a len cap]] w fun e w' => e = .returned (.bool (enoughB (takeT t ⟨fr, dst, kind, key, op, cf, sl, L⟩))) ∧ TalkAt (grownF F w w') w' tb bm ma mc (takeT t ⟨fr, dst, kind, key, op, cf, sl, L⟩) ∧ KeptBut (fun b => b = bm) w w' := by
  obtain ⟨W1, hW1⟩ : ∃ W1, w.alloc (.cells #[.string fr, .string dst, .string kind, .string key, .int .i64 op, .int .i64 cf, .bool sl, .slice a len cap] 55) = W1 := ⟨_, rfl⟩
  obtain ⟨ab, hab⟩ : ∃ ab, w.heap.size = ab := ⟨_, rfl⟩
  have hb1 : Below w.heap.size w W1 := by rw [← hW1]; exact (Below.refl _ _).alloc (Nat.le_refl _) _
  have r0 : W1.cell? ⟨ab, 0, none⟩ = some (.string fr) := by rw [← hW1, ← hab]; simp
  have r7 : W1.cell? ⟨ab, 7, none⟩ = some (.slice a len cap) := by rw [← hW1, ← hab]; simp
  have hs1 : W1.heap.size = ab + 1 := by rw [← hW1, ← hab]; simp
  have hb1d : Below w.heap.size w W1.drew := hb1.drew
  have hsd : W1.drew.heap.size = W1.heap.size := rfl
  have r8 := (hb1.cell (p := ⟨tb, 8, none⟩) (h.lt tb h.hF)).trans h.c8
  have d8 : W1.drew.cell? ⟨tb, 8, none⟩ = some (.map (some bm)) := r8
  have d0 : W1.drew.cell? ⟨ab, 0, none⟩ = some (.string fr) := r0
  have d7 : W1.drew.cell? ⟨ab, 7, none⟩ = some (.slice a len cap) := r7
  have Hcl := Lib.hid (vclone_walk W1.heap.size a len cap L W1.drew hlen hcap hl ha ((hL.below hb1d).mono hb1d.size) (Nat.le_refl _))
  obtain ⟨D, R, o1, o2, o3, o4, o5⟩ := h.got
  have hn12 : t.got.length < maxLen := by
    have h8 := got_len hok
    have h9 := talk_cfg hok
    unfold maxLen
    omega
  have Hkeep : Hid (∀ w5 v5, Below W1.drew.heap.size W1.drew w5 → OwnV W1.drew.heap.size w5 v5 L → ∃ w6, (Instr.mapUpdate 80 (.map (some bm)) (.string fr) v5).run Tryz.prog w5 = .ok () w6 ∧
      (w5.cell? ⟨tb, 8, none⟩ = some (.map (some bm)) ∧ w5.cell? ⟨ab, 0, none⟩ = some (.string fr) ∧ w5.cell? ⟨ab, 7, none⟩ = some (.slice a len cap)) ∧ (w6.cell? ⟨tb, 8, none⟩ = some (.map (some bm)) ∧ w6.cell? ⟨ab, 0, none⟩ = some (.string fr) ∧ w6.cell? ⟨ab, 7, none⟩ = some (.slice a len cap)) ∧
      Hid (TalkAt (grownF F w w6) w6 tb bm ma mc (takeT t ⟨fr, dst, kind, key, op, cf, sl, L⟩) ∧ KeptBut (fun b => b = bm) w w6)) := Lib.hid (by
    intro w5 v5 hb5 ho5
    have hb : Below w.heap.size w w5 := hb1d.trans (hb5.mono hb1d.size)
    have k1 : w5.ownsMap Tryz.prog 9 Rv bm t.got.length D := o1.kept (row := none) ⟨hb.os, hb.tape, hb.output, hb.size, fun k hk _ => hb.block k hk⟩ (by simp)
    obtain ⟨w6, hrun, hown, hg⟩ := k1.update keyedS Tryz.underlying80 hn12 (keyS hfr) (val := v5) (d := .held v5) (ps := []) rfl
    have hT := TalkAt.take (m := ⟨fr, dst, kind, key, op, cf, sl, L⟩) h hb (ho5.lower hb1d.size) hnew o1 o2 o3 o4 o5 hown hg
    have hbm := h.lt bm h.bF
    have c5 : ∀ j x, W1.drew.cell? ⟨ab, j, none⟩ = some x → w5.cell? ⟨ab, j, none⟩ = some x := fun j x hx => (hb5.cell (p := ⟨ab, j, none⟩) (lt_of_cell hx)).trans hx
    have c6 : ∀ j x, w5.cell? ⟨ab, j, none⟩ = some x → w6.cell? ⟨ab, j, none⟩ = some x := fun j x hx => (World.cell?_of_block (a := ⟨ab, j, none⟩) (hg.block ab (lt_of_cell hx) (fun e => by have := Option.some.inj e; omega))).trans hx
    have t5 : w5.cell? ⟨tb, 8, none⟩ = some (.map (some bm)) := (hb5.cell (p := ⟨tb, 8, none⟩) (lt_of_cell d8)).trans d8
    exact ⟨w6, hrun, ⟨t5, c5 0 _ d0, c5 7 _ d7⟩, ⟨hT.1.c8, c6 0 _ (c5 0 _ d0), c6 7 _ (c5 7 _ d7)⟩, Lib.hid hT⟩)
  have HE := Lib.hid (And.intro hE (And.intro hok (And.intro hW1 (And.intro hab (And.intro h.lt (And.intro (hFW bm h.bF) hW))))))
  clear hb1 hb1d hs1 hsd hL hlen hcap hl ha o1 o2 o3 o4 o5 hn12 hok hE h hnew hfr hW1 hab hW hFW
  go_enter Tryz.func45, Tryz.ntmps45
  go_wp2
  rw [HE.out.2.2.1, HE.out.2.2.2.1]
  go_region_held3 (fun W => W.cell? ⟨tb, 8, none⟩ = some (.map (some bm)) ∧ W.cell? ⟨ab, 0, none⟩ = some (.string fr) ∧ W.cell? ⟨ab, 7, none⟩ = some (.slice a len cap))
    (first | exact ⟨r8, r0, r7⟩ | exact ⟨d8, d0, d7⟩ | exact ⟨p8, p0, p7⟩ | exact ⟨q8, q0, q7⟩)
    (first | (go_at_call 67; refine Hcl.out.mono ?_; rintro e w5 ⟨hb5, v5, rfl, ho5⟩; obtain ⟨w6, hrun6, ⟨p8, p0, p7⟩, ⟨q8, q0, q7⟩, HF⟩ := Hkeep.out w5 v5 hb5 ho5; clear hb5 ho5))
  all_goals
    have q4 := HF.out.1.c4
    have q5 := HF.out.1.c5
    have q6 := HF.out.1.c6
    dsimp only [takeT] at q4 q5 q6
    have hE6 : ErrQx w6 E := HE.out.1.below (HE.out.2.2.2.2.2.2.trans (HF.out.2.below HE.out.2.2.2.2.2.2.size (fun b e => by rw [e]; exact HE.out.2.2.2.2.2.1))) (Nat.le_refl _)
    have Hen := Lib.hid (enough_walk (t.n : Int) (t.k : Int) w6.heap.size ma t.mem.length mc t.mem w6 E hE6 rfl HF.out.1.mcap (mem_size HE.out.2.1) HF.out.1.mem.at_ (Nat.le_refl _))
    clear hE6 p8 p0 p7 q8 q0 q7 r8 r0 r7 d8 d0 d7 hrun6
    go_wp2_with fail
    refine Hen.out.mono ?_
    rintro e w7 ⟨hb7, ⟨hz, rfl⟩ | ⟨hz, _⟩⟩
    · have hT7 := HF.out.1.below hb7 (Nat.le_refl _)
      have c8 := hT7.c8
      obtain ⟨D7, R7, o7, _, _, z7, _⟩ := hT7.got
      have hlen7 := o7.len Tryz.underlying80
      rw [z7] at hlen7
      obtain ⟨g1, hg1⟩ : ∃ g1, (takeT t ⟨fr, dst, kind, key, op, cf, sl, L⟩).got.length = g1 := ⟨_, rfl⟩
      have hg1' : g1 ≤ 13 := by
        rw [← hg1]
        show (t.got ++ [(fr, L)]).length ≤ 13
        have h8 := got_len HE.out.2.1
        have h9 := talk_cfg HE.out.2.1
        simp
        omega
      rw [hg1] at hlen7
      have H7 := Lib.hid (And.intro hb7 hg1)
      clear hb7 hT7 o7 z7 hz hg1 q4 q5 q6
      go_wp2
      go_ret
      have hF7 : ∀ b, grownF F w w7 b → b < w7.heap.size := fun b hb => by
        rcases hb with hb | hb
        · exact Nat.lt_of_lt_of_le (HE.out.2.2.2.2.1 b hb) (Nat.le_trans HF.out.2.size H7.out.1.size)
        · exact hb.2
      refine ⟨?_, (HF.out.1.below H7.out.1 (Nat.le_refl _)).mono (fun b hb => hb.imp id (fun h9 => ⟨h9.1, Nat.lt_of_lt_of_le h9.2 H7.out.1.size⟩)) hF7, HF.out.2.trans (KeptBut.of_below H7.out.1 (fun k h1 h2 => by omega))⟩
      have e : enoughB (takeT t ⟨fr, dst, kind, key, op, cf, sl, L⟩) = decide (((t.n : Int) + (t.k : Int) + 1) / 2 ≤ (g1 : Int)) := by
        unfold enoughB
        rw [decide_eq_decide, H7.out.2]
        show t.n + t.k ≤ 2 * g1 ↔ _
        omega
      rw [e]
      first | rfl | simp
    · exact absurd (by rw [HE.out.2.1.cfg]) hz
set_option maxHeartbeats 1000000 in
theorem start_walk (w : World) (tb : Nat) (kind : ByteArray) (x7 x8 : Value) (c7 : w.cell? ⟨tb, 7, none⟩ = some x7) (c8 : w.cell? ⟨tb, 8, none⟩ = some x8) (z : ∀ i, w.frozen? ⟨tb, i, none⟩ = false) :
    Calls Tryz.prog 36 #[.pointer (some ⟨tb, 0, none⟩), .string kind] w fun e w' => e = .returned (.tuple #[]) ∧ w' = ((w.setCell ⟨tb, 7, none⟩ (.string kind)).alloc (.map #[] 0)).setCell ⟨tb, 8, none⟩ (.map (some w.heap.size)) := by
  have hmm := @run_makeMap Tryz.prog
  have z7 := z 7
  have z8 := z 8
  have hlt := lt_of_cell c7
  clear z
  go_enter Tryz.func36, Tryz.ntmps36
  go_wp2
  go_end0
  exact ⟨rfl, rfl⟩
end
end Go.Proofs.YtabboioamdphmaaGreatDoor
/- Lists of versions of the call's own. -/
namespace Go.Proofs.YtabboioamdphmaaGreatDoor
section
open Go.RowKit Go.BigFrame

theorem ownv_heap {B : Nat} {w : World} {v : Value} {l : List Ver} (h : OwnV B w v l) {g : Nat} (hg : v.ownBlock = some g) : ∃ cs, w.heap[g]? = some (.cells cs 76 (0, 0)) := by
  rcases h.2 with ⟨rfl, _⟩ | ⟨g', cap, cur, rfl, _, h2, _⟩
  · cases hg
  · have e : g' = g := by simpa [Value.ownBlock] using hg
    exact ⟨cur, by rw [← e]; exact h2⟩
theorem OwnV.heapK {B : Nat} {w w' : World} {v : Value} {l : List Ver} (h : OwnV B w v l) (hg : ∀ g, v.ownBlock = some g → w'.heap[g]? = w.heap[g]?) : OwnV B w' v l := by
  refine ⟨h.1, ?_⟩
  rcases h.2 with hn | ⟨g, cap, cur, rfl, hb, hgg, rest⟩
  · exact .inl hn
  · exact .inr ⟨g, cap, cur, rfl, hb, (hg g rfl).trans hgg, rest⟩
structure OwnVs (B : Nat) (w : World) (v : Value) (ls : List (List Ver)) (us : List Value) : Prop where
  lenu : us.length = ls.length
  own : Own1 53 B w v us
  row : ∀ i, i < ls.length → OwnV B w (us[i]?.getD undef) (ls[i]?.getD [])
theorem OwnVs.nil (B : Nat) (w : World) : OwnVs B w (.slice none 0 0) [] [] := ⟨rfl, Own1.nil _ _ _, fun i hi => (by simp at hi)⟩
theorem OwnVs.heapK {B : Nat} {w w' : World} {v : Value} {ls : List (List Ver)} {us : List Value} (h : OwnVs B w v ls us) (hb : Below w.heap.size w w') : OwnVs B w' v ls us :=
  ⟨h.lenu, Own1.below h.own hb (Nat.le_refl _), fun i hi => OwnV.below (h.row i hi) hb (Nat.le_refl _)⟩
theorem OwnVs.snoc {B : Nat} {w w' : World} {v v' u : Value} {ls : List (List Ver)} {us : List Value} {l : List Ver} {o : Obj} (h : OwnVs B w v ls us) (hu : OwnV B w u l) (hp : Own1 53 B w' v' (us ++ [u])) (hg : (w.alloc o).grownBy w' v.ownBlock) : OwnVs B w' v' (ls ++ [l]) (us ++ [u]) := by
  have key : ∀ (x : Value) (m : List Ver), OwnV B w x m → OwnV B w' x m := fun x m hx => hx.heapK (fun g e => by
    obtain ⟨cs, e2⟩ := ownv_heap hx e
    have hlt := (Array.getElem?_eq_some_iff.1 e2).1
    refine (hg.block g (by simp; omega) (fun e3 => ?_)).trans (Below.heap_alloc _ _ _ hlt)
    obtain ⟨cs', e4⟩ := own1_heap h.own e3.symm
    rw [e2] at e4
    simp at e4)
  refine ⟨by simp [h.lenu], hp, fun i hi => ?_⟩
  by_cases hil : i < ls.length
  · have h1 : (us ++ [u])[i]?.getD undef = us[i]?.getD undef := by rw [List.getElem?_append_left (by rw [h.lenu]; exact hil)]
    have h2 : (ls ++ [l])[i]?.getD [] = ls[i]?.getD [] := by rw [List.getElem?_append_left hil]
    rw [h1, h2]
    exact key _ _ (h.row i hil)
  · have hie : i = ls.length := by simp at hi; omega
    have h1 : (us ++ [u])[i]?.getD undef = u := by rw [hie, ← h.lenu]; simp
    have h2 : (ls ++ [l])[i]?.getD [] = l := by rw [hie]; simp
    rw [h1, h2]
    exact key _ _ hu
theorem OwnVs.read {B : Nat} {w : World} {v : Value} {ls : List (List Ver)} {us : List Value} (h : OwnVs B w v ls us) : ∃ a cap, v = .slice a ls.length cap ∧ VssR w a ls := by
  rcases h.own.shape with ⟨rfl, hl⟩ | ⟨g, cap, rfl, _, hg, hc, hm, _, hcell⟩
  · have : us = [] := by simpa using hl
    have h0 : ls = [] := List.length_eq_zero_iff.1 (by rw [← h.lenu, this]; rfl)
    subst h0
    exact ⟨none, 0, rfl, .inl rfl⟩
  · refine ⟨_, cap, by rw [h.lenu], .inr ⟨g, 0, rfl, hg, fun i hi => ?_⟩⟩
    obtain ⟨ad, cp, e, q1, q2, q3, q4⟩ := (h.row i hi).read
    refine ⟨ad, cp, ?_, q1, q2, q3, q4⟩
    have hiu : i < us.length := by rw [h.lenu]; exact hi
    rw [Nat.zero_add, hcell i hiu, ← e, List.getElem?_eq_getElem hiu]; rfl
theorem info_vers : (Tryz.prog.info? 53).map (fun i => (i.zero, i.size, i.bytes)) = some (some (.slice none 0 0), 1, 24) := by kernel_rfl
end
end Go.Proofs.YtabboioamdphmaaGreatDoor
/- The walks of shardkeeplaw2's faulted and coded. -/
namespace Go.Proofs.YtabboioamdphmaaGreatDoor
open Go.RowKit

set_option maxRecDepth 100000 in
set_option maxHeartbeats 1000000 in
theorem faulted2_walk (E : Nat → Addr) (f g : Nat × Int) (v : Value) (r : Bool) (w : World) (hE : ErrEnv w E) (h : FltV w E f v) (hr : r = decide (f.1 = g.1 ∧ (f.1 = 0 ∨ f.2 = g.2))) :
    Calls Tryz.prog 13 #[v, .agg #[.int .i64 (g.1 : Nat), .int .i64 g.2]] w fun e w' => e = .returned (.bool r) ∧ Below w.heap.size w w' := by
  obtain ⟨c, at'⟩ := f
  obtain ⟨d, bt⟩ := g
  simp only at hr
  have hB0 : Below w.heap.size w (w.alloc (.cells #[.int .i64 (d : Nat), .int .i64 bt] 36)) := (Below.refl _ w).alloc (Nat.le_refl _) _
  have Hc := Lib.hid (code_flt (hE.below hB0 (Nat.le_refl _)) (h.below hB0 (Nat.le_refl _)))
  have Hb := Lib.hid hB0
  have z0 : (w.alloc (.cells #[.int .i64 (d : Nat), .int .i64 bt] 36)).cell? ⟨w.heap.size, 0, none⟩ = some (.int .i64 (d : Nat)) := by simp
  have z1 : (w.alloc (.cells #[.int .i64 (d : Nat), .int .i64 bt] 36)).cell? ⟨w.heap.size, 1, none⟩ = some (.int .i64 bt) := by simp
  have hz : w.heap.size < (w.alloc (.cells #[.int .i64 (d : Nat), .int .i64 bt] 36)).heap.size := by simp
  have Hz := Lib.hid (And.intro z0 (And.intro z1 hz))
  clear hE h hB0 z0 z1 hz
  have hcs : (c ≠ d ∧ r = false) ∨ (c = d ∧ c = 0 ∧ r = true) ∨ (c = d ∧ c ≠ 0 ∧ at' = bt ∧ r = true) ∨ (c = d ∧ c ≠ 0 ∧ at' ≠ bt ∧ r = false) := by
    rw [hr]
    by_cases h1 : c = d
    · by_cases h2 : c = 0
      · exact .inr (.inl ⟨h1, h2, decide_eq_true ⟨h1, .inl h2⟩⟩)
      · by_cases h3 : at' = bt
        · exact .inr (.inr (.inl ⟨h1, h2, h3, decide_eq_true ⟨h1, .inr h3⟩⟩))
        · exact .inr (.inr (.inr ⟨h1, h2, h3, decide_eq_false (fun ⟨_, h⟩ => h.elim h2 h3)⟩))
    · exact .inl ⟨h1, decide_eq_false (fun ⟨h, _⟩ => h1 h)⟩
  clear hr
  rcases hcs with ⟨h1, rfl⟩ | ⟨rfl, rfl, rfl⟩ | ⟨rfl, h2, rfl, rfl⟩ | ⟨rfl, h2, h3, rfl⟩
  case' inl =>
    have e1 : ((c : Int) == (d : Int)) = false := beq_eq_false_iff_ne.2 (by omega)
    have e1b : decide (c = d) = false := by simpa using h1
    have e1c : (c == d) = false := by simpa using h1
  case' inr.inr.inl =>
    have e2 : ((c : Int) == 0) = false := beq_eq_false_iff_ne.2 (by omega)
    have e2b : (c == 0) = false := by simpa using h2
  case' inr.inr.inr =>
    have e2 : ((c : Int) == 0) = false := beq_eq_false_iff_ne.2 (by omega)
    have e2b : (c == 0) = false := by simpa using h2
    have e3 : (at' == bt) = false := by simpa using h3
  all_goals
    try clear h1
    try clear h2
    try clear h3
    go_enter Tryz.func13, Tryz.ntmps13
    go_wp2_with fail
    refine Hc.out.mono ?_
    rintro e w1 ⟨rfl, hb1⟩
    have k0 := (hb1.cell (p := ⟨w.heap.size, 0, none⟩) Hz.out.2.2).trans Hz.out.1
    have k1 := (hb1.cell (p := ⟨w.heap.size, 1, none⟩) Hz.out.2.2).trans Hz.out.2.1
    have HB := Lib.hid (Hb.out.trans (hb1.mono Hb.out.size))
    clear hb1
    go_wp2
    go_ret
    exact ⟨rfl, HB.out⟩
end Go.Proofs.YtabboioamdphmaaGreatDoor
