/- The walk of a client's Hear. -/
import Derived.Test.YtabboioamdphmaaGreatDoorKAskHears39
import Derived.Test.YtabboioamdphmaaGreatDoorKAskHears32
namespace Go.Proofs.YtabboioamdphmaaGreatDoor
section
open Go.RowKit Go.Maps Go.BigFrame

theorem choose_walk (F : Nat → Prop) (w : World) (ab bm : Nat) (ma : Option Addr) (mc : Nat) (a : AskS) (h : TalkX F w ab bm ma mc a.t (askV a)) (hok : TalkOk a.t) (ht : totV (a.t.got.map (·.2)) ≤ 1000000) (E : Nat → Addr) (hE : ErrEnv w E) :
    Calls Tryz.prog 56 #[.pointer (some ⟨ab, 0, none⟩)] w fun e w' => e = .returned (.bool (chooseT a).found) ∧ TalkX F w' ab bm ma mc a.t (askV (chooseT a)) ∧ KeptBut (fun b => b = ab) w w' := by
  cases hp : a.put with
  | true => exact choose_put F w ab bm ma mc a h hok hp ht
  | false => exact choose_get F w ab bm ma mc a h hok hp ht E hE
theorem grownF_lt {F : Nat → Prop} {w w' : World} (h : ∀ b, F b → b < w.heap.size) (hs : w.heap.size ≤ w'.heap.size) : ∀ b, grownF F w w' b → b < w'.heap.size := fun b hb => by
  rcases hb with hb | hb
  · exact Nat.lt_of_lt_of_le (h b hb) hs
  · exact hb.2
set_option maxRecDepth 100000 in
set_option maxHeartbeats 16000000 in
theorem ahear_walk (F : Nat → Prop) (w : World) (ab bm : Nat) (ma : Option Addr) (mc : Nat) (a : AskS) (fr dst kind key : ByteArray) (op cf : Int) (sl : Bool) (ad : Option Addr) (len cap : Nat) (L : List Ver) (h : TalkX F w ab bm ma mc a.t (askV a)) (hok : TalkOk a.t) (hmv : a.moves = false) (hst : a.st ≤ 3) (htx : a.text.size ≤ 1000) (htot : totV (a.t.got.map (·.2)) + L.length ≤ 1000000)
    (hfr : fr.size ≤ maxLen) (hlen : L.length = len) (hcap : len ≤ cap) (ha : ad = none → cap = 0) (hL : VrS (fun b => ¬ F b) w ad L) (E : Nat → Addr) (W0 : World) (hE : ErrEnv W0 E) (hW : Below W0.heap.size W0 w) (hFW : ∀ b, F b → W0.heap.size ≤ b) :
    Calls Tryz.prog 29 #[.pointer (some ⟨ab, 0, none⟩), .agg #[.string fr, .string dst, .string kind, .string key, .int .i64 op, .int .i64 cf, .bool sl, .slice ad len cap]] w fun e w' => AskPost F w w' ab ma mc a ⟨fr, dst, kind, key, op, cf, sl, L⟩ e := by
  obtain ⟨t, who, put, moves, n2, k2, mem2, st, tag, text, found⟩ := a
  dsimp only at h hok hmv hst htx htot
  subst hmv
  obtain ⟨W1, hW1⟩ : ∃ W1, w.alloc (.cells #[.string fr, .string dst, .string kind, .string key, .int .i64 op, .int .i64 cf, .bool sl, .slice ad len cap] 55) = W1 := ⟨_, rfl⟩
  obtain ⟨xb, hxb⟩ : ∃ xb, w.heap.size = xb := ⟨_, rfl⟩
  have hb1 : Below w.heap.size w W1 := by rw [← hW1]; exact (Below.refl _ _).alloc (Nat.le_refl _) _
  have r0 : W1.cell? ⟨xb, 0, none⟩ = some (.string fr) := by rw [← hW1, ← hxb]; simp
  have r1 : W1.cell? ⟨xb, 1, none⟩ = some (.string dst) := by rw [← hW1, ← hxb]; simp
  have r2 : W1.cell? ⟨xb, 2, none⟩ = some (.string kind) := by rw [← hW1, ← hxb]; simp
  have r3 : W1.cell? ⟨xb, 3, none⟩ = some (.string key) := by rw [← hW1, ← hxb]; simp
  have r4 : W1.cell? ⟨xb, 4, none⟩ = some (.int .i64 op) := by rw [← hW1, ← hxb]; simp
  have r5 : W1.cell? ⟨xb, 5, none⟩ = some (.int .i64 cf) := by rw [← hW1, ← hxb]; simp
  have r6 : W1.cell? ⟨xb, 6, none⟩ = some (.bool sl) := by rw [← hW1, ← hxb]; simp
  have r7 : W1.cell? ⟨xb, 7, none⟩ = some (.slice ad len cap) := by rw [← hW1, ← hxb]; simp
  have hs1 : W1.heap.size = xb + 1 := by rw [← hW1, ← hxb]; simp
  have hX1 := h.below hb1 (Nat.le_refl _)
  have KS : Hid (∀ W, Below W1.heap.size W1 W → W.cell? ⟨xb, 0, none⟩ = some (.string fr) ∧ W.cell? ⟨xb, 1, none⟩ = some (.string dst) ∧ W.cell? ⟨xb, 2, none⟩ = some (.string kind) ∧ W.cell? ⟨xb, 3, none⟩ = some (.string key) ∧ W.cell? ⟨xb, 4, none⟩ = some (.int .i64 op) ∧ W.cell? ⟨xb, 5, none⟩ = some (.int .i64 cf) ∧ W.cell? ⟨xb, 6, none⟩ = some (.bool sl) ∧ W.cell? ⟨xb, 7, none⟩ = some (.slice ad len cap)) := Lib.hid fun W hb => by
    have c : ∀ {p : Addr} {v}, W1.cell? p = some v → W.cell? p = some v := fun {p v} h => (hb.cell (lt_of_cell h)).trans h
    exact ⟨c r0, c r1, c r2, c r3, c r4, c r5, c r6, c r7⟩
  obtain ⟨fb, hfb⟩ : ∃ fb, fitsB t ⟨fr, dst, kind, key, op, cf, sl, L⟩ = fb := ⟨_, rfl⟩
  have Cf := fun d os => Calls.regrown_of (fits_walk F (Go.Sort.grow (redrawn W1 d) os) ab bm ma mc t fr dst kind key op cf sl ad len cap L (hX1.talk.below (below_regrown W1 d os) (Nat.le_refl _)) hfr)
  rw [hfb] at Cf
  have c15 : W1.cell? ⟨ab, 15, none⟩ = some (.string (stT ⟨t, who, put, false, n2, k2, mem2, st, tag, text, found⟩)) := hX1.cell 6 (by show 6 < 7; decide)
  have k0 := cell_regrown r0
  have k1 := cell_regrown r1
  have k2 := cell_regrown r2
  have k3 := cell_regrown r3
  have k4 := cell_regrown r4
  have k5 := cell_regrown r5
  have k6 := cell_regrown r6
  have k7 := cell_regrown r7
  have hLW : VrR w.heap.size w ad L := hL.read
  have H := Lib.hid (And.intro h (And.intro hX1 (And.intro hok (And.intro htx (And.intro htot (And.intro hfb (And.intro hb1 (And.intro hW1 (And.intro hxb hs1)))))))))
  have HA := Lib.hid (And.intro hfr (And.intro hlen (And.intro hcap (And.intro ha (And.intro hLW (And.intro hE (And.intro hW hFW)))))))
  have hcs : st = 0 ∨ st = 1 ∨ st = 2 ∨ st = 3 := by omega
  clear hfr hlen hcap ha hLW hE hW hFW h hX1 hok htx htot hfb hb1 hW1 hxb hs1 hst hL r0 r1 r2 r3 r4 r5 r6 r7
  go_enter Tryz.func29, Tryz.ntmps29
  go_wp2
  rw [H.out.2.2.2.2.2.2.2.1, H.out.2.2.2.2.2.2.2.2.1]
  rcases hcs with rfl | rfl | rfl | rfl
  · have c15' : W1.cell? ⟨ab, 15, none⟩ = some (.string ⟨#[108, 111, 111, 107, 105, 110, 103]⟩) := c15
    clear c15
    have c15 := c15'
    clear c15'
    have k15 := cell_regrown c15
    cases fb with
    | false =>
      refine wp_region_quiet_below (by kernel_rfl) (by kernel_rfl) ?_
      repeat (go_big_quiet_step (first | exact Cf _ _))
      refine wpQuiet_nil ?_
      intro w2 hw'
      obtain ⟨⟨dq, osq⟩, hw2⟩ := hw'
      have H2 := Lib.hid (show Below W1.heap.size W1 w2 by rw [hw2]; exact below_regrown W1 dq osq)
      clear hw2 k0 k1 k2 k3 k4 k5 k6 k7 k15 c15 Cf
      go_wp2
      go_ret
      exact AskPost.mk (hear_no (.inr H.out.2.2.2.2.2.1)) (fun b hb => .inl hb) (KeptBut.of_below (H.out.2.2.2.2.2.2.1.trans (H2.out.mono H.out.2.2.2.2.2.2.1.size)) (fun k h1 h2 => by omega)) (H.out.2.1.below H2.out (Nat.le_refl _)) (RetMsgs.nil _ _)
    | true =>
      refine wp_region_quiet_below (by kernel_rfl) (by kernel_rfl) ?_
      repeat (go_big_quiet_step (first | exact Cf _ _))
      refine wpQuiet_nil ?_
      intro w2 hw'
      obtain ⟨⟨dq, osq⟩, hw2⟩ := hw'
      have H2 := Lib.hid (show Below W1.heap.size W1 w2 by rw [hw2]; exact below_regrown W1 dq osq)
      clear hw2 k0 k1 k2 k3 k4 k5 k6 k7 k15 c15 Cf
      have hX2 := H.out.2.1.below H2.out (Nat.le_refl _)
      obtain ⟨q0, q1, q2, q3, q4, q5, q6, q7⟩ := KS.out w2 H2.out
      have d15 : w2.cell? ⟨ab, 15, none⟩ = some (.string ⟨#[108, 111, 111, 107, 105, 110, 103]⟩) := hX2.cell 6 (by show 6 < 7; decide)
      have z15 := hX2.talk.z 15
      have HX2 := Lib.hid hX2
      clear hX2
      cases sl with
      | true =>
        have hkr : KeptBut F w (w2.setCell ⟨ab, 15, none⟩ (.string ⟨#[114, 101, 102, 117, 115, 101, 100]⟩)) := (KeptBut.of_below (F := F) (H.out.2.2.2.2.2.2.1.trans (H2.out.mono H.out.2.2.2.2.2.2.1.size)) (fun k h1 h2 => by omega)).set1 (p := ⟨ab, 15, none⟩) H.out.1.talk.hF _
        have hXr := HX2.out.set 6 (by show 6 < 7; decide) (.string ⟨#[114, 101, 102, 117, 115, 101, 100]⟩)
        have HR := Lib.hid (And.intro hkr hXr)
        clear hkr hXr
        go_wp2
        go_ret
        exact AskPost.mk (hear_sealed (by show 0 < 2; decide) H.out.2.2.2.2.2.1 rfl (by simp)) (fun b hb => .inl hb) HR.out.1 HR.out.2 (RetMsgs.nil _ _)
      | false =>
        have hnew := (fits_mem H.out.2.2.2.2.2.1).2
        have hbw : Below w.heap.size w w2.drew := (H.out.2.2.2.2.2.2.1.trans (H2.out.mono H.out.2.2.2.2.2.2.1.size)).drew
        have hW2 : Below W0.heap.size W0 w2.drew := HA.out.2.2.2.2.2.2.1.trans (hbw.mono HA.out.2.2.2.2.2.2.1.size)
        have Htk := Lib.hid (take_walk F w2.drew ab bm ma mc t fr dst kind key op cf false ad len cap L (HX2.out.talk.below (Below.refl w2.heap.size w2).drew (Nat.le_refl _)) H.out.2.2.1 HA.out.1 hnew HA.out.2.1 HA.out.2.2.1 (by have := H.out.2.2.2.2.1; have := HA.out.2.1; omega) HA.out.2.2.2.1 ((HA.out.2.2.2.2.1.below hbw).mono hbw.size) E W0 HA.out.2.2.2.2.2.1.qx hW2 HA.out.2.2.2.2.2.2.2)
        have HB := Lib.hid (And.intro hbw hW2)
        clear hnew hbw hW2
        go_wp2
        go_region_held3 (fun W => W.cell? ⟨xb, 0, none⟩ = some (.string fr) ∧ W.cell? ⟨xb, 1, none⟩ = some (.string dst) ∧ W.cell? ⟨xb, 2, none⟩ = some (.string kind) ∧ W.cell? ⟨xb, 3, none⟩ = some (.string key) ∧ W.cell? ⟨xb, 4, none⟩ = some (.int .i64 op) ∧ W.cell? ⟨xb, 5, none⟩ = some (.int .i64 cf) ∧ W.cell? ⟨xb, 6, none⟩ = some (.bool false) ∧ W.cell? ⟨xb, 7, none⟩ = some (.slice ad len cap))
          (first | exact ⟨q0, q1, q2, q3, q4, q5, q6, q7⟩ | exact KS.out _ H2.out.drew | exact ⟨p0, p1, p2, p3, p4, p5, p6, p7⟩)
          (first | (go_at_call 45; refine Htk.out.mono ?_; rintro e w3 ⟨rfl, hT3, hk3⟩; obtain ⟨⟨p0, p1, p2, p3, p4, p5, p6, p7⟩, HT3⟩ : (w3.cell? ⟨xb, 0, none⟩ = some (.string fr) ∧ w3.cell? ⟨xb, 1, none⟩ = some (.string dst) ∧ w3.cell? ⟨xb, 2, none⟩ = some (.string kind) ∧ w3.cell? ⟨xb, 3, none⟩ = some (.string key) ∧ w3.cell? ⟨xb, 4, none⟩ = some (.int .i64 op) ∧ w3.cell? ⟨xb, 5, none⟩ = some (.int .i64 cf) ∧ w3.cell? ⟨xb, 6, none⟩ = some (.bool false) ∧ w3.cell? ⟨xb, 7, none⟩ = some (.slice ad len cap)) ∧ Hid (TalkAt (grownF F w2.drew w3) w3 ab bm ma mc (takeT t ⟨fr, dst, kind, key, op, cf, false, L⟩) ∧ KeptBut (fun b => b = bm) w2.drew w3) := by {
            have hne : xb ≠ bm := fun e => by { have := H.out.1.talk.lt bm H.out.1.talk.bF; have := H.out.2.2.2.2.2.2.2.2.1; omega }
            exact ⟨⟨hk3.cell (p := ⟨xb, 0, none⟩) q0 hne, hk3.cell (p := ⟨xb, 1, none⟩) q1 hne, hk3.cell (p := ⟨xb, 2, none⟩) q2 hne, hk3.cell (p := ⟨xb, 3, none⟩) q3 hne, hk3.cell (p := ⟨xb, 4, none⟩) q4 hne, hk3.cell (p := ⟨xb, 5, none⟩) q5 hne, hk3.cell (p := ⟨xb, 6, none⟩) q6 hne, hk3.cell (p := ⟨xb, 7, none⟩) q7 hne⟩, Lib.hid ⟨hT3, hk3⟩⟩ }; clear hT3 hk3))
        rename_i hHeld
        clear hHeld q0 q1 q2 q3 q4 q5 q6 q7 p0 p1 p2 p3 p4 p5 p6 p7 d15 z15 Htk
        have hX3 := (HX2.out.below (Below.refl w2.heap.size w2).drew (Nat.le_refl _)).turn HT3.out.1 HT3.out.2
        have d15 : w3.cell? ⟨ab, 15, none⟩ = some (.string ⟨#[108, 111, 111, 107, 105, 110, 103]⟩) := hX3.cell 6 (by show 6 < 7; decide)
        have z15 := hX3.talk.z 15
        have hkw3 : KeptBut F w w3 := (KeptBut.of_below HB.out.1 (fun k h1 h2 => by omega)).trans (HT3.out.2.mono fun b _ e => by rw [e]; exact H.out.1.talk.bF)
        have hF3 : ∀ b, grownF F w2.drew w3 b → F b ∨ w.heap.size ≤ b := fun b hb => hb.imp id (fun h9 => Nat.le_trans HB.out.1.size h9.1)
        have hW3 : Below W0.heap.size W0 w3 := HB.out.2.trans (HT3.out.2.below HB.out.2.size (fun b e => by rw [e]; exact HA.out.2.2.2.2.2.2.2 bm H.out.1.talk.bF))
        have H3 := Lib.hid (And.intro hX3 (And.intro hkw3 (And.intro hF3 hW3)))
        obtain ⟨eb, heb⟩ : ∃ eb, enoughB (takeT t ⟨fr, dst, kind, key, op, cf, false, L⟩) = eb := ⟨_, rfl⟩
        rw [heb]
        have Heb := Lib.hid heb
        clear heb hX3 hkw3 hF3 hW3 HT3
        cases eb with
        | false =>
          go_wp2
          go_ret
          exact AskPost.mk (hear_few (by show 0 < 2; decide) H.out.2.2.2.2.2.1 (.inl rfl) Heb.out) H3.out.2.2.1 H3.out.2.1 H3.out.1 (RetMsgs.nil _ _)
        | true =>
          obtain ⟨t', ht'⟩ : ∃ t', takeT t ⟨fr, dst, kind, key, op, cf, false, L⟩ = t' := ⟨_, rfl⟩
          have hok3 : TalkOk t' := by rw [← ht']; exact take_ok H.out.2.2.1 H.out.2.2.2.2.2.1
          have htt : totV (t'.got.map (·.2)) ≤ 1000000 := by
            rw [← ht']
            show totV ((t.got ++ [(fr, L)]).map (·.2)) ≤ 1000000
            have := H.out.2.2.2.2.1
            unfold totV at this ⊢
            simp only [List.map_append, List.map_cons, List.map_nil, List.sum_append, List.sum_cons, List.sum_nil]
            omega
          rw [ht'] at H3
          obtain ⟨a3, ha3⟩ : ∃ a3 : AskS, (⟨t', who, put, false, n2, k2, mem2, 0, tag, text, found⟩ : AskS) = a3 := ⟨_, rfl⟩
          have hX3 : TalkX (grownF F w2.drew w3) w3 ab bm ma mc a3.t (askV a3) := by rw [← ha3]; exact H3.out.1
          have Hch := Lib.hid (choose_walk _ w3 ab bm ma mc a3 hX3 (by rw [← ha3]; exact hok3) (by rw [← ha3]; exact htt) E (HA.out.2.2.2.2.2.1.below H3.out.2.2.2 (Nat.le_refl _)))
          have hc3 := choose_t a3
          obtain ⟨b3, hb3⟩ : ∃ b3, chooseT a3 = b3 := ⟨_, rfl⟩
          have hts : b3.text.size ≤ 1000 := by rw [← hb3]; exact choose_size (by rw [← ha3]; exact H.out.2.2.2.1)
          rw [hb3] at Hch hc3
          have hst3 : stT b3 = kLooking := by
            unfold stT
            rw [hc3.2.2.2.2, hc3.2.2.2.1, ← ha3]
            rfl
          have htb3 : b3.t = t' := by rw [hc3.1, ← ha3]
          have hmb3 : b3.moves = false := by rw [hc3.2.2.2.1, ← ha3]
          have hbok : TalkOk b3.t := by rw [htb3]; exact hok3
          have Hm := Lib.hid (And.intro hst3 (And.intro htb3 (And.intro hmb3 (And.intro hts (And.intro hb3 (And.intro ha3 (And.intro ht' hbok)))))))
          clear hok3 htt hX3 hc3 hts hst3 htb3 hmb3 hb3 ha3 ht' hbok
          go_wp2_with fail
          refine Hch.out.mono ?_
          rintro e w4 ⟨rfl, hX4, hk4⟩
          have hX4' : TalkX (grownF F w2.drew w3) w4 ab bm ma mc b3.t (askV b3) := by
            have e : a3.t = b3.t := by rw [Hm.out.2.1, ← Hm.out.2.2.2.2.2.1]
            rw [← e]; exact hX4
          have c15 : w4.cell? ⟨ab, 15, none⟩ = some (.string (stT b3)) := hX4'.cell 6 (by show 6 < 7; decide)
          rw [Hm.out.1] at c15
          have hkw4 : KeptBut F w w4 := H3.out.2.1.trans (hk4.mono fun b _ e => by rw [e]; exact H.out.1.talk.hF)
          have hW4 : Below W0.heap.size W0 w4 := H3.out.2.2.2.trans (hk4.below H3.out.2.2.2.size (fun b e => by rw [e]; exact HA.out.2.2.2.2.2.2.2 ab H.out.1.talk.hF))
          have z15 := hX4'.talk.z 15
          have H4 := Lib.hid (And.intro hX4' (And.intro hkw4 (And.intro hW4 hX4'.talk.lt)))
          have hlt4 := hX4'.talk.lt ab hX4'.talk.hF
          unfold kLooking at c15
          have hcf : chooseT { (⟨t, who, put, false, n2, k2, mem2, 0, tag, text, found⟩ : AskS) with t := takeT t ⟨fr, dst, kind, key, op, cf, false, L⟩ } = b3 := by
            rw [← Hm.out.2.2.2.2.1, ← Hm.out.2.2.2.2.2.1, ← Hm.out.2.2.2.2.2.2.1]
          have Hcf := Lib.hid hcf
          clear hX4 hX4' hk4 hkw4 hW4 Hch d15 hcf
          obtain ⟨fo, hfo⟩ : ∃ fo, b3.found = fo := ⟨_, rfl⟩
          rw [hfo]
          have Hfo := Lib.hid hfo
          clear hfo
          cases fo with
          | false =>
            have hkr : KeptBut F w (w4.setCell ⟨ab, 15, none⟩ (.string ⟨#[100, 111, 110, 101]⟩)) := H4.out.2.1.set1 (p := ⟨ab, 15, none⟩) H.out.1.talk.hF _
            have hXr := H4.out.1.set 6 (by show 6 < 7; decide) (.string ⟨#[100, 111, 110, 101]⟩)
            have HR := Lib.hid (And.intro hkr hXr)
            clear hkr hXr
            go_wp2
            go_ret
            exact AskPost.mk (a' := { b3 with st := 2 }) (by rw [hear_none' rfl H.out.2.2.2.2.2.1 (.inl rfl) Heb.out (by rw [Hcf.out]; exact Hfo.out), Hcf.out]) H3.out.2.2.1 HR.out.1 HR.out.2 (RetMsgs.nil _ _)
          | true =>
            have hX5 := H4.out.1.set 6 (by show 6 < 7; decide) (.string ⟨#[107, 101, 101, 112, 105, 110, 103]⟩)
            have hk5 : KeptBut F w (w4.setCell ⟨ab, 15, none⟩ (.string ⟨#[107, 101, 101, 112, 105, 110, 103]⟩)) := H4.out.2.1.set1 (p := ⟨ab, 15, none⟩) H.out.1.talk.hF _
            obtain ⟨w5, hw5⟩ : ∃ w5, w4.setCell ⟨ab, 9 + 6, none⟩ (.string ⟨#[107, 101, 101, 112, 105, 110, 103]⟩) = w5 := ⟨_, rfl⟩
            have hw5' : w4.setCell ⟨ab, 15, none⟩ (.string ⟨#[107, 101, 101, 112, 105, 110, 103]⟩) = w5 := hw5
            rw [hw5] at hX5
            rw [hw5'] at hk5
            have hs5 : w5.heap.size = w4.heap.size := by rw [← hw5, setCell_size]
            have hW5 : Below W0.heap.size W0 w5 := by rw [← hw5]; exact H4.out.2.2.1.setCell (HA.out.2.2.2.2.2.2.2 ab H.out.1.talk.hF) _
            have Hst := Lib.hid (start_walk w5 ab kKept _ _ hX5.talk.c7 hX5.talk.c8 hX5.talk.z)
            have H5 := Lib.hid (And.intro hX5 (And.intro hk5 (And.intro hs5 hW5)))
            have Hw5 := Lib.hid hw5'
            unfold kKept at Hst
            clear hX5 hk5 hw5 hw5' hs5 hW5
            go_wp2_with fail
            rw [Hw5.out]
            refine Hst.out.mono ?_
            rintro e w6 ⟨rfl, rfl⟩
            have hX6 := H5.out.1.start kKept
            have hk6 := startW_kept w5 ab kKept
            have hsz6 := startW_size w5 ab kKept
            obtain ⟨w6, hw6⟩ : ∃ w6, startW w5 ab kKept = w6 := ⟨_, rfl⟩
            have hw6' := hw6
            unfold startW kKept at hw6'
            rw [hw6']
            rw [hw6] at hX6 hk6 hsz6
            have c9 : w6.cell? ⟨ab, 9, none⟩ = some (.int .i64 b3.tag.1) := hX6.cell 0 (by show 0 < 7; decide)
            have c10 : w6.cell? ⟨ab, 10, none⟩ = some (.int .i64 b3.tag.2) := hX6.cell 1 (by show 1 < 7; decide)
            have c11 : w6.cell? ⟨ab, 11, none⟩ = some (.string b3.text) := hX6.cell 2 (by show 2 < 7; decide)
            have hW6 : Below W0.heap.size W0 w6.drew := (H5.out.2.2.2.trans (hk6.below H5.out.2.2.2.size (fun b e => by rw [e]; exact HA.out.2.2.2.2.2.2.2 ab H.out.1.talk.hF))).drew
            have hokb : TalkOk { b3.t with wait := kKept, got := [] } := ⟨Hm.out.2.2.2.2.2.2.2.cfg, List.nodup_nil, fun p hp => by cases hp⟩
            have Hkp := Lib.hid (keep_walk _ w6.drew ab w5.heap.size ma mc { b3.t with wait := kKept, got := [] } b3.tag b3.text (hX6.talk.below (Below.refl w6.heap.size w6).drew (Nat.le_refl _)) hokb Hm.out.2.2.2.1 E (HA.out.2.2.2.2.2.1.below hW6 (Nat.le_refl _)).ez)
            have KC : Hid (∀ W, Below w6.heap.size w6 W → W.cell? ⟨ab, 9, none⟩ = some (.int .i64 b3.tag.1) ∧ W.cell? ⟨ab, 10, none⟩ = some (.int .i64 b3.tag.2) ∧ W.cell? ⟨ab, 11, none⟩ = some (.string b3.text)) := Lib.hid fun W hb => by
              have c : ∀ {p : Addr} {v}, w6.cell? p = some v → W.cell? p = some v := fun {p v} h => (hb.cell (lt_of_cell h)).trans h
              exact ⟨c c9, c c10, c c11⟩
            have hk6w : KeptBut F w w6 := H5.out.2.1.trans (hk6.mono fun b _ e => by rw [e]; exact H.out.1.talk.hF)
            have H6 := Lib.hid (And.intro hX6 (And.intro hk6w hsz6))
            clear hX6 hk6 hsz6 hw6 hw6' hW6 hokb hk6w c15 z15 Hst hlt4
            go_wp2
            go_region_held3 (fun W => W.cell? ⟨ab, 9, none⟩ = some (.int .i64 b3.tag.1) ∧ W.cell? ⟨ab, 10, none⟩ = some (.int .i64 b3.tag.2) ∧ W.cell? ⟨ab, 11, none⟩ = some (.string b3.text))
              (first | exact ⟨c9, c10, c11⟩ | exact KC.out _ (Below.refl _ _).drew | exact KC.out _ kr7)
              (first | (go_at_call 48; refine Hkp.out.mono ?_; rintro e w7 ⟨hb7, a7, cp7, rfl, r1, r2, r3, r4⟩; have kr7 : Below w6.heap.size w6 w7 := (Below.refl _ _).drew.trans hb7; have H7 := Lib.hid (And.intro r1 (And.intro r2 (And.intro r3 r4))); clear hb7 r1 r2 r3 r4))
            rename_i hHeld
            have HK7 := Lib.hid kr7
            clear hHeld c9 c10 c11 kr7
            go_wp2
            go_ret
            have hF6 : ∀ b, grownF F w2.drew w3 b ∨ b = w5.heap.size → F b ∨ w.heap.size ≤ b := fun b hb => by
              rcases hb with hb | hb
              · exact H3.out.2.2.1 b hb
              · right; rw [hb]; exact H5.out.2.1.size
            have hks : keepS b3 = { b3 with st := 1, t := { b3.t with wait := kKept, got := [] } } := by
              unfold keepS
              rw [if_neg (by rw [Hm.out.2.2.1]; decide)]
            refine AskPost.mk (bm' := w5.heap.size) (a' := keepS b3) (l := keepT (keepS b3).t (keepS b3).tag (keepS b3).text) (by rw [hear_keep rfl H.out.2.2.2.2.2.1 (.inl rfl) Heb.out (by rw [Hcf.out]; exact Hfo.out), Hcf.out]) hF6 (H6.out.2.1.trans (KeptBut.of_below HK7.out (fun k h1 h2 => by omega))) ?_ ?_
            · rw [hks]; exact H6.out.1.below HK7.out (Nat.le_refl _)
            · rw [hks]
              refine ⟨a7, cp7, rfl, H7.out.1, H7.out.2.1, H7.out.2.2.1, H7.out.2.2.2.mono (fun b _ hb => ?_)⟩
              have hb' : w6.heap.size ≤ b := hb
              refine ⟨Nat.le_trans H6.out.2.1.size hb', fun h9 => ?_⟩
              have := H6.out.1.talk.lt b h9
              omega
  · have c15' : W1.cell? ⟨ab, 15, none⟩ = some (.string ⟨#[107, 101, 101, 112, 105, 110, 103]⟩) := c15
    clear c15
    have c15 := c15'
    clear c15'
    have k15 := cell_regrown c15
    cases fb with
    | false =>
      refine wp_region_quiet_below (by kernel_rfl) (by kernel_rfl) ?_
      repeat (go_big_quiet_step (first | exact Cf _ _))
      refine wpQuiet_nil ?_
      intro w2 hw'
      obtain ⟨⟨dq, osq⟩, hw2⟩ := hw'
      have H2 := Lib.hid (show Below W1.heap.size W1 w2 by rw [hw2]; exact below_regrown W1 dq osq)
      clear hw2 k0 k1 k2 k3 k4 k5 k6 k7 k15 c15 Cf
      go_wp2
      go_ret
      exact AskPost.mk (hear_no (.inr H.out.2.2.2.2.2.1)) (fun b hb => .inl hb) (KeptBut.of_below (H.out.2.2.2.2.2.2.1.trans (H2.out.mono H.out.2.2.2.2.2.2.1.size)) (fun k h1 h2 => by omega)) (H.out.2.1.below H2.out (Nat.le_refl _)) (RetMsgs.nil _ _)
    | true =>
      refine wp_region_quiet_below (by kernel_rfl) (by kernel_rfl) ?_
      repeat (go_big_quiet_step (first | exact Cf _ _))
      refine wpQuiet_nil ?_
      intro w2 hw'
      obtain ⟨⟨dq, osq⟩, hw2⟩ := hw'
      have H2 := Lib.hid (show Below W1.heap.size W1 w2 by rw [hw2]; exact below_regrown W1 dq osq)
      clear hw2 k0 k1 k2 k3 k4 k5 k6 k7 k15 c15 Cf
      have hX2 := H.out.2.1.below H2.out (Nat.le_refl _)
      obtain ⟨q0, q1, q2, q3, q4, q5, q6, q7⟩ := KS.out w2 H2.out
      have d15 : w2.cell? ⟨ab, 15, none⟩ = some (.string ⟨#[107, 101, 101, 112, 105, 110, 103]⟩) := hX2.cell 6 (by show 6 < 7; decide)
      have z15 := hX2.talk.z 15
      have HX2 := Lib.hid hX2
      clear hX2
      cases sl with
      | true =>
        have hkr : KeptBut F w (w2.setCell ⟨ab, 15, none⟩ (.string ⟨#[114, 101, 102, 117, 115, 101, 100]⟩)) := (KeptBut.of_below (F := F) (H.out.2.2.2.2.2.2.1.trans (H2.out.mono H.out.2.2.2.2.2.2.1.size)) (fun k h1 h2 => by omega)).set1 (p := ⟨ab, 15, none⟩) H.out.1.talk.hF _
        have hXr := HX2.out.set 6 (by show 6 < 7; decide) (.string ⟨#[114, 101, 102, 117, 115, 101, 100]⟩)
        have HR := Lib.hid (And.intro hkr hXr)
        clear hkr hXr
        go_wp2
        go_ret
        exact AskPost.mk (hear_sealed (by show 1 < 2; decide) H.out.2.2.2.2.2.1 rfl (by simp)) (fun b hb => .inl hb) HR.out.1 HR.out.2 (RetMsgs.nil _ _)
      | false =>
        have hnew := (fits_mem H.out.2.2.2.2.2.1).2
        have hbw : Below w.heap.size w w2.drew := (H.out.2.2.2.2.2.2.1.trans (H2.out.mono H.out.2.2.2.2.2.2.1.size)).drew
        have hW2 : Below W0.heap.size W0 w2.drew := HA.out.2.2.2.2.2.2.1.trans (hbw.mono HA.out.2.2.2.2.2.2.1.size)
        have Htk := Lib.hid (take_walk F w2.drew ab bm ma mc t fr dst kind key op cf false ad len cap L (HX2.out.talk.below (Below.refl w2.heap.size w2).drew (Nat.le_refl _)) H.out.2.2.1 HA.out.1 hnew HA.out.2.1 HA.out.2.2.1 (by have := H.out.2.2.2.2.1; have := HA.out.2.1; omega) HA.out.2.2.2.1 ((HA.out.2.2.2.2.1.below hbw).mono hbw.size) E W0 HA.out.2.2.2.2.2.1.qx hW2 HA.out.2.2.2.2.2.2.2)
        have HB := Lib.hid (And.intro hbw hW2)
        clear hnew hbw hW2
        go_wp2
        go_region_held3 (fun W => W.cell? ⟨xb, 0, none⟩ = some (.string fr) ∧ W.cell? ⟨xb, 1, none⟩ = some (.string dst) ∧ W.cell? ⟨xb, 2, none⟩ = some (.string kind) ∧ W.cell? ⟨xb, 3, none⟩ = some (.string key) ∧ W.cell? ⟨xb, 4, none⟩ = some (.int .i64 op) ∧ W.cell? ⟨xb, 5, none⟩ = some (.int .i64 cf) ∧ W.cell? ⟨xb, 6, none⟩ = some (.bool false) ∧ W.cell? ⟨xb, 7, none⟩ = some (.slice ad len cap))
          (first | exact ⟨q0, q1, q2, q3, q4, q5, q6, q7⟩ | exact KS.out _ H2.out.drew | exact ⟨p0, p1, p2, p3, p4, p5, p6, p7⟩)
          (first | (go_at_call 45; refine Htk.out.mono ?_; rintro e w3 ⟨rfl, hT3, hk3⟩; obtain ⟨⟨p0, p1, p2, p3, p4, p5, p6, p7⟩, HT3⟩ : (w3.cell? ⟨xb, 0, none⟩ = some (.string fr) ∧ w3.cell? ⟨xb, 1, none⟩ = some (.string dst) ∧ w3.cell? ⟨xb, 2, none⟩ = some (.string kind) ∧ w3.cell? ⟨xb, 3, none⟩ = some (.string key) ∧ w3.cell? ⟨xb, 4, none⟩ = some (.int .i64 op) ∧ w3.cell? ⟨xb, 5, none⟩ = some (.int .i64 cf) ∧ w3.cell? ⟨xb, 6, none⟩ = some (.bool false) ∧ w3.cell? ⟨xb, 7, none⟩ = some (.slice ad len cap)) ∧ Hid (TalkAt (grownF F w2.drew w3) w3 ab bm ma mc (takeT t ⟨fr, dst, kind, key, op, cf, false, L⟩) ∧ KeptBut (fun b => b = bm) w2.drew w3) := by {
            have hne : xb ≠ bm := fun e => by { have := H.out.1.talk.lt bm H.out.1.talk.bF; have := H.out.2.2.2.2.2.2.2.2.1; omega }
            exact ⟨⟨hk3.cell (p := ⟨xb, 0, none⟩) q0 hne, hk3.cell (p := ⟨xb, 1, none⟩) q1 hne, hk3.cell (p := ⟨xb, 2, none⟩) q2 hne, hk3.cell (p := ⟨xb, 3, none⟩) q3 hne, hk3.cell (p := ⟨xb, 4, none⟩) q4 hne, hk3.cell (p := ⟨xb, 5, none⟩) q5 hne, hk3.cell (p := ⟨xb, 6, none⟩) q6 hne, hk3.cell (p := ⟨xb, 7, none⟩) q7 hne⟩, Lib.hid ⟨hT3, hk3⟩⟩ }; clear hT3 hk3))
        rename_i hHeld
        clear hHeld q0 q1 q2 q3 q4 q5 q6 q7 p0 p1 p2 p3 p4 p5 p6 p7 d15 z15 Htk
        have hX3 := (HX2.out.below (Below.refl w2.heap.size w2).drew (Nat.le_refl _)).turn HT3.out.1 HT3.out.2
        have d15 : w3.cell? ⟨ab, 15, none⟩ = some (.string ⟨#[107, 101, 101, 112, 105, 110, 103]⟩) := hX3.cell 6 (by show 6 < 7; decide)
        have z15 := hX3.talk.z 15
        have hkw3 : KeptBut F w w3 := (KeptBut.of_below HB.out.1 (fun k h1 h2 => by omega)).trans (HT3.out.2.mono fun b _ e => by rw [e]; exact H.out.1.talk.bF)
        have hF3 : ∀ b, grownF F w2.drew w3 b → F b ∨ w.heap.size ≤ b := fun b hb => hb.imp id (fun h9 => Nat.le_trans HB.out.1.size h9.1)
        have hW3 : Below W0.heap.size W0 w3 := HB.out.2.trans (HT3.out.2.below HB.out.2.size (fun b e => by rw [e]; exact HA.out.2.2.2.2.2.2.2 bm H.out.1.talk.bF))
        have H3 := Lib.hid (And.intro hX3 (And.intro hkw3 (And.intro hF3 hW3)))
        obtain ⟨eb, heb⟩ : ∃ eb, enoughB (takeT t ⟨fr, dst, kind, key, op, cf, false, L⟩) = eb := ⟨_, rfl⟩
        rw [heb]
        have Heb := Lib.hid heb
        clear heb hX3 hkw3 hF3 hW3 HT3
        cases eb with
        | false =>
          go_wp2
          go_ret
          exact AskPost.mk (hear_few (by show 1 < 2; decide) H.out.2.2.2.2.2.1 (.inl rfl) Heb.out) H3.out.2.2.1 H3.out.2.1 H3.out.1 (RetMsgs.nil _ _)
        | true =>
          have hkr : KeptBut F w (w3.setCell ⟨ab, 15, none⟩ (.string ⟨#[100, 111, 110, 101]⟩)) := H3.out.2.1.set1 (p := ⟨ab, 15, none⟩) H.out.1.talk.hF _
          have hXr := H3.out.1.set 6 (by show 6 < 7; decide) (.string ⟨#[100, 111, 110, 101]⟩)
          have HR := Lib.hid (And.intro hkr hXr)
          clear hkr hXr
          go_wp2
          go_ret
          exact AskPost.mk (hear_done rfl H.out.2.2.2.2.2.1 rfl Heb.out) H3.out.2.2.1 HR.out.1 HR.out.2 (RetMsgs.nil _ _)
  · have c15' : W1.cell? ⟨ab, 15, none⟩ = some (.string ⟨#[100, 111, 110, 101]⟩) := c15
    clear c15
    have c15 := c15'
    clear c15'
    have k15 := cell_regrown c15
    refine wp_region_quiet_below (by kernel_rfl) (by kernel_rfl) ?_
    repeat (go_big_quiet_step (first | exact Cf _ _))
    refine wpQuiet_nil ?_
    intro w2 hw'
    obtain ⟨⟨dq, osq⟩, hw2⟩ := hw'
    have H2 := Lib.hid (show Below W1.heap.size W1 w2 by rw [hw2]; exact below_regrown W1 dq osq)
    clear hw2 k0 k1 k2 k3 k4 k5 k6 k7 k15 c15 Cf
    go_wp2
    go_ret
    exact AskPost.mk (hear_no (.inl (by show 2 ≤ 2; decide))) (fun b hb => .inl hb) (KeptBut.of_below (H.out.2.2.2.2.2.2.1.trans (H2.out.mono H.out.2.2.2.2.2.2.1.size)) (fun k h1 h2 => by omega)) (H.out.2.1.below H2.out (Nat.le_refl _)) (RetMsgs.nil _ _)
  · have c15' : W1.cell? ⟨ab, 15, none⟩ = some (.string ⟨#[114, 101, 102, 117, 115, 101, 100]⟩) := c15
    clear c15
    have c15 := c15'
    clear c15'
    have k15 := cell_regrown c15
    refine wp_region_quiet_below (by kernel_rfl) (by kernel_rfl) ?_
    repeat (go_big_quiet_step (first | exact Cf _ _))
    refine wpQuiet_nil ?_
    intro w2 hw'
    obtain ⟨⟨dq, osq⟩, hw2⟩ := hw'
    have H2 := Lib.hid (show Below W1.heap.size W1 w2 by rw [hw2]; exact below_regrown W1 dq osq)
    clear hw2 k0 k1 k2 k3 k4 k5 k6 k7 k15 c15 Cf
    go_wp2
    go_ret
    exact AskPost.mk (hear_no (.inl (by show 2 ≤ 3; decide))) (fun b hb => .inl hb) (KeptBut.of_below (H.out.2.2.2.2.2.2.1.trans (H2.out.mono H.out.2.2.2.2.2.2.1.size)) (fun k h1 h2 => by omega)) (H.out.2.1.below H2.out (Nat.le_refl _)) (RetMsgs.nil _ _)
end
end Go.Proofs.YtabboioamdphmaaGreatDoor

