/- The walk of a get's choose. -/
import Derived.Test.YtabboioamdphmaaGreatDoorKAskHears32
namespace Go.Proofs.YtabboioamdphmaaGreatDoor
section
open Go.RowKit Go.Maps Go.BigFrame

set_option maxRecDepth 100000 in
set_option maxHeartbeats 8000000 in
theorem choose_get (F : Nat → Prop) (w : World) (ab bm : Nat) (ma : Option Addr) (mc : Nat) (a : AskS) (h : TalkX F w ab bm ma mc a.t (askV a)) (hok : TalkOk a.t) (hp : a.put = false) (ht : totV (a.t.got.map (·.2)) ≤ 1000000) (E : Nat → Addr) (hE : ErrEnv w E) :
    Calls Tryz.prog 56 #[.pointer (some ⟨ab, 0, none⟩)] w fun e w' => e = .returned (.bool (chooseT a).found) ∧ TalkX F w' ab bm ma mc a.t (askV (chooseT a)) ∧ KeptBut (fun b => b = ab) w w' := by
  obtain ⟨t, who, put, moves, n2, k2, mem2, st, tag, text, found⟩ := a
  dsimp only at h hok hp ht
  subst hp
  obtain ⟨hk1, hkn, hn12, hmn, _⟩ := talk_cfg hok
  have c4 := h.talk.c4
  have c5 := h.talk.c5
  have c6 := h.talk.c6
  have c14 : w.cell? ⟨ab, 14, none⟩ = some (.bool false) := h.cell 5 (by show 5 < 7; decide)
  have hd := h.below (Below.refl w.heap.size w).drew (Nat.le_refl _)
  have Hto := Lib.hid (told_walk F w.drew ab bm ma mc t hd.talk hok)
  have htl : (toldT t).length ≤ t.n := by rw [← hmn]; exact List.length_filterMap_le ..
  have HB : Hid (∀ (w5 : World) (a5 : Option Addr) (cp5 : Nat), Below w.drew.heap.size w.drew w5 → VssR w5 a5 (toldT t) → (w5.cell? ⟨ab, 4, none⟩ = some (.int .i64 (t.n : Nat)) ∧ w5.cell? ⟨ab, 5, none⟩ = some (.int .i64 (t.k : Nat)) ∧ w5.cell? ⟨ab, 6, none⟩ = some (.slice ma t.mem.length mc)) ∧
      Hid (Calls Tryz.prog 46 #[.agg #[.int .i64 (t.n : Nat), .int .i64 (t.k : Nat), .slice ma t.mem.length mc], .slice a5 (toldT t).length cp5] w5 fun e w6 => ∃ (tg : Int × Int) (s : ByteArray) (f : Bool), e = .returned (.tuple #[.agg #[.int .i64 tg.1, .int .i64 tg.2], .string s, .bool f, .nilIface]) ∧ Hid (Below w.heap.size w w6 ∧ (tg, s, f) = bestAns t.k (bestG t.k (groupsL t.n t.k (toldT t).flatten))))) := Lib.hid (by
    intro w5 a5 cp5 hb5 hv5
    have hb : Below w.heap.size w w5 := (Below.refl _ _).drew.trans hb5
    have hT := h.talk.below hb (Nat.le_refl _)
    refine ⟨⟨hT.c4, hT.c5, hT.c6⟩, Lib.hid ?_⟩
    have hE5 := hE.below hb (Nat.le_refl _)
    refine (best_walk (t.n : Nat) (t.k : Nat) w5.heap.size ma t.mem.length mc t.mem a5 (toldT t).length cp5 (toldT t) w5 E hE5.qx hE5.ef rfl h.talk.mcap (mem_size hok) hT.mem.at_ (Nat.le_refl _) rfl (by unfold maxLen; omega) hv5 (by rw [told_tot hok]; exact ht)).mono ?_
    rintro e w6 ⟨hb6, tg, s, f, v, rfl, hres⟩
    have hz : (configF (t.n : Int) (t.k : Int) t.mem).1 = 0 := by rw [hok.cfg]
    rcases hres with ⟨r0, _⟩ | ⟨_, r1, _⟩ | ⟨_, _, rfl, r3⟩
    · exact absurd hz r0
    · exfalso; omega
    · exact ⟨tg, s, f, rfl, Lib.hid ⟨hb.trans (hb6.mono hb.size), r3⟩⟩)
  have H := Lib.hid h
  have hlt := h.talk.lt ab h.talk.hF
  clear hk1 hkn hn12 hmn hd htl hE hok ht h
  go_enter Tryz.func56, Tryz.ntmps56
  go_wp2
  go_region_held3 (fun W => W.cell? ⟨ab, 4, none⟩ = some (.int .i64 (t.n : Nat)) ∧ W.cell? ⟨ab, 5, none⟩ = some (.int .i64 (t.k : Nat)) ∧ W.cell? ⟨ab, 6, none⟩ = some (.slice ma t.mem.length mc))
    (first | exact ⟨c4, c5, c6⟩ | exact ⟨d4, d5, d6⟩ | exact ⟨e4, e5, e6⟩ | (refine ⟨?_, ?_, ?_⟩ <;> (repeat (rw [World.cell?_setCell_other _ _ _ _ (by simp)])) <;> assumption))
    (first
      | (go_at_call 47; refine Hto.out.mono ?_; rintro e w5 ⟨hb5, a5, cp5, rfl, hv5⟩; obtain ⟨⟨d4, d5, d6⟩, HBe⟩ := HB.out w5 a5 cp5 hb5 hv5; clear hb5 hv5)
      | (go_at_call 46; refine HBe.out.mono ?_; rintro e w6 ⟨⟨t1, t2⟩, s, f, rfl, HF⟩; have hT6 := H.out.below HF.out.1 (Nat.le_refl _); have e4 := hT6.talk.c4; have e5 := hT6.talk.c5; have e6 := hT6.talk.c6; have e9 : w6.cell? ⟨ab, 9, none⟩ = _ := hT6.cell 0 (by show 0 < 7; decide); have e10 : w6.cell? ⟨ab, 10, none⟩ = _ := hT6.cell 1 (by show 1 < 7; decide); have e11 : w6.cell? ⟨ab, 11, none⟩ = _ := hT6.cell 2 (by show 2 < 7; decide); have e12 : w6.cell? ⟨ab, 12, none⟩ = _ := hT6.cell 3 (by show 3 < 7; decide); have z9 := hT6.talk.z 9; have z10 := hT6.talk.z 10; have z11 := hT6.talk.z 11; have z12 := hT6.talk.z 12; clear hT6))
  rename_i hHeld
  obtain ⟨W7, hW7⟩ : ∃ W7, (((w6.setCell ⟨ab, 9, none⟩ (.int .i64 t1)).setCell ⟨ab, 10, none⟩ (.int .i64 t2)).setCell ⟨ab, 11, none⟩ (.string s)).setCell ⟨ab, 12, none⟩ (.bool f) = W7 := ⟨_, rfl⟩
  have hX := ask_sets (a := ⟨t, who, false, moves, n2, k2, mem2, st, tag, text, found⟩) H.out HF.out.1 (.int .i64 t1) (.int .i64 t2) (.string s) (.bool f)
  rw [hW7] at hX ⊢
  have c12 : W7.cell? ⟨ab, 12, none⟩ = some (.bool f) := hX.1.cell 3 (by show 3 < 7; decide)
  have HX := Lib.hid hX
  have Hf := Lib.hid (show (((t1, t2), s, f) : (Int × Int) × ByteArray × Bool) = bestAns t.k (bestG t.k (groupsL t.n t.k (toldT t).flatten)) from HF.out.2)
  clear hHeld hX hW7 d4 d5 d6 e4 e5 e6 e9 e10 e11 e12 z9 z10 z11 z12 c4 c5 c6 c14 HF HBe
  go_wp2
  go_ret
  unfold chooseT
  rw [if_neg (show ¬ ((false : Bool) = true) by decide)]
  dsimp only
  rw [← Hf.out]
  exact ⟨rfl, HX.out.1, HX.out.2⟩
end
end Go.Proofs.YtabboioamdphmaaGreatDoor
/- The walk of a put's choose. -/
namespace Go.Proofs.YtabboioamdphmaaGreatDoor
section
open Go.RowKit Go.Maps Go.BigFrame

theorem ask_sets3 {F : Nat → Prop} {w w6 : World} {ab bm : Nat} {ma : Option Addr} {mc : Nat} {a : AskS} (h : TalkX F w ab bm ma mc a.t (askV a)) (hb : Below w.heap.size w w6) (y1 y2 y4 : Value) :
    TalkX F (((w6.setCell ⟨ab, 9, none⟩ y1).setCell ⟨ab, 10, none⟩ y2).setCell ⟨ab, 12, none⟩ y4) ab bm ma mc a.t [y1, y2, .string a.text, y4, .int .i64 a.who, .bool a.put, .string (stT a)] ∧
      KeptBut (fun b => b = ab) w (((w6.setCell ⟨ab, 9, none⟩ y1).setCell ⟨ab, 10, none⟩ y2).setCell ⟨ab, 12, none⟩ y4) := by
  have h6 := h.below hb (Nat.le_refl _)
  refine ⟨((h6.set 0 (by show 0 < 7; decide) y1).set 1 (by show 1 < 7; decide) y2).set 3 (by show 3 < 7; decide) y4, ?_⟩
  have hk := KeptBut.of_below (F := fun b => b = ab) hb (fun k h1 h2 => by omega)
  exact ((hk.set1 (p := ⟨ab, 9, none⟩) rfl y1).set1 (p := ⟨ab, 10, none⟩) rfl y2).set1 (p := ⟨ab, 12, none⟩) rfl y4
theorem maxN_bound (xs : List Ver) : 0 ≤ maxN xs ∧ maxN xs ≤ 1099511627776 := by
  obtain ⟨h1, h2, _⟩ := maxN_is xs
  refine ⟨h1, ?_⟩
  rcases h2 with h2 | ⟨x, _, e, h2⟩
  · omega
  · omega
theorem maxN_step (xs : List Ver) (i : Nat) (h : i < xs.length) : maxN (xs.take (i + 1)) = if tagB (xs[i]?.getD ver0).1 0 = true then max (maxN (xs.take i)) (xs[i]?.getD ver0).1 else maxN (xs.take i) := by
  rw [List.take_succ_eq_append_getElem h, maxN_snoc, List.getElem?_eq_getElem h]
  have hb := maxN_bound (xs.take i)
  obtain ⟨x, hx⟩ : ∃ x, xs[i] = x := ⟨_, rfl⟩
  rw [hx]
  show _ = if tagB x.1 0 = true then max (maxN (xs.take i)) x.1 else maxN (xs.take i)
  obtain ⟨n, hn⟩ : ∃ n, maxN (xs.take i) = n := ⟨_, rfl⟩
  rw [hn] at hb ⊢
  by_cases h1 : 0 ≤ x.1 ∧ x.1 ≤ 1099511627776
  · have e : tagB x.1 0 = true := decide_eq_true (by omega)
    rw [e, if_pos (show (true : Bool) = true from rfl)]
    by_cases h2 : n < x.1
    · rw [if_pos ⟨h2, h1.2⟩]; omega
    · rw [if_neg (fun h => h2 h.1)]; omega
  · have e : tagB x.1 0 = false := decide_eq_false (by omega)
    rw [e, if_neg (show ¬ (false : Bool) = true by decide), if_neg (by omega)]
set_option maxRecDepth 100000 in
set_option maxHeartbeats 8000000 in
theorem choose_put (F : Nat → Prop) (w : World) (ab bm : Nat) (ma : Option Addr) (mc : Nat) (a : AskS) (h : TalkX F w ab bm ma mc a.t (askV a)) (hok : TalkOk a.t) (hp : a.put = true) (ht : totV (a.t.got.map (·.2)) ≤ 1000000) :
    Calls Tryz.prog 56 #[.pointer (some ⟨ab, 0, none⟩)] w fun e w' => e = .returned (.bool (chooseT a).found) ∧ TalkX F w' ab bm ma mc a.t (askV (chooseT a)) ∧ KeptBut (fun b => b = ab) w w' := by
  obtain ⟨t, who, put, moves, n2, k2, mem2, st, tag, text, found⟩ := a
  dsimp only at h hok hp ht
  subst hp
  obtain ⟨hk1, hkn, hn12, hmn, _⟩ := talk_cfg hok
  have c14 : w.cell? ⟨ab, 14, none⟩ = some (.bool true) := h.cell 5 (by show 5 < 7; decide)
  have Hto := Lib.hid (told_walk F w ab bm ma mc t h.talk hok)
  have htl : (toldT t).length ≤ t.n := by rw [← hmn]; exact List.length_filterMap_le ..
  have hml : (toldT t).length ≤ maxLen := by unfold maxLen; omega
  have htt : totV (toldT t) ≤ 1000000 := by rw [told_tot hok]; exact ht
  have Hcc := Lib.hid (fun (w5 : World) (a5 : Option Addr) (cp5 : Nat) (hv : VssR w5 a5 (toldT t)) => concat_walk a5 (toldT t).length cp5 (toldT t) w5 rfl hml hv htt)
  have H := Lib.hid (And.intro h (And.intro htt (flat_len (toldT t))))
  obtain ⟨xs, hxs⟩ : ∃ xs, (toldT t).flatten = xs := ⟨_, rfl⟩
  rw [hxs] at H Hcc
  have Hxs := Lib.hid hxs
  have hlt := h.talk.lt ab h.talk.hF
  clear hk1 hkn hn12 hmn htl hml htt hok ht h hxs
  go_enter Tryz.func56, Tryz.ntmps56
  go_wp2_with fail
  refine Hto.out.mono ?_
  rintro e w5 ⟨hb5, a5, cp5, rfl, hv5⟩
  have Hc5 := Lib.hid (Hcc.out w5 a5 cp5 hv5)
  have H5 := Lib.hid hb5
  clear hb5 hv5
  go_wp2_with fail
  refine Hc5.out.mono ?_
  rintro e w6 ⟨hb6, v6, rfl, ho6⟩
  obtain ⟨a6, cp6, rfl, r1, r2, r3, r4⟩ := ho6.read
  obtain ⟨m, hm⟩ : ∃ m, xs.length = m := ⟨_, rfl⟩
  rw [hm] at r1
  have hm6 : m ≤ 1000000 := by rw [← hm, H.out.2.2]; exact H.out.2.1
  have H6 := Lib.hid (And.intro (H5.out.trans (hb6.mono H5.out.size)) (And.intro r4 hm))
  rw [hm]
  clear hb6 ho6 r1 r2 r3 r4 hm
  go_wp2
  go_loopw [3, 49] (fun vn vi wr => ∃ (i : Nat), i ≤ m ∧ vi = .int .i64 i ∧ vn = .int .i64 (maxN (xs.take i)) ∧ Hid (Below w6.heap.size w6 wr)) (fun _ vi _ => m - (intOf vi).toNat)
  case atStart => exact ⟨0, by omega, rfl, rfl, Lib.hid (Below.refl _ _)⟩
  case round =>
    obtain ⟨i, hi, rfl, rfl, Hr⟩ := hrel
    have hi2 : i < m ∨ m = i := by omega
    rcases hi2 with hilt | rfl
    · have hilt2 : (i : Int) < m := by omega
      have hil : i < xs.length := by rw [H6.out.2.2]; exact hilt
      rcases (H6.out.2.1.below Hr.out) with he | ⟨b, off, rfl, hb, hc⟩
      · exfalso; rw [he] at hil; simp at hil
      obtain ⟨f0, f1, f2, f3, f4⟩ := VrR.at5 hc (i := i) hil
      have hst := maxN_step xs i hil
      obtain ⟨⟨x1, x2, x3, x4, x5⟩, hx⟩ : ∃ x, xs[i]?.getD ver0 = x := ⟨_, rfl⟩
      rw [hx] at f0 f1 f2 f3 f4 hst
      dsimp only at f0 f1 f2 f3 f4 hst
      obtain ⟨W7, hW7⟩ : ∃ W7, wr.alloc (.cells #[.int .i64 x1, .int .i64 x2, .int .i64 x3, .int .i64 x4, .string x5] 76) = W7 := ⟨_, rfl⟩
      have hb7 : Below w6.heap.size w6 W7 := by rw [← hW7]; exact Hr.out.alloc Hr.out.size _
      have Htg := Lib.hid (tagb_walk x1 0 W7)
      obtain ⟨tb, htb⟩ : ∃ tb, tagB x1 0 = tb := ⟨_, rfl⟩
      rw [htb] at Htg hst
      obtain ⟨mx, hmx⟩ : ∃ mx, maxN (xs.take i) = mx := ⟨_, rfl⟩
      rw [hmx] at hst ⊢
      have v0 : W7.cell? ⟨wr.heap.size, 0, none⟩ = some (.int .i64 x1) := by rw [← hW7]; simp
      have H7 := Lib.hid (And.intro hb7 hst)
      clear hc hil hx htb hmx hb7 hst hb
      go_wp2_with fail
      refine Htg.out.mono ?_
      rintro e w8 ⟨rfl, hb8⟩
      have v8 := (hb8.cell (p := ⟨wr.heap.size, 0, none⟩) (lt_of_cell v0)).trans v0
      have hb9 : Below w6.heap.size w6 w8 := H7.out.1.trans (hb8.mono H7.out.1.size)
      cases tb with
      | true =>
        have hst := H7.out.2
        rw [if_pos (show (true : Bool) = true from rfl)] at hst
        have HN := Lib.hid (And.intro hb9 hst)
        clear hb8 hb9 hst f0 f1 f2 f3 f4 v0 hW7
        go_wp2
        go_roundw
        case rel =>
          first
          | exact ⟨i + 1, by omega, by go_num, by rw [HN.out.2], Lib.hid HN.out.1⟩
          | (repeat apply Exists.intro); exact ⟨⟨i + 1, by omega, by go_num, by rw [HN.out.2], Lib.hid HN.out.1⟩, rfl⟩
        case measure => simp [intOf]; omega
      | false =>
        have hst := H7.out.2
        rw [if_neg (show ¬ (false : Bool) = true by decide)] at hst
        have HN := Lib.hid (And.intro hb9 hst)
        clear hb8 hb9 hst f0 f1 f2 f3 f4 v0 hW7
        go_wp2
        go_roundw
        case rel =>
          first
          | exact ⟨i + 1, by omega, by go_num, by rw [HN.out.2], Lib.hid HN.out.1⟩
          | (repeat apply Exists.intro); exact ⟨⟨i + 1, by omega, by go_num, by rw [HN.out.2], Lib.hid HN.out.1⟩, rfl⟩
        case measure => simp [intOf]; omega
    · have e0 : xs.take m = xs := by rw [← H6.out.2.2]; exact List.take_length
      have hbd := maxN_bound xs
      rw [e0]
      obtain ⟨mx, hmx⟩ : ∃ mx, maxN xs = mx := ⟨_, rfl⟩
      rw [hmx] at hbd ⊢
      have hb : Below w.heap.size w wr := H6.out.1.trans (Hr.out.mono H6.out.1.size)
      have hX := ask_sets3 (a := ⟨t, who, true, moves, n2, k2, mem2, st, tag, text, found⟩) H.out.1 hb (.int .i64 (mx + 1)) (.int .i64 who) (.bool true)
      have h6 := H.out.1.below hb (Nat.le_refl _)
      have e9 : wr.cell? ⟨ab, 9, none⟩ = _ := h6.cell 0 (by show 0 < 7; decide)
      have e10 : wr.cell? ⟨ab, 10, none⟩ = _ := h6.cell 1 (by show 1 < 7; decide)
      have e12 : wr.cell? ⟨ab, 12, none⟩ = _ := h6.cell 3 (by show 3 < 7; decide)
      have e13 : wr.cell? ⟨ab, 13, none⟩ = some (.int .i64 who) := h6.cell 4 (by show 4 < 7; decide)
      have z9 := h6.talk.z 9
      have z10 := h6.talk.z 10
      have z12 := h6.talk.z 12
      have Hmx := Lib.hid hmx
      have HX := Lib.hid hX
      clear e0 hmx hX h6 hb
      go_wp2
      go_ret
      unfold chooseT
      rw [if_pos (show (true : Bool) = true from rfl)]
      dsimp only
      rw [Hxs.out, Hmx.out]
      exact ⟨rfl, HX.out.1, HX.out.2⟩
end
end Go.Proofs.YtabboioamdphmaaGreatDoor
