/- The walk of a talk's Keep. -/
import Derived.Test.YtabboioamdphmaaGreatDoorSCarryHears28
import Derived.Test.YtabboioamdphmaaGreatDoorSCarryHears27
import Derived.Test.YtabboioamdphmaaGreatDoorSCarryHears22
import Derived.Test.YtabboioamdphmaaGreatDoorSCarryHears13
import Derived.Test.YtabboioamdphmaaGreatDoorSCarryHears08
namespace Go.Proofs.YtabboioamdphmaaGreatDoor
section
open Go.RowKit Go.Maps Go.BigFrame

set_option maxRecDepth 100000 in
set_option maxHeartbeats 4000000 in
theorem keep_send (F : Nat → Prop) (w W1 W6 : World) (tb bm gb l6 cp5 : Nat) (ma : Option Addr) (mc : Nat) (t : TalkS) (t1 t2 : Int) (text : ByteArray) (a5 : Option Addr) (hT1 : TalkAt F W1 tb bm ma mc t) (hok : TalkOk t) (htx : text.size ≤ 1000) (hb1 : Below w.heap.size w W1) (g0 : W1.cell? ⟨gb, 0, none⟩ = some (.int .i64 t1)) (g1 : W1.cell? ⟨gb, 1, none⟩ = some (.int .i64 t2)) (hx : W1.cell? ⟨gb + 1, 0, none⟩ = some (.string text))
    (hb6 : Below W1.heap.size W1 W6) (hl6 : W6.cell? ⟨l6, 0, none⟩ = some (.slice a5 t.n cp5)) (hs6 : ShR W6.heap.size W6 a5 (encL t.n t.k text)) :
    Calls Tryz.prog 42 #[.pointer (some ⟨tb, 0, none⟩), .string kKeep, .func (.func 73) #[] #[.pointer (some ⟨gb, 0, none⟩), .pointer (some ⟨gb + 1, 0, none⟩), .pointer (some ⟨l6, 0, none⟩)]] W6 fun e w' => Below w.heap.size w w' ∧ RetMsgs (fun b => w.heap.size ≤ b) w' e (keepT t (t1, t2) text) := by
  obtain ⟨hk1, hkn, hn12, hmn, _⟩ := talk_cfg hok
  have hlen := encL_length t.n t.k text
  rcases hs6 with e | ⟨b, off, rfl, hb, hc⟩
  · exfalso; rw [e] at hlen; simp at hlen; omega
  have c : ∀ {p : Addr} {v}, W1.cell? p = some v → W6.cell? p = some v := fun {p v} h => (hb6.cell (lt_of_cell h)).trans h
  refine (send_keep F W6 tb bm ma mc t (hT1.below hb6 (Nat.le_refl _)) hok (t1, t2) text gb (gb + 1) l6 b off cp5 (c g0) (c g1) (c hx) hl6 (fun i hi => ?_) htx).mono ?_
  · have h9 := hc i (by rw [hlen]; exact hi)
    have e : (encL t.n t.k text)[i]?.getD (0, ⟨#[]⟩) = ((i : Int), encT t.k text i) := by simp [encL, hi]
    rw [e] at h9
    exact h9
  · rintro e w7 ⟨hb7, hr⟩
    have hb := hb1.trans (hb6.mono hb1.size)
    refine ⟨hb.trans (hb7.mono hb.size), ?_⟩
    obtain ⟨a, cap, rfl, h1, h2, h3, h4⟩ := hr
    exact ⟨a, cap, rfl, h1, h2, h3, h4.mono (fun b _ hb9 => Nat.le_trans hb.size hb9)⟩
set_option maxRecDepth 100000 in
set_option maxHeartbeats 4000000 in
theorem keep_walk (F : Nat → Prop) (w : World) (tb bm : Nat) (ma : Option Addr) (mc : Nat) (t : TalkS) (tag : Int × Int) (text : ByteArray) (h : TalkAt F w tb bm ma mc t) (hok : TalkOk t) (htx : text.size ≤ 1000) (E : Nat → Addr) (hE : ErrEz w E) :
    Calls Tryz.prog 48 #[.pointer (some ⟨tb, 0, none⟩), .agg #[.int .i64 tag.1, .int .i64 tag.2], .string text] w fun e w' => Below w.heap.size w w' ∧ RetMsgs (fun b => w.heap.size ≤ b) w' e (keepT t tag text) := by
  obtain ⟨t1, t2⟩ := tag
  dsimp only
  obtain ⟨gb, hgb⟩ : ∃ gb, w.heap.size = gb := ⟨_, rfl⟩
  obtain ⟨W1, hW1⟩ : ∃ W1, (w.alloc (.cells #[.int .i64 t1, .int .i64 t2] 44)).alloc (.cells #[.string text] 9) = W1 := ⟨_, rfl⟩
  have hs0 : (w.alloc (.cells #[.int .i64 t1, .int .i64 t2] 44)).heap.size = gb + 1 := by rw [← hgb]; simp
  have hs1 : W1.heap.size = gb + 2 := by rw [← hW1, ← hgb]; simp
  have hb1 : Below w.heap.size w W1 := by rw [← hW1]; exact ((Below.refl _ w).alloc (Nat.le_refl _) _).alloc (by simp) _
  have g0 : W1.cell? ⟨gb, 0, none⟩ = some (.int .i64 t1) := by rw [← hW1, ← hgb]; simp
  have g1 : W1.cell? ⟨gb, 1, none⟩ = some (.int .i64 t2) := by rw [← hW1, ← hgb]; simp
  have hx : W1.cell? ⟨gb + 1, 0, none⟩ = some (.string text) := by
    have e : gb + 1 = (w.alloc (.cells #[.int .i64 t1, .int .i64 t2] 44)).heap.size := hs0.symm
    rw [← hW1, e]; simp
  obtain ⟨hk1, hkn, hn12, hmn, _⟩ := talk_cfg hok
  have hT1 := h.below hb1 (Nat.le_refl _)
  have KA : Hid (∀ W, Below W1.heap.size W1 W → W.cell? ⟨tb, 4, none⟩ = some (.int .i64 (t.n : Nat)) ∧ W.cell? ⟨tb, 5, none⟩ = some (.int .i64 (t.k : Nat)) ∧ W.cell? ⟨gb + 1, 0, none⟩ = some (.string text)) := Lib.hid fun W hb => by
    have hT := hT1.below hb (Nat.le_refl _)
    exact ⟨hT.c4, hT.c5, (hb.cell (lt_of_cell hx)).trans hx⟩
  obtain ⟨lb, hlb⟩ : ∃ lb, W1.heap.size = lb := ⟨_, rfl⟩
  obtain ⟨W2, hW2⟩ : ∃ W2, (W1.alloc (.cells #[.slice none 0 0] 125)).drew = W2 := ⟨_, rfl⟩
  have hb2 : Below W1.heap.size W1 W2 := by rw [← hW2]; exact ((Below.refl _ W1).alloc (Nat.le_refl _) _).drew
  have gl : W2.heap[lb]? = some (.cells #[.slice none 0 0] 125 (0, 0)) := by rw [← hW2, ← hlb]; exact heap_alloc_new _ _
  have Hen := Lib.hid (encode_walk t.n t.k text W2 E (hE.below (hb1.trans (hb2.mono hb1.size)) (Nat.le_refl _)) hk1 hkn hn12 htx)
  have Hen1 := Lib.hid (encode_walk t.n t.k text W1.drew E (hE.below hb1.drew (Nat.le_refl _)) hk1 hkn hn12 htx)
  have H2 := Lib.hid (And.intro hb2 (And.intro gl (And.intro hW2 hlb)))
  have H1 := Lib.hid (And.intro hT1 (And.intro hok (And.intro htx (And.intro hb1 (And.intro hs1 (And.intro g0 (And.intro g1 hx)))))))
  have HW := Lib.hid (And.intro hW1 hgb)
  have c4 := hT1.c4
  have c5 := hT1.c5
  have HA : Hid (∀ (w5 : World) (a5 : Option Addr) (cp5 : Nat), OwnS W2.heap.size w5 (.slice a5 t.n cp5) (encL t.n t.k text) → Below W2.heap.size W2 w5 → ∃ W6, w5.setCell ⟨lb, 0, none⟩ (.slice a5 t.n cp5) = W6 ∧ w5.cell? ⟨lb, 0, none⟩ = some (.slice none 0 0) ∧ w5.frozen? ⟨lb, 0, none⟩ = false ∧ Below W1.heap.size W1 w5 ∧
      Hid (Below W1.heap.size W1 W6 ∧ W6.cell? ⟨lb, 0, none⟩ = some (.slice a5 t.n cp5) ∧ ShR W6.heap.size W6 a5 (encL t.n t.k text))) := Lib.hid (by
    intro w5 a5 cp5 ho hb5
    have hgl5 := (hb5.block lb (Array.getElem?_eq_some_iff.1 gl).1).trans gl
    have h6 := heap_setCell_same w5 lb 0 _ _ (.slice a5 t.n cp5) hgl5
    have hsz : (w5.setCell ⟨lb, 0, none⟩ (.slice a5 t.n cp5)).heap.size = w5.heap.size := by simp [World.setCell]
    have hbw := hb2.trans (hb5.mono hb2.size)
    have hlt : lb < W2.heap.size := (Array.getElem?_eq_some_iff.1 gl).1
    refine ⟨_, rfl, (cell_of_heap hgl5 0).trans rfl, frozen_of_heap hgl5 0, hbw, Lib.hid ⟨hbw.setCell (Nat.le_of_eq hlb) _, (cell_of_heap h6 0).trans (by simp), ?_⟩⟩
    obtain ⟨a', cp', e, _, _, r3⟩ := ho.read
    obtain rfl := (Value.slice.inj e).1
    clear e
    rcases ho.2 with ⟨e, hn⟩ | ⟨g, cap, cur, e, hB, _⟩
    · exact .inl (List.length_eq_zero_iff.1 hn)
    · obtain rfl := (Value.slice.inj e).1
      clear e
      rcases r3 with e | ⟨b, off, e, hb, hc⟩
      · exact .inl e
      · cases e
        have hne : lb ≠ g := by omega
        refine .inr ⟨_, _, rfl, by rw [hsz]; exact hb, fun i hi => ?_⟩
        rw [World.cell?_setCell_far _ _ _ _ hne, World.cell?_setCell_far _ _ _ _ hne]
        exact hc i hi)
  have HB : Hid (∀ (w5 : World) (a5 : Option Addr) (cp5 : Nat), OwnS W1.drew.heap.size w5 (.slice a5 t.n cp5) (encL t.n t.k text) → Below W1.drew.heap.size W1.drew w5 → ∃ W6 l6, w5.alloc (.cells #[.slice a5 t.n cp5] 125) = W6 ∧ w5.heap.size = l6 ∧ Below W1.heap.size W1 w5 ∧
      Hid (Below W1.heap.size W1 W6 ∧ W6.cell? ⟨l6, 0, none⟩ = some (.slice a5 t.n cp5) ∧ ShR W6.heap.size W6 a5 (encL t.n t.k text))) := Lib.hid (by
    intro w5 a5 cp5 ho hb5
    have hbw : Below W1.heap.size W1 w5 := (Below.refl _ _).drew.trans hb5
    refine ⟨_, _, rfl, rfl, hbw, Lib.hid ⟨hbw.alloc hbw.size _, by simp, ?_⟩⟩
    obtain ⟨a', cp', e, _, _, r3⟩ := ho.read
    obtain rfl := (Value.slice.inj e).1
    exact (r3.below ((Below.refl _ _).alloc (Nat.le_refl _) _)).mono (by simp))
  clear h hok hE hT1 hs0 hs1 g0 g1 hk1 hkn hn12 hmn hb1 hW1 hgb gl
  go_enter Tryz.func48, Tryz.ntmps48
  go_wp2
  rw [HW.out.1, HW.out.2]
  go_region_held3 (fun W => W.cell? ⟨tb, 4, none⟩ = some (.int .i64 (t.n : Nat)) ∧ W.cell? ⟨tb, 5, none⟩ = some (.int .i64 (t.k : Nat)) ∧ W.cell? ⟨gb + 1, 0, none⟩ = some (.string text))
    ((refine KA.out _ ?_; repeat (first | exact Below.refl _ _ | exact q5 | exact q6 | exact hb2 | apply Below.drew | refine Below.alloc ?_ (Nat.le_refl _) _ | refine Below.setCell ?_ (Nat.le_refl _) _ | refine Below.setCell ?_ (Nat.le_of_eq hlb) _ | refine Below.alloc ?_ q5.size _)))
    (first
      | (go_at_call 72; refine Hen.out.mono ?_; rintro e w5 ⟨⟨v5, rfl, ho5⟩, hb5⟩; obtain ⟨a5, cp5, hv5, _⟩ := ho5.read; rw [encL_length] at hv5; subst hv5; obtain ⟨W6, hW6, l5, z5, q5, HF⟩ := HA.out w5 a5 cp5 ho5 hb5; have q6 := HF.out.1; clear hb5 ho5)
      | (go_at_call 72; refine Hen1.out.mono ?_; rintro e w5 ⟨⟨v5, rfl, ho5⟩, hb5⟩; obtain ⟨a5, cp5, hv5, _⟩ := ho5.read; rw [encL_length] at hv5; subst hv5; obtain ⟨W6, l6, hW6, hl6, q5, HF⟩ := HB.out w5 a5 cp5 ho5 hb5; have q6 := HF.out.1; clear hb5 ho5))
  all_goals
    rename_i hHeld
    have Hs := Lib.hid (keep_send F w W1 W6 tb bm gb _ cp5 ma mc t t1 t2 text a5 H1.out.1 H1.out.2.1 H1.out.2.2.1 H1.out.2.2.2.1 H1.out.2.2.2.2.2.1 H1.out.2.2.2.2.2.2.1 H1.out.2.2.2.2.2.2.2 HF.out.1 HF.out.2.1 HF.out.2.2)
    unfold kKeep at Hs
    clear hHeld q6 q5 hW6 hW2 hb2 c4 c5
    go_wp2_with fail
    refine Hs.out.mono ?_
    rintro e w7 ⟨hb7, hr⟩
    obtain ⟨a7, cap7, rfl, r1, r2, r3, r4⟩ := hr
    have H7 := Lib.hid (And.intro hb7 (show RetMsgs (fun b => w.heap.size ≤ b) w7 (.returned (.slice a7 (keepT t (t1, t2) text).length cap7)) (keepT t (t1, t2) text) from ⟨a7, cap7, rfl, r1, r2, r3, r4⟩))
    clear hb7 r1 r2 r3 r4
    go_wp2
    go_ret
    exact H7.out
end
end Go.Proofs.YtabboioamdphmaaGreatDoor
/- A talk with cells behind it; the walk of choose. -/
namespace Go.Proofs.YtabboioamdphmaaGreatDoor
section
open Go.RowKit Go.Maps Go.BigFrame

structure TalkX (F : Nat → Prop) (w : World) (ab bm : Nat) (ma : Option Addr) (mc : Nat) (t : TalkS) (vs : List Value) : Prop where
  talk : TalkAt F w ab bm ma mc t
  cell : ∀ j, j < vs.length → w.cell? ⟨ab, 9 + j, none⟩ = some (vs[j]?.getD undef)
theorem TalkX.kept {F G : Nat → Prop} {w w' : World} {ab bm : Nat} {ma : Option Addr} {mc : Nat} {t : TalkS} {vs : List Value} (h : TalkX F w ab bm ma mc t vs) (hk : KeptBut G w w') (hG : ∀ b, F b → ¬ G b) : TalkX F w' ab bm ma mc t vs :=
  ⟨h.talk.kept hk hG, fun j hj => hk.cell (h.cell j hj) (hG ab h.talk.hF)⟩
theorem TalkX.below {F : Nat → Prop} {w w' : World} {ab bm : Nat} {ma : Option Addr} {mc : Nat} {t : TalkS} {vs : List Value} (h : TalkX F w ab bm ma mc t vs) {n : Nat} (hb : Below n w w') (hn : w.heap.size ≤ n) : TalkX F w' ab bm ma mc t vs :=
  ⟨h.talk.below hb hn, fun j hj => (hb.cell (Nat.lt_of_lt_of_le (h.talk.lt ab h.talk.hF) hn)).trans (h.cell j hj)⟩
theorem TalkX.mono {F F' : Nat → Prop} {w : World} {ab bm : Nat} {ma : Option Addr} {mc : Nat} {t : TalkS} {vs : List Value} (h : TalkX F w ab bm ma mc t vs) (hF : ∀ b, F b → F' b) (hl : ∀ b, F' b → b < w.heap.size) : TalkX F' w ab bm ma mc t vs := ⟨h.talk.mono hF hl, h.cell⟩
theorem TalkX.turn {F F' : Nat → Prop} {w w' : World} {ab bm bm' : Nat} {ma ma' : Option Addr} {mc mc' : Nat} {t t' : TalkS} {vs : List Value} (h : TalkX F w ab bm ma mc t vs) (hT : TalkAt F' w' ab bm' ma' mc' t') (hk : KeptBut (fun b => b = bm) w w') : TalkX F' w' ab bm' ma' mc' t' vs :=
  ⟨hT, fun j hj => hk.cell (h.cell j hj) (fun e => h.talk.ne e.symm)⟩
theorem setCell_size (w : World) (p : Addr) (v : Value) : (w.setCell p v).heap.size = w.heap.size := by simp [World.setCell]
theorem TalkAt.set9 {F : Nat → Prop} {w : World} {ab bm : Nat} {ma : Option Addr} {mc : Nat} {t : TalkS} (h : TalkAt F w ab bm ma mc t) (i : Nat) (hi : 9 ≤ i) (v : Value) : TalkAt F (w.setCell ⟨ab, i, none⟩ v) ab bm ma mc t := by
  have hk : KeptBut (fun b => b = ab) w (w.setCell ⟨ab, i, none⟩ v) := (KeptBut.refl (fun b => b = ab) w).set1 (p := ⟨ab, i, none⟩) rfl v
  have c : ∀ {j x}, j < 9 → w.cell? ⟨ab, j, none⟩ = some x → (w.setCell ⟨ab, i, none⟩ v).cell? ⟨ab, j, none⟩ = some x := fun {j x} hj hx => by
    rw [World.cell?_setCell_other _ _ _ _ (by intro e; have := congrArg Addr.off e; simp at this; omega)]; exact hx
  exact ⟨h.hF, h.bF, h.ne, fun b hb => by rw [setCell_size]; exact h.lt b hb, c (by omega) h.c0, c (by omega) h.c1, c (by omega) h.c2, c (by omega) h.c3, c (by omega) h.c4, c (by omega) h.c5, c (by omega) h.c6, c (by omega) h.c7, c (by omega) h.c8, fun j => by rw [World.frozen?_setCell]; exact h.z j, h.mcap, h.mmax, h.mnil, h.mem.kept hk (fun b _ hb => hb.2.1), h.got.kept hk (fun b _ hb => hb.2.1) h.ne⟩
theorem TalkX.set {F : Nat → Prop} {w : World} {ab bm : Nat} {ma : Option Addr} {mc : Nat} {t : TalkS} {vs : List Value} (h : TalkX F w ab bm ma mc t vs) (i : Nat) (hi : i < vs.length) (v : Value) : TalkX F (w.setCell ⟨ab, 9 + i, none⟩ v) ab bm ma mc t (vs.set i v) := by
  refine ⟨h.talk.set9 (9 + i) (by omega) v, fun j hj => ?_⟩
  rw [List.length_set] at hj
  by_cases e : j = i
  · subst e
    rw [World.cell?_setCell_same _ _ _ (h.cell j hj)]
    simp [hj]
  · rw [World.cell?_setCell_other _ _ _ _ (by intro e2; have := congrArg Addr.off e2; simp at this; omega), h.cell j hj, List.getElem?_set_ne (by omega)]
def askV (a : AskS) : List Value := [.int .i64 a.tag.1, .int .i64 a.tag.2, .string a.text, .bool a.found, .int .i64 a.who, .bool a.put, .string (stT a)]
theorem told_tot {t : TalkS} (h : TalkOk t) : totV (toldT t) = totV (t.got.map (·.2)) := totV_perm (told_perm h)
end
end Go.Proofs.YtabboioamdphmaaGreatDoor
/- From a row's whole list of variables to the world that a walk wants: the twelve errors and the handle of the type error. -/
namespace Go.Proofs.YtabboioamdphmaaGreatDoor
open Go.RowKit

theorem et_global : Tryz.prog.globalNamed "errors.errorType" = some 12 := by kernel_rfl
theorem et_rt : (Tryz.prog.cutTypes.find? (·.1 == "internal/reflectlite.rtype")).map (·.2) = some 185 := by kernel_rfl
theorem et_oneRow : ((List.range Tryz.prog.types.size).filter fun t => Tryz.prog.rowNamed t [101, 114, 114, 111, 114]) = [31] := by kernel_rfl
theorem et_handle : typeHandle Tryz.prog 31 = .pointer (some ⟨17, 31, none⟩) := by kernel_rfl

def errT : DataW Unit := .iface "internal/reflectlite.rtype" (.agg [.ptr (.lit (.string [101, 114, 114, 111, 114]))])
theorem handle_of_laid {l : List (String × DataW Unit)} {W : World} (h : laidMetH Tryz.prog l W) (hm : ("errors.errorType", errT) ∈ l) :
    W.cell? ⟨12, 0, none⟩ = some (.iface 185 (.agg #[.pointer (some ⟨17, 31, none⟩)])) := by
  have hf : ("errors.errorType", errT) ∈ l.filter fun x => x.2.handleName?.isSome := List.mem_filter.2 ⟨hm, rfl⟩
  unfold laidMetH at h
  generalize (l.filter fun x => x.2.handleName?.isSome) = fl at h hf
  match fl, h, hf with
  | x :: xs, h, hf =>
    obtain ⟨name, u, ty, e1, e2, e3, e4, e5⟩ := h.2 _ hf
    have en : name = [101, 114, 114, 111, 114] := (Option.some.inj e1).symm
    subst en
    obtain rfl := Option.some.inj (et_rt.symm.trans e2)
    have hm : ty ∈ (List.range Tryz.prog.types.size).filter fun t => Tryz.prog.rowNamed t [101, 114, 114, 111, 114] := List.mem_filter.2 ⟨List.mem_range.2 e3, e4⟩
    rw [et_oneRow] at hm
    obtain rfl := List.mem_singleton.1 hm
    rw [et_handle] at e5
    simpa using World.var?_cell et_global e5 0

def errTexts : List (String × List UInt8) := [
  ("shardkeep/api.ErrText", [115, 104, 97, 114, 100, 107, 101, 101, 112, 58, 32, 116, 101, 120, 116]),
  ("shardkeep/api.ErrBound", [115, 104, 97, 114, 100, 107, 101, 101, 112, 58, 32, 98, 111, 117, 110, 100]),
  ("shardkeep/api.ErrShape", [115, 104, 97, 114, 100, 107, 101, 101, 112, 58, 32, 115, 104, 97, 112, 101]),
  ("shardkeep/api.ErrName", [115, 104, 97, 114, 100, 107, 101, 101, 112, 58, 32, 110, 97, 109, 101]),
  ("shardkeep/api.ErrNone", [115, 104, 97, 114, 100, 107, 101, 101, 112, 58, 32, 110, 111, 110, 101]),
  ("shardkeep/api.ErrExist", [115, 104, 97, 114, 100, 107, 101, 101, 112, 58, 32, 101, 120, 105, 115, 116]),
  ("shardkeep/api.ErrFull", [115, 104, 97, 114, 100, 107, 101, 101, 112, 58, 32, 102, 117, 108, 108]),
  ("shardkeep/api.ErrFew", [115, 104, 97, 114, 100, 107, 101, 101, 112, 58, 32, 102, 101, 119]),
  ("shardkeep/api.ErrSum", [115, 104, 97, 114, 100, 107, 101, 101, 112, 58, 32, 115, 117, 109]),
  ("shardkeep/api.ErrOld", [115, 104, 97, 114, 100, 107, 101, 101, 112, 58, 32, 111, 108, 100]),
  ("shardkeep/api.ErrHeld", [115, 104, 97, 114, 100, 107, 101, 101, 112, 58, 32, 104, 101, 108, 100]),
  ("shardkeep/api.ErrZero", [115, 104, 97, 114, 100, 107, 101, 101, 112, 58, 32, 122, 101, 114, 111])]
def errText (i : Nat) : List UInt8 := (errTexts[i]?.getD ("", [])).2
def errGlob : List Nat := [3, 1, 2, 0, 4, 5, 6, 7, 8, 9, 10, 11]
theorem errText_ne : ∀ i, i < 12 → ∀ j, j < 12 → i ≠ j → errText i ≠ errText j := by decide
theorem errGlob_ok : (List.range 12).all (fun i => Tryz.prog.globalNamed (errTexts[i]?.getD ("", [])).1 == some (errGlob.getD i 0) && (Tryz.prog.globals[errGlob.getD i 0]?).map (·.type) == some 31) = true := by kernel_rfl
def fullLaid : List (String × DataW Unit) := ("errors.errorType", errT) :: errTexts.map fun x => (x.1, sent x.2)

theorem env_of_drop {W : World} {l : List (String × DataW Unit)} (k : Nat) (hk : l.drop k = fullLaid) (h : laidMetH Tryz.prog l W) : ∃ E, ErrEnv W E := by
  have hsub : ∀ x ∈ fullLaid, x ∈ l := fun x hx => List.mem_of_mem_drop (by rw [hk]; exact hx)
  have one : ∀ i, i < 12 → ∃ a, ErrIs W (errGlob.getD i 0) (errText i) a := fun i hi => by
    have hok := List.all_eq_true.1 errGlob_ok i (List.mem_range.2 hi)
    simp only [Bool.and_eq_true, beq_iff_eq] at hok
    refine err_of_laid h (n := (errTexts[i]?.getD ("", [])).1) ?_ hok.1 hok.2
    refine hsub _ (List.mem_cons_of_mem _ (List.mem_map.2 ⟨errTexts[i]?.getD ("", []), ?_, rfl⟩))
    have hl : i < errTexts.length := hi
    rw [List.getElem?_eq_getElem hl]
    exact List.getElem_mem hl
  refine ⟨fun i => if hi : i < 12 then Classical.choose (one i hi) else default, ?_⟩
  have sp : ∀ i (hi : i < 12), ErrIs W (errGlob.getD i 0) (errText i) (if hi : i < 12 then Classical.choose (one i hi) else default) := fun i hi => by
    rw [dif_pos hi]; exact Classical.choose_spec (one i hi)
  exact ⟨(sp 0 (by decide)).cell, (sp 1 (by decide)).cell, (sp 2 (by decide)).cell, (sp 3 (by decide)).cell, (sp 4 (by decide)).cell, (sp 5 (by decide)).cell, (sp 6 (by decide)).cell, (sp 7 (by decide)).cell, (sp 8 (by decide)).cell, (sp 9 (by decide)).cell, (sp 10 (by decide)).cell, (sp 11 (by decide)).cell,
    handle_of_laid h (hsub _ (List.mem_cons_self)), fun k hk => (sp k hk).block, fun i j hi hj hij => (sp i hi).ne' (sp j hj) (errText_ne i hi j hj hij)⟩
theorem env_of_laid {W : World} (h : laidMetH Tryz.prog fullLaid W) : ∃ E, ErrEnv W E := env_of_drop 0 rfl h
end Go.Proofs.YtabboioamdphmaaGreatDoor
/- What a client's ask leaves where it has heard. -/
namespace Go.Proofs.YtabboioamdphmaaGreatDoor
section
open Go.RowKit Go.Maps Go.BigFrame

def startW (w : World) (tb : Nat) (kind : ByteArray) : World := ((w.setCell ⟨tb, 7, none⟩ (.string kind)).alloc (.map #[] 0)).setCell ⟨tb, 8, none⟩ (.map (some w.heap.size))
theorem startW_size (w : World) (tb : Nat) (kind : ByteArray) : (startW w tb kind).heap.size = w.heap.size + 1 := by
  unfold startW
  rw [setCell_size]
  simp
theorem startW_kept (w : World) (tb : Nat) (kind : ByteArray) : KeptBut (fun b => b = tb) w (startW w tb kind) :=
  (((KeptBut.refl (fun b => b = tb) w).set1 (p := ⟨tb, 7, none⟩) rfl _).alloc1 _).set1 (p := ⟨tb, 8, none⟩) rfl _
theorem startW_cell {w : World} {tb : Nat} {kind : ByteArray} {j : Nat} {x : Value} (h7 : j ≠ 7) (h8 : j ≠ 8) (h : w.cell? ⟨tb, j, none⟩ = some x) : (startW w tb kind).cell? ⟨tb, j, none⟩ = some x := by
  unfold startW
  have e : (w.setCell ⟨tb, 7, none⟩ (.string kind)).cell? ⟨tb, j, none⟩ = some x := by
    rw [World.cell?_setCell_other _ _ _ _ (by intro e; have := congrArg Addr.off e; simp at this; omega)]; exact h
  rw [World.cell?_setCell_other _ _ _ _ (by intro e; have := congrArg Addr.off e; simp at this; omega)]
  exact (((Below.refl _ _).alloc (Nat.le_refl _) _).cell (lt_of_cell e)).trans e
theorem TalkAt.start {F : Nat → Prop} {w : World} {tb bm : Nat} {ma : Option Addr} {mc : Nat} {t : TalkS} (h : TalkAt F w tb bm ma mc t) (kind : ByteArray) :
    TalkAt (fun b => F b ∨ b = w.heap.size) (startW w tb kind) tb w.heap.size ma mc { t with wait := kind, got := [] } := by
  have hk := startW_kept w tb kind
  have hlt := h.lt tb h.hF
  have e7 : (w.setCell ⟨tb, 7, none⟩ (.string kind)).cell? ⟨tb, 7, none⟩ = some (.string kind) := World.cell?_setCell_same _ _ _ h.c7
  have e8 : (w.setCell ⟨tb, 7, none⟩ (.string kind)).cell? ⟨tb, 8, none⟩ = some (.map (some bm)) := by
    rw [World.cell?_setCell_other _ _ _ _ (by simp)]; exact h.c8
  have hb : Below (w.setCell ⟨tb, 7, none⟩ (.string kind)).heap.size (w.setCell ⟨tb, 7, none⟩ (.string kind)) ((w.setCell ⟨tb, 7, none⟩ (.string kind)).alloc (.map #[] 0)) := (Below.refl _ _).alloc (Nat.le_refl _) _
  have a7 := (hb.cell (lt_of_cell e7)).trans e7
  have a8 := (hb.cell (lt_of_cell e8)).trans e8
  refine ⟨.inl h.hF, .inr rfl, fun e => by omega, fun b hb => ?_, startW_cell (by decide) (by decide) h.c0, startW_cell (by decide) (by decide) h.c1, startW_cell (by decide) (by decide) h.c2, startW_cell (by decide) (by decide) h.c3, startW_cell (by decide) (by decide) h.c4, startW_cell (by decide) (by decide) h.c5, startW_cell (by decide) (by decide) h.c6, ?_, ?_, fun i => ?_, h.mcap, h.mmax, h.mnil, ?_, ?_⟩
  · rw [startW_size]
    rcases hb with hb | hb
    · have := h.lt b hb; omega
    · omega
  · unfold startW
    rw [World.cell?_setCell_other _ _ _ _ (by simp)]; exact a7
  · unfold startW
    exact World.cell?_setCell_same _ _ _ a8
  · unfold startW
    rw [World.frozen?_setCell]
    by_cases e : (w.setCell ⟨tb, 7, none⟩ (.string kind)).heap.size = tb
    · rw [setCell_size] at e; omega
    · rw [World.frozen?_alloc_old _ _ _ (fun e2 => e e2.symm), World.frozen?_setCell]; exact h.z i
  · refine (h.mem.kept hk (fun b _ hb => hb.2.1)).mono (fun b hl hb => ⟨.inl hb.1, hb.2.1, fun e => ?_⟩)
    have := h.lt b hb.1
    omega
  · have hg := GotAt.made (fun b => (F b ∨ b = w.heap.size) ∧ b ≠ tb ∧ b ≠ w.heap.size) (w.setCell ⟨tb, 7, none⟩ (.string kind))
    rw [setCell_size] at hg
    exact hg.kept ((KeptBut.refl (fun b => b = tb) _).set1 (p := ⟨tb, 8, none⟩) rfl (.map (some w.heap.size))) (fun b _ hb => hb.2.1) (fun e => by omega)
theorem TalkX.start {F : Nat → Prop} {w : World} {ab bm : Nat} {ma : Option Addr} {mc : Nat} {t : TalkS} {vs : List Value} (h : TalkX F w ab bm ma mc t vs) (kind : ByteArray) :
    TalkX (fun b => F b ∨ b = w.heap.size) (startW w ab kind) ab w.heap.size ma mc { t with wait := kind, got := [] } vs :=
  ⟨h.talk.start kind, fun j hj => startW_cell (by omega) (by omega) (h.cell j hj)⟩
def AskPost (F : Nat → Prop) (w w' : World) (ab : Nat) (ma : Option Addr) (mc : Nat) (a : AskS) (m : Msg) (e : Ending) : Prop :=
  ∃ (F' : Nat → Prop) (bm' : Nat), (∀ b, F' b → F b ∨ w.heap.size ≤ b) ∧ KeptBut F w w' ∧ TalkX F' w' ab bm' ma mc (askHear a m).1.t (askV (askHear a m).1) ∧ RetMsgs (fun b => w.heap.size ≤ b ∧ ¬ F' b) w' e (askHear a m).2
theorem AskPost.mk {F F' : Nat → Prop} {w w' : World} {ab bm' : Nat} {ma : Option Addr} {mc : Nat} {a a' : AskS} {m : Msg} {l : List Msg} {e : Ending} (he : askHear a m = (a', l)) (hF : ∀ b, F' b → F b ∨ w.heap.size ≤ b) (hk : KeptBut F w w') (hX : TalkX F' w' ab bm' ma mc a'.t (askV a'))
    (hr : RetMsgs (fun b => w.heap.size ≤ b ∧ ¬ F' b) w' e l) : AskPost F w w' ab ma mc a m e := ⟨F', bm', hF, hk, by rw [he]; exact hX, by rw [he]; exact hr⟩
theorem hear_no {a : AskS} {m : Msg} (h : 2 ≤ a.st ∨ fitsB a.t m = false) : askHear a m = (a, []) := by unfold askHear; rw [if_pos h]
theorem hear_sealed {a : AskS} {m : Msg} (h1 : a.st < 2) (h2 : fitsB a.t m = true) (h3 : m.sl = true) (h4 : ¬ (a.st = 0 ∧ a.moves = true)) : askHear a m = ({ a with st := 3 }, []) := by
  unfold askHear
  rw [if_neg (by rw [h2]; simp; omega), if_pos ⟨h3, h4⟩]
theorem hear_few {a : AskS} {m : Msg} (h1 : a.st < 2) (h2 : fitsB a.t m = true) (h3 : m.sl = false ∨ (a.st = 0 ∧ a.moves = true)) (h4 : enoughB (takeT a.t m) = false) : askHear a m = ({ a with t := takeT a.t m }, []) := by
  unfold askHear
  rw [if_neg (by rw [h2]; simp; omega), if_neg (by rcases h3 with h3 | h3 <;> simp [h3]), if_pos h4]
theorem hear_done {a : AskS} {m : Msg} (h1 : a.st = 1) (h2 : fitsB a.t m = true) (h3 : m.sl = false) (h4 : enoughB (takeT a.t m) = true) : askHear a m = ({ a with st := 2, t := takeT a.t m }, []) := by
  unfold askHear
  rw [if_neg (by rw [h2]; simp; omega), if_neg (by simp [h3]), if_neg (by rw [h4]; decide), if_pos h1]
theorem hear_none' {a : AskS} {m : Msg} (h1 : a.st = 0) (h2 : fitsB a.t m = true) (h3 : m.sl = false ∨ (a.st = 0 ∧ a.moves = true)) (h4 : enoughB (takeT a.t m) = true) (h5 : (chooseT { a with t := takeT a.t m }).found = false) : askHear a m = ({ chooseT { a with t := takeT a.t m } with st := 2 }, []) := by
  unfold askHear
  rw [if_neg (by rw [h2]; simp; omega), if_neg (by rcases h3 with h3 | h3 <;> simp [h3]), if_neg (by rw [h4]; decide), if_neg (by omega), if_pos h5]
theorem hear_keep {a : AskS} {m : Msg} (h1 : a.st = 0) (h2 : fitsB a.t m = true) (h3 : m.sl = false ∨ (a.st = 0 ∧ a.moves = true)) (h4 : enoughB (takeT a.t m) = true) (h5 : (chooseT { a with t := takeT a.t m }).found = true) :
    askHear a m = (keepS (chooseT { a with t := takeT a.t m }), keepT (keepS (chooseT { a with t := takeT a.t m })).t (keepS (chooseT { a with t := takeT a.t m })).tag (keepS (chooseT { a with t := takeT a.t m })).text) := by
  unfold askHear
  rw [if_neg (by rw [h2]; simp; omega), if_neg (by rcases h3 with h3 | h3 <;> simp [h3]), if_neg (by rw [h4]; decide), if_neg (by omega), if_neg (by rw [h5]; decide)]
theorem choose_t (a : AskS) : (chooseT a).t = a.t ∧ (chooseT a).who = a.who ∧ (chooseT a).put = a.put ∧ (chooseT a).moves = a.moves ∧ (chooseT a).st = a.st := by
  unfold chooseT
  split <;> exact ⟨rfl, rfl, rfl, rfl, rfl⟩
theorem best_size {n k : Nat} {xs : List Ver} : (bestAns k (bestG k (groupsL n k xs))).2.1.size ≤ 1000 := by
  cases h : bestG k (groupsL n k xs) with
  | none => exact Nat.zero_le _
  | some g =>
    have h1 := (best_good h).1
    show (textOf _ g.2.1.toNat).size ≤ 1000
    rw [textOf_size]
    omega
theorem choose_size {a : AskS} (h : a.text.size ≤ 1000) : (chooseT a).text.size ≤ 1000 := by
  unfold chooseT
  split
  · exact h
  · exact best_size
end
end Go.Proofs.YtabboioamdphmaaGreatDoor
