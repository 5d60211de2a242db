/- Walks: ask.begin, Get, Put. -/
import Derived.Test.YtabboioamdphmaaGreatDoorSCarryHears29
import Derived.Test.YtabboioamdphmaaGreatDoorSCarryHears32
import Derived.Test.YtabboioamdphmaaGreatDoorSCarryHears15
import Derived.Test.YtabboioamdphmaaGreatDoorSCarryHears30
import Derived.Test.YtabboioamdphmaaGreatDoorSCarryHears28
namespace Go.Proofs.YtabboioamdphmaaGreatDoor
section
open Go.RowKit Go.Maps Go.BigFrame

def newA (who op n k : Int) (L : List ByteArray) (cf : Int) (key text : ByteArray) (put : Bool) : AskS :=
  ⟨⟨⟨#[99]⟩ ++ digT who.toNat, key, op, cf, n.toNat, k.toNat, L, kTold, []⟩, who, put, false, 0, 0, [], 0, (0, 0), text, false⟩
def talkV (t : TalkS) (ma : Option Addr) (mc : Nat) (x7 x8 : Value) : List Value := [.string t.name, .string t.key, .int .i64 t.op, .int .i64 t.cf, .int .i64 (t.n : Nat), .int .i64 (t.k : Nat), .slice ma t.mem.length mc, x7, x8]
theorem CellsAt.new (w : World) (vs : List Value) (t : TypeId) : CellsAt (w.alloc (.cells vs.toArray t)) w.heap.size vs :=
  ⟨by simp, fun j hj => by rw [World.cell?_alloc_at _ _ _ _ rfl]; simp [List.getElem?_eq_getElem hj], fun j => by simp⟩
theorem CellsAt.drew {w : World} {mo : Nat} {vs : List Value} (h : CellsAt w mo vs) : CellsAt w.drew mo vs := ⟨h.lt, h.cell, h.z⟩
theorem TalkX.born {W : World} {tb B : Nat} {ma : Option Addr} {mc : Nat} {t : TalkS} {vs : List Value} {x7 x8 : Value} (h : CellsAt W tb (talkV t ma mc x7 x8 ++ vs)) (hB : B ≤ tb) (hm : t.mem.length ≤ mc ∧ mc ≤ maxLen ∧ (ma = none → mc = 0)) (hT : TxsS (fun b => B ≤ b ∧ b ≠ tb) W ma t.mem) (hg : t.got = []) :
    TalkX (fun b => B ≤ b ∧ b < (startW W tb t.wait).heap.size) (startW W tb t.wait) tb W.heap.size ma mc t vs := by
  have hl := h.lt
  have hk := startW_kept W tb t.wait
  have c : ∀ j, j < 9 → W.cell? ⟨tb, j, none⟩ = some ((talkV t ma mc x7 x8)[j]?.getD undef) := fun j hj => by
    have h9 := h.cell j (by rw [List.length_append]; show j < 9 + vs.length; omega)
    rw [List.getElem?_append_left (by show j < 9; exact hj)] at h9
    exact h9
  have e7 : (W.setCell ⟨tb, 7, none⟩ (.string t.wait)).cell? ⟨tb, 7, none⟩ = some (.string t.wait) := World.cell?_setCell_same _ _ _ (c 7 (by decide))
  have e8 : (W.setCell ⟨tb, 7, none⟩ (.string t.wait)).cell? ⟨tb, 8, none⟩ = some x8 := by
    rw [World.cell?_setCell_other _ _ _ _ (by simp)]; exact c 8 (by decide)
  have hb : Below (W.setCell ⟨tb, 7, none⟩ (.string t.wait)).heap.size (W.setCell ⟨tb, 7, none⟩ (.string t.wait)) ((W.setCell ⟨tb, 7, none⟩ (.string t.wait)).alloc (.map #[] 0)) := (Below.refl _ _).alloc (Nat.le_refl _) _
  have a7 := (hb.cell (lt_of_cell e7)).trans e7
  have a8 := (hb.cell (lt_of_cell e8)).trans e8
  have hz := startW_size W tb t.wait
  refine ⟨⟨⟨hB, by omega⟩, ⟨by omega, by omega⟩, fun e => by omega, fun b hb => hb.2, startW_cell (by decide) (by decide) (c 0 (by decide)), startW_cell (by decide) (by decide) (c 1 (by decide)), startW_cell (by decide) (by decide) (c 2 (by decide)), startW_cell (by decide) (by decide) (c 3 (by decide)), startW_cell (by decide) (by decide) (c 4 (by decide)), startW_cell (by decide) (by decide) (c 5 (by decide)), startW_cell (by decide) (by decide) (c 6 (by decide)), ?_, ?_, fun i => ?_, hm.1, hm.2.1, hm.2.2, ?_, ?_⟩, fun j hj => ?_⟩
  · unfold startW
    rw [World.cell?_setCell_other _ _ _ _ (by simp)]; exact a7
  · unfold startW
    exact World.cell?_setCell_same _ _ _ a8
  · unfold startW
    rw [World.frozen?_setCell]
    by_cases e : (W.setCell ⟨tb, 7, none⟩ (.string t.wait)).heap.size = tb
    · rw [setCell_size] at e; omega
    · rw [World.frozen?_alloc_old _ _ _ (fun e2 => e e2.symm), World.frozen?_setCell]; exact h.z i
  · rcases hT with e | ⟨b9, off, e, hb9, hl8, hc⟩
    · exact .inl e
    · exact .inr ⟨b9, off, e, ⟨⟨hb9.1, by omega⟩, hb9.2, by omega⟩, by omega, fun j hj => (World.cell?_of_block (a := ⟨b9, off + j, none⟩) (hk.block b9 hl8 hb9.2)).trans (hc j hj)⟩
  · rw [hg]
    have hg := GotAt.made (fun b => (B ≤ b ∧ b < (startW W tb t.wait).heap.size) ∧ b ≠ tb ∧ b ≠ W.heap.size) (W.setCell ⟨tb, 7, none⟩ (.string t.wait))
    rw [setCell_size] at hg
    exact hg.kept ((KeptBut.refl (fun b => b = tb) _).set1 (p := ⟨tb, 8, none⟩) rfl (.map (some W.heap.size))) (fun b _ hb => hb.2.1) (fun e => by omega)
  · have h9 := h.cell (9 + j) (by rw [List.length_append]; show 9 + j < 9 + vs.length; omega)
    rw [List.getElem?_append_right (by show 9 ≤ 9 + j; omega)] at h9
    have e9 : 9 + j - (talkV t ma mc x7 x8).length = j := by show 9 + j - 9 = j; omega
    rw [e9] at h9
    exact startW_cell (by omega) (by omega) h9
def BeginOut (w w' : World) (E : Nat → Addr) (F : Nat × Int) (a0 : AskS) (e : Ending) : Prop :=
  Below w.heap.size w w' ∧ ((F.1 ≠ 0 ∧ ∃ v, ((∃ x, v = errV x) ∨ ∃ m, v = faultV m) ∧ FltV w' E F v ∧ e = .returned (.tuple #[.pointer none, v])) ∨
    (F.1 = 0 ∧ ∃ ab bm ma mc, TalkX (fun b => w.heap.size ≤ b ∧ b < w'.heap.size) w' ab bm ma mc a0.t (askV a0) ∧ e = .returned (.tuple #[.pointer (some ⟨ab, 0, none⟩), .nilIface])))
theorem OwnT.readS {B : Nat} {w : World} {v : Value} {L : List ByteArray} (h : OwnT B w v L) : ∃ a cap, v = .slice a L.length cap ∧ L.length ≤ cap ∧ cap ≤ maxLen ∧ (a = none → cap = 0) ∧ TxsS (fun b => B ≤ b) w a L := by
  obtain ⟨a, cap, rfl, h1, h2, h3, h4⟩ := h.read
  refine ⟨a, cap, rfl, h1, h2, h3, ?_⟩
  rcases h4 with e | ⟨b, off, rfl, hb, hc⟩
  · exact .inl e
  · rcases h.2 with ⟨e, _⟩ | ⟨g, cap2, cur, e, hb2, hg, _⟩
    · cases (Value.slice.inj e).1
    · cases (Value.slice.inj e).1
      exact .inr ⟨_, _, rfl, hb2, (Array.getElem?_eq_some_iff.1 hg).1, hc⟩
theorem BeginOut.up {w W w' : World} {E : Nat → Addr} {F : Nat × Int} {a0 : AskS} {e : Ending} (hb : Below w.heap.size w W) (h : BeginOut W w' E F a0 e) : BeginOut w w' E F a0 e := by
  obtain ⟨h1, h2⟩ := h
  refine ⟨hb.trans (h1.mono hb.size), ?_⟩
  rcases h2 with h2 | ⟨h0, ab, bm, ma, mc, hX, he⟩
  · exact .inl h2
  · exact .inr ⟨h0, ab, bm, ma, mc, hX.mono (fun b hb9 => ⟨Nat.le_trans hb.size hb9.1, hb9.2⟩) (fun b hb9 => hb9.2), he⟩
end
end Go.Proofs.YtabboioamdphmaaGreatDoor
/- A carry in memory; it stays sound. -/
namespace Go.Proofs.YtabboioamdphmaaGreatDoor
section
open Go.RowKit Go.Maps Go.BigFrame

def carV (na : Option Addr) (nc : Nat) (a : AskS) : List Value := [.int .i64 (a.n2 : Nat), .int .i64 (a.k2 : Nat), .slice na a.mem2.length nc, .int .i64 a.tag.1, .int .i64 a.tag.2, .string a.text, .bool a.found, .string (stT a)]
def M2 (F : Nat → Prop) (w : World) (ab bm : Nat) (na : Option Addr) (nc : Nat) (L : List ByteArray) : Prop := TxsS (fun b => F b ∧ b ≠ ab ∧ b ≠ bm) w na L ∧ L.length ≤ nc ∧ nc ≤ maxLen ∧ (na = none → nc = 0)
theorem M2.kept {F F' : Nat → Prop} {w w' : World} {ab bm bm' : Nat} {na : Option Addr} {nc : Nat} {L : List ByteArray} (h : M2 F w ab bm na nc L) (hsub : ∀ b, F b → F' b) (hbm : bm' = bm ∨ w.heap.size ≤ bm') (hk : KeptBut (fun b => b = ab ∨ b = bm) w w') : M2 F' w' ab bm' na nc L := by
  obtain ⟨h1, h2⟩ := h
  refine ⟨?_, h2⟩
  rcases h1 with e | ⟨b, off, e, ⟨hf, ha, hb⟩, hl, hc⟩
  · exact .inl e
  · refine .inr ⟨b, off, e, ⟨hsub b hf, ha, fun e9 => ?_⟩, Nat.lt_of_lt_of_le hl hk.size, fun j hj => hk.cell (hc j hj) (fun h9 => ?_)⟩
    · rcases hbm with h9 | h9
      · exact hb (by rw [e9, h9])
      · omega
    · rcases h9 with h9 | h9
      · exact ha h9
      · exact hb h9
theorem M2.below {F : Nat → Prop} {w w' : World} {ab bm : Nat} {na : Option Addr} {nc : Nat} {L : List ByteArray} (h : M2 F w ab bm na nc L) (hb : Below w.heap.size w w') : M2 F w' ab bm na nc L :=
  h.kept (fun _ h => h) (.inl rfl) (KeptBut.of_below hb (fun k h1 h2 => by omega))
structure CarX (F : Nat → Prop) (w : World) (ab bm : Nat) (ma : Option Addr) (mc : Nat) (na : Option Addr) (nc : Nat) (a : AskS) : Prop where
  x : TalkX F w ab bm ma mc a.t (carV na nc a)
  m2 : M2 F w ab bm na nc a.mem2
theorem CarX.below {F : Nat → Prop} {w w' : World} {ab bm : Nat} {ma : Option Addr} {mc : Nat} {na : Option Addr} {nc : Nat} {a : AskS} (h : CarX F w ab bm ma mc na nc a) (hb : Below w.heap.size w w') : CarX F w' ab bm ma mc na nc a := ⟨h.x.below hb (Nat.le_refl _), h.m2.below hb⟩
theorem CarX.kept {F G : Nat → Prop} {w w' : World} {ab bm : Nat} {ma : Option Addr} {mc : Nat} {na : Option Addr} {nc : Nat} {a : AskS} (h : CarX F w ab bm ma mc na nc a) (hk : KeptBut G w w') (hG : ∀ b, F b → ¬ G b) : CarX F w' ab bm ma mc na nc a :=
  ⟨h.x.kept hk hG, h.m2.1.kept hk (fun b _ hb => hG b hb.1), h.m2.2⟩
def CarPost (F : Nat → Prop) (w w' : World) (ab : Nat) (na : Option Addr) (nc : Nat) (a : AskS) (m : Msg) (e : Ending) : Prop :=
  ∃ (F' : Nat → Prop) (bm' : Nat) (ma' : Option Addr) (mc' : Nat), (∀ b, F' b → F b ∨ w.heap.size ≤ b) ∧ KeptBut F w w' ∧ CarX F' w' ab bm' ma' mc' na nc (askHear a m).1 ∧ RetMsgs (fun b => w.heap.size ≤ b ∧ ¬ F' b) w' e (askHear a m).2
theorem CarPost.mk {F F' : Nat → Prop} {w w' : World} {ab bm bm' : Nat} {ma ma' : Option Addr} {mc mc' : Nat} {na : Option Addr} {nc : Nat} {a a' : AskS} {m : Msg} {l : List Msg} {e : Ending} (h : CarX F w ab bm ma mc na nc a) (he : askHear a m = (a', l)) (hm2 : a'.mem2 = a.mem2) (hsub : ∀ b, F b → F' b) (hF : ∀ b, F' b → F b ∨ w.heap.size ≤ b) (hbm : bm' = bm ∨ w.heap.size ≤ bm') (hk : KeptBut (fun b => b = ab ∨ b = bm) w w')
    (hX : TalkX F' w' ab bm' ma' mc' a'.t (carV na nc a')) (hr : RetMsgs (fun b => w.heap.size ≤ b ∧ ¬ F' b) w' e l) : CarPost F w w' ab na nc a m e := by
  refine ⟨F', bm', ma', mc', hF, hk.mono (fun b _ hb => ?_), ⟨by rw [he]; exact hX, ?_⟩, by rw [he]; exact hr⟩
  · rcases hb with e9 | e9
    · rw [e9]; exact h.x.talk.hF
    · rw [e9]; exact h.x.talk.bF
  · rw [he]
    show M2 F' w' ab bm' na nc a'.mem2
    rw [hm2]
    exact h.m2.kept hsub hbm hk
theorem TalkX.cells {F : Nat → Prop} {w : World} {ab bm : Nat} {ma : Option Addr} {mc : Nat} {t : TalkS} {vs : List Value} (h : TalkX F w ab bm ma mc t vs) : CellsAt w ab (talkV t ma mc (.string t.wait) (.map (some bm)) ++ vs) := by
  refine ⟨h.talk.lt ab h.talk.hF, fun j hj => ?_, h.talk.z⟩
  by_cases h9 : j < 9
  · rw [List.getElem?_append_left (by show j < 9; exact h9)]
    rcases (show j = 0 ∨ j = 1 ∨ j = 2 ∨ j = 3 ∨ j = 4 ∨ j = 5 ∨ j = 6 ∨ j = 7 ∨ j = 8 by omega) with rfl | rfl | rfl | rfl | rfl | rfl | rfl | rfl | rfl
    · exact h.talk.c0
    · exact h.talk.c1
    · exact h.talk.c2
    · exact h.talk.c3
    · exact h.talk.c4
    · exact h.talk.c5
    · exact h.talk.c6
    · exact h.talk.c7
    · exact h.talk.c8
  · have h8 : j - 9 < vs.length := by rw [List.length_append] at hj; have e : (talkV t ma mc (.string t.wait) (.map (some bm))).length = 9 := rfl; omega
    rw [List.getElem?_append_right (by show 9 ≤ j; omega)]
    have e9 : j - (talkV t ma mc (.string t.wait) (.map (some bm))).length = j - 9 := rfl
    rw [e9]
    have h7 := h.cell (j - 9) h8
    rw [show 9 + (j - 9) = j by omega] at h7
    exact h7
theorem TalkX.turnC {F : Nat → Prop} {w w' : World} {ab bm : Nat} {ma ma' : Option Addr} {mc mc' : Nat} {t t' : TalkS} {vs vs' : List Value} (h : TalkX F w ab bm ma mc t vs) (hk : KeptBut (fun b => b = ab) w w') (hc : CellsAt w' ab (talkV t' ma' mc' (.string t'.wait) (.map (some bm)) ++ vs')) (hg : t'.got = t.got) (hm : t'.mem.length ≤ mc' ∧ mc' ≤ maxLen ∧ (ma' = none → mc' = 0)) (hM : TxsS (fun b => F b ∧ b ≠ ab ∧ b ≠ bm) w' ma' t'.mem) : TalkX F w' ab bm ma' mc' t' vs' := by
  have c : ∀ j, j < 9 → w'.cell? ⟨ab, j, none⟩ = some ((talkV t' ma' mc' (.string t'.wait) (.map (some bm)))[j]?.getD undef) := fun j hj => by
    have h9 := hc.cell j (by rw [List.length_append]; show j < 9 + vs'.length; omega)
    rw [List.getElem?_append_left (by show j < 9; exact hj)] at h9
    exact h9
  refine ⟨⟨h.talk.hF, h.talk.bF, h.talk.ne, fun b hb => Nat.lt_of_lt_of_le (h.talk.lt b hb) hk.size, c 0 (by decide), c 1 (by decide), c 2 (by decide), c 3 (by decide), c 4 (by decide), c 5 (by decide), c 6 (by decide), c 7 (by decide), c 8 (by decide), hc.z, hm.1, hm.2.1, hm.2.2, hM, ?_⟩, fun j hj => ?_⟩
  · rw [hg]; exact h.talk.got.kept hk (fun b _ hb => hb.2.1) h.talk.ne
  · have h9 := hc.cell (9 + j) (by rw [List.length_append]; show 9 + j < 9 + vs'.length; omega)
    rw [List.getElem?_append_right (by show 9 ≤ 9 + j; omega)] at h9
    have e9 : 9 + j - (talkV t' ma' mc' (.string t'.wait) (.map (some bm))).length = j := by show 9 + j - 9 = j; omega
    rw [e9] at h9
    exact h9
structure CarOk (a : AskS) : Prop where
  ok : TalkOk a.t
  mv : a.moves = true
  pt : a.put = false
  st : a.st ≤ 3
  wt : a.st < 2 → a.t.wait = waitT a
  tx : a.text.size ≤ 1000
  fd : a.st = 1 → a.found = true
  fz : a.st = 2 → a.found = false → a.tag = (0, 0) ∧ a.text = ⟨#[]⟩
  nx : a.st = 0 → (0 ≤ a.t.cf ∧ a.t.cf < 9223372036854775807) ∧ configF (a.n2 : Int) (a.k2 : Int) a.mem2 = (0, -1)
theorem CarOk.hear {a : AskS} (h : CarOk a) (m : Msg) : CarOk (askHear a m).1 ∧ (askHear a m).2.length ≤ 12 ∧ totV ((askHear a m).1.t.got.map (·.2)) ≤ totV (a.t.got.map (·.2)) + m.L.length := by
  by_cases h1 : 2 ≤ a.st ∨ fitsB a.t m = false
  · rw [hear_no h1]
    exact ⟨h, Nat.zero_le _, Nat.le_add_right _ _⟩
  have h2 : a.st < 2 := by
    rcases Nat.lt_or_ge a.st 2 with h9 | h9
    · exact h9
    · exact absurd (.inl h9) h1
  have h3 : fitsB a.t m = true := by
    cases hf : fitsB a.t m with
    | true => rfl
    | false => exact absurd (.inr hf) h1
  have hmv := h.mv
  have hok := take_ok h.ok h3
  have htot := take_tot a.t m
  have h6 : a.st = 1 ∨ a.st = 0 := by omega
  have hsx : (m.sl = true ∧ a.st = 1) ∨ (m.sl = false ∨ (a.st = 0 ∧ a.moves = true)) := by
    cases hs : m.sl with
    | false => exact .inr (.inl rfl)
    | true =>
      rcases h6 with h6 | h6
      · exact .inl ⟨rfl, h6⟩
      · exact .inr (.inr ⟨h6, hmv⟩)
  rcases hsx with ⟨h4, h7⟩ | h4
  · rw [hear_sealed h2 h3 h4 (by omega)]
    exact ⟨⟨h.ok, h.mv, h.pt, Nat.le_refl 3, fun h9 => absurd h9 (by show ¬ 3 < 2; decide), h.tx, fun h9 => (by cases h9), fun h9 => (by cases h9), fun h9 => (by cases h9)⟩, Nat.zero_le _, Nat.le_add_right _ _⟩
  · cases h5 : enoughB (takeT a.t m) with
    | false =>
      rw [hear_few h2 h3 h4 h5]
      exact ⟨⟨hok, h.mv, h.pt, h.st, fun h9 => h.wt h9, h.tx, h.fd, h.fz, h.nx⟩, Nat.zero_le _, by (try dsimp only); omega⟩
    | true =>
      rcases h6 with h6 | h6
      · have hsl : m.sl = false := by
          rcases h4 with h4 | h4
          · exact h4
          · omega
        rw [hear_done h6 h3 hsl h5]
        exact ⟨⟨hok, h.mv, h.pt, (by show 2 ≤ 3; decide), fun h9 => absurd h9 (by show ¬ 2 < 2; decide), h.tx, fun h9 => (by cases h9), fun _ h9 => absurd (h.fd h6) (by show ¬ a.found = true; rw [show a.found = false from h9]; decide), fun h9 => (by cases h9)⟩, Nat.zero_le _, by (try dsimp only); omega⟩
      · obtain ⟨c1, c2, c3, c4, c5⟩ := choose_t { a with t := takeT a.t m }
        have hcs := choose_size (a := { a with t := takeT a.t m }) h.tx
        have hm2 : (chooseT { a with t := takeT a.t m }).mem2 = a.mem2 ∧ (chooseT { a with t := takeT a.t m }).n2 = a.n2 ∧ (chooseT { a with t := takeT a.t m }).k2 = a.k2 := by
          unfold chooseT
          split <;> exact ⟨rfl, rfl, rfl⟩
        cases h7 : (chooseT { a with t := takeT a.t m }).found with
        | false =>
          rw [hear_none' h6 h3 h4 h5 h7]
          refine ⟨⟨?_, ?_, ?_, (by show 2 ≤ 3; decide), fun h9 => absurd h9 (by show ¬ 2 < 2; decide), hcs, fun h9 => (by cases h9), fun _ _ => choose_none h7, fun h9 => (by cases h9)⟩, Nat.zero_le _, ?_⟩
          · show TalkOk (chooseT { a with t := takeT a.t m }).t
            rw [c1]; exact hok
          · show (chooseT { a with t := takeT a.t m }).moves = true
            rw [c4]; exact h.mv
          · show (chooseT { a with t := takeT a.t m }).put = false
            rw [c3]; exact h.pt
          · show totV ((chooseT { a with t := takeT a.t m }).t.got.map (·.2)) ≤ _
            rw [c1]; (try dsimp only); omega
        | true =>
          rw [hear_keep h6 h3 h4 h5 h7]
          have hmv2 : (chooseT { a with t := takeT a.t m }).moves = true := by rw [c4]; exact h.mv
          have hpt2 : (chooseT { a with t := takeT a.t m }).put = false := by rw [c3]; exact h.pt
          obtain ⟨x, hx⟩ : ∃ x, chooseT { a with t := takeT a.t m } = x := ⟨_, rfl⟩
          rw [hx] at hm2 hcs c1 h7 hmv2 hpt2 ⊢
          have ek : keepS x = { x with st := 1, t := { x.t with n := x.n2, k := x.k2, mem := x.mem2, cf := x.t.cf + 1, wait := kKept, got := [] } } := by unfold keepS; rw [if_pos hmv2]
          have hk : TalkOk (keepS x).t := by
            rw [ek]
            have h9 := (h.nx h6).2
            rw [← hm2.1, ← hm2.2.1, ← hm2.2.2] at h9
            exact ⟨h9, List.nodup_nil, fun p hp => by cases hp⟩
          refine ⟨⟨hk, ?_, ?_, ?_, ?_, ?_, ?_, ?_, ?_⟩, send12 hk _ _, ?_⟩
          · rw [ek]; exact hmv2
          · rw [ek]; exact hpt2
          · rw [ek]; show 1 ≤ 3; decide
          · rw [ek]; intro _; rfl
          · rw [ek]; exact hcs
          · rw [ek]; intro _; exact h7
          · rw [ek]; intro h9; cases h9
          · rw [ek]; intro h9; cases h9
          · rw [ek]; show totV [] ≤ _; exact Nat.zero_le _
end
end Go.Proofs.YtabboioamdphmaaGreatDoor
/- Walks of a client's Begin, State, Answer. -/
namespace Go.Proofs.YtabboioamdphmaaGreatDoor
section
open Go.RowKit Go.Maps Go.BigFrame

def ansE (a : AskS) : Ending := if a.st = 2 then .returned (.tuple #[.agg #[.int .i64 a.tag.1, .int .i64 a.tag.2], .string a.text, .bool a.found]) else .returned (.tuple #[.agg #[.int .i64 0, .int .i64 0], .string ⟨#[]⟩, .bool false])
end
end Go.Proofs.YtabboioamdphmaaGreatDoor
/- Walks of a carry's Begin, State, Answer. -/
namespace Go.Proofs.YtabboioamdphmaaGreatDoor
section
open Go.RowKit Go.Maps Go.BigFrame

set_option maxHeartbeats 1000000 in
theorem cbegin_walk (F : Nat → Prop) (w : World) (ab bm : Nat) (ma : Option Addr) (mc : Nat) (na : Option Addr) (nc : Nat) (a : AskS) (h : CarX F w ab bm ma mc na nc a) (hok : CarOk a) (hst : a.st = 0) :
    Calls Tryz.prog 16 #[.pointer (some ⟨ab, 0, none⟩)] w fun e w' => Below w.heap.size w w' ∧ RetMsgs (fun b => w.heap.size ≤ b) w' e (sendT a.t kSeal' (fun _ => [])) := by
  have Hs := Lib.hid (send_nil F w ab bm ma mc a.t kSeal' h.x.talk hok.ok)
  have hs : stT a = ⟨#[115, 101, 97, 108, 105, 110, 103]⟩ := by unfold stT; rw [if_pos hst, if_pos hok.mv]; rfl
  have c16 : w.cell? ⟨ab, 16, none⟩ = some (.string ⟨#[115, 101, 97, 108, 105, 110, 103]⟩) := (h.x.cell 7 (by show 7 < 8; decide)).trans (by rw [← hs]; rfl)
  unfold kSeal' at Hs ⊢
  clear h hok hst hs
  go_enter Tryz.func16, Tryz.ntmps16
  go_wp2_with fail
  refine Hs.out.mono ?_
  rintro e w2 ⟨hb, b, cap, rfl, h1, h2, h3, h4⟩
  have H := Lib.hid (And.intro hb (And.intro h1 (And.intro h2 (And.intro h3 h4))))
  clear hb h1 h2 h3 h4
  go_wp2
  go_ret
  exact ⟨H.out.1, b, cap, rfl, H.out.2.1, H.out.2.2.1, H.out.2.2.2.1, H.out.2.2.2.2⟩
set_option maxHeartbeats 1000000 in
theorem cstate_walk (w : World) (ab : Nat) (s : ByteArray) (h : w.cell? ⟨ab, 16, none⟩ = some (.string s)) :
    Calls Tryz.prog 21 #[.pointer (some ⟨ab, 0, none⟩)] w fun e w' => e = .returned (.string s) ∧ w = w' := by
  go_enter Tryz.func21, Tryz.ntmps21
  go_wp2
  go_ret
  exact ⟨rfl, rfl⟩
set_option maxRecDepth 100000 in
set_option maxHeartbeats 2000000 in
theorem canswer_walk (F : Nat → Prop) (w : World) (ab bm : Nat) (ma : Option Addr) (mc : Nat) (na : Option Addr) (nc : Nat) (a : AskS) (h : CarX F w ab bm ma mc na nc a) (hmv : a.moves = true) (hst : a.st ≤ 3) :
    Calls Tryz.prog 22 #[.pointer (some ⟨ab, 0, none⟩)] w fun e w' => e = ansE a ∧ Below w.heap.size w w' := by
  obtain ⟨t, who, put, moves, n2, k2, mem2, st, ⟨t1, t2⟩, text, found⟩ := a
  dsimp only at h hmv hst
  subst hmv
  obtain ⟨W1, hW1⟩ : ∃ W1, w.alloc (.cells #[.int .i64 0, .int .i64 0] 44) = W1 := ⟨_, rfl⟩
  obtain ⟨tb, htb⟩ : ∃ tb, w.heap.size = tb := ⟨_, rfl⟩
  have hb1 : Below w.heap.size w W1 := by rw [← hW1]; exact (Below.refl _ _).alloc (Nat.le_refl _) _
  have hT : W1.heap[tb]? = some (.cells #[.int .i64 0, .int .i64 0] 44 (0, 0)) := by rw [← hW1, ← htb]; exact heap_alloc_new _ _
  have h1 := (h.below hb1).x
  have d9 : W1.cell? ⟨ab, 12, none⟩ = some (.int .i64 t1) := h1.cell 3 (by show 3 < 8; decide)
  have d10 : W1.cell? ⟨ab, 13, none⟩ = some (.int .i64 t2) := h1.cell 4 (by show 4 < 8; decide)
  have d11 : W1.cell? ⟨ab, 14, none⟩ = some (.string text) := h1.cell 5 (by show 5 < 8; decide)
  have d12 : W1.cell? ⟨ab, 15, none⟩ = some (.bool found) := h1.cell 6 (by show 6 < 8; decide)
  have d15 : W1.cell? ⟨ab, 16, none⟩ = some (.string (stT ⟨t, who, put, true, n2, k2, mem2, st, (t1, t2), text, found⟩)) := h1.cell 7 (by show 7 < 8; decide)
  have x0 := cell_of_heap hT 0
  have x1 := cell_of_heap hT 1
  have z0 := frozen_of_heap hT 0
  have z1 := frozen_of_heap hT 1
  have c0 : W1.cell? ⟨tb, 0, none⟩ = some (.int .i64 0) := x0.trans rfl
  have c1 : W1.cell? ⟨tb, 1, none⟩ = some (.int .i64 0) := x1.trans rfl
  have hab : ab < tb := by rw [← htb]; exact h.x.talk.lt ab h.x.talk.hF
  have H := Lib.hid (And.intro (show Below tb w W1 by rw [← htb]; exact hb1) (And.intro hT (And.intro hW1 htb)))
  have hcs : st = 0 ∨ st = 1 ∨ st = 2 ∨ st = 3 := by omega
  clear h h1 hst x0 x1 hb1 hT
  unfold ansE
  dsimp only
  rcases hcs with rfl | rfl | rfl | rfl
  · have e15 : W1.cell? ⟨ab, 16, none⟩ = some (.string ⟨#[115, 101, 97, 108, 105, 110, 103]⟩) := d15
    clear d15
    go_enter Tryz.func22, Tryz.ntmps22
    go_wp2
    have T := tag_set H.out.2.1 (.int .i64 0) (.int .i64 0)
    have T1 := T.2.1
    have T2 := T.2.2
    exact bodyPost_ret (v := .tuple #[.agg #[.int .i64 0, .int .i64 0], .string ⟨#[]⟩, .bool false]) (by simp [results, Tryz.results22, go_sem, T1, T2]) rfl ⟨rfl, below_tag H.out.1 (Nat.le_refl _) _ _⟩
  · have e15 : W1.cell? ⟨ab, 16, none⟩ = some (.string ⟨#[107, 101, 101, 112, 105, 110, 103]⟩) := d15
    clear d15
    go_enter Tryz.func22, Tryz.ntmps22
    go_wp2
    have T := tag_set H.out.2.1 (.int .i64 0) (.int .i64 0)
    have T1 := T.2.1
    have T2 := T.2.2
    exact bodyPost_ret (v := .tuple #[.agg #[.int .i64 0, .int .i64 0], .string ⟨#[]⟩, .bool false]) (by simp [results, Tryz.results22, go_sem, T1, T2]) rfl ⟨rfl, below_tag H.out.1 (Nat.le_refl _) _ _⟩
  · have e15 : W1.cell? ⟨ab, 16, none⟩ = some (.string ⟨#[100, 111, 110, 101]⟩) := d15
    clear d15
    have KC : Hid (∀ W, Below tb W1 W → W.cell? ⟨ab, 12, none⟩ = some (.int .i64 t1) ∧ W.cell? ⟨ab, 13, none⟩ = some (.int .i64 t2) ∧ W.cell? ⟨ab, 14, none⟩ = some (.string text) ∧ W.cell? ⟨ab, 15, none⟩ = some (.bool found)) := Lib.hid fun W hb => by
      have c : ∀ {j v}, W1.cell? ⟨ab, j, none⟩ = some v → W.cell? ⟨ab, j, none⟩ = some v := fun {j v} h => (hb.cell (p := ⟨ab, j, none⟩) hab).trans h
      exact ⟨c d9, c d10, c d11, c d12⟩
    go_enter Tryz.func22, Tryz.ntmps22
    go_wp2
    go_region_held3 (fun W => W.cell? ⟨ab, 12, none⟩ = some (.int .i64 t1) ∧ W.cell? ⟨ab, 13, none⟩ = some (.int .i64 t2) ∧ W.cell? ⟨ab, 14, none⟩ = some (.string text) ∧ W.cell? ⟨ab, 15, none⟩ = some (.bool found))
      (first | exact ⟨d9, d10, d11, d12⟩ | (refine KC.out _ ?_; repeat (first | exact Below.refl _ _ | refine Below.setCell ?_ (Nat.le_refl tb) _ | apply Below.drew)))
      (fail)
    go_wp2
    have T := tag_set H.out.2.1 (.int .i64 t1) (.int .i64 t2)
    have T1 := T.2.1
    have T2 := T.2.2
    exact bodyPost_ret (v := .tuple #[.agg #[.int .i64 t1, .int .i64 t2], .string text, .bool found]) (by simp [results, Tryz.results22, go_sem, T1, T2]) rfl ⟨rfl, by first | exact (below_tag H.out.1 (Nat.le_refl _) _ _).drew | exact below_tag H.out.1 (Nat.le_refl _) _ _ | exact below_tag H.out.1.drew (Nat.le_refl _) _ _⟩
  · have e15 : W1.cell? ⟨ab, 16, none⟩ = some (.string ⟨#[114, 101, 102, 117, 115, 101, 100]⟩) := d15
    clear d15
    go_enter Tryz.func22, Tryz.ntmps22
    go_wp2
    have T := tag_set H.out.2.1 (.int .i64 0) (.int .i64 0)
    have T1 := T.2.1
    have T2 := T.2.2
    exact bodyPost_ret (v := .tuple #[.agg #[.int .i64 0, .int .i64 0], .string ⟨#[]⟩, .bool false]) (by simp [results, Tryz.results22, go_sem, T1, T2]) rfl ⟨rfl, below_tag H.out.1 (Nat.le_refl _) _ _⟩
end
end Go.Proofs.YtabboioamdphmaaGreatDoor
