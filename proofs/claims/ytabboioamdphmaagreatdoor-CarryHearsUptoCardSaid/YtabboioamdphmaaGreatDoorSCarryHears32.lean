/- What the document's ask leaves where it has heard; laws of its appends. -/
import Derived.Test.YtabboioamdphmaaGreatDoorSCarryHears31
import Derived.Test.YtabboioamdphmaaGreatDoorSCarryHears29
import Derived.Deep.AppendLies
import Derived.Test.YtabboioamdphmaaGreatDoorSCarryHears27
import Derived.Test.YtabboioamdphmaaGreatDoorSCarryHears15
import Derived.Test.YtabboioamdphmaaGreatDoorProg
import Derived.Test.YtabboioamdphmaaGreatDoorSCarryHears02
import Derived.Laws.BitsAllLaws
namespace Go.Proofs.YtabboioamdphmaaGreatDoor
section
open Go.RowKit Go.Maps Go.BigFrame

theorem step_append_txt {ops : Array Oper} {o : Oper} {a : Act} {K : Act → World → Prop} {Q : Exit → Act → World → Prop} {E : Prop} {w : World} (s x : Nat) (hgd : o.guard = none)
    (ho : o.op = .call { callee := .builtin .append, args := #[.tmp s, .tmp x], argTypes := #[22, 22] }) (B : Nat) (v : Value) (l : List ByteArray) (t : ByteArray) (nb : Nat)
    (hs : a.eval (.tmp s) = v) (hx : a.eval (.tmp x) = .slice (some ⟨nb, 0, none⟩) 1 1) (hn : w.cell? ⟨nb, 0, none⟩ = some (.string t)) (hown : OwnT B w v l) (n : Nat) (hln : l.length = n) (hl : n ≤ 1000000) (hB : B ≤ w.heap.size)
    (h : ∀ g cap w', OwnT B w' (.slice (some ⟨g, 0, none⟩) (n + 1) cap) (l ++ [t]) → w.grownBy w' v.ownBlock → (v.ownBlock = some g ∨ g = w.heap.size) → K (a.put o.dst (.slice (some ⟨g, 0, none⟩) (n + 1) cap)) w') :
    if Region.wanted o (yielded ops a.tmps) = true then Oper.wp Tryz.prog o a w K Q else E := by
  obtain ⟨i, hi, hz0, hz1, hz2⟩ := info_parts info_text
  subst hln
  have hown' : w.ownsRow B 9 1 v l.length (l.map Value.string) := by
    have h0 := hown
    unfold OwnT Own1 at h0
    simpa using h0
  refine step_append_lies w hgd (.tmp s) (.tmp x) 22 ho B 9 i _ 1 16 Tryz.underlying22 hi hz0 hz1 hz2 rfl (by decide) v l.length (l.map Value.string) hs hown' ⟨nb, 0, none⟩ 1 1 [.string t] hx rfl (fun j u hj => ?_) (fun u hu => ?_) (by decide) (by unfold maxLen; omega) (by omega) hB _ rfl ?_
  · match j, hj with
    | 0, hj => simp at hj; subst hj; simpa [Addr.add] using hn
  · simp at hu
    subst hu; rfl
  · intro g cap w' h1 h2 h3 _
    refine h g cap w' ?_ h2 h3
    unfold OwnT Own1
    rw [List.map_append, List.length_append, List.length_map]
    exact h1
theorem step_append_row {ops : Array Oper} {o : Oper} {a : Act} {K : Act → World → Prop} {Q : Exit → Act → World → Prop} {E : Prop} {w : World} (s x : Nat) (hgd : o.guard = none)
    (ho : o.op = .call { callee := .builtin .append, args := #[.tmp s, .tmp x], argTypes := #[42, 42] }) (B : Nat) (v : Value) (us : List Value) (ra : Option Addr) (rl rc : Nat) (nb : Nat)
    (hs : a.eval (.tmp s) = v) (hx : a.eval (.tmp x) = .slice (some ⟨nb, 0, none⟩) 1 1) (hn : w.cell? ⟨nb, 0, none⟩ = some (.slice ra rl rc)) (hown : Own1 53 B w v us) (n : Nat) (hln : us.length = n) (hl : n ≤ 1000000) (hB : B ≤ w.heap.size)
    (h : ∀ g cap w', Own1 53 B w' (.slice (some ⟨g, 0, none⟩) (n + 1) cap) (us ++ [.slice ra rl rc]) → w.grownBy w' v.ownBlock → (v.ownBlock = some g ∨ g = w.heap.size) → K (a.put o.dst (.slice (some ⟨g, 0, none⟩) (n + 1) cap)) w') :
    if Region.wanted o (yielded ops a.tmps) = true then Oper.wp Tryz.prog o a w K Q else E := by
  obtain ⟨i, hi, hz0, hz1, hz2⟩ := info_parts info_vers
  subst hln
  refine step_append_lies w hgd (.tmp s) (.tmp x) 42 ho B 53 i _ 1 24 Tryz.underlying42 hi hz0 hz1 hz2 rfl (by decide) v us.length us hs hown ⟨nb, 0, none⟩ 1 1 [.slice ra rl rc] hx rfl (fun j u hj => ?_) (fun u hu => ?_) (by decide) (by unfold maxLen; omega) (by omega) hB _ rfl ?_
  · match j, hj with
    | 0, hj => simp at hj; subst hj; simpa [Addr.add] using hn
  · simp at hu
    subst hu; rfl
  · intro g cap w' h1 h2 h3 _
    refine h g cap w' ?_ h2 h3
    unfold Own1
    rw [List.length_append]
    exact h1
theorem step_append_vs {ops : Array Oper} {o : Oper} {a : Act} {K : Act → World → Prop} {Q : Exit → Act → World → Prop} {E : Prop} {w : World} (s x : Nat) (hgd : o.guard = none)
    (ho : o.op = .call { callee := .builtin .append, args := #[.tmp s, .tmp x], argTypes := #[53, 53] }) (n₀ : Nat) (ad : Option Addr) (len cap : Nat) (M : List Ver)
    (hs : a.eval (.tmp s) = .slice none 0 0) (hx : a.eval (.tmp x) = .slice ad len cap) (hlen : M.length = len) (h0 : 0 < len) (hl : len ≤ 1000000) (hI : VrR n₀ w ad M)
    (h : ∀ g cap w', OwnV w.heap.size w' (.slice (some ⟨g, 0, none⟩) len cap) M → w.grownBy w' none → K (a.put o.dst (.slice (some ⟨g, 0, none⟩) len cap)) w') :
    if Region.wanted o (yielded ops a.tmps) = true then Oper.wp Tryz.prog o a w K Q else E := by
  obtain ⟨i, hi, hz0, hz1, hz2⟩ := info_parts info_version
  subst hlen
  rcases hI with rfl | ⟨b, off, rfl, _, hcell⟩
  · simp at h0
  · refine step_append_lies w hgd (.tmp s) (.tmp x) 53 ho w.heap.size 76 i _ 5 48 Tryz.underlying53 hi hz0 hz1 hz2 rfl (by decide) (.slice none 0 0) 0 [] hs (OwnV.nil _ _) ⟨b, off, none⟩ M.length cap (vrV M) hx (vrV_length M) (fun j u hj => ?_) (vrV_one M) h0 (by unfold maxLen; omega) (by omega) (Nat.le_refl _) _ rfl ?_
    · have hj2 : j < M.length * 5 := by have := (List.getElem?_eq_some_iff.1 hj).1; rw [vrV_length] at this; exact this
      have h9 := vrV_at M (j / 5) (j % 5) (by omega) (by omega)
      have e5 : j / 5 * 5 + j % 5 = j := by omega
      rw [e5, hj] at h9
      rw [Go.WideShapes.add_plain, h9, ← hcell (j / 5) (j % 5) (by omega) (by omega)]
      rw [show off + j / 5 * 5 + j % 5 = off + j by omega]
    · intro g cap w' h1 h2 h3 _
      have e : 0 + M.length = M.length := Nat.zero_add _
      rw [e] at h1 ⊢
      refine h g cap w' ?_ h2
      simpa [OwnV] using h1
theorem step_append_v0 {ops : Array Oper} {o : Oper} {a : Act} {K : Act → World → Prop} {Q : Exit → Act → World → Prop} {E : Prop} {w : World} (s x : Nat) (hgd : o.guard = none)
    (ho : o.op = .call { callee := .builtin .append, args := #[.tmp s, .tmp x], argTypes := #[53, 53] }) (ad : Option Addr) (cap : Nat)
    (hs : a.eval (.tmp s) = .slice none 0 0) (hx : a.eval (.tmp x) = .slice ad 0 cap) (ha : ad = none → cap = 0)
    (h : ∀ w', w.grownBy w' none → K (a.put o.dst (.slice none 0 0)) w') :
    if Region.wanted o (yielded ops a.tmps) = true then Oper.wp Tryz.prog o a w K Q else E := by
  have hw : Region.wanted o (yielded ops a.tmps) = true := by simp [Region.wanted, hgd]
  rw [if_pos hw]
  obtain ⟨i, hi, hz0, hz1, hz2⟩ := info_parts info_version
  have hown : w.ownsRow w.heap.size 76 5 (.slice none 0 0) 0 [] := World.ownsRow_nil _ _ _ _
  cases ad with
  | none =>
    obtain rfl := ha rfl
    have hrun := run_append_owned_none (P := Tryz.prog) (w := w) w.heap.size 53 o.type 76 i 5 Tryz.underlying53 hi (.slice none 0 0) 0 [] hown
    unfold Oper.wp
    simp [execOp, ho, resolve, invoke, builtin, hs, hx, hrun, Result.andThen]
    exact h w (World.grownBy.refl _ _)
  | some y =>
    obtain ⟨v', w', hr, _, h2, h3, _⟩ := run_append_own_at (P := Tryz.prog) w w.heap.size 53 o.type 76 i _ 5 48 Tryz.underlying53 hi hz0 hz1 hz2 rfl (by decide) (.slice none 0 0) 0 [] hown y 0 cap [] rfl (fun j u hj => by simp at hj) (fun u hu => by cases hu) (by simp [maxLen]) (by simp) (Nat.le_refl _)
    obtain rfl : v' = .slice none 0 0 := h3.2 ⟨rfl, rfl⟩
    unfold Oper.wp
    simp [execOp, ho, resolve, invoke, builtin, hs, hx, hr, Result.andThen]
    exact h w' h2
theorem step_append_vG {ops : Array Oper} {o : Oper} {a : Act} {K : Act → World → Prop} {Q : Exit → Act → World → Prop} {E : Prop} {w : World} (s x : Nat) (hgd : o.guard = none)
    (ho : o.op = .call { callee := .builtin .append, args := #[.tmp s, .tmp x], argTypes := #[53, 53] }) (n₀ : Nat) (ad : Option Addr) (len cap : Nat) (M : List Ver)
    (hs : a.eval (.tmp s) = .slice none 0 0) (hx : a.eval (.tmp x) = .slice ad len cap) (hlen : M.length = len) (hl : len ≤ 1000000) (ha : ad = none → cap = 0) (hI : VrR n₀ w ad M)
    (h : ∀ ra rc w', OwnV w.heap.size w' (.slice ra len rc) M → w.grownBy w' none → K (a.put o.dst (.slice ra len rc)) w') :
    if Region.wanted o (yielded ops a.tmps) = true then Oper.wp Tryz.prog o a w K Q else E := by
  by_cases h0 : 0 < len
  · exact step_append_vs s x hgd ho n₀ ad len cap M hs hx hlen h0 hl hI (fun g c w' h1 h2 => h _ _ w' h1 h2)
  · obtain rfl : len = 0 := by omega
    obtain rfl : M = [] := List.length_eq_zero_iff.1 hlen
    exact step_append_v0 s x hgd ho ad cap hs hx ha (fun w' h1 => h none 0 w' (OwnV.nil _ _) h1)
def RAskPost (S F : Nat → Prop) (w w' : World) (mo : Nat) (na : Option Addr) (nc : Nat) (a : AskS) (m : Msg) (e : Ending) : Prop :=
  ∃ (F' : Nat → Prop) (ma : Option Addr) (mc : Nat) (fv lv : Value) (us : List Value), (∀ b, F' b → F b ∨ w.heap.size ≤ b) ∧ KeptBut F w w' ∧ RAskAt S F' w' mo ma mc na nc fv lv us (askHear a m).1 ∧ RetMsgs (fun b => w.heap.size ≤ b ∧ ¬ F' b) w' e (askHear a m).2
theorem RAskAt.took {S F : Nat → Prop} {w w5 : World} {mo : Nat} {ma : Option Addr} {mc : Nat} {na : Option Addr} {nc : Nat} {fv lv : Value} {us : List Value} {a : AskS} {m : Msg} {fv' lv' u : Value} (h : RAskAt S F w mo ma mc na nc fv lv us a) (hk : KeptBut F w w5)
    (hc : CellsAt w5 mo (((rAskV a (.slice ma a.t.mem.length mc) (.slice na a.mem2.length nc) fv lv).set 14 fv').set 15 lv')) (hf : OwnT 0 w5 fv' (a.t.got.map (·.1) ++ [m.fr])) (hL : OwnVs 0 w5 lv' (a.t.got.map (·.2) ++ [m.L]) (us ++ [u]))
    (hf' : ∀ g, fv'.ownBlock = some g → (F g ∧ g ≠ mo) ∨ w.heap.size ≤ g) (hl' : ∀ g, lv'.ownBlock = some g → (F g ∧ g ≠ mo) ∨ w.heap.size ≤ g) (hu' : ∀ g, u.ownBlock = some g → w.heap.size ≤ g) (hS : ∀ b, S b → b < w.heap.size) :
    RAskAt S (grownF F w w5) w5 mo ma mc na nc fv' lv' (us ++ [u]) { a with t := takeT a.t m } := by
  have hmo := h.lt mo h.hF
  have hlu := h.L.lenu
  rw [List.length_map] at hlu
  refine ⟨.inl h.hF, grownF_lt' h.lt hk.size, hc, ?_, ?_, fun g e => ?_, fun g e => ?_, fun i hi g e => ?_, h.mcap, h.mem.kept hk (fun b _ hb hf => h.dis b hb hf), h.ncap, h.mem2.kept hk (fun b _ hb hf => h.dis b hb hf), fun b hb hg => ?_⟩
  · show OwnT 0 w5 fv' ((a.t.got ++ [(m.fr, m.L)]).map (·.1))
    rw [List.map_append]; exact hf
  · show OwnVs 0 w5 lv' ((a.t.got ++ [(m.fr, m.L)]).map (·.2)) _
    rw [List.map_append]; exact hL
  · have hlt := (hf.lt g e).2
    rcases hf' g e with h9 | h9
    · exact ⟨.inl h9.1, h9.2⟩
    · exact ⟨.inr ⟨h9, hlt⟩, by omega⟩
  · have hlt := (hL.own.lt g e).2
    rcases hl' g e with h9 | h9
    · exact ⟨.inl h9.1, h9.2⟩
    · exact ⟨.inr ⟨h9, hlt⟩, by omega⟩
  · by_cases hil : i < us.length
    · rw [List.getElem?_append_left hil] at e
      have h9 := h.uF i hil g e
      exact ⟨.inl h9.1, h9.2⟩
    · have hie : i = us.length := by simp at hi; omega
      have hr := hL.row i (by simp; omega)
      have e2 : (us ++ [u])[i]?.getD undef = u := by rw [hie]; simp
      rw [e2] at e hr
      have hlt := (hr.lt g e).2
      have := hu' g e
      exact ⟨.inr ⟨this, hlt⟩, by omega⟩
  · rcases hg with hg | hg
    · exact h.dis b hb hg
    · have := hS b hb
      omega
theorem RAskAt.turn {S F : Nat → Prop} {w w' : World} {mo : Nat} {ma : Option Addr} {mc : Nat} {na : Option Addr} {nc : Nat} {fv lv : Value} {us : List Value} {a a' : AskS} (h : RAskAt S F w mo ma mc na nc fv lv us a) (hk : KeptBut (fun b => b = mo) w w') (hc : CellsAt w' mo (rAskV a' (.slice ma a'.t.mem.length mc) (.slice na a'.mem2.length nc) fv lv)) (hg : a'.t.got = a.t.got) (hm : a'.t.mem = a.t.mem) (h2 : a'.mem2 = a.mem2) :
    RAskAt S F w' mo ma mc na nc fv lv us a' := by
  have hd : ∀ b, b < w.heap.size → S b → ¬ b = mo := fun b _ hb e => h.dis b hb (by rw [e]; exact h.hF)
  refine ⟨h.hF, fun b hb => Nat.lt_of_lt_of_le (h.lt b hb) hk.size, hc, ?_, ?_, h.frF, h.lF, h.uF, by rw [hm]; exact h.mcap, by rw [hm]; exact h.mem.kept hk hd, by rw [h2]; exact h.ncap, by rw [h2]; exact h.mem2.kept hk hd, h.dis⟩
  · rw [hg]; exact h.fr.heapK (fun g e => hk.block g (h.fr.lt g e).2 (h.frF g e).2)
  · rw [hg]; exact h.L.kept' hk (fun g e => (h.lF g e).2) (fun i hi g e => (h.uF i hi g e).2)
theorem took_all {S F : Nat → Prop} {w w4 w6 w7 : World} {mo : Nat} {ma : Option Addr} {mc : Nat} {na : Option Addr} {nc : Nat} {fv lv fv' lv' u : Value} {us : List Value} {a : AskS} {m : Msg} (h : RAskAt S F w mo ma mc na nc fv lv us a) (hS : ∀ b, S b → b < w.heap.size)
    (k4 : OwnT 0 w4 fv' (a.t.got.map (·.1) ++ [m.fr])) (hk4 : KeptBut (fun b => fv.ownBlock = some b) w w4) (hb4 : fv'.ownBlock = fv.ownBlock ∨ ∀ g, fv'.ownBlock = some g → w.heap.size ≤ g)
    (hb6 : Below w4.heap.size (w4.setCell ⟨mo, 14, none⟩ fv') w6) (hu : OwnV w4.heap.size w6 u m.L) (hk7 : KeptBut (fun b => lv.ownBlock = some b) w6 w7) (k7 : Own1 53 0 w7 lv' (us ++ [u])) (hb7 : lv'.ownBlock = lv.ownBlock ∨ ∀ g, lv'.ownBlock = some g → w.heap.size ≤ g) :
    RAskAt S (grownF F w (w7.setCell ⟨mo, 15, none⟩ lv')) (w7.setCell ⟨mo, 15, none⟩ lv') mo ma mc na nc fv' lv' (us ++ [u]) { a with t := takeT a.t m } ∧ KeptBut F w (w7.setCell ⟨mo, 15, none⟩ lv') := by
  have hmo := h.lt mo h.hF
  have hlu := h.L.lenu
  rw [List.length_map] at hlu
  have hs4 := hk4.size
  have hs6 : w4.heap.size ≤ w6.heap.size := by have := hb6.size; rw [setCell_size] at this; exact this
  have hfF : ∀ g, fv.ownBlock = some g → F g ∧ g ≠ mo := h.frF
  have hlF : ∀ g, lv.ownBlock = some g → F g ∧ g ≠ mo := h.lF
  have hfl : ∀ g, fv.ownBlock = some g → lv.ownBlock ≠ some g := fun g e1 e2 => by
    obtain ⟨c1, x1⟩ := own1_heap h.fr e1
    obtain ⟨c2, x2⟩ := own1_heap h.L.own e2
    rw [x1] at x2
    simp at x2
  have hm4 : mo < w4.heap.size := Nat.lt_of_lt_of_le hmo hs4
  have hm6 : mo < w6.heap.size := Nat.lt_of_lt_of_le hm4 hs6
  have hk5 : KeptBut (fun b => b = mo) w4 (w4.setCell ⟨mo, 14, none⟩ fv') := (KeptBut.refl (fun b => b = mo) w4).set1 (p := ⟨mo, 14, none⟩) rfl _
  have hk56 : KeptBut (fun b => w4.heap.size ≤ b) (w4.setCell ⟨mo, 14, none⟩ fv') w6 := KeptBut.of_below hb6 (fun _ _ h => h)
  have hk46 : KeptBut (fun b => b = mo) w4 w6 := hk5.trans ⟨hk56.os, hk56.tape, hk56.output, hk56.size, fun k hk hf => hk56.block k hk (fun h9 => by rw [setCell_size] at hk; omega)⟩
  have hk78 : KeptBut (fun b => b = mo) w7 (w7.setCell ⟨mo, 15, none⟩ lv') := (KeptBut.refl (fun b => b = mo) w7).set1 (p := ⟨mo, 15, none⟩) rfl _
  obtain ⟨w8, hw8⟩ : ∃ w8, w7.setCell ⟨mo, 15, none⟩ lv' = w8 := ⟨_, rfl⟩
  have hG : KeptBut (fun b => fv.ownBlock = some b ∨ lv.ownBlock = some b ∨ b = mo) w w8 := by
    rw [← hw8]
    exact (((hk4.mono fun b _ e => .inl e).trans (hk46.mono fun b _ e => .inr (.inr e))).trans (hk7.mono fun b _ e => .inr (.inl e))).trans (hk78.mono fun b _ e => .inr (.inr e))
  have hk : KeptBut F w w8 := hG.mono fun b _ e => by
    rcases e with e | e | e
    · exact (hfF b e).1
    · exact (hlF b e).1
    · rw [e]; exact h.hF
  have c4 : CellsAt w4 mo _ := h.cs.kept hk4 (fun e => (hfF mo e).2 rfl)
  have c5 := c4.set 14 (by show 14 < 20; decide) fv'
  have c6 : CellsAt w6 mo _ := c5.kept hk56 (by omega)
  have c7 : CellsAt w7 mo _ := c6.kept hk7 (fun e => (hlF mo e).2 rfl)
  have c8 := c7.set 15 (by rw [List.length_set]; show 15 < 20; decide) lv'
  have hf8 : OwnT 0 w8 fv' (a.t.got.map (·.1) ++ [m.fr]) := by
    rw [← hw8]
    have hlt := k4.lt
    have hne : ∀ g, fv'.ownBlock = some g → g ≠ mo ∧ lv.ownBlock ≠ some g := fun g e => by
      rcases hb4 with e2 | e2
      · rw [e] at e2; exact ⟨(hfF g e2.symm).2, hfl g e2.symm⟩
      · have h9 := e2 g e
        refine ⟨by omega, fun e3 => ?_⟩
        have := (h.L.own.lt g e3).2
        omega
    have h6 : OwnT 0 w6 fv' _ := k4.heapK (fun g e => hk46.block g (hlt g e).2 (hne g e).1)
    have h7 : OwnT 0 w7 fv' _ := h6.heapK (fun g e => hk7.block g (h6.lt g e).2 (hne g e).2)
    exact h7.heapK (fun g e => hk78.block g (h7.lt g e).2 (hne g e).1)
  have hlne : ∀ g, lv'.ownBlock = some g → g ≠ mo := fun g e => by
    rcases hb7 with e2 | e2
    · rw [e] at e2; exact (hlF g e2.symm).2
    · have := e2 g e; omega
  have hL8 : OwnVs 0 w8 lv' (a.t.got.map (·.2) ++ [m.L]) (us ++ [u]) := by
    refine ⟨by simp [hlu], ?_, fun i hi => ?_⟩
    · rw [← hw8]; exact k7.heapK (fun g e => hk78.block g (k7.lt g e).2 (hlne g e))
    · by_cases hil : i < us.length
      · have e1 : (us ++ [u])[i]?.getD undef = us[i]?.getD undef := by rw [List.getElem?_append_left hil]
        have e2 : (a.t.got.map (·.2) ++ [m.L])[i]?.getD [] = (a.t.got.map (·.2))[i]?.getD [] := by rw [List.getElem?_append_left (by rw [List.length_map]; omega)]
        rw [e1, e2]
        have hr := h.L.row i (by rw [List.length_map]; omega)
        refine hr.heapK (fun g e => hG.block g (hr.lt g e).2 (fun h9 => ?_))
        obtain ⟨c1, x1⟩ := ownv_heap hr e
        rcases h9 with h9 | h9 | h9
        · obtain ⟨c2, x2⟩ := own1_heap h.fr h9
          rw [x1] at x2; simp at x2
        · obtain ⟨c2, x2⟩ := own1_heap h.L.own h9
          rw [x1] at x2; simp at x2
        · exact (h.uF i hil g e).2 h9
      · have hie : i = us.length := by simp at hi; omega
        have e1 : (us ++ [u])[i]?.getD undef = u := by rw [hie]; simp
        have e2 : (a.t.got.map (·.2) ++ [m.L])[i]?.getD [] = m.L := by rw [hie, hlu, ← List.length_map (f := (·.2))]; simp
        rw [e1, e2]
        have hu7 : OwnV 0 w7 u m.L := (hu.lower (Nat.zero_le _)).heapK (fun g e => hk7.block g (hu.lt g e).2 (fun e3 => by have := (h.L.own.lt g e3).2; have := (hu.lt g e).1; omega))
        rw [← hw8]
        exact hu7.heapK (fun g e => hk78.block g (hu7.lt g e).2 (fun e3 => by have := (hu.lt g e).1; omega))
  have hr := RAskAt.took (m := m) (u := u) h hk (by rw [← hw8]; exact c8) hf8 hL8 (fun g e => by
      rcases hb4 with e2 | e2
      · rw [e] at e2; exact .inl (hfF g e2.symm)
      · exact .inr (e2 g e)) (fun g e => by
      rcases hb7 with e2 | e2
      · rw [e] at e2; exact .inl (hlF g e2.symm)
      · exact .inr (e2 g e)) (fun g e => by have := (hu.lt g e).1; omega) hS
  rw [hw8]
  exact ⟨hr, hk⟩
theorem RAskAt.lv_at {S F : Nat → Prop} {w w4 : World} {mo : Nat} {ma : Option Addr} {mc : Nat} {na : Option Addr} {nc : Nat} {fv lv : Value} {us : List Value} {a : AskS} (h : RAskAt S F w mo ma mc na nc fv lv us a) (hk4 : KeptBut (fun b => fv.ownBlock = some b) w w4) (x : Value) : Own1 53 0 (w4.setCell ⟨mo, 14, none⟩ x) lv us := by
  have h4 : Own1 53 0 w4 lv us := h.L.own.heapK (fun g e => hk4.block g (h.L.own.lt g e).2 (fun e1 => by
    obtain ⟨c1, x1⟩ := own1_heap h.fr e1
    obtain ⟨c2, x2⟩ := own1_heap h.L.own e
    rw [x1] at x2
    simp at x2))
  exact h4.heapK (fun g e => Below.heap_setCell _ _ _ _ (fun e2 => (h.lF g e).2 e2))
theorem below_then {w W w' : World} (h : Below w.heap.size w W) (k : Below W.heap.size W w') : Below w.heap.size w w' := h.trans (k.mono h.size)
def TagBox (w : World) (vb : Nat) (x y : Value) : Prop := w.heap[vb]? = some (.cells #[x, y] 44 (0, 0))
theorem TagBox.new (w : World) (x y : Value) : TagBox (w.alloc (.cells #[x, y] 44)) w.heap.size x y := heap_alloc_new _ _
theorem TagBox.newD (w : World) (x y : Value) : TagBox (w.alloc (.cells #[x, y] 44)).drew w.heap.size x y := heap_alloc_new _ _
theorem TagBox.below {w w' : World} {vb : Nat} {x y : Value} (h : TagBox w vb x y) (hb : Below w.heap.size w w') : TagBox w' vb x y := (hb.block vb (Array.getElem?_eq_some_iff.1 h).1).trans h
theorem TagBox.c {w : World} {vb : Nat} {x y : Value} (h : TagBox w vb x y) : w.cell? ⟨vb, 0, none⟩ = some x ∧ w.cell? ⟨vb, 1, none⟩ = some y ∧ w.frozen? ⟨vb, 0, none⟩ = false ∧ w.frozen? ⟨vb, 1, none⟩ = false := ⟨cell_of_heap h 0, cell_of_heap h 1, frozen_of_heap h 0, frozen_of_heap h 1⟩
theorem TagBox.set {w : World} {vb : Nat} {x y : Value} (h : TagBox w vb x y) (x' y' : Value) : TagBox ((w.setCell ⟨vb, 0, none⟩ x').setCell ⟨vb, 1, none⟩ y') vb x' y' := by
  have h1 := heap_setCell_same w vb 0 _ _ x' h
  have h2 := heap_setCell_same (w.setCell ⟨vb, 0, none⟩ x') vb 1 _ _ y' h1
  unfold TagBox
  rw [h2]
  rfl
theorem RAskAt.anew {S F : Nat → Prop} {w w' : World} {mo : Nat} {ma : Option Addr} {mc : Nat} {na : Option Addr} {nc : Nat} {fv lv : Value} {us : List Value} {a a' : AskS} (h : RAskAt S F w mo ma mc na nc fv lv us a) (hk : KeptBut (fun b => b = mo) w w') (hc : CellsAt w' mo (rAskV a' (.slice ma a'.t.mem.length mc) (.slice na a'.mem2.length nc) (.slice none 0 0) (.slice none 0 0))) (hg : a'.t.got = []) (hm : a'.t.mem = a.t.mem) (h2 : a'.mem2 = a.mem2) :
    RAskAt S F w' mo ma mc na nc (.slice none 0 0) (.slice none 0 0) [] a' := by
  have hd : ∀ b, b < w.heap.size → S b → ¬ b = mo := fun b _ hb e => h.dis b hb (by rw [e]; exact h.hF)
  exact ⟨h.hF, fun b hb => Nat.lt_of_lt_of_le (h.lt b hb) hk.size, hc, by rw [hg]; exact OwnT.nil _ _, by rw [hg]; exact OwnVs.nil _ _, fun g e => by simp [Value.ownBlock] at e, fun g e => by simp [Value.ownBlock] at e, fun i hi => by simp at hi, by rw [hm]; exact h.mcap, by rw [hm]; exact h.mem.kept hk hd, by rw [h2]; exact h.ncap, by rw [h2]; exact h.mem2.kept hk hd, h.dis⟩
end
end Go.Proofs.YtabboioamdphmaaGreatDoor
/- A client's ask stays sound; both asks in one memory. -/
namespace Go.Proofs.YtabboioamdphmaaGreatDoor
section
open Go.RowKit Go.Maps Go.BigFrame

structure AskOk (a : AskS) : Prop where
  ok : TalkOk a.t
  mv : a.moves = false
  st : a.st ≤ 3
  wt : a.st < 2 → a.t.wait = waitT a
  tx : a.text.size ≤ 1000
  fd : a.st = 1 → a.found = true
  fz : a.st = 2 → a.found = false → a.tag = (0, 0) ∧ a.text = ⟨#[]⟩
theorem best_none {k : Nat} {g : Option Grp} (h : (bestAns k g).2.2 = false) : (bestAns k g).1 = (0, 0) ∧ (bestAns k g).2.1 = ⟨#[]⟩ := by
  cases g with
  | none => exact ⟨rfl, rfl⟩
  | some g => cases h
theorem choose_none {a : AskS} (h : (chooseT a).found = false) : (chooseT a).tag = (0, 0) ∧ (chooseT a).text = ⟨#[]⟩ := by
  unfold chooseT at h ⊢
  split at h
  · cases h
  · rename_i hp
    rw [if_neg hp]
    exact best_none h
theorem sendT_length (t : TalkS) (kind : ByteArray) (L : Nat → List Ver) : (sendT t kind L).length = t.mem.length := by simp [sendT]
theorem send12 {t : TalkS} (h : TalkOk t) (kind : ByteArray) (L : Nat → List Ver) : (sendT t kind L).length ≤ 12 := by
  rw [sendT_length]
  have := talk_cfg h
  omega
theorem take_tot (t : TalkS) (m : Msg) : totV ((takeT t m).got.map (·.2)) = totV (t.got.map (·.2)) + m.L.length := by
  show totV ((t.got ++ [(m.fr, m.L)]).map (·.2)) = _
  unfold totV
  simp
theorem AskOk.hear {a : AskS} (h : AskOk a) (m : Msg) : AskOk (askHear a m).1 ∧ (askHear a m).2.length ≤ 12 ∧ totV ((askHear a m).1.t.got.map (·.2)) ≤ totV (a.t.got.map (·.2)) + m.L.length := by
  by_cases h1 : 2 ≤ a.st ∨ fitsB a.t m = false
  · rw [hear_no h1]
    exact ⟨h, Nat.zero_le _, Nat.le_add_right _ _⟩
  have h2 : a.st < 2 := by
    rcases Nat.lt_or_ge a.st 2 with h9 | h9
    · exact h9
    · exact absurd (.inl h9) h1
  have h3 : fitsB a.t m = true := by
    cases hf : fitsB a.t m with
    | true => rfl
    | false => exact absurd (.inr hf) h1
  have hmv := h.mv
  cases h4 : m.sl with
  | true =>
    rw [hear_sealed h2 h3 h4 (by rw [hmv]; simp)]
    exact ⟨⟨h.ok, h.mv, Nat.le_refl 3, fun h9 => absurd h9 (by show ¬ 3 < 2; decide), h.tx, fun h9 => (by cases h9), fun h9 => (by cases h9)⟩, Nat.zero_le _, Nat.le_add_right _ _⟩
  | false =>
    have hok := take_ok h.ok h3
    have htot := take_tot a.t m
    cases h5 : enoughB (takeT a.t m) with
    | false =>
      rw [hear_few h2 h3 (.inl h4) h5]
      exact ⟨⟨hok, h.mv, h.st, fun h9 => h.wt h9, h.tx, h.fd, h.fz⟩, Nat.zero_le _, by (try dsimp only); omega⟩
    | true =>
      have h6 : a.st = 1 ∨ a.st = 0 := by omega
      rcases h6 with h6 | h6
      · rw [hear_done h6 h3 h4 h5]
        exact ⟨⟨hok, h.mv, (by show 2 ≤ 3; decide), fun h9 => absurd h9 (by show ¬ 2 < 2; decide), h.tx, fun h9 => (by cases h9), fun _ h9 => absurd (h.fd h6) (by show ¬ a.found = true; rw [show a.found = false from h9]; decide)⟩, Nat.zero_le _, by (try dsimp only); omega⟩
      · obtain ⟨c1, c2, c3, c4, c5⟩ := choose_t { a with t := takeT a.t m }
        have hcs := choose_size (a := { a with t := takeT a.t m }) h.tx
        cases h7 : (chooseT { a with t := takeT a.t m }).found with
        | false =>
          rw [hear_none' h6 h3 (.inl h4) h5 h7]
          refine ⟨⟨?_, ?_, (by show 2 ≤ 3; decide), fun h9 => absurd h9 (by show ¬ 2 < 2; decide), hcs, fun h9 => (by cases h9), fun _ _ => choose_none h7⟩, Nat.zero_le _, ?_⟩
          · show TalkOk (chooseT { a with t := takeT a.t m }).t
            rw [c1]; exact hok
          · show (chooseT { a with t := takeT a.t m }).moves = false
            rw [c4]; exact h.mv
          · show totV ((chooseT { a with t := takeT a.t m }).t.got.map (·.2)) ≤ _
            rw [c1]; (try dsimp only); omega
        | true =>
          rw [hear_keep h6 h3 (.inl h4) h5 h7]
          have hm2 : (chooseT { a with t := takeT a.t m }).moves = false := by rw [c4]; exact h.mv
          obtain ⟨x, hx⟩ : ∃ x, chooseT { a with t := takeT a.t m } = x := ⟨_, rfl⟩
          rw [hx] at hm2 hcs c1 h7 ⊢
          have ek : keepS x = { x with st := 1, t := { x.t with wait := kKept, got := [] } } := by unfold keepS; rw [if_neg (by rw [hm2]; decide)]
          have hk : TalkOk (keepS x).t := by
            rw [ek]
            have h9 := hok.cfg
            rw [← show x.t = takeT a.t m from c1] at h9
            exact ⟨h9, List.nodup_nil, fun p hp => by cases hp⟩
          refine ⟨⟨hk, ?_, ?_, ?_, ?_, ?_, ?_⟩, send12 hk _ _, ?_⟩
          · rw [ek]; exact hm2
          · rw [ek]; show 1 ≤ 3; decide
          · rw [ek]; intro _; rfl
          · rw [ek]; exact hcs
          · rw [ek]; intro _; exact h7
          · rw [ek]; intro h9; cases h9
          · rw [ek]; show totV [] ≤ _; exact Nat.zero_le _
def DuoAt (vV : AskS → List Value) (w0 w : World) (ab mo : Nat) (na : Option Addr) (nc : Nat) (a1 a2 : AskS) (F G : Nat → Prop) : Prop :=
  (∃ bm ma mc, TalkX F w ab bm ma mc a1.t (vV a1)) ∧ (∃ ma mc fv lv us, RAskAt (fun b => b < w0.heap.size) G w mo ma mc na nc fv lv us a2) ∧ (∀ b, F b → w0.heap.size ≤ b) ∧ (∀ b, F b → ¬ G b) ∧ Below w0.heap.size w0 w
theorem DuoAt.below {vV : AskS → List Value} {w0 w w' : World} {ab mo : Nat} {na : Option Addr} {nc : Nat} {a1 a2 : AskS} {F G : Nat → Prop} (h : DuoAt vV w0 w ab mo na nc a1 a2 F G) (hb : Below w.heap.size w w') : DuoAt vV w0 w' ab mo na nc a1 a2 F G := by
  obtain ⟨⟨bm, ma, mc, h1⟩, ⟨ma2, mc2, fv, lv, us, h2⟩, h3, h4, h5⟩ := h
  exact ⟨⟨bm, ma, mc, h1.below hb (Nat.le_refl _)⟩, ⟨ma2, mc2, fv, lv, us, h2.below hb (Nat.le_refl _)⟩, h3, h4, h5.trans (hb.mono h5.size)⟩
theorem DuoAt.hear1 {w0 w w' : World} {ab mo : Nat} {na : Option Addr} {nc : Nat} {a1 a2 : AskS} {F G : Nat → Prop} {ma : Option Addr} {mc : Nat} {m : Msg} {e : Ending} (h : DuoAt askV w0 w ab mo na nc a1 a2 F G) (hp : AskPost F w w' ab ma mc a1 m e) :
    ∃ F' a5 c5, e = .returned (.slice a5 (askHear a1 m).2.length c5) ∧ DuoAt askV w0 w' ab mo na nc (askHear a1 m).1 a2 F' G ∧ MsgsS (fun b => ¬ F' b ∧ ¬ G b) w' a5 (askHear a1 m).2 := by
  obtain ⟨_, ⟨ma2, mc2, fv, lv, us, h2⟩, h3, h4, h5⟩ := h
  obtain ⟨F', bm', k1, k2, k3, a5, c5, rfl, _, _, _, k4⟩ := hp
  refine ⟨F', a5, c5, rfl, ⟨⟨bm', ma, mc, k3⟩, ⟨ma2, mc2, fv, lv, us, h2.kept k2 (fun b hg hf => h4 b hf hg) (fun b _ hs hf => by have h9 := h3 b hf; (try dsimp only at hs); omega)⟩, fun b hb => ?_, fun b hb hg => ?_, h5.trans (k2.below h5.size h3)⟩, k4.mono (fun b _ hb => ⟨hb.2, fun hg => ?_⟩)⟩
  · rcases k1 b hb with h9 | h9
    · exact h3 b h9
    · exact Nat.le_trans h5.size h9
  · rcases k1 b hb with h9 | h9
    · exact h4 b h9 hg
    · have := h2.lt b hg; omega
  · have := h2.lt b hg
    have := hb.1
    omega
theorem DuoAt.hear2 {vV : AskS → List Value} {w0 w w' : World} {ab mo : Nat} {na : Option Addr} {nc : Nat} {a1 a2 : AskS} {F G : Nat → Prop} {m : Msg} {e : Ending} {a : Option Addr} {l1 : List Msg} (h : DuoAt vV w0 w ab mo na nc a1 a2 F G) (hp : RAskPost (fun b => b < w0.heap.size) G w w' mo na nc a2 m e) (hv : MsgsS (fun b => ¬ F b ∧ ¬ G b) w a l1) :
    ∃ G' a8 c8, e = .returned (.slice a8 (askHear a2 m).2.length c8) ∧ DuoAt vV w0 w' ab mo na nc a1 (askHear a2 m).1 F G' ∧ MsgsR w'.heap.size w' a l1 ∧ MsgsR w'.heap.size w' a8 (askHear a2 m).2 := by
  obtain ⟨⟨bm, ma, mc, h1⟩, ⟨_, _, _, _, _, h2⟩, h3, h4, h5⟩ := h
  obtain ⟨G', ma2, mc2, fv, lv, us, k1, k2, k3, a8, c8, rfl, _, _, _, k4⟩ := hp
  have hG0 : ∀ b, G b → w0.heap.size ≤ b := fun b hb => by
    rcases Nat.lt_or_ge b w0.heap.size with h9 | h9
    · exact absurd hb (h2.dis b h9)
    · exact h9
  refine ⟨G', a8, c8, rfl, ⟨⟨bm, ma, mc, h1.kept k2 (fun b hf => h4 b hf)⟩, ⟨ma2, mc2, fv, lv, us, k3⟩, h3, fun b hf hg => ?_, h5.trans (k2.below h5.size hG0)⟩, (hv.kept k2 (fun b _ hb => hb.2)).read, k4.read⟩
  rcases k1 b hg with h9 | h9
  · exact h4 b hf h9
  · have := h1.talk.lt b hf; omega
theorem DuoAt.back {vV : AskS → List Value} {w0 w w' : World} {ab mo : Nat} {na : Option Addr} {nc : Nat} {a1 a2 : AskS} {F G : Nat → Prop} {v : Value} {l1 : List Msg} (h : DuoAt vV w0 w ab mo na nc a1 a2 F G) (hb : Below w.heap.size w w') (hv : MsgsO w.heap.size (fun b => (¬ F b ∧ ¬ G b) ∧ b < w.heap.size) w' v l1) :
    ∃ a5 c5, v = .slice a5 l1.length c5 ∧ DuoAt vV w0 w' ab mo na nc a1 a2 F G ∧ MsgsS (fun b => ¬ F b ∧ ¬ G b) w' a5 l1 := by
  obtain ⟨a5, c5, h1, h2, h3, h4, h5⟩ := hv.read
  refine ⟨a5, c5, h1, h.below hb, h5.mono (fun b hl h9 => ?_)⟩
  obtain ⟨⟨bm, ma, mc, k1⟩, ⟨_, _, _, _, _, k2⟩, _⟩ := h
  rcases h9 with h9 | h9
  · exact h9.1
  · exact ⟨fun hf => by have := k1.talk.lt b hf; omega, fun hg => by have := k2.lt b hg; omega⟩
def totL (l : List Msg) (i : Nat) : Nat := ((l.take i).map fun m => m.L.length).sum
theorem totL_succ {l : List Msg} {i : Nat} (h : i < l.length) : totL l (i + 1) = totL l i + (l[i]?.getD msg0).L.length := by
  unfold totL
  rw [List.take_add_one, List.getElem?_eq_getElem h, List.map_append, List.sum_append]
  simp only [Option.toList_some, List.map_cons, List.map_nil, List.sum_cons, List.sum_nil, Nat.add_zero, Option.getD_some]
theorem totL_le (l : List Msg) (i : Nat) : totL l i ≤ totL l l.length := by
  unfold totL
  rw [List.take_length]
  have h := List.take_append_drop i l
  calc ((l.take i).map fun m => m.L.length).sum ≤ ((l.take i).map fun m => m.L.length).sum + ((l.drop i).map fun m => m.L.length).sum := Nat.le_add_right _ _
    _ = ((l.take i ++ l.drop i).map fun m => m.L.length).sum := by rw [List.map_append, List.sum_append]
    _ = (l.map fun m => m.L.length).sum := by rw [h]
end
end Go.Proofs.YtabboioamdphmaaGreatDoor
/- Walks: slices.Clone of texts. -/
namespace Go.Proofs.YtabboioamdphmaaGreatDoor
section
open Go.RowKit

theorem OwnT.fresh (w : World) : OwnT w.heap.size (w.alloc (.cells #[] 9)) (.slice (some ⟨w.heap.size, 0, none⟩) 0 0) [] :=
  World.ownsRow_made w #[] 0 (Nat.le_refl _) (by simp [maxLen]) rfl
set_option maxRecDepth 100000 in
set_option maxHeartbeats 2000000 in
theorem tclone_walk (n₀ : Nat) (ad : Option Addr) (len cap : Nat) (M : List ByteArray) (w : World) (hlen : M.length = len) (hcap : len ≤ cap) (hl : len ≤ 1000000) (ha : ad = none → cap = 0) (hI : TxsAt n₀ w ad M) (hn : n₀ ≤ w.heap.size) :
    Calls Tryz.prog 35 #[.slice ad len cap] w fun e w' => Below w.heap.size w w' ∧ ∃ v, e = .returned v ∧ OwnT w.heap.size w' v M := by
  cases ad with
  | none =>
    obtain rfl := ha rfl
    obtain rfl : len = 0 := by omega
    obtain rfl : M = [] := List.length_eq_zero_iff.1 hlen
    have q := fun (w : World) (a : Option Addr) (n c n' c' : Nat) => Lib.run_eql_slice_nil (P := Tryz.prog) w 22 _ a n c n' c' Tryz.underlying22
    clear ha hI hlen hcap hl
    go_enter Tryz.func35, Tryz.ntmps35
    go_wp2
    go_ret
    exact ⟨Below.refl _ _, _, rfl, OwnT.nil _ _⟩
  | some x =>
    have hul : ([] : List ByteArray).length + M.length ≤ 1000000 := by simp; omega
    have hB : Below w.heap.size w (w.alloc (.cells #[] 9)) := (Below.refl _ w).alloc (Nat.le_refl _) _
    have hI2 : TxsAt w.heap.size (w.alloc (.cells #[] 9)) (some x) M := (hI.mono hn).below hB
    have hF := OwnT.fresh w
    have HI := Lib.hid (And.intro hI2 (And.intro hlen (And.intro hul (And.intro hB hF))))
    have q := fun (w : World) (a : Option Addr) (n c n' c' : Nat) => Lib.run_eql_slice_nil (P := Tryz.prog) w 22 _ a n c n' c' Tryz.underlying22
    clear hI hI2 hlen hul hB hF ha hcap hl
    go_enter Tryz.func35, Tryz.ntmps35
    go_wp2_with (at_builtin; refine append_txts 5 6 rfl rfl w.heap.size _ [] w.heap.size (some x) len cap M rfl rfl HI.out.2.2.2.2 HI.out.2.1 HI.out.2.2.1 (fun e => by cases e) HI.out.1 (by simp) ?_)
    intro v' w' k1 k2 k3
    have hb2 : Below w.heap.size w w' := HI.out.2.2.2.1.grown k2 (by simp) (fun k e => by simp [Value.ownBlock] at e; omega)
    have HR := Lib.hid (And.intro hb2 (show OwnT w.heap.size w' v' M by simpa using k1))
    clear k1 k2 k3 hb2
    go_wp2
    go_ret
    exact ⟨HR.out.1, _, rfl, HR.out.2⟩
end
end Go.Proofs.YtabboioamdphmaaGreatDoor
/- The walks of sums.CRC, sums.Hash, sums.Four and of the document's. -/
namespace Go.Proofs.YtabboioamdphmaaGreatDoor
open Go.RowKit

namespace Sm
end Sm

/-! ### the document's CRC; both Hash -/
namespace Sm
end Sm
end Go.Proofs.YtabboioamdphmaaGreatDoor
/- Walks: strconv.Itoa of a digit; the document's Decimal of a digit. (Split off PtB, PfA: PtB, PfA hold the same names; never import both.) -/
namespace Go.Proofs.YtabboioamdphmaaGreatDoor
open Go.RowKit

def digT (i : Nat) : ByteArray := ⟨#[UInt8.ofNat (48 + i)]⟩
end Go.Proofs.YtabboioamdphmaaGreatDoor
