/- What the law CarryHears needs: carried; both carries in one memory. -/
import Derived.Test.YtabboioamdphmaaGreatDoorSCarryHears34
import Derived.Test.YtabboioamdphmaaGreatDoorSCarryHears35
import Derived.Test.YtabboioamdphmaaGreatDoorSCarryHears41
import Derived.Test.YtabboioamdphmaaGreatDoorSCarryHears40
namespace Go.Proofs.YtabboioamdphmaaGreatDoor
section
open Go.RowKit Go.Maps Go.BigFrame

theorem carriedF : carF 0 1 1 [⟨#[97]⟩] 1 1 [⟨#[97]⟩] 0 ⟨#[107]⟩ = (0, -1) := carF_ok (by rw [configA]) (by rw [configA]) nameK (by omega)
set_option maxRecDepth 100000 in
set_option maxHeartbeats 4000000 in
theorem carried_walk (w : World) (E : Nat → Addr) (hE : ErrQx w E) :
    Calls Tryz.prog 5 #[] w fun e w' => e = .returned (.bool true) ∧ Below w.heap.size w w' := by
  have hB0 : Below w.heap.size w (w.alloc (.cells #[.string ⟨#[97]⟩] 9)) := (Below.refl _ w).alloc (Nat.le_refl _) _
  have hT : TxsAt (w.alloc (.cells #[.string ⟨#[97]⟩] 9)).heap.size (w.alloc (.cells #[.string ⟨#[97]⟩] 9)) (some ⟨w.heap.size, 0, none⟩) [⟨#[97]⟩] :=
    .inr ⟨w.heap.size, 0, rfl, by simp, fun j hj => by
      obtain rfl : j = 0 := by simpa using hj
      simp⟩
  obtain ⟨W0, hW0⟩ : ∃ W0, w.alloc (.cells #[.string ⟨#[97]⟩] 9) = W0 := ⟨_, rfl⟩
  obtain ⟨sb, hsb⟩ : ∃ sb, w.heap.size = sb := ⟨_, rfl⟩
  rw [hW0] at hB0 hT
  have hB1 : Below W0.heap.size W0 (W0.alloc (.cells #[.int .i64 1, .int .i64 1, .slice (some ⟨sb, 0, none⟩) 1 1] 24)) := (Below.refl _ W0).alloc (Nat.le_refl _) _
  have hC := CfgAt.new W0 1 1 (.slice (some ⟨sb, 0, none⟩) 1 1)
  obtain ⟨W1, hW1⟩ : ∃ W1, W0.alloc (.cells #[.int .i64 1, .int .i64 1, .slice (some ⟨sb, 0, none⟩) 1 1] 24) = W1 := ⟨_, rfl⟩
  obtain ⟨cb, hcb⟩ : ∃ cb, W0.heap.size = cb := ⟨_, rfl⟩
  rw [hW1] at hB1 hC
  have hBw : Below w.heap.size w W1 := hB0.trans (hB1.mono hB0.size)
  have hsz1 : ∀ j : Nat, (([⟨#[97]⟩] : List ByteArray)[j]?.getD (⟨#[]⟩ : ByteArray)).size ≤ maxLen := fun j => by
    cases j with
    | zero => show (1 : Nat) ≤ maxLen; unfold maxLen; omega
    | succ j => show (0 : Nat) ≤ maxLen; omega
  have hg := cnew_walk 0 0 1 1 1 1 W0.heap.size (some ⟨sb, 0, none⟩) 1 1 [⟨#[97]⟩] (some ⟨sb, 0, none⟩) 1 1 [⟨#[97]⟩] ⟨#[107]⟩ W1 E (hE.below hBw (Nat.le_refl _)) rfl (Nat.le_refl _) (by omega) (fun e => by cases e) hsz1 (by rw [← hsb]; exact hT.below hB1) rfl (Nat.le_refl _) (by omega) (fun e => by cases e) hsz1 (by rw [← hsb]; exact hT.below hB1) hB1.size (by show (1 : Nat) ≤ maxLen; unfold maxLen; omega)
  rw [carriedF] at hg
  have Hg := Lib.hid hg
  have HB := Lib.hid hBw
  have HW := Lib.hid (And.intro hW0 (And.intro hsb (And.intro hW1 hcb)))
  rw [hcb] at hC
  obtain ⟨c0, c1, c2⟩ := hC
  clear hg hB0 hB1 hT hBw hE hsz1
  go_enter Tryz.func5, Tryz.ntmps5
  go_wp2_with fail
  clear hW0 hsb hW1 hcb
  refine Hg.out.mono ?_
  rintro e w2 ⟨pv, ev, rfl, hb2, ⟨h9, _⟩ | ⟨_, rfl, ab, bm, ma, mc, na, nc, hX, rfl⟩⟩
  · exact absurd rfl h9
  have hok : CarOk (newC 0 1 1 [⟨#[97]⟩] 1 1 [⟨#[97]⟩] 0 ⟨#[107]⟩) := newC_ok (by rw [carriedF]) (by omega)
  have HX := Lib.hid (And.intro hX (HB.out.trans (hb2.mono HB.out.size)))
  have Hbe := Lib.hid (cbegin_walk _ w2 ab bm ma mc na nc _ hX hok rfl)
  have hlt := hX.x.talk.lt ab hX.x.talk.hF
  clear hX hb2 hok c0 c1 c2
  go_wp2_with fail
  refine Hbe.out.mono ?_
  rintro e w3 ⟨hb3, a3, c3, rfl, _, _, _, h4⟩
  have e1 : sendT (newC 0 1 1 [⟨#[97]⟩] 1 1 [⟨#[97]⟩] 0 ⟨#[107]⟩).t kSeal' (fun _ => []) = [⟨⟨#[109, 111, 118, 101, 114]⟩, ⟨#[97]⟩, kSeal', ⟨#[107]⟩, 0, 0, false, []⟩] := by rfl
  rw [e1] at h4 ⊢
  have c15 : w2.cell? ⟨ab, 16, none⟩ = some (.string kSealing) := HX.out.1.x.cell 7 (by show 7 < 8; decide)
  have d15 := (hb3.cell (p := ⟨ab, 16, none⟩) hlt).trans c15
  have Hst := Lib.hid (cstate_walk w3 ab _ d15)
  have H3 := Lib.hid (HX.out.2.trans (hb3.mono HX.out.2.size))
  unfold kSealing at Hst
  rcases h4 with h4 | ⟨b, off, rfl, _, hlb, hm⟩
  · cases h4
  have hm0 := hm 0 (by show 0 < 1; decide)
  obtain ⟨k0, k1, k2, _⟩ := hm0
  unfold kSeal' at k2
  dsimp only [List.getElem?_cons_zero, Option.getD_some, List.length_cons, List.length_nil, Nat.zero_add] at k0 k1 k2 ⊢
  rw [Nat.zero_mul, Nat.add_zero] at k0 k1 k2
  clear hm hb3 c15 d15 e1
  go_wp2_with fail
  refine Hst.out.mono ?_
  rintro e w4 ⟨rfl, rfl⟩
  go_wp2
  go_ret
  exact ⟨rfl, H3.out⟩
def DuoC (w0 w : World) (ab mo : Nat) (na1 : Option Addr) (nc1 : Nat) (na : Option Addr) (nc : Nat) (a1 a2 : AskS) (F G : Nat → Prop) : Prop :=
  (∃ bm ma mc, CarX F w ab bm ma mc na1 nc1 a1) ∧ (∃ ma mc fv lv us, RAskAt (fun b => b < w0.heap.size) G w mo ma mc na nc fv lv us a2) ∧ (∀ b, F b → w0.heap.size ≤ b) ∧ (∀ b, F b → ¬ G b) ∧ Below w0.heap.size w0 w
theorem DuoC.below {w0 w w' : World} {ab mo : Nat} {na1 : Option Addr} {nc1 : Nat} {na : Option Addr} {nc : Nat} {a1 a2 : AskS} {F G : Nat → Prop} (h : DuoC w0 w ab mo na1 nc1 na nc a1 a2 F G) (hb : Below w.heap.size w w') : DuoC w0 w' ab mo na1 nc1 na nc a1 a2 F G := by
  obtain ⟨⟨bm, ma, mc, h1⟩, ⟨ma2, mc2, fv, lv, us, h2⟩, h3, h4, h5⟩ := h
  exact ⟨⟨bm, ma, mc, h1.below hb⟩, ⟨ma2, mc2, fv, lv, us, h2.below hb (Nat.le_refl _)⟩, h3, h4, h5.trans (hb.mono h5.size)⟩
theorem DuoC.hear1 {w0 w w' : World} {ab mo : Nat} {na1 : Option Addr} {nc1 : Nat} {na : Option Addr} {nc : Nat} {a1 a2 : AskS} {F G : Nat → Prop} {m : Msg} {e : Ending} (h : DuoC w0 w ab mo na1 nc1 na nc a1 a2 F G) (hp : CarPost F w w' ab na1 nc1 a1 m e) :
    ∃ F' a5 c5, e = .returned (.slice a5 (askHear a1 m).2.length c5) ∧ DuoC w0 w' ab mo na1 nc1 na nc (askHear a1 m).1 a2 F' G ∧ MsgsS (fun b => ¬ F' b ∧ ¬ G b) w' a5 (askHear a1 m).2 := by
  obtain ⟨_, ⟨ma2, mc2, fv, lv, us, h2⟩, h3, h4, h5⟩ := h
  obtain ⟨F', bm', ma, mc, k1, k2, k3, a5, c5, rfl, _, _, _, k4⟩ := hp
  refine ⟨F', a5, c5, rfl, ⟨⟨bm', ma, mc, k3⟩, ⟨ma2, mc2, fv, lv, us, h2.kept k2 (fun b hg hf => h4 b hf hg) (fun b _ hs hf => by have h9 := h3 b hf; (try dsimp only at hs); omega)⟩, fun b hb => ?_, fun b hb hg => ?_, h5.trans (k2.below h5.size h3)⟩, k4.mono (fun b _ hb => ⟨hb.2, fun hg => ?_⟩)⟩
  · rcases k1 b hb with h9 | h9
    · exact h3 b h9
    · exact Nat.le_trans h5.size h9
  · rcases k1 b hb with h9 | h9
    · exact h4 b h9 hg
    · have := h2.lt b hg; omega
  · have := h2.lt b hg
    have := hb.1
    omega
theorem DuoC.hear2 {w0 w w' : World} {ab mo : Nat} {na1 : Option Addr} {nc1 : Nat} {na : Option Addr} {nc : Nat} {a1 a2 : AskS} {F G : Nat → Prop} {m : Msg} {e : Ending} {a : Option Addr} {l1 : List Msg} (h : DuoC w0 w ab mo na1 nc1 na nc a1 a2 F G) (hp : RAskPost (fun b => b < w0.heap.size) G w w' mo na nc a2 m e) (hv : MsgsS (fun b => ¬ F b ∧ ¬ G b) w a l1) :
    ∃ G' a8 c8, e = .returned (.slice a8 (askHear a2 m).2.length c8) ∧ DuoC w0 w' ab mo na1 nc1 na nc a1 (askHear a2 m).1 F G' ∧ MsgsR w'.heap.size w' a l1 ∧ MsgsR w'.heap.size w' a8 (askHear a2 m).2 := by
  obtain ⟨⟨bm, ma, mc, h1⟩, ⟨_, _, _, _, _, h2⟩, h3, h4, h5⟩ := h
  obtain ⟨G', ma2, mc2, fv, lv, us, k1, k2, k3, a8, c8, rfl, _, _, _, k4⟩ := hp
  have hG0 : ∀ b, G b → w0.heap.size ≤ b := fun b hb => by
    rcases Nat.lt_or_ge b w0.heap.size with h9 | h9
    · exact absurd hb (h2.dis b h9)
    · exact h9
  refine ⟨G', a8, c8, rfl, ⟨⟨bm, ma, mc, h1.kept k2 (fun b hf => h4 b hf)⟩, ⟨ma2, mc2, fv, lv, us, k3⟩, h3, fun b hf hg => ?_, h5.trans (k2.below h5.size hG0)⟩, (hv.kept k2 (fun b _ hb => hb.2)).read, k4.read⟩
  rcases k1 b hg with h9 | h9
  · exact h4 b hf h9
  · have := h1.x.talk.lt b hf; omega
theorem DuoC.back {w0 w w' : World} {ab mo : Nat} {na1 : Option Addr} {nc1 : Nat} {na : Option Addr} {nc : Nat} {a1 a2 : AskS} {F G : Nat → Prop} {v : Value} {l1 : List Msg} (h : DuoC w0 w ab mo na1 nc1 na nc a1 a2 F G) (hb : Below w.heap.size w w') (hv : MsgsO w.heap.size (fun b => (¬ F b ∧ ¬ G b) ∧ b < w.heap.size) w' v l1) :
    ∃ a5 c5, v = .slice a5 l1.length c5 ∧ DuoC w0 w' ab mo na1 nc1 na nc a1 a2 F G ∧ MsgsS (fun b => ¬ F b ∧ ¬ G b) w' a5 l1 := by
  obtain ⟨a5, c5, h1, h2, h3, h4, h5⟩ := hv.read
  refine ⟨a5, c5, h1, h.below hb, h5.mono (fun b hl h9 => ?_)⟩
  obtain ⟨⟨bm, ma, mc, k1⟩, ⟨_, _, _, _, _, k2⟩, _⟩ := h
  rcases h9 with h9 | h9
  · exact h9.1
  · exact ⟨fun hf => by have := k1.x.talk.lt b hf; omega, fun hg => by have := k2.lt b hg; omega⟩
theorem DuoC.hear1' {w0 w w' : World} {ab mo : Nat} {na1 : Option Addr} {nc1 : Nat} {na : Option Addr} {nc : Nat} {a1 a2 A2 : AskS} {F G : Nat → Prop} {n1 : Nat} {m : Msg} {l1 : List Msg} {e : Ending} (h : DuoC w0 w ab mo na1 nc1 na nc a1 a2 F G) (hp : CarPost F w w' ab na1 nc1 a1 m e) (hA : (askHear a1 m).1 = A2) (hl : (askHear a1 m).2 = l1) (hn : l1.length = n1) :
    ∃ F' a5 c5, e = .returned (.slice a5 n1 c5) ∧ DuoC w0 w' ab mo na1 nc1 na nc A2 a2 F' G ∧ MsgsS (fun b => ¬ F' b ∧ ¬ G b) w' a5 l1 := by
  subst hA hl hn
  exact h.hear1 hp
theorem DuoC.hear2' {w0 w w' : World} {ab mo : Nat} {na1 : Option Addr} {nc1 : Nat} {na : Option Addr} {nc : Nat} {a1 a2 A2 : AskS} {F G : Nat → Prop} {m : Msg} {e : Ending} {a : Option Addr} {n1 : Nat} {l1 : List Msg} (h : DuoC w0 w ab mo na1 nc1 na nc a1 a2 F G) (hp : RAskPost (fun b => b < w0.heap.size) G w w' mo na nc a2 m e) (hv : MsgsS (fun b => ¬ F b ∧ ¬ G b) w a l1) (hA : (askHear a2 m).1 = A2) (hl : (askHear a2 m).2 = l1) (hn : l1.length = n1) :
    ∃ G' a8 c8, e = .returned (.slice a8 n1 c8) ∧ DuoC w0 w' ab mo na1 nc1 na nc a1 A2 F G' ∧ MsgsR w'.heap.size w' a l1 ∧ MsgsR w'.heap.size w' a8 l1 := by
  subst hA hl hn
  exact h.hear2 hp hv
theorem DuoC.back' {w0 w w' : World} {ab mo : Nat} {na1 : Option Addr} {nc1 : Nat} {na : Option Addr} {nc : Nat} {a1 a2 : AskS} {F G : Nat → Prop} {v : Value} {n1 : Nat} {l1 : List Msg} (h : DuoC w0 w ab mo na1 nc1 na nc a1 a2 F G) (hb : Below w.heap.size w w') (hv : MsgsO w.heap.size (fun b => (¬ F b ∧ ¬ G b) ∧ b < w.heap.size) w' v l1) (hn : l1.length = n1) :
    ∃ a5 c5, v = .slice a5 n1 c5 ∧ DuoC w0 w' ab mo na1 nc1 na nc a1 a2 F G ∧ MsgsS (fun b => ¬ F b ∧ ¬ G b) w' a5 l1 := by
  subst hn
  exact h.back hb hv
theorem DuoC.state {w0 w : World} {ab mo : Nat} {na1 : Option Addr} {nc1 : Nat} {na : Option Addr} {nc : Nat} {a1 a2 : AskS} {F G : Nat → Prop} (h : DuoC w0 w ab mo na1 nc1 na nc a1 a2 F G) : w.cell? ⟨ab, 16, none⟩ = some (.string (stT a1)) := by
  obtain ⟨⟨bm, ma, mc, hX⟩, _⟩ := h
  exact hX.x.cell 7 (by show 7 < 8; decide)
theorem DuoC.state2 {w0 w : World} {ab mo : Nat} {na1 : Option Addr} {nc1 : Nat} {na : Option Addr} {nc : Nat} {a1 a2 : AskS} {F G : Nat → Prop} (h : DuoC w0 w ab mo na1 nc1 na nc a1 a2 F G) : w.cell? ⟨mo, 13, none⟩ = some (.string (stT a2)) ∧ w.cell? ⟨mo, 16, none⟩ = some (.int .i64 a2.tag.1) ∧ w.cell? ⟨mo, 17, none⟩ = some (.int .i64 a2.tag.2) ∧ w.cell? ⟨mo, 18, none⟩ = some (.string a2.text) ∧ w.cell? ⟨mo, 19, none⟩ = some (.bool a2.found) := by
  obtain ⟨_, ⟨_, _, _, _, _, hR⟩, _⟩ := h
  exact ⟨hR.cs.cell 13 (by show 13 < 20; decide), hR.cs.cell 16 (by show 16 < 20; decide), hR.cs.cell 17 (by show 17 < 20; decide), hR.cs.cell 18 (by show 18 < 20; decide), hR.cs.cell 19 (by show 19 < 20; decide)⟩
theorem cans_no {a : AskS} (h : CarOk a) (hn : ¬ (a.st = 2 ∧ a.found = true)) : ansE a = .returned (.tuple #[.agg #[.int .i64 0, .int .i64 0], .string ⟨#[]⟩, .bool false]) := by
  unfold ansE
  by_cases h2 : a.st = 2
  · have h3 : a.found = false := by
      cases hf : a.found with
      | false => rfl
      | true => exact absurd ⟨h2, hf⟩ hn
    obtain ⟨h4, h5⟩ := h.fz h2 h3
    rw [if_pos h2, h3, h4, h5]
  · rw [if_neg h2]
theorem cst_text {a : AskS} (h : CarOk a) : (a.st = 2 ∧ a.found = true ∧ stT a = ⟨#[100, 111, 110, 101]⟩) ∨ (¬ (a.st = 2 ∧ a.found = true) ∧ a.found = false ∧ stT a = ⟨#[100, 111, 110, 101]⟩) ∨ (¬ (a.st = 2 ∧ a.found = true) ∧ (stT a = ⟨#[115, 101, 97, 108, 105, 110, 103]⟩ ∨ stT a = ⟨#[107, 101, 101, 112, 105, 110, 103]⟩ ∨ stT a = ⟨#[114, 101, 102, 117, 115, 101, 100]⟩)) := by
  have hst := h.st
  have hm := h.mv
  have hc : a.st = 0 ∨ a.st = 1 ∨ a.st = 2 ∨ a.st = 3 := by omega
  unfold stT
  rcases hc with e | e | e | e
  · right; right
    refine ⟨by omega, .inl ?_⟩
    rw [if_pos e, if_pos hm]; rfl
  · right; right
    refine ⟨by omega, .inr (.inl ?_)⟩
    rw [if_neg (by omega), if_pos e]; rfl
  · rw [if_neg (by omega), if_neg (by omega), if_pos e]
    cases hf : a.found with
    | true => exact .inl ⟨e, rfl, rfl⟩
    | false => exact .inr (.inl ⟨by simp, rfl, rfl⟩)
  · right; right
    refine ⟨by omega, .inr (.inr ?_)⟩
    rw [if_neg (by omega), if_neg (by omega), if_neg (by omega)]; rfl
def rNewC (op n k : Int) (a : Option Addr) (len cap : Nat) (n2 k2 : Int) (a2 : Option Addr) (len2 cap2 : Nat) (cf : Int) (key : ByteArray) : List Value :=
  [.string kMover, .string key, .int .i64 0, .int .i64 op, .int .i64 cf, .int .i64 n, .int .i64 k, .slice a len cap, .int .i64 n2, .int .i64 k2, .slice a2 len2 cap2, .bool false, .bool true, .string kSealing, .slice none 0 0, .slice none 0 0, .int .i64 0, .int .i64 0, .string ⟨#[]⟩, .bool false]
theorem DuoC.fresh {w W V : World} {ab bm mo : Nat} {ma : Option Addr} {mc : Nat} {na1 : Option Addr} {nc1 : Nat} {F : Nat → Prop} {op n k n2 k2 cf : Int} {L L2 : List ByteArray} {key : ByteArray} {a : Option Addr} {len cap : Nat} {a2 : Option Addr} {len2 cap2 : Nat} (hX : CarX F W ab bm ma mc na1 nc1 (newC op n k L n2 k2 L2 cf key))
    (hF : ∀ b, F b → w.heap.size ≤ b) (hw : w.heap.size ≤ W.heap.size) (hb : Below w.heap.size w V) (hWV : Below W.heap.size W V) (hmo : W.heap.size ≤ mo) (hc : CellsAt V mo (rNewC op n k a len cap n2 k2 a2 len2 cap2 cf key)) (hn : 0 ≤ n) (hk : 0 ≤ k) (hn2 : 0 ≤ n2) (hk2 : 0 ≤ k2) (hlen : L.length = len) (hm : len ≤ cap ∧ cap ≤ maxLen ∧ (a = none → cap = 0)) (hT : TxsAt w.heap.size w a L)
    (hlen2 : L2.length = len2) (hm2 : len2 ≤ cap2 ∧ cap2 ≤ maxLen ∧ (a2 = none → cap2 = 0)) (hT2 : TxsAt w.heap.size w a2 L2) :
    DuoC w V ab mo na1 nc1 a2 cap2 (newC op n k L n2 k2 L2 cf key) (newC op n k L n2 k2 L2 cf key) F (fun b => b = mo) := by
  subst hlen hlen2
  have key' : ∀ {a : Option Addr} {L : List ByteArray}, TxsAt w.heap.size w a L → TxsS (fun b => b < w.heap.size) V a L := fun {a L} hT => by
    rcases hT with e | ⟨b, off, e, hb9, hcc⟩
    · exact .inl e
    · exact .inr ⟨b, off, e, hb9, Nat.lt_of_lt_of_le hb9 hb.size, fun j hj => (hb.cell (p := ⟨b, off + j, none⟩) hb9).trans (hcc j hj)⟩
  refine ⟨⟨bm, ma, mc, hX.below hWV⟩, ⟨a, cap, .slice none 0 0, .slice none 0 0, [], rfl, fun b e => by rw [e]; exact hc.lt, ?_, OwnT.nil _ _, OwnVs.nil _ _, fun g e => by simp [Value.ownBlock] at e, fun g e => by simp [Value.ownBlock] at e, fun i hi => by simp at hi, hm, key' hT, hm2, key' hT2, fun b hb9 e => by omega⟩, hF, fun b hf e => by have := hX.x.talk.lt b hf; omega, hb⟩
  have e : rAskV (newC op n k L n2 k2 L2 cf key) (.slice a L.length cap) (.slice a2 L2.length cap2) (.slice none 0 0) (.slice none 0 0) = rNewC op n k a L.length cap n2 k2 a2 L2.length cap2 cf key := by
    unfold rAskV rNewC newC
    dsimp only
    rw [Int.toNat_of_nonneg hn, Int.toNat_of_nonneg hk, Int.toNat_of_nonneg hn2, Int.toNat_of_nonneg hk2]
    rfl
  show CellsAt V mo (rAskV (newC op n k L n2 k2 L2 cf key) (.slice a L.length cap) (.slice a2 L2.length cap2) (.slice none 0 0) (.slice none 0 0))
  rw [e]
  exact hc
def CarI (w wr : World) (ab mo : Nat) (na1 : Option Addr) (nc1 : Nat) (na : Option Addr) (nc : Nat) (l : List Msg) (i : Nat) : Prop := ∃ F G a, DuoC w wr ab mo na1 nc1 na nc a a F G ∧ CarOk a ∧ totV (a.t.got.map (·.2)) ≤ totL l i
end
end Go.Proofs.YtabboioamdphmaaGreatDoor

