/- What the law AskHears needs of both asks at the start. -/
import Derived.Test.YtabboioamdphmaaGreatDoorKAskHears36
import Derived.Test.YtabboioamdphmaaGreatDoorKAskHears38
import Derived.Test.YtabboioamdphmaaGreatDoorKAskHears40
import Derived.Test.YtabboioamdphmaaGreatDoorKAskHears45
import Derived.Test.YtabboioamdphmaaGreatDoorKAskHears46
import Derived.Test.YtabboioamdphmaaGreatDoorKAskHears30
import Derived.Test.YtabboioamdphmaaGreatDoorKAskHears29
namespace Go.Proofs.YtabboioamdphmaaGreatDoor
section
open Go.RowKit Go.Maps Go.BigFrame

theorem BeginOut.ret {w w' : World} {E : Nat → Addr} {F : Nat × Int} {a0 : AskS} {e : Ending} (h : BeginOut w w' E F a0 e) : ∃ pv ev, e = .returned (.tuple #[pv, ev]) ∧ Below w.heap.size w w' ∧
    ((F.1 ≠ 0 ∧ pv = .pointer none ∧ FltV w' E F ev) ∨ (F.1 = 0 ∧ ev = .nilIface ∧ ∃ ab bm ma mc, TalkX (fun b => w.heap.size ≤ b ∧ b < w'.heap.size) w' ab bm ma mc a0.t (askV a0) ∧ pv = .pointer (some ⟨ab, 0, none⟩))) := by
  obtain ⟨hb, ⟨h0, v, _, hv, rfl⟩ | ⟨h0, ab, bm, ma, mc, hX, rfl⟩⟩ := h
  · exact ⟨_, _, rfl, hb, .inl ⟨h0, rfl, hv⟩⟩
  · exact ⟨_, _, rfl, hb, .inr ⟨h0, rfl, ab, bm, ma, mc, hX, rfl⟩⟩
theorem bidF_zero' {who op n k : Int} {L : List ByteArray} {cf : Int} {key : ByteArray} {tsz : Nat} (h : (bidF who op n k L cf key tsz).1 = 0) : bidF who op n k L cf key tsz = (0, -1) := by
  obtain ⟨h1, h2, h3⟩ := bidF_zero h
  exact bidF_ok h1 h2 h3
/-- the cells of the document's ask of a client, at its start. -/
def rNewV (who op n k : Int) (a : Option Addr) (len cap : Nat) (cf : Int) (key text : ByteArray) (put : Bool) : List Value :=
  [.string (⟨#[99]⟩ ++ digT who.toNat), .string key, .int .i64 who, .int .i64 op, .int .i64 cf, .int .i64 n, .int .i64 k, .slice a len cap, .int .i64 0, .int .i64 0, .slice none 0 0, .bool put, .bool false, .string kLooking, .slice none 0 0, .slice none 0 0, .int .i64 0, .int .i64 0, .string text, .bool false]
theorem DuoAt.fresh {w W V : World} {ab bm mo : Nat} {ma : Option Addr} {mc : Nat} {F : Nat → Prop} {who op n k cf : Int} {L : List ByteArray} {key text : ByteArray} {put : Bool} {a : Option Addr} {len cap : Nat} (hX : TalkX F W ab bm ma mc (newA who op n k L cf key text put).t (askV (newA who op n k L cf key text put)))
    (hF : ∀ b, F b → w.heap.size ≤ b) (hw : w.heap.size ≤ W.heap.size) (hb : Below w.heap.size w V) (hWV : Below W.heap.size W V) (hmo : W.heap.size ≤ mo) (hc : CellsAt V mo (rNewV who op n k a len cap cf key text put)) (hn : 0 ≤ n) (hk : 0 ≤ k) (hlen : L.length = len) (hm : len ≤ cap ∧ cap ≤ maxLen ∧ (a = none → cap = 0)) (hT : TxsAt w.heap.size w a L) :
    DuoAt askV w V ab mo none 0 (newA who op n k L cf key text put) (newA who op n k L cf key text put) F (fun b => b = mo) := by
  subst hlen
  refine ⟨⟨bm, ma, mc, hX.below hWV (Nat.le_refl _)⟩, ⟨a, cap, .slice none 0 0, .slice none 0 0, [], rfl, fun b e => by rw [e]; exact hc.lt, ?_, OwnT.nil _ _, OwnVs.nil _ _, fun g e => by simp [Value.ownBlock] at e, fun g e => by simp [Value.ownBlock] at e, fun i hi => by simp at hi, hm, ?_, ⟨Nat.le_refl _, Nat.zero_le _, fun _ => rfl⟩, .inl rfl, fun b hb9 e => by omega⟩, hF, fun b hf e => by have := hX.talk.lt b hf; omega, hb⟩
  · have e : rAskV (newA who op n k L cf key text put) (.slice a L.length cap) (.slice none 0 0) (.slice none 0 0) (.slice none 0 0) = rNewV who op n k a L.length cap cf key text put := by
      unfold rAskV rNewV newA
      dsimp only
      rw [Int.toNat_of_nonneg hn, Int.toNat_of_nonneg hk]
      rfl
    show CellsAt V mo (rAskV (newA who op n k L cf key text put) (.slice a L.length cap) (.slice none 0 0) (.slice none 0 0) (.slice none 0 0))
    rw [e]
    exact hc
  · rcases hT with e | ⟨b, off, e, hb9, hcc⟩
    · exact .inl e
    · exact .inr ⟨b, off, e, hb9, Nat.lt_of_lt_of_le hb9 hb.size, fun j hj => (hb.cell (p := ⟨b, off + j, none⟩) hb9).trans (hcc j hj)⟩
theorem newA_sound {who op n k cf : Int} {L : List ByteArray} {key text : ByteArray} {put : Bool} (h : (configF n k L).1 = 0) (ht : text.size ≤ 1000) : AskOk (newA who op n k L cf key text put) :=
  ⟨newA_ok h, rfl, Nat.zero_le _, fun _ => rfl, ht, fun h9 => (by cases h9), fun h9 => (by cases h9)⟩
/-- both asks, and that they are sound. -/
def DuoI (w wr : World) (ab mo : Nat) (l : List Msg) (i : Nat) : Prop := ∃ F G a, DuoAt askV w wr ab mo none 0 a a F G ∧ AskOk a ∧ totV (a.t.got.map (·.2)) ≤ totL l i
theorem msgs_tot : ∀ l : List Msg, 2 * (l.map fun m => m.L.length).sum ≤ msgsbulk l
  | [] => by simp [msgsbulk]
  | m :: l => by
    have h1 := msgs_tot l
    have h2 := vsbulk_length m.L
    unfold msgsbulk at h1 ⊢
    simp only [List.map_cons, List.sum_cons]
    unfold mbulk at h1 ⊢
    omega
theorem totL_bulk (l : List Msg) (i : Nat) (h : msgsbulk l ≤ 1048576) : totL l i ≤ 524288 := by
  have h1 := totL_le l i
  have h2 := msgs_tot l
  unfold totL at h1 ⊢
  rw [List.take_length] at h1
  omega
theorem DuoAt.hear1' {w0 w w' : World} {ab mo : Nat} {na : Option Addr} {nc : Nat} {a1 a2 A2 : AskS} {F G : Nat → Prop} {ma : Option Addr} {mc n1 : Nat} {m : Msg} {l1 : List Msg} {e : Ending} (h : DuoAt askV w0 w ab mo na nc a1 a2 F G) (hp : AskPost F w w' ab ma mc a1 m e) (hA : (askHear a1 m).1 = A2) (hl : (askHear a1 m).2 = l1) (hn : l1.length = n1) :
    ∃ F' a5 c5, e = .returned (.slice a5 n1 c5) ∧ DuoAt askV w0 w' ab mo na nc A2 a2 F' G ∧ MsgsS (fun b => ¬ F' b ∧ ¬ G b) w' a5 l1 := by
  subst hA hl hn
  exact h.hear1 hp
theorem DuoAt.hear2' {vV : AskS → List Value} {w0 w w' : World} {ab mo : Nat} {na : Option Addr} {nc : Nat} {a1 a2 A2 : AskS} {F G : Nat → Prop} {m : Msg} {e : Ending} {a : Option Addr} {n1 : Nat} {l1 : List Msg} (h : DuoAt vV w0 w ab mo na nc a1 a2 F G) (hp : RAskPost (fun b => b < w0.heap.size) G w w' mo na nc a2 m e) (hv : MsgsS (fun b => ¬ F b ∧ ¬ G b) w a l1) (hA : (askHear a2 m).1 = A2) (hl : (askHear a2 m).2 = l1) (hn : l1.length = n1) :
    ∃ G' a8 c8, e = .returned (.slice a8 n1 c8) ∧ DuoAt vV w0 w' ab mo na nc a1 A2 F G' ∧ MsgsR w'.heap.size w' a l1 ∧ MsgsR w'.heap.size w' a8 l1 := by
  subst hA hl hn
  exact h.hear2 hp hv
theorem DuoAt.back' {vV : AskS → List Value} {w0 w w' : World} {ab mo : Nat} {na : Option Addr} {nc : Nat} {a1 a2 : AskS} {F G : Nat → Prop} {v : Value} {n1 : Nat} {l1 : List Msg} (h : DuoAt vV w0 w ab mo na nc a1 a2 F G) (hb : Below w.heap.size w w') (hv : MsgsO w.heap.size (fun b => (¬ F b ∧ ¬ G b) ∧ b < w.heap.size) w' v l1) (hn : l1.length = n1) :
    ∃ a5 c5, v = .slice a5 n1 c5 ∧ DuoAt vV w0 w' ab mo na nc a1 a2 F G ∧ MsgsS (fun b => ¬ F b ∧ ¬ G b) w' a5 l1 := by
  subst hn
  exact h.back hb hv
theorem DuoAt.state {w0 w : World} {ab mo : Nat} {na : Option Addr} {nc : Nat} {a1 a2 : AskS} {F G : Nat → Prop} (h : DuoAt askV w0 w ab mo na nc a1 a2 F G) : w.cell? ⟨ab, 15, none⟩ = some (.string (stT a1)) := by
  obtain ⟨⟨bm, ma, mc, hX⟩, _⟩ := h
  exact hX.cell 6 (by show 6 < 7; decide)
theorem DuoAt.state2 {vV : AskS → List Value} {w0 w : World} {ab mo : Nat} {na : Option Addr} {nc : Nat} {a1 a2 : AskS} {F G : Nat → Prop} (h : DuoAt vV w0 w ab mo na nc a1 a2 F G) : w.cell? ⟨mo, 13, none⟩ = some (.string (stT a2)) ∧ w.cell? ⟨mo, 16, none⟩ = some (.int .i64 a2.tag.1) ∧ w.cell? ⟨mo, 17, none⟩ = some (.int .i64 a2.tag.2) ∧ w.cell? ⟨mo, 18, none⟩ = some (.string a2.text) ∧ w.cell? ⟨mo, 19, none⟩ = some (.bool a2.found) := by
  obtain ⟨_, ⟨_, _, _, _, _, hR⟩, _⟩ := h
  exact ⟨hR.cs.cell 13 (by show 13 < 20; decide), hR.cs.cell 16 (by show 16 < 20; decide), hR.cs.cell 17 (by show 17 < 20; decide), hR.cs.cell 18 (by show 18 < 20; decide), hR.cs.cell 19 (by show 19 < 20; decide)⟩
theorem ans_no {a : AskS} (h : AskOk a) (hn : ¬ (a.st = 2 ∧ a.found = true)) : ansE a = .returned (.tuple #[.agg #[.int .i64 0, .int .i64 0], .string ⟨#[]⟩, .bool false]) := by
  unfold ansE
  by_cases h2 : a.st = 2
  · have h3 : a.found = false := by
      cases hf : a.found with
      | false => rfl
      | true => exact absurd ⟨h2, hf⟩ hn
    obtain ⟨h4, h5⟩ := h.fz h2 h3
    rw [if_pos h2, h3, h4, h5]
  · rw [if_neg h2]
theorem ans_yes {a : AskS} (h2 : a.st = 2) (h3 : a.found = true) : ansE a = .returned (.tuple #[.agg #[.int .i64 a.tag.1, .int .i64 a.tag.2], .string a.text, .bool true]) := by
  unfold ansE
  rw [if_pos h2, h3]
theorem st_text {a : AskS} (h : AskOk a) : (a.st = 2 ∧ a.found = true ∧ stT a = ⟨#[100, 111, 110, 101]⟩) ∨ (¬ (a.st = 2 ∧ a.found = true) ∧ a.found = false ∧ stT a = ⟨#[100, 111, 110, 101]⟩) ∨ (¬ (a.st = 2 ∧ a.found = true) ∧ (stT a = ⟨#[108, 111, 111, 107, 105, 110, 103]⟩ ∨ stT a = ⟨#[107, 101, 101, 112, 105, 110, 103]⟩ ∨ stT a = ⟨#[114, 101, 102, 117, 115, 101, 100]⟩)) := by
  have hst := h.st
  have hm := h.mv
  have hc : a.st = 0 ∨ a.st = 1 ∨ a.st = 2 ∨ a.st = 3 := by omega
  unfold stT
  rcases hc with e | e | e | e
  · right; right
    refine ⟨by omega, .inl ?_⟩
    rw [if_pos e, if_neg (by rw [hm]; decide)]; rfl
  · right; right
    refine ⟨by omega, .inr (.inl ?_)⟩
    rw [if_neg (by omega), if_pos e]; rfl
  · rw [if_neg (by omega), if_neg (by omega), if_pos e]
    cases hf : a.found with
    | true => exact .inl ⟨e, rfl, rfl⟩
    | false => exact .inr (.inl ⟨by simp, rfl, rfl⟩)
  · right; right
    refine ⟨by omega, .inr (.inr ?_)⟩
    rw [if_neg (by omega), if_neg (by omega), if_neg (by omega)]; rfl
/-- a region that is held by more is held by less. -/
theorem wpAnyH_weaken {P : Program} {md : Region.Mode} {ops : Array Oper} {Q : Exit → Act → World → Prop} {S1 S2 : World → Prop} (h : ∀ w, S2 w → S1 w) : ∀ (fuel : Nat) (listed : Array Bool) (a : Act) (w : World), wpAnyH P md ops Q S2 fuel listed a w → wpAnyH P md ops Q S1 fuel listed a w
  | 0, _, _, _, h9 => h9
  | fuel + 1, _, _, _, h9 => ⟨h9.1, fun i hi => wpOp_mono (fun a' w' h' => ⟨h w' h'.1, wpAnyH_weaken h fuel _ a' w' h'.2⟩) (h9.2 i hi)⟩
end
end Go.Proofs.YtabboioamdphmaaGreatDoor

