/- Messages and versions that are read, in blocks of S. -/
import Derived.Test.YthdicfcgkbepdaaGreatDoorMsg
import Derived.Test.YthdicfcgkbepdaaGreatDoorHld
namespace Go.Proofs.YthdicfcgkbepdaaGreatDoor
section
open Go.RowKit

theorem txt_neV {a b : ByteArray} (h : a ≠ b) : (a.toList == b.toList) = false := by
  rw [beq_eq_false_iff_ne]
  intro e
  apply h
  rw [ByteArray.toList_eq, ByteArray.toList_eq] at e
  cases a; cases b
  exact congrArg ByteArray.mk (Array.toList_inj.1 e)
def kLook : ByteArray := ⟨#[108, 111, 111, 107]⟩
def kSeal' : ByteArray := ⟨#[115, 101, 97, 108]⟩
def kKeep : ByteArray := ⟨#[107, 101, 101, 112]⟩
def kTold : ByteArray := ⟨#[116, 111, 108, 100]⟩
def kSealed : ByteArray := ⟨#[115, 101, 97, 108, 101, 100]⟩
def kKept : ByteArray := ⟨#[107, 101, 112, 116]⟩
/-- versions that are read, in blocks of S. -/
def VrS (S : Nat → Prop) (w : World) (a : Option Addr) (l : List Ver) : Prop :=
  l = [] ∨ ∃ b off, a = some ⟨b, off, none⟩ ∧ S b ∧ b < w.heap.size ∧ ∀ i j, i < l.length → j < 5 → w.cell? ⟨b, off + i * 5 + j, none⟩ = (encVr (l[i]?.getD ver0))[j]?
theorem VrS.kept {S G : Nat → Prop} {A B : World} (h : KeptBut G A B) (hS : ∀ b, b < A.heap.size → S b → ¬ G b) {a : Option Addr} {l : List Ver} : VrS S A a l → VrS S B a l
  | .inl e => .inl e
  | .inr ⟨b, off, e, hb, hl, hc⟩ => .inr ⟨b, off, e, hb, Nat.lt_of_lt_of_le hl h.size, fun i j hi hj => (World.cell?_of_block (a := ⟨b, off + i * 5 + j, none⟩) (h.block b hl (hS b hl hb))).trans (hc i j hi hj)⟩
theorem VrS.below {S : Nat → Prop} {A B : World} (h : Below A.heap.size A B) {a : Option Addr} {l : List Ver} (hv : VrS S A a l) : VrS S B a l := hv.kept (KeptBut.of_below (F := fun b => A.heap.size ≤ b) h (fun _ _ h => h)) (fun b hb _ => by omega)
theorem VrS.mono {S T : Nat → Prop} {A : World} (h : ∀ b, S b → T b) {a : Option Addr} {l : List Ver} : VrS S A a l → VrS T A a l
  | .inl e => .inl e
  | .inr ⟨b, off, e, hb, hl, hc⟩ => .inr ⟨b, off, e, h b hb, hl, hc⟩
theorem VrS.read {S : Nat → Prop} {A : World} {a : Option Addr} {l : List Ver} : VrS S A a l → VrR A.heap.size A a l
  | .inl e => .inl e
  | .inr ⟨b, off, e, _, hl, hc⟩ => .inr ⟨b, off, e, hl, hc⟩
theorem OwnV.readS {B : Nat} {w : World} {v : Value} {l : List Ver} (h : OwnV B w v l) : ∃ a cap, v = .slice a l.length cap ∧ l.length ≤ cap ∧ cap ≤ maxLen ∧ (a = none → cap = 0) ∧ VrS (fun b => B ≤ b) w a l := by
  have hlt := h.lt
  obtain ⟨a, cap, rfl, h1, h2, h3, h4⟩ := h.read
  refine ⟨a, cap, rfl, h1, h2, h3, ?_⟩
  rcases h4 with e | ⟨b, off, rfl, hb, hc⟩
  · exact .inl e
  · by_cases hl : l = []
    · exact .inl hl
    · refine .inr ⟨b, off, rfl, ?_, hb, hc⟩
      rcases h.2 with ⟨e, hn⟩ | ⟨g, cap', cur, e, hbb, _⟩
      · simp at e
      · simp only [Value.slice.injEq, Option.some.injEq] at e
        have := congrArg Addr.block e.1
        simp at this
        omega
/-- a message that is read, in blocks of S. -/
def MsgAtS (S : Nat → Prop) (w : World) (b o : Nat) (m : Msg) : Prop :=
  w.cell? ⟨b, o, none⟩ = some (.string m.fr) ∧ w.cell? ⟨b, o + 1, none⟩ = some (.string m.dst) ∧ w.cell? ⟨b, o + 2, none⟩ = some (.string m.kind) ∧ w.cell? ⟨b, o + 3, none⟩ = some (.string m.key) ∧
  w.cell? ⟨b, o + 4, none⟩ = some (.int .i64 m.op) ∧ w.cell? ⟨b, o + 5, none⟩ = some (.int .i64 m.cf) ∧ w.cell? ⟨b, o + 6, none⟩ = some (.bool m.sl) ∧
  ∃ ad cap, w.cell? ⟨b, o + 7, none⟩ = some (.slice ad m.L.length cap) ∧ m.L.length ≤ cap ∧ cap ≤ maxLen ∧ (ad = none → cap = 0) ∧ VrS S w ad m.L
theorem MsgAtS.kept {S G : Nat → Prop} {A B : World} (h : KeptBut G A B) (hS : ∀ b, b < A.heap.size → S b → ¬ G b) {b o : Nat} {m : Msg} (hb : S b) (hl : b < A.heap.size) (hm : MsgAtS S A b o m) : MsgAtS S B b o m := by
  obtain ⟨h0, h1, h2, h3, h4, h5, h6, ad, cap, h7, h8, h9, h10, h11⟩ := hm
  have c : ∀ {o v}, A.cell? ⟨b, o, none⟩ = some v → B.cell? ⟨b, o, none⟩ = some v := fun {o v} h9 => (World.cell?_of_block (a := ⟨b, o, none⟩) (h.block b hl (hS b hl hb))).trans h9
  exact ⟨c h0, c h1, c h2, c h3, c h4, c h5, c h6, ad, cap, c h7, h8, h9, h10, h11.kept h hS⟩
theorem MsgAtS.read {S : Nat → Prop} {w : World} {b o : Nat} {m : Msg} (hm : MsgAtS S w b o m) : MsgAt w.heap.size w b o m := by
  obtain ⟨h0, h1, h2, h3, h4, h5, h6, ad, cap, h7, h8, h9, h10, h11⟩ := hm
  exact ⟨h0, h1, h2, h3, h4, h5, h6, ad, cap, h7, h8, h9, h10, h11.read⟩
def MsgsS (S : Nat → Prop) (w : World) (a : Option Addr) (l : List Msg) : Prop :=
  l = [] ∨ ∃ b off, a = some ⟨b, off, none⟩ ∧ S b ∧ b < w.heap.size ∧ ∀ i, i < l.length → MsgAtS S w b (off + i * 8) (l[i]?.getD msg0)
theorem MsgsS.kept {S G : Nat → Prop} {A B : World} (h : KeptBut G A B) (hS : ∀ b, b < A.heap.size → S b → ¬ G b) {a : Option Addr} {l : List Msg} : MsgsS S A a l → MsgsS S B a l
  | .inl e => .inl e
  | .inr ⟨b, off, e, hb, hl, hc⟩ => .inr ⟨b, off, e, hb, Nat.lt_of_lt_of_le hl h.size, fun i hi => (hc i hi).kept h hS hb hl⟩
theorem MsgsS.below {S : Nat → Prop} {A B : World} (h : Below A.heap.size A B) {a : Option Addr} {l : List Msg} (hv : MsgsS S A a l) : MsgsS S B a l := hv.kept (KeptBut.of_below (F := fun b => A.heap.size ≤ b) h (fun _ _ h => h)) (fun b hb _ => by omega)
theorem MsgsS.read {S : Nat → Prop} {w : World} {a : Option Addr} {l : List Msg} : MsgsS S w a l → MsgsR w.heap.size w a l
  | .inl e => .inl e
  | .inr ⟨b, off, e, _, hl, hc⟩ => .inr ⟨b, off, e, hl, fun i hi => (hc i hi).read⟩
/-- messages that are handed back. -/
def RetMsgs (S : Nat → Prop) (w : World) (e : Ending) (l : List Msg) : Prop := ∃ a cap, e = .returned (.slice a l.length cap) ∧ l.length ≤ cap ∧ cap ≤ maxLen ∧ (a = none → cap = 0) ∧ MsgsS S w a l
theorem RetMsgs.nil (S : Nat → Prop) (w : World) : RetMsgs S w (.returned (.slice none 0 0)) [] := ⟨none, 0, rfl, Nat.le_refl _, by simp [maxLen], fun _ => rfl, .inl rfl⟩
theorem VrS.mono2 {S T : Nat → Prop} {A : World} (h : ∀ b, b < A.heap.size → S b → T b) {a : Option Addr} {l : List Ver} : VrS S A a l → VrS T A a l
  | .inl e => .inl e
  | .inr ⟨b, off, e, hb, hl, hc⟩ => .inr ⟨b, off, e, h b hl hb, hl, hc⟩
end
end Go.Proofs.YthdicfcgkbepdaaGreatDoor

