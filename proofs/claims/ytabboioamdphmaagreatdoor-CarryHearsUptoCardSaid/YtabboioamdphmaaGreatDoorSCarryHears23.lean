/- Acts on a hold that come in. -/
import Derived.Test.YtabboioamdphmaaGreatDoorSCarryHears22
import Derived.Deep.SlicePairs
import Derived.Deep.QuietTactic
import Derived.BigQuiet
import Derived.Lib.SmallJoins
import Derived.SizedLaws
import Derived.Test.YtabboioamdphmaaGreatDoorSCarryHears13
import Derived.Test.YtabboioamdphmaaGreatDoorSCarryHears18
namespace Go.Proofs.YtabboioamdphmaaGreatDoor
open Go.RowKit

abbrev HAct := ByteArray × ByteArray × Ver × Int
def act0 : HAct := (⟨#[]⟩, ⟨#[]⟩, ver0, 0)
def ActR (n₀ : Nat) (w : World) (a : Option Addr) (l : List HAct) : Prop :=
  l = [] ∨ ∃ b off, a = some ⟨b, off, none⟩ ∧ b < n₀ ∧ ∀ i, i < l.length → w.cell? ⟨b, off + i * 8, none⟩ = some (.string (l[i]?.getD act0).1) ∧ w.cell? ⟨b, off + i * 8 + 1, none⟩ = some (.string (l[i]?.getD act0).2.1) ∧
    w.cell? ⟨b, off + i * 8 + 2, none⟩ = some (.int .i64 (l[i]?.getD act0).2.2.1.1) ∧ w.cell? ⟨b, off + i * 8 + 3, none⟩ = some (.int .i64 (l[i]?.getD act0).2.2.1.2.1) ∧ w.cell? ⟨b, off + i * 8 + 4, none⟩ = some (.int .i64 (l[i]?.getD act0).2.2.1.2.2.1) ∧
    w.cell? ⟨b, off + i * 8 + 5, none⟩ = some (.int .i64 (l[i]?.getD act0).2.2.1.2.2.2.1) ∧ w.cell? ⟨b, off + i * 8 + 6, none⟩ = some (.string (l[i]?.getD act0).2.2.1.2.2.2.2) ∧ w.cell? ⟨b, off + i * 8 + 7, none⟩ = some (.int .i64 (l[i]?.getD act0).2.2.2)
theorem ActR.below {n₀ : Nat} {A B : World} (h : Below n₀ A B) {a : Option Addr} {l : List HAct} : ActR n₀ A a l → ActR n₀ B a l
  | .inl e => .inl e
  | .inr ⟨b, off, e, hb, hc⟩ => .inr ⟨b, off, e, hb, fun i hi => by
    obtain ⟨h0, h1, h2, h3, h4, h5, h6, h7⟩ := hc i hi
    have c : ∀ {o v}, A.cell? ⟨b, o, none⟩ = some v → B.cell? ⟨b, o, none⟩ = some v := fun {o v} h9 => (h.cell (p := ⟨b, o, none⟩) hb).trans h9
    exact ⟨c h0, c h1, c h2, c h3, c h4, c h5, c h6, c h7⟩⟩
theorem list2 {α : Type} {l : List α} (h : l.length = 2) : ∃ a b, l = [a, b] := by
  match l, h with
  | [a, b], _ => exact ⟨a, b, rfl⟩
theorem list3 {α : Type} {l : List α} (h : l.length = 3) : ∃ a b c, l = [a, b, c] := by
  match l, h with
  | [a, b, c], _ => exact ⟨a, b, c, rfl⟩
theorem list5 {α : Type} {l : List α} (h : l.length = 5) : ∃ a b c d e, l = [a, b, c, d, e] := by
  match l, h with
  | [a, b, c, d, e], _ => exact ⟨a, b, c, d, e, rfl⟩
theorem list8 {α : Type} {l : List α} (h : l.length = 8) : ∃ a b c d e f g i, l = [a, b, c, d, e, f, g, i] := by
  match l, h with
  | [a, b, c, d, e, f, g, i], _ => exact ⟨a, b, c, d, e, f, g, i, rfl⟩
section
variable {H : Type} {enc : TypeId × Value → H} {W : World}
end
section
end
end Go.Proofs.YtabboioamdphmaaGreatDoor
/- Messages: that are read, that come in. -/
namespace Go.Proofs.YtabboioamdphmaaGreatDoor
section
open Go.RowKit

def Int64 (c : Int) : Prop := -9223372036854775808 ≤ c ∧ c ≤ 9223372036854775807
structure Msg where
  fr : ByteArray
  dst : ByteArray
  kind : ByteArray
  key : ByteArray
  op : Int
  cf : Int
  sl : Bool
  L : List Ver
def msg0 : Msg := ⟨⟨#[]⟩, ⟨#[]⟩, ⟨#[]⟩, ⟨#[]⟩, 0, 0, false, []⟩
instance : Inhabited Msg := ⟨msg0⟩
def VerOk (x : Ver) : Prop := Int64 x.1 ∧ Int64 x.2.1 ∧ Int64 x.2.2.1 ∧ Int64 x.2.2.2.1 ∧ x.2.2.2.2.size ≤ maxLen
structure MsgOk (m : Msg) : Prop where
  fr : m.fr.size ≤ maxLen
  dst : m.dst.size ≤ maxLen
  kind : m.kind.size ≤ maxLen
  key : m.key.size ≤ maxLen
  op : Int64 m.op
  cf : Int64 m.cf
  L : ∀ x ∈ m.L, VerOk x
def MsgAt (n₀ : Nat) (w : World) (b o : Nat) (m : Msg) : Prop :=
  w.cell? ⟨b, o, none⟩ = some (.string m.fr) ∧ w.cell? ⟨b, o + 1, none⟩ = some (.string m.dst) ∧ w.cell? ⟨b, o + 2, none⟩ = some (.string m.kind) ∧ w.cell? ⟨b, o + 3, none⟩ = some (.string m.key) ∧
  w.cell? ⟨b, o + 4, none⟩ = some (.int .i64 m.op) ∧ w.cell? ⟨b, o + 5, none⟩ = some (.int .i64 m.cf) ∧ w.cell? ⟨b, o + 6, none⟩ = some (.bool m.sl) ∧
  ∃ ad cap, w.cell? ⟨b, o + 7, none⟩ = some (.slice ad m.L.length cap) ∧ m.L.length ≤ cap ∧ cap ≤ maxLen ∧ (ad = none → cap = 0) ∧ VrR n₀ w ad m.L
theorem MsgAt.below {n₀ : Nat} {A B : World} (h : Below n₀ A B) {b o : Nat} {m : Msg} (hb : b < n₀) (hm : MsgAt n₀ A b o m) : MsgAt n₀ B b o m := by
  obtain ⟨h0, h1, h2, h3, h4, h5, h6, ad, cap, h7, h8, h9, h10, h11⟩ := hm
  have c : ∀ {o v}, A.cell? ⟨b, o, none⟩ = some v → B.cell? ⟨b, o, none⟩ = some v := fun {o v} h9 => (h.cell (p := ⟨b, o, none⟩) hb).trans h9
  exact ⟨c h0, c h1, c h2, c h3, c h4, c h5, c h6, ad, cap, c h7, h8, h9, h10, h11.below h⟩
theorem MsgAt.mono {n₀ n₁ : Nat} (h : n₀ ≤ n₁) {w : World} {b o : Nat} {m : Msg} (hm : MsgAt n₀ w b o m) : MsgAt n₁ w b o m := by
  obtain ⟨h0, h1, h2, h3, h4, h5, h6, ad, cap, h7, h8, h9, h10, h11⟩ := hm
  exact ⟨h0, h1, h2, h3, h4, h5, h6, ad, cap, h7, h8, h9, h10, h11.mono h⟩
def MsgsR (n₀ : Nat) (w : World) (a : Option Addr) (l : List Msg) : Prop :=
  l = [] ∨ ∃ b off, a = some ⟨b, off, none⟩ ∧ b < n₀ ∧ ∀ i, i < l.length → MsgAt n₀ w b (off + i * 8) (l[i]?.getD msg0)
theorem MsgsR.below {n₀ : Nat} {A B : World} (h : Below n₀ A B) {a : Option Addr} {l : List Msg} : MsgsR n₀ A a l → MsgsR n₀ B a l
  | .inl e => .inl e
  | .inr ⟨b, off, e, hb, hc⟩ => .inr ⟨b, off, e, hb, fun i hi => (hc i hi).below h hb⟩
theorem MsgsR.mono {n₀ n₁ : Nat} {A : World} (h : n₀ ≤ n₁) {a : Option Addr} {l : List Msg} : MsgsR n₀ A a l → MsgsR n₁ A a l
  | .inl e => .inl e
  | .inr ⟨b, off, e, hb, hc⟩ => .inr ⟨b, off, e, by omega, fun i hi => (hc i hi).mono h⟩
def VersIn (w : World) (a : Option Addr) (len cap : Nat) (l : List Ver) : Prop := l.length = len ∧ len ≤ cap ∧ cap ≤ maxLen ∧ (a = none → cap = 0) ∧ VrR w.heap.size w a l ∧ ∀ x ∈ l, VerOk x
def MsgsIn (w : World) (a : Option Addr) (len cap : Nat) (l : List Msg) : Prop := l.length = len ∧ len ≤ cap ∧ cap ≤ maxLen ∧ (a = none → cap = 0) ∧ MsgsR w.heap.size w a l ∧ ∀ i, i < len → MsgOk (l[i]?.getD msg0)
variable {H : Type} {enc : TypeId × Value → H} {W : World}
set_option maxRecDepth 10000 in
theorem ver_trodI {n : Nat} {cs : List Value} {y : DataW H × List MemPlace} (h : DataW.trod enc Tryz.prog W 0 (fun _ => true) true n 76 cs = some y) : ∃ x : Ver, cs = encVr x ∧ VerOk x := by
  obtain ⟨xs, k, hk, hxy, hcl, hxl, hf⟩ := DataW.trod_struct Tryz.underlying76 h
  have ec : Tryz.prog.cellsOf 76 = 5 := by kernel_rfl
  rw [ec] at hcl
  obtain ⟨v0, v1, v2, v3, v4, rfl⟩ := list5 hcl
  obtain ⟨y0, y1, y2, rfl⟩ := list3 hxl
  have cT : Tryz.prog.cellsOf 44 = 2 := by kernel_rfl
  have cS : Tryz.prog.cellsOf 74 = 2 := by kernel_rfl
  have cI : Tryz.prog.cellsOf 3 = 1 := by kernel_rfl
  have cX : Tryz.prog.cellsOf 9 = 1 := by kernel_rfl
  have g0 : DataW.trod enc Tryz.prog W 0 (fun _ => true) true k 44 ((([v0, v1, v2, v3, v4] : List Value).drop 0).take (Tryz.prog.cellsOf 44)) = some y0 := hf 0 _ rfl
  have g1 : DataW.trod enc Tryz.prog W 0 (fun _ => true) true k 3 ((([v0, v1, v2, v3, v4] : List Value).drop 2).take (Tryz.prog.cellsOf 3)) = some y1 := hf 1 _ rfl
  have g2 : DataW.trod enc Tryz.prog W 0 (fun _ => true) true k 74 ((([v0, v1, v2, v3, v4] : List Value).drop 3).take (Tryz.prog.cellsOf 74)) = some y2 := hf 2 _ rfl
  rw [cT] at g0
  rw [cI] at g1
  rw [cS] at g2
  have g0' : DataW.trod enc Tryz.prog W 0 (fun _ => true) true k 44 [v0, v1] = some y0 := g0
  have g1' : DataW.trod enc Tryz.prog W 0 (fun _ => true) true k 3 [v2] = some y1 := g1
  have g2' : DataW.trod enc Tryz.prog W 0 (fun _ => true) true k 74 [v3, v4] = some y2 := g2
  obtain ⟨xs, k1, hk1, _, _, hxl1, hf1⟩ := DataW.trod_struct Tryz.underlying44 g0'
  obtain ⟨z0, z1, rfl⟩ := list2 hxl1
  obtain ⟨xs, k2, hk2, _, _, hxl2, hf2⟩ := DataW.trod_struct Tryz.underlying74 g2'
  obtain ⟨z2, z3, rfl⟩ := list2 hxl2
  have e0 : DataW.trod enc Tryz.prog W 0 (fun _ => true) true k1 3 ((([v0, v1] : List Value).drop 0).take (Tryz.prog.cellsOf 3)) = some z0 := hf1 0 _ rfl
  have e1 : DataW.trod enc Tryz.prog W 0 (fun _ => true) true k1 3 ((([v0, v1] : List Value).drop 1).take (Tryz.prog.cellsOf 3)) = some z1 := hf1 1 _ rfl
  have e2 : DataW.trod enc Tryz.prog W 0 (fun _ => true) true k2 3 ((([v3, v4] : List Value).drop 0).take (Tryz.prog.cellsOf 3)) = some z2 := hf2 0 _ rfl
  have e3 : DataW.trod enc Tryz.prog W 0 (fun _ => true) true k2 9 ((([v3, v4] : List Value).drop 1).take (Tryz.prog.cellsOf 9)) = some z3 := hf2 1 _ rfl
  rw [cI] at e0 e1 e2
  rw [cX] at e3
  obtain ⟨n0, q0, _, w0⟩ := DataW.trod_int Tryz.underlying3 (show DataW.trod enc Tryz.prog W 0 (fun _ => true) true k1 3 [v0] = some z0 from e0)
  obtain ⟨n1, q1, _, w1⟩ := DataW.trod_int Tryz.underlying3 (show DataW.trod enc Tryz.prog W 0 (fun _ => true) true k1 3 [v1] = some z1 from e1)
  obtain ⟨n2, q2, _, w2⟩ := DataW.trod_int Tryz.underlying3 g1'
  obtain ⟨n3, q3, _, w3⟩ := DataW.trod_int Tryz.underlying3 (show DataW.trod enc Tryz.prog W 0 (fun _ => true) true k2 3 [v3] = some z2 from e2)
  obtain ⟨s4, q4, _, hs⟩ := DataW.trod_string Tryz.underlying9 (show DataW.trod enc Tryz.prog W 0 (fun _ => true) true k2 9 [v4] = some z3 from e3)
  simp at q0 q1 q2 q3 q4
  subst q0 q1 q2 q3 q4
  exact ⟨(n0, n1, n2, n3, s4), rfl, bounds_i64 w0, bounds_i64 w1, bounds_i64 w2, bounds_i64 w3, hs⟩
theorem bytes_ver : Tryz.prog.bytesOf 76 = 48 := by kernel_rfl
end
end Go.Proofs.YtabboioamdphmaaGreatDoor
/- Messages and versions that are read, in blocks of S. -/
namespace Go.Proofs.YtabboioamdphmaaGreatDoor
section
open Go.RowKit

theorem txt_neV {a b : ByteArray} (h : a ≠ b) : (a.toList == b.toList) = false := by
  rw [beq_eq_false_iff_ne]
  intro e
  apply h
  rw [ByteArray.toList_eq, ByteArray.toList_eq] at e
  cases a; cases b
  exact congrArg ByteArray.mk (Array.toList_inj.1 e)
def kSeal' : ByteArray := ⟨#[115, 101, 97, 108]⟩
def kKeep : ByteArray := ⟨#[107, 101, 101, 112]⟩
def kTold : ByteArray := ⟨#[116, 111, 108, 100]⟩
def kSealed : ByteArray := ⟨#[115, 101, 97, 108, 101, 100]⟩
def kKept : ByteArray := ⟨#[107, 101, 112, 116]⟩
def VrS (S : Nat → Prop) (w : World) (a : Option Addr) (l : List Ver) : Prop :=
  l = [] ∨ ∃ b off, a = some ⟨b, off, none⟩ ∧ S b ∧ b < w.heap.size ∧ ∀ i j, i < l.length → j < 5 → w.cell? ⟨b, off + i * 5 + j, none⟩ = (encVr (l[i]?.getD ver0))[j]?
theorem VrS.kept {S G : Nat → Prop} {A B : World} (h : KeptBut G A B) (hS : ∀ b, b < A.heap.size → S b → ¬ G b) {a : Option Addr} {l : List Ver} : VrS S A a l → VrS S B a l
  | .inl e => .inl e
  | .inr ⟨b, off, e, hb, hl, hc⟩ => .inr ⟨b, off, e, hb, Nat.lt_of_lt_of_le hl h.size, fun i j hi hj => (World.cell?_of_block (a := ⟨b, off + i * 5 + j, none⟩) (h.block b hl (hS b hl hb))).trans (hc i j hi hj)⟩
theorem VrS.below {S : Nat → Prop} {A B : World} (h : Below A.heap.size A B) {a : Option Addr} {l : List Ver} (hv : VrS S A a l) : VrS S B a l := hv.kept (KeptBut.of_below (F := fun b => A.heap.size ≤ b) h (fun _ _ h => h)) (fun b hb _ => by omega)
theorem VrS.mono {S T : Nat → Prop} {A : World} (h : ∀ b, S b → T b) {a : Option Addr} {l : List Ver} : VrS S A a l → VrS T A a l
  | .inl e => .inl e
  | .inr ⟨b, off, e, hb, hl, hc⟩ => .inr ⟨b, off, e, h b hb, hl, hc⟩
theorem VrS.read {S : Nat → Prop} {A : World} {a : Option Addr} {l : List Ver} : VrS S A a l → VrR A.heap.size A a l
  | .inl e => .inl e
  | .inr ⟨b, off, e, _, hl, hc⟩ => .inr ⟨b, off, e, hl, hc⟩
theorem OwnV.readS {B : Nat} {w : World} {v : Value} {l : List Ver} (h : OwnV B w v l) : ∃ a cap, v = .slice a l.length cap ∧ l.length ≤ cap ∧ cap ≤ maxLen ∧ (a = none → cap = 0) ∧ VrS (fun b => B ≤ b) w a l := by
  have hlt := h.lt
  obtain ⟨a, cap, rfl, h1, h2, h3, h4⟩ := h.read
  refine ⟨a, cap, rfl, h1, h2, h3, ?_⟩
  rcases h4 with e | ⟨b, off, rfl, hb, hc⟩
  · exact .inl e
  · by_cases hl : l = []
    · exact .inl hl
    · refine .inr ⟨b, off, rfl, ?_, hb, hc⟩
      rcases h.2 with ⟨e, hn⟩ | ⟨g, cap', cur, e, hbb, _⟩
      · simp at e
      · simp only [Value.slice.injEq, Option.some.injEq] at e
        have := congrArg Addr.block e.1
        simp at this
        omega
def MsgAtS (S : Nat → Prop) (w : World) (b o : Nat) (m : Msg) : Prop :=
  w.cell? ⟨b, o, none⟩ = some (.string m.fr) ∧ w.cell? ⟨b, o + 1, none⟩ = some (.string m.dst) ∧ w.cell? ⟨b, o + 2, none⟩ = some (.string m.kind) ∧ w.cell? ⟨b, o + 3, none⟩ = some (.string m.key) ∧
  w.cell? ⟨b, o + 4, none⟩ = some (.int .i64 m.op) ∧ w.cell? ⟨b, o + 5, none⟩ = some (.int .i64 m.cf) ∧ w.cell? ⟨b, o + 6, none⟩ = some (.bool m.sl) ∧
  ∃ ad cap, w.cell? ⟨b, o + 7, none⟩ = some (.slice ad m.L.length cap) ∧ m.L.length ≤ cap ∧ cap ≤ maxLen ∧ (ad = none → cap = 0) ∧ VrS S w ad m.L
theorem MsgAtS.kept {S G : Nat → Prop} {A B : World} (h : KeptBut G A B) (hS : ∀ b, b < A.heap.size → S b → ¬ G b) {b o : Nat} {m : Msg} (hb : S b) (hl : b < A.heap.size) (hm : MsgAtS S A b o m) : MsgAtS S B b o m := by
  obtain ⟨h0, h1, h2, h3, h4, h5, h6, ad, cap, h7, h8, h9, h10, h11⟩ := hm
  have c : ∀ {o v}, A.cell? ⟨b, o, none⟩ = some v → B.cell? ⟨b, o, none⟩ = some v := fun {o v} h9 => (World.cell?_of_block (a := ⟨b, o, none⟩) (h.block b hl (hS b hl hb))).trans h9
  exact ⟨c h0, c h1, c h2, c h3, c h4, c h5, c h6, ad, cap, c h7, h8, h9, h10, h11.kept h hS⟩
theorem MsgAtS.read {S : Nat → Prop} {w : World} {b o : Nat} {m : Msg} (hm : MsgAtS S w b o m) : MsgAt w.heap.size w b o m := by
  obtain ⟨h0, h1, h2, h3, h4, h5, h6, ad, cap, h7, h8, h9, h10, h11⟩ := hm
  exact ⟨h0, h1, h2, h3, h4, h5, h6, ad, cap, h7, h8, h9, h10, h11.read⟩
def MsgsS (S : Nat → Prop) (w : World) (a : Option Addr) (l : List Msg) : Prop :=
  l = [] ∨ ∃ b off, a = some ⟨b, off, none⟩ ∧ S b ∧ b < w.heap.size ∧ ∀ i, i < l.length → MsgAtS S w b (off + i * 8) (l[i]?.getD msg0)
theorem MsgsS.kept {S G : Nat → Prop} {A B : World} (h : KeptBut G A B) (hS : ∀ b, b < A.heap.size → S b → ¬ G b) {a : Option Addr} {l : List Msg} : MsgsS S A a l → MsgsS S B a l
  | .inl e => .inl e
  | .inr ⟨b, off, e, hb, hl, hc⟩ => .inr ⟨b, off, e, hb, Nat.lt_of_lt_of_le hl h.size, fun i hi => (hc i hi).kept h hS hb hl⟩
theorem MsgsS.below {S : Nat → Prop} {A B : World} (h : Below A.heap.size A B) {a : Option Addr} {l : List Msg} (hv : MsgsS S A a l) : MsgsS S B a l := hv.kept (KeptBut.of_below (F := fun b => A.heap.size ≤ b) h (fun _ _ h => h)) (fun b hb _ => by omega)
theorem MsgsS.read {S : Nat → Prop} {w : World} {a : Option Addr} {l : List Msg} : MsgsS S w a l → MsgsR w.heap.size w a l
  | .inl e => .inl e
  | .inr ⟨b, off, e, _, hl, hc⟩ => .inr ⟨b, off, e, hl, fun i hi => (hc i hi).read⟩
def RetMsgs (S : Nat → Prop) (w : World) (e : Ending) (l : List Msg) : Prop := ∃ a cap, e = .returned (.slice a l.length cap) ∧ l.length ≤ cap ∧ cap ≤ maxLen ∧ (a = none → cap = 0) ∧ MsgsS S w a l
theorem RetMsgs.nil (S : Nat → Prop) (w : World) : RetMsgs S w (.returned (.slice none 0 0)) [] := ⟨none, 0, rfl, Nat.le_refl _, by simp [maxLen], fun _ => rfl, .inl rfl⟩
theorem VrS.mono2 {S T : Nat → Prop} {A : World} (h : ∀ b, b < A.heap.size → S b → T b) {a : Option Addr} {l : List Ver} : VrS S A a l → VrS T A a l
  | .inl e => .inl e
  | .inr ⟨b, off, e, hb, hl, hc⟩ => .inr ⟨b, off, e, h b hl hb, hl, hc⟩
end
end Go.Proofs.YtabboioamdphmaaGreatDoor
/- A client's ask, and the mover's carry, plain: what is heard, what is answered. -/
namespace Go.Proofs.YtabboioamdphmaaGreatDoor

def kLooking : ByteArray := ⟨#[108, 111, 111, 107, 105, 110, 103]⟩
def kSealing : ByteArray := ⟨#[115, 101, 97, 108, 105, 110, 103]⟩
def kKeeping : ByteArray := ⟨#[107, 101, 101, 112, 105, 110, 103]⟩
def kDone : ByteArray := ⟨#[100, 111, 110, 101]⟩
def kRefused : ByteArray := ⟨#[114, 101, 102, 117, 115, 101, 100]⟩
abbrev Got := List (ByteArray × List Ver)
structure TalkS where
  name : ByteArray
  key : ByteArray
  op : Int
  cf : Int
  n : Nat
  k : Nat
  mem : List ByteArray
  wait : ByteArray
  got : Got
def fitsB (t : TalkS) (m : Msg) : Bool :=
  decide (m.dst = t.name ∧ m.key = t.key ∧ m.op = t.op ∧ m.cf = t.cf ∧ m.kind = t.wait) && !(t.got.any fun p => decide (p.1 = m.fr)) && t.mem.any fun s => decide (s = m.fr)
def takeT (t : TalkS) (m : Msg) : TalkS := { t with got := t.got ++ [(m.fr, m.L)] }
def enoughB (t : TalkS) : Bool := decide (t.n + t.k ≤ 2 * t.got.length)
def getT (g : Got) (s : ByteArray) : Option (List Ver) := (g.find? fun p => decide (p.1 = s)).map (·.2)
def toldT (t : TalkS) : List (List Ver) := t.mem.filterMap (getT t.got)
def sendT (t : TalkS) (kind : ByteArray) (L : Nat → List Ver) : List Msg := (List.range t.mem.length).map fun i => ⟨t.name, t.mem[i]?.getD ⟨#[]⟩, kind, t.key, t.op, t.cf, false, L i⟩
def keepV (k : Nat) (tag : Int × Int) (text : ByteArray) (i : Nat) : List Ver := [(tag.1, tag.2, (text.size : Int), (i : Int), encT k text i)]
def keepT (t : TalkS) (tag : Int × Int) (text : ByteArray) : List Msg := sendT t kKeep (keepV t.k tag text)
structure AskS where
  t : TalkS
  who : Int
  put : Bool
  moves : Bool
  n2 : Nat
  k2 : Nat
  mem2 : List ByteArray
  st : Nat
  tag : Int × Int
  text : ByteArray
  found : Bool
def stT (a : AskS) : ByteArray := if a.st = 0 then (if a.moves = true then kSealing else kLooking) else if a.st = 1 then kKeeping else if a.st = 2 then kDone else kRefused
def waitT (a : AskS) : ByteArray := if a.st = 0 then (if a.moves = true then kSealed else kTold) else kKept
def maxN (xs : List Ver) : Int := xs.foldl (fun n x => if n < x.1 ∧ x.1 ≤ 1099511627776 then x.1 else n) 0
def chooseT (a : AskS) : AskS :=
  if a.put = true then { a with tag := (maxN (toldT a.t).flatten + 1, a.who), found := true }
  else { a with tag := (bestAns a.t.k (bestG a.t.k (groupsL a.t.n a.t.k (toldT a.t).flatten))).1, text := (bestAns a.t.k (bestG a.t.k (groupsL a.t.n a.t.k (toldT a.t).flatten))).2.1, found := (bestAns a.t.k (bestG a.t.k (groupsL a.t.n a.t.k (toldT a.t).flatten))).2.2 }
def keepS (a : AskS) : AskS :=
  if a.moves = true then { a with st := 1, t := { a.t with n := a.n2, k := a.k2, mem := a.mem2, cf := a.t.cf + 1, wait := kKept, got := [] } }
  else { a with st := 1, t := { a.t with wait := kKept, got := [] } }
def askHear (a : AskS) (m : Msg) : AskS × List Msg :=
  if 2 ≤ a.st ∨ fitsB a.t m = false then (a, [])
  else if m.sl = true ∧ ¬ (a.st = 0 ∧ a.moves = true) then ({ a with st := 3 }, [])
  else if enoughB (takeT a.t m) = false then ({ a with t := takeT a.t m }, [])
  else if a.st = 1 then ({ a with st := 2, t := takeT a.t m }, [])
  else if (chooseT { a with t := takeT a.t m }).found = false then ({ chooseT { a with t := takeT a.t m } with st := 2 }, [])
  else (keepS (chooseT { a with t := takeT a.t m }), keepT (keepS (chooseT { a with t := takeT a.t m })).t (keepS (chooseT { a with t := takeT a.t m })).tag (keepS (chooseT { a with t := takeT a.t m })).text)
end Go.Proofs.YtabboioamdphmaaGreatDoor
/- Asks, plain: what was told is what was heard, in another order; the greatest number. -/
namespace Go.Proofs.YtabboioamdphmaaGreatDoor

theorem getT_mem {g : Got} (hn : (g.map (·.1)).Nodup) {p : ByteArray × List Ver} (hp : p ∈ g) : getT g p.1 = some p.2 := by
  unfold getT
  induction g with
  | nil => cases hp
  | cons q r ih =>
    rw [List.find?_cons]
    rw [List.map_cons, List.nodup_cons] at hn
    rcases List.mem_cons.1 hp with rfl | hp
    · simp
    · have hne : q.1 ≠ p.1 := fun e => hn.1 (by rw [e]; exact List.mem_map_of_mem hp)
      rw [decide_eq_false hne]
      exact ih hn.2 hp
theorem getT_some {g : Got} {s : ByteArray} {l : List Ver} (h : getT g s = some l) : (s, l) ∈ g := by
  unfold getT at h
  cases hf : g.find? (fun p => decide (p.1 = s)) with
  | none => rw [hf] at h; cases h
  | some p =>
    rw [hf] at h
    have h1 := List.find?_some hf
    have h2 := List.mem_of_find?_eq_some hf
    have h3 : p.1 = s := of_decide_eq_true h1
    have h4 : p.2 = l := by simpa using h
    have : p = (s, l) := by rw [← h3, ← h4]
    rw [← this]
    exact h2
theorem getT_none {g : Got} {s : ByteArray} : getT g s = none ↔ s ∉ g.map (·.1) := by
  constructor
  · intro h hs
    obtain ⟨p, hp, rfl⟩ := List.mem_map.1 hs
    unfold getT at h
    rw [Option.map_eq_none_iff, List.find?_eq_none] at h
    have := h p hp
    simp at this
  · intro h
    cases e : getT g s with
    | none => rfl
    | some l => exact absurd (List.mem_map.2 ⟨_, getT_some e, rfl⟩) h
theorem filterMap_keys {g : Got} : ∀ {r : Got}, (∀ p ∈ r, getT g p.1 = some p.2) → (r.map (·.1)).filterMap (getT g) = r.map (·.2)
  | [], _ => rfl
  | q :: r, h => by
    rw [List.map_cons, List.map_cons, List.filterMap_cons_some (h q (List.mem_cons_self ..)), filterMap_keys (fun p hp => h p (List.mem_cons_of_mem _ hp))]
structure TalkOk (t : TalkS) : Prop where
  cfg : configF (t.n : Int) (t.k : Int) t.mem = (0, -1)
  nd : (t.got.map (·.1)).Nodup
  sub : ∀ p ∈ t.got, p.1 ∈ t.mem
theorem filterMap_filter {g : Got} (l : List ByteArray) : l.filterMap (getT g) = (l.filter fun s => decide (s ∈ g.map (·.1))).filterMap (getT g) := by
  induction l with
  | nil => rfl
  | cons s r ih =>
    by_cases h : s ∈ g.map (·.1)
    · rw [List.filter_cons_of_pos (by simpa using h), List.filterMap_cons, List.filterMap_cons, ih]
    · rw [List.filter_cons_of_neg (by simpa using h), List.filterMap_cons_none (getT_none.2 h), ih]
theorem told_perm {t : TalkS} (h : TalkOk t) : (toldT t).Perm (t.got.map (·.2)) := by
  have hm : t.mem.Nodup := (configF_zero (by rw [h.cfg])).2.2.1
  unfold toldT
  rw [filterMap_filter, ← filterMap_keys (fun p hp => getT_mem h.nd hp)]
  refine List.Perm.filterMap _ ?_
  rw [List.perm_ext_iff_of_nodup (hm.filter _) h.nd]
  intro a
  rw [List.mem_filter]
  constructor
  · intro h9; exact of_decide_eq_true h9.2
  · intro h9
    obtain ⟨p, hp, rfl⟩ := List.mem_map.1 h9
    exact ⟨h.sub p hp, decide_eq_true h9⟩
theorem totV_perm {a b : List (List Ver)} (h : a.Perm b) : totV a = totV b := by
  unfold totV
  exact (h.map List.length).sum_nat
def IsMaxN (xs : List Ver) (r : Int) : Prop := 0 ≤ r ∧ (r = 0 ∨ ∃ x ∈ xs, x.1 = r ∧ x.1 ≤ 1099511627776) ∧ ∀ x ∈ xs, x.1 ≤ 1099511627776 → x.1 ≤ r
theorem IsMaxN.eq {xs ys : List Ver} {r s : Int} (h : IsMaxN xs r) (k : IsMaxN ys s) (he : ∀ x, x ∈ xs ↔ x ∈ ys) : r = s := by
  obtain ⟨h1, h2, h3⟩ := h
  obtain ⟨k1, k2, k3⟩ := k
  have a1 : r ≤ s := by
    rcases h2 with h2 | ⟨x, hx, e, hb⟩
    · omega
    · rw [← e]; exact k3 x ((he x).1 hx) hb
  have a2 : s ≤ r := by
    rcases k2 with k2 | ⟨x, hx, e, hb⟩
    · omega
    · rw [← e]; exact h3 x ((he x).2 hx) hb
  omega
theorem fits_mem {t : TalkS} {m : Msg} (h : fitsB t m = true) : m.fr ∈ t.mem ∧ m.fr ∉ t.got.map (·.1) := by
  unfold fitsB at h
  rw [Bool.and_eq_true, Bool.and_eq_true] at h
  refine ⟨?_, ?_⟩
  · have h2 := h.2
    rw [List.any_eq_true] at h2
    obtain ⟨s, hs, e⟩ := h2
    rw [← of_decide_eq_true e]; exact hs
  · intro hs
    obtain ⟨p, hp, e⟩ := List.mem_map.1 hs
    have h2 := h.1.2
    have h3 : (t.got.any fun p => decide (p.1 = m.fr)) = true := List.any_eq_true.2 ⟨p, hp, decide_eq_true e⟩
    rw [h3] at h2
    cases h2
theorem take_ok {t : TalkS} {m : Msg} (h : TalkOk t) (hf : fitsB t m = true) : TalkOk (takeT t m) := by
  obtain ⟨h1, h2⟩ := fits_mem hf
  refine ⟨h.cfg, ?_, ?_⟩
  · show ((t.got ++ [(m.fr, m.L)]).map (·.1)).Nodup
    rw [List.map_append, List.nodup_append]
    exact ⟨h.nd, by simp, fun a ha b hb => by simp at hb; rw [hb]; exact fun e => h2 (e ▸ ha)⟩
  · intro p hp
    rcases List.mem_append.1 (show p ∈ t.got ++ [(m.fr, m.L)] from hp) with hp | hp
    · exact h.sub p hp
    · rw [List.mem_singleton.1 hp]; exact h1
end Go.Proofs.YtabboioamdphmaaGreatDoor
/- Walks of a hold's Get, Last, Sealed, Count. -/
namespace Go.Proofs.YtabboioamdphmaaGreatDoor
section
open Go.RowKit Go.Maps

/-! ### Count -/
end
section
open Go.RowKit Go.Maps

end
section
open Go.RowKit

end
end Go.Proofs.YtabboioamdphmaaGreatDoor
