/- Messages and versions that are read, in blocks of S. -/
import Derived.Test.YtolbdcmoblcakaaGreatDoorKRepairAll05
import Derived.Test.YtolbdcmoblcakaaGreatDoorKRepairAll01
import Derived.Maps.AppendAt
import Derived.Laws.AppendOwnNone
import Derived.Below
import Derived.Deep.QuietTactic
import Derived.BigQuiet
import Derived.SliceStrings
import Derived.Test.YtolbdcmoblcakaaGreatDoorKRepairAll03
namespace Go.Proofs.YtolbdcmoblcakaaGreatDoor
section
open Go.RowKit

theorem txt_neV {a b : ByteArray} (h : a ≠ b) : (a.toList == b.toList) = false := by
  rw [beq_eq_false_iff_ne]
  intro e
  apply h
  rw [ByteArray.toList_eq, ByteArray.toList_eq] at e
  cases a; cases b
  exact congrArg ByteArray.mk (Array.toList_inj.1 e)
def kLook : ByteArray := ⟨#[108, 111, 111, 107]⟩
def kSeal' : ByteArray := ⟨#[115, 101, 97, 108]⟩
def kKeep : ByteArray := ⟨#[107, 101, 101, 112]⟩
def kTold : ByteArray := ⟨#[116, 111, 108, 100]⟩
def kSealed : ByteArray := ⟨#[115, 101, 97, 108, 101, 100]⟩
def kKept : ByteArray := ⟨#[107, 101, 112, 116]⟩
/-- versions that are read, in blocks of S. -/
def VrS (S : Nat → Prop) (w : World) (a : Option Addr) (l : List Ver) : Prop :=
  l = [] ∨ ∃ b off, a = some ⟨b, off, none⟩ ∧ S b ∧ b < w.heap.size ∧ ∀ i j, i < l.length → j < 5 → w.cell? ⟨b, off + i * 5 + j, none⟩ = (encVr (l[i]?.getD ver0))[j]?
theorem VrS.kept {S G : Nat → Prop} {A B : World} (h : KeptBut G A B) (hS : ∀ b, b < A.heap.size → S b → ¬ G b) {a : Option Addr} {l : List Ver} : VrS S A a l → VrS S B a l
  | .inl e => .inl e
  | .inr ⟨b, off, e, hb, hl, hc⟩ => .inr ⟨b, off, e, hb, Nat.lt_of_lt_of_le hl h.size, fun i j hi hj => (World.cell?_of_block (a := ⟨b, off + i * 5 + j, none⟩) (h.block b hl (hS b hl hb))).trans (hc i j hi hj)⟩
theorem VrS.below {S : Nat → Prop} {A B : World} (h : Below A.heap.size A B) {a : Option Addr} {l : List Ver} (hv : VrS S A a l) : VrS S B a l := hv.kept (KeptBut.of_below (F := fun b => A.heap.size ≤ b) h (fun _ _ h => h)) (fun b hb _ => by omega)
theorem VrS.mono {S T : Nat → Prop} {A : World} (h : ∀ b, S b → T b) {a : Option Addr} {l : List Ver} : VrS S A a l → VrS T A a l
  | .inl e => .inl e
  | .inr ⟨b, off, e, hb, hl, hc⟩ => .inr ⟨b, off, e, h b hb, hl, hc⟩
theorem VrS.read {S : Nat → Prop} {A : World} {a : Option Addr} {l : List Ver} : VrS S A a l → VrR A.heap.size A a l
  | .inl e => .inl e
  | .inr ⟨b, off, e, _, hl, hc⟩ => .inr ⟨b, off, e, hl, hc⟩
theorem OwnV.readS {B : Nat} {w : World} {v : Value} {l : List Ver} (h : OwnV B w v l) : ∃ a cap, v = .slice a l.length cap ∧ l.length ≤ cap ∧ cap ≤ maxLen ∧ (a = none → cap = 0) ∧ VrS (fun b => B ≤ b) w a l := by
  have hlt := h.lt
  obtain ⟨a, cap, rfl, h1, h2, h3, h4⟩ := h.read
  refine ⟨a, cap, rfl, h1, h2, h3, ?_⟩
  rcases h4 with e | ⟨b, off, rfl, hb, hc⟩
  · exact .inl e
  · by_cases hl : l = []
    · exact .inl hl
    · refine .inr ⟨b, off, rfl, ?_, hb, hc⟩
      rcases h.2 with ⟨e, hn⟩ | ⟨g, cap', cur, e, hbb, _⟩
      · simp at e
      · simp only [Value.slice.injEq, Option.some.injEq] at e
        have := congrArg Addr.block e.1
        simp at this
        omega
/-- a message that is read, in blocks of S. -/
def MsgAtS (S : Nat → Prop) (w : World) (b o : Nat) (m : Msg) : Prop :=
  w.cell? ⟨b, o, none⟩ = some (.string m.fr) ∧ w.cell? ⟨b, o + 1, none⟩ = some (.string m.dst) ∧ w.cell? ⟨b, o + 2, none⟩ = some (.string m.kind) ∧ w.cell? ⟨b, o + 3, none⟩ = some (.string m.key) ∧
  w.cell? ⟨b, o + 4, none⟩ = some (.int .i64 m.op) ∧ w.cell? ⟨b, o + 5, none⟩ = some (.int .i64 m.cf) ∧ w.cell? ⟨b, o + 6, none⟩ = some (.bool m.sl) ∧
  ∃ ad cap, w.cell? ⟨b, o + 7, none⟩ = some (.slice ad m.L.length cap) ∧ m.L.length ≤ cap ∧ cap ≤ maxLen ∧ (ad = none → cap = 0) ∧ VrS S w ad m.L
theorem MsgAtS.kept {S G : Nat → Prop} {A B : World} (h : KeptBut G A B) (hS : ∀ b, b < A.heap.size → S b → ¬ G b) {b o : Nat} {m : Msg} (hb : S b) (hl : b < A.heap.size) (hm : MsgAtS S A b o m) : MsgAtS S B b o m := by
  obtain ⟨h0, h1, h2, h3, h4, h5, h6, ad, cap, h7, h8, h9, h10, h11⟩ := hm
  have c : ∀ {o v}, A.cell? ⟨b, o, none⟩ = some v → B.cell? ⟨b, o, none⟩ = some v := fun {o v} h9 => (World.cell?_of_block (a := ⟨b, o, none⟩) (h.block b hl (hS b hl hb))).trans h9
  exact ⟨c h0, c h1, c h2, c h3, c h4, c h5, c h6, ad, cap, c h7, h8, h9, h10, h11.kept h hS⟩
theorem MsgAtS.read {S : Nat → Prop} {w : World} {b o : Nat} {m : Msg} (hm : MsgAtS S w b o m) : MsgAt w.heap.size w b o m := by
  obtain ⟨h0, h1, h2, h3, h4, h5, h6, ad, cap, h7, h8, h9, h10, h11⟩ := hm
  exact ⟨h0, h1, h2, h3, h4, h5, h6, ad, cap, h7, h8, h9, h10, h11.read⟩
def MsgsS (S : Nat → Prop) (w : World) (a : Option Addr) (l : List Msg) : Prop :=
  l = [] ∨ ∃ b off, a = some ⟨b, off, none⟩ ∧ S b ∧ b < w.heap.size ∧ ∀ i, i < l.length → MsgAtS S w b (off + i * 8) (l[i]?.getD msg0)
theorem MsgsS.kept {S G : Nat → Prop} {A B : World} (h : KeptBut G A B) (hS : ∀ b, b < A.heap.size → S b → ¬ G b) {a : Option Addr} {l : List Msg} : MsgsS S A a l → MsgsS S B a l
  | .inl e => .inl e
  | .inr ⟨b, off, e, hb, hl, hc⟩ => .inr ⟨b, off, e, hb, Nat.lt_of_lt_of_le hl h.size, fun i hi => (hc i hi).kept h hS hb hl⟩
theorem MsgsS.below {S : Nat → Prop} {A B : World} (h : Below A.heap.size A B) {a : Option Addr} {l : List Msg} (hv : MsgsS S A a l) : MsgsS S B a l := hv.kept (KeptBut.of_below (F := fun b => A.heap.size ≤ b) h (fun _ _ h => h)) (fun b hb _ => by omega)
theorem MsgsS.read {S : Nat → Prop} {w : World} {a : Option Addr} {l : List Msg} : MsgsS S w a l → MsgsR w.heap.size w a l
  | .inl e => .inl e
  | .inr ⟨b, off, e, _, hl, hc⟩ => .inr ⟨b, off, e, hl, fun i hi => (hc i hi).read⟩
/-- messages that are handed back. -/
def RetMsgs (S : Nat → Prop) (w : World) (e : Ending) (l : List Msg) : Prop := ∃ a cap, e = .returned (.slice a l.length cap) ∧ l.length ≤ cap ∧ cap ≤ maxLen ∧ (a = none → cap = 0) ∧ MsgsS S w a l
theorem RetMsgs.nil (S : Nat → Prop) (w : World) : RetMsgs S w (.returned (.slice none 0 0)) [] := ⟨none, 0, rfl, Nat.le_refl _, by simp [maxLen], fun _ => rfl, .inl rfl⟩
theorem VrS.mono2 {S T : Nat → Prop} {A : World} (h : ∀ b, b < A.heap.size → S b → T b) {a : Option Addr} {l : List Ver} : VrS S A a l → VrS T A a l
  | .inl e => .inl e
  | .inr ⟨b, off, e, hb, hl, hc⟩ => .inr ⟨b, off, e, h b hl hb, hl, hc⟩
end
end Go.Proofs.YtolbdcmoblcakaaGreatDoor
/- Slices of structs of the call's own, whatever the struct. -/
namespace Go.Proofs.YtolbdcmoblcakaaGreatDoor
open Go.RowKit

theorem flat_length (m : Nat) : ∀ l : List (List Value), (∀ x ∈ l, x.length = m) → l.flatten.length = l.length * m
  | [], _ => by simp
  | x :: r, h => by
    rw [List.flatten_cons, List.length_append, flat_length m r (fun y hy => h y (List.mem_cons_of_mem _ hy)), h x (List.mem_cons_self ..), List.length_cons, Nat.add_mul]
    omega
theorem flat_at (m : Nat) : ∀ (l : List (List Value)) (i j : Nat), (∀ x ∈ l, x.length = m) → i < l.length → j < m → l.flatten[i * m + j]? = (l[i]?.getD [])[j]?
  | [], _, _, _, h, _ => by simp at h
  | x :: r, 0, j, h, _, hj => by
    rw [List.flatten_cons, List.getElem?_append_left (by rw [h x (List.mem_cons_self ..)]; omega)]
    simp
  | x :: r, i + 1, j, h, hi, hj => by
    have hx := h x (List.mem_cons_self ..)
    rw [List.flatten_cons, List.getElem?_append_right (by rw [hx, Nat.add_mul]; omega)]
    have e : (i + 1) * m + j - x.length = i * m + j := by rw [hx, Nat.add_mul]; omega
    rw [e, flat_at m r i j (fun y hy => h y (List.mem_cons_of_mem _ hy)) (by simpa using hi) hj]
    simp
/-- v owns the structs l, each of m cells. -/
def OwnRec (T : TypeId) (m B : Nat) (w : World) (v : Value) (l : List (List Value)) : Prop := (∀ x ∈ l, x.length = m) ∧ w.ownsRow B T m v l.length l.flatten
theorem OwnRec.nil (T : TypeId) (m B : Nat) (w : World) : OwnRec T m B w (.slice none 0 0) [] := ⟨(fun _ h => by cases h), World.ownsRow_nil _ _ _ _⟩
theorem OwnRec.lt {T : TypeId} {m B : Nat} {w : World} {v : Value} {l : List (List Value)} (h : OwnRec T m B w v l) : ∀ k, v.ownBlock = some k → B ≤ k ∧ k < w.heap.size := World.ownsRow.lt h.2
theorem OwnRec.kept {T : TypeId} {m B : Nat} {w w' : World} {row : Option Nat} {v : Value} {l : List (List Value)} (h : OwnRec T m B w v l) (hg : w.grownBy w' row) (hne : v.ownBlock = none ∨ v.ownBlock ≠ row) : OwnRec T m B w' v l := ⟨h.1, World.ownsRow.kept h.2 hg hne⟩
theorem OwnRec.below {T : TypeId} {m B n₀ : Nat} {w w' : World} {v : Value} {l : List (List Value)} (h : OwnRec T m B w v l) (hb : Below n₀ w w') (hn : w.heap.size ≤ n₀ := by exact Nat.le_refl _) : OwnRec T m B w' v l :=
  OwnRec.kept (row := none) h ⟨hb.os, hb.tape, hb.output, hb.size, fun k hk _ => hb.block k (by omega)⟩ (by cases v.ownBlock <;> simp)
theorem OwnRec.lower {T : TypeId} {m B B' : Nat} {w : World} {v : Value} {l : List (List Value)} (h : OwnRec T m B w v l) (hB : B' ≤ B) : OwnRec T m B' w v l := by
  refine ⟨h.1, ?_⟩
  have h0 := h.2
  unfold World.ownsRow at *
  refine ⟨h0.1, ?_⟩
  rcases h0.2 with h2 | ⟨g, cap, cur, e, hb, h3⟩
  · exact .inl h2
  · exact .inr ⟨g, cap, cur, e, Nat.le_trans hB hb, h3⟩
theorem OwnRec.heap {T : TypeId} {m B : Nat} {w w' : World} {v : Value} {l : List (List Value)} (h : OwnRec T m B w v l) (hg : ∀ g, v.ownBlock = some g → w'.heap[g]? = w.heap[g]?) : OwnRec T m B w' v l := by
  refine ⟨h.1, h.2.1, ?_⟩
  rcases h.2.2 with hn | ⟨g, cap, cur, rfl, hb, hgg, rest⟩
  · exact .inl hn
  · exact .inr ⟨g, cap, cur, rfl, hb, (hg g rfl).trans hgg, rest⟩
/-- structs that are read. -/
def RecR (m n₀ : Nat) (w : World) (a : Option Addr) (l : List (List Value)) : Prop :=
  l = [] ∨ ∃ b off, a = some ⟨b, off, none⟩ ∧ b < n₀ ∧ ∀ i j, i < l.length → j < m → w.cell? ⟨b, off + i * m + j, none⟩ = (l[i]?.getD [])[j]?
theorem RecR.below {m n₀ : Nat} {A B : World} (h : Below n₀ A B) {a : Option Addr} {l : List (List Value)} : RecR m n₀ A a l → RecR m n₀ B a l
  | .inl e => .inl e
  | .inr ⟨b, off, e, hb, hc⟩ => .inr ⟨b, off, e, hb, fun i j hi hj => (h.cell (p := ⟨b, off + i * m + j, none⟩) hb).trans (hc i j hi hj)⟩
theorem RecR.mono {m n₀ n₁ : Nat} {A : World} (h : n₀ ≤ n₁) {a : Option Addr} {l : List (List Value)} : RecR m n₀ A a l → RecR m n₁ A a l
  | .inl e => .inl e
  | .inr ⟨b, off, e, hb, hc⟩ => .inr ⟨b, off, e, by omega, hc⟩
theorem OwnRec.read {T : TypeId} {m B : Nat} {w : World} {v : Value} {l : List (List Value)} (h : OwnRec T m B w v l) :
    ∃ a cap, v = .slice a l.length cap ∧ l.length ≤ cap ∧ cap ≤ maxLen ∧ (a = none → cap = 0) ∧ (∀ x, a = some x → B ≤ x.block ∧ x.block < w.heap.size ∧ x.off = 0) ∧ RecR m w.heap.size w a l := by
  rcases h.2.2 with ⟨rfl, hn⟩ | ⟨g, cap, cur, rfl, hb, hg, hc, hm, hs, ht⟩
  · have : l = [] := List.length_eq_zero_iff.1 hn
    subst this
    exact ⟨none, 0, rfl, Nat.le_refl _, by simp [maxLen], fun _ => rfl, (fun x e => by cases e), .inl rfl⟩
  · have hh : w.ownsRow B T m (.slice (some ⟨g, 0, none⟩) l.length cap) l.length l.flatten := ⟨h.2.1, .inr ⟨g, cap, cur, rfl, hb, hg, hc, hm, hs, ht⟩⟩
    have hlt : g < w.heap.size := (Array.getElem?_eq_some_iff.1 hg).1
    refine ⟨_, cap, rfl, hc, hm, (fun e => by cases e), (fun x e => by cases e; exact ⟨hb, hlt, rfl⟩), .inr ⟨g, 0, rfl, hlt, fun i j hi hj => ?_⟩⟩
    have hlen := flat_length m l h.1
    rw [Nat.zero_add, ← flat_at m l i j h.1 hi hj]
    refine hh.cellAt (i * m + j) ?_
    have : (i + 1) * m ≤ l.length * m := Nat.mul_le_mul_right _ hi
    rw [Nat.add_mul] at this
    omega
/-- append(s, u), s a slice of structs of the call's own. -/
theorem append_rec {P : Program} {ops : Array Oper} {rest : List Oper} {o : Oper} {a : Act} {Q : Exit → Act → World → Prop} {w0 : World} (T E : TypeId) (z : Value) (m bytes : Nat) (hT : P.underlying T = some (.slice E))
    (hE : (P.info? E).map (fun i => (i.zero, i.size, i.bytes)) = some (some z, m, bytes)) (hz : z.cells.size = m) (hm : 0 < m) (s x : Nat) (hgd : o.guard = none)
    (ho : o.op = .call { callee := .builtin .append, args := #[.tmp s, .tmp x], argTypes := #[T, T] }) (B : Nat) (v : Value) (l : List (List Value)) (us : List Value) (hul : us.length = m) (hu : ∀ u ∈ us, u.oneCell' = true)
    (hs : a.eval (.tmp s) = v) (hx : a.eval (.tmp x) = .slice (some ⟨w0.heap.size, 0, none⟩) 1 1) (hown : OwnRec E m B w0 v l) (hl : (l.length + 1) * bytes ≤ 140737488355328) (hl2 : l.length + 1 ≤ maxLen) (hB : B ≤ w0.heap.size)
    (h : ∀ v' w', OwnRec E m B w' v' (l ++ [us]) → (w0.alloc (.cells us.toArray E)).grownBy w' v.ownBlock → (v'.ownBlock = v.ownBlock ∨ v'.ownBlock = some (w0.heap.size + 1)) → wpList P ops Q rest (a.put o.dst v') w') :
    wpList P ops Q (o :: rest) a (w0.alloc (.cells us.toArray E)) := by
  obtain ⟨i, hi, hz0, hz1, hz2⟩ := info_parts hE
  refine wpList_append_own_at _ hgd (.tmp s) (.tmp x) T ho B E i z m bytes hT hi hz0 hz1 hz2 hz hm v l.length l.flatten hs (World.ownsRow.alloc hown.2 _) ⟨w0.heap.size, 0, none⟩ 1 1 us hx (by rw [hul, Nat.one_mul]) (fun j u hj => ?_) hu hl2 hl (by simp; omega) ?_
  · rw [Go.WideShapes.add_plain, Nat.zero_add, World.cell?_alloc_at _ _ _ _ rfl]
    simpa using hj
  · intro v' w' h1 h2 _ h4
    refine h v' w' ⟨fun y hy => ?_, ?_⟩ h2 (by simpa using h4)
    · rcases List.mem_append.1 hy with hy | hy
      · exact hown.1 y hy
      · rw [List.mem_singleton.1 hy, hul]
    · rw [List.length_append, List.flatten_append]
      simpa using h1
end Go.Proofs.YtolbdcmoblcakaaGreatDoor
/- The document's model of a hold in memory; its Get; SameVersions. -/
namespace Go.Proofs.YtolbdcmoblcakaaGreatDoor
section
open Go.RowKit

/-- a version that is kept under a key. -/
abbrev Kp := ByteArray × Ver
def encKp (p : Kp) : List Value := .string p.1 :: encVr p.2
def kp0 : Kp := (⟨#[]⟩, ver0)
/-- rows of the model that are read. -/
def KpR (n₀ : Nat) (w : World) (a : Option Addr) (l : List Kp) : Prop :=
  l = [] ∨ ∃ b off, a = some ⟨b, off, none⟩ ∧ b < n₀ ∧ ∀ i, i < l.length → w.cell? ⟨b, off + i * 6, none⟩ = some (.string (l[i]?.getD kp0).1) ∧ w.cell? ⟨b, off + i * 6 + 1, none⟩ = some (.int .i64 (l[i]?.getD kp0).2.1) ∧
    w.cell? ⟨b, off + i * 6 + 1 + 1, none⟩ = some (.int .i64 (l[i]?.getD kp0).2.2.1) ∧ w.cell? ⟨b, off + i * 6 + 1 + 2, none⟩ = some (.int .i64 (l[i]?.getD kp0).2.2.2.1) ∧
    w.cell? ⟨b, off + i * 6 + 1 + 3, none⟩ = some (.int .i64 (l[i]?.getD kp0).2.2.2.2.1) ∧ w.cell? ⟨b, off + i * 6 + 1 + 4, none⟩ = some (.string (l[i]?.getD kp0).2.2.2.2.2)
theorem KpR.below {n₀ : Nat} {A B : World} (h : Below n₀ A B) {a : Option Addr} {l : List Kp} : KpR n₀ A a l → KpR n₀ B a l
  | .inl e => .inl e
  | .inr ⟨b, off, e, hb, hc⟩ => .inr ⟨b, off, e, hb, fun i hi => by
    obtain ⟨h0, h1, h2, h3, h4, h5⟩ := hc i hi
    exact ⟨(h.cell (p := ⟨b, _, none⟩) hb).trans h0, (h.cell (p := ⟨b, _, none⟩) hb).trans h1, (h.cell (p := ⟨b, _, none⟩) hb).trans h2, (h.cell (p := ⟨b, _, none⟩) hb).trans h3, (h.cell (p := ⟨b, _, none⟩) hb).trans h4, (h.cell (p := ⟨b, _, none⟩) hb).trans h5⟩⟩
theorem KpR.mono {n₀ n₁ : Nat} {A : World} (h : n₀ ≤ n₁) {a : Option Addr} {l : List Kp} : KpR n₀ A a l → KpR n₁ A a l
  | .inl e => .inl e
  | .inr ⟨b, off, e, hb, hc⟩ => .inr ⟨b, off, e, by omega, hc⟩
theorem KpR.of_rec {n₀ : Nat} {w : World} {a : Option Addr} {l : List Kp} (h : RecR 6 n₀ w a (l.map encKp)) : KpR n₀ w a l := by
  rcases h with he | ⟨b, off, e, hb, hc⟩
  · left
    simpa using he
  · refine .inr ⟨b, off, e, hb, fun i hi => ?_⟩
    have hi2 : i < (l.map encKp).length := by simpa using hi
    have hel : (l.map encKp)[i]?.getD [] = encKp (l[i]?.getD kp0) := by simp [List.getElem?_eq_getElem hi]
    have k0 := hc i 0 hi2 (by decide)
    have k1 := hc i 1 hi2 (by decide)
    have k2 := hc i 2 hi2 (by decide)
    have k3 := hc i 3 hi2 (by decide)
    have k4 := hc i 4 hi2 (by decide)
    have k5 := hc i 5 hi2 (by decide)
    rw [hel] at k0 k1 k2 k3 k4 k5
    exact ⟨k0, k1, k2, k3, k4, k5⟩
/-- the document's hold lies at mb. -/
structure MHAt (G : Nat → Prop) (w : World) (mb : Nat) (sd : Bool) (l : List Kp) : Prop where
  hG : G mb
  hlt : mb < w.heap.size
  c1 : w.cell? ⟨mb, 1, none⟩ = some (.bool sd)
  f0 : w.frozen? ⟨mb, 0, none⟩ = false
  f1 : w.frozen? ⟨mb, 1, none⟩ = false
  c0 : ∃ a cap, w.cell? ⟨mb, 0, none⟩ = some (.slice a l.length cap) ∧ l.length ≤ cap ∧ cap ≤ maxLen ∧ (a = none → cap = 0) ∧ (∀ x, a = some x → G x.block ∧ x.block ≠ mb) ∧ KpR w.heap.size w a l
theorem MHAt.kept {G F : Nat → Prop} {w w' : World} {mb : Nat} {sd : Bool} {l : List Kp} (h : MHAt G w mb sd l) (hk : KeptBut F w w') (hd : ∀ b, b < w.heap.size → G b → ¬ F b) : MHAt G w' mb sd l := by
  have eb : w'.heap[mb]? = w.heap[mb]? := hk.block mb h.hlt (hd mb h.hlt h.hG)
  have ec : ∀ j, w'.cell? ⟨mb, j, none⟩ = w.cell? ⟨mb, j, none⟩ := fun j => World.cell?_of_block (a := ⟨mb, j, none⟩) eb
  have ef : ∀ j, w'.frozen? ⟨mb, j, none⟩ = w.frozen? ⟨mb, j, none⟩ := fun j => World.frozen?_of_block (a := ⟨mb, j, none⟩) eb
  obtain ⟨a, cap, h1, h2, h3, h4, h5, h6⟩ := h.c0
  refine ⟨h.hG, Nat.lt_of_lt_of_le h.hlt hk.size, (ec 1).trans h.c1, (ef 0).trans h.f0, (ef 1).trans h.f1, a, cap, (ec 0).trans h1, h2, h3, h4, h5, ?_⟩
  rcases h6 with he | ⟨b, off, rfl, hb, hc⟩
  · exact .inl he
  · have hbb : w'.heap[b]? = w.heap[b]? := hk.block b hb (hd b hb (h5 _ rfl).1)
    have hcc : ∀ o, w'.cell? ⟨b, o, none⟩ = w.cell? ⟨b, o, none⟩ := fun o => World.cell?_of_block (a := ⟨b, o, none⟩) hbb
    refine .inr ⟨b, off, rfl, Nat.lt_of_lt_of_le hb hk.size, fun i hi => ?_⟩
    obtain ⟨k0, k1, k2, k3, k4, k5⟩ := hc i hi
    exact ⟨(hcc _).trans k0, (hcc _).trans k1, (hcc _).trans k2, (hcc _).trans k3, (hcc _).trans k4, (hcc _).trans k5⟩
theorem MHAt.below {G : Nat → Prop} {w w' : World} {mb : Nat} {sd : Bool} {l : List Kp} (h : MHAt G w mb sd l) {n : Nat} (hk : Below n w w') (hn : w.heap.size ≤ n) : MHAt G w' mb sd l :=
  h.kept (KeptBut.of_below (F := fun b => n ≤ b) hk (fun _ _ h => h)) (fun _ hb _ => Nat.not_le_of_lt (Nat.lt_of_lt_of_le hb hn))
/-- the versions of a key. -/
def getL (l : List Kp) (key : ByteArray) : List Ver := (l.filter fun p => decide (p.1 = key)).map (·.2)
theorem getL_take {l : List Kp} {key : ByteArray} {i : Nat} (hi : i < l.length) : getL (l.take (i + 1)) key = getL (l.take i) key ++ (if (l[i]?.getD kp0).1 = key then [(l[i]?.getD kp0).2] else []) := by
  unfold getL
  rw [List.take_succ_eq_append_getElem hi, List.filter_append, List.map_append, List.getElem?_eq_getElem hi]
  simp only [Option.getD_some, List.filter_cons, List.filter_nil]
  by_cases h : l[i].1 = key
  · rw [if_pos (by simpa using h), if_pos h]; rfl
  · rw [if_neg (by simpa using h), if_neg h]; rfl
theorem getL_le (l : List Kp) (key : ByteArray) : (getL l key).length ≤ l.length := by
  unfold getL; rw [List.length_map]; exact List.length_filter_le _ _
set_option maxRecDepth 100000 in
set_option maxHeartbeats 4000000 in
theorem mget_walk (G : Nat → Prop) (w : World) (mb : Nat) (sd : Bool) (l : List Kp) (key : ByteArray) (h : MHAt G w mb sd l) (hl : l.length ≤ 1000) :
    Calls Tryz.prog 22 #[.pointer (some ⟨mb, 0, none⟩), .string key] w fun e w' => VCloneOut w w' (getL l key) e := by
  have HM := Lib.hid h
  obtain ⟨n, hn⟩ : ∃ n, l.length = n := ⟨_, rfl⟩
  have Hn := Lib.hid hn
  rw [hn] at hl
  clear h hn
  go_enter Tryz.func22, Tryz.ntmps22
  go_wp2
  go_loopw [5, 6] (fun vo vi wr => ∃ i : Nat, i ≤ n ∧ vi = .int .i64 i ∧ Hid (OwnV w.heap.size wr vo (getL (l.take i) key) ∧ Below w.heap.size w wr)) (fun _ i _ => n - (intOf i).toNat)
  case atStart => exact ⟨0, by omega, rfl, Lib.hid ⟨by simpa [getL] using OwnV.nil _ _, Below.refl _ _⟩⟩
  case round =>
    obtain ⟨i, hi, rfl, Hr⟩ := hrel
    have hM := HM.out.below Hr.out.2 (Nat.le_refl _)
    obtain ⟨a, cap, c0, hc, hcm, ha, _, hR⟩ := hM.c0
    rw [Hn.out] at c0 hc
    have hi2 : i < n ∨ i = n := by omega
    rcases hi2 with hilt | rfl
    · have hilt2 : (i : Int) < n := by omega
      have hil : i < l.length := by have := Hn.out; omega
      rcases hR with he | ⟨b, off, rfl, hbl, hcx⟩
      · exfalso
        rw [he] at hil; simp at hil
      obtain ⟨k0, k1, k2, k3, k4, k5⟩ := hcx i hil
      have hgt := getL_take (key := key) hil
      obtain ⟨⟨x, y1, y2, y3, y4, y5⟩, hx⟩ : ∃ x, l[i]?.getD kp0 = x := ⟨_, rfl⟩
      rw [hx] at k0 k1 k2 k3 k4 k5 hgt
      dsimp only at k0 k1 k2 k3 k4 k5 hgt
      have Hgt := Lib.hid hgt
      clear hcx hx hgt hM ha hc hcm hbl hil
      by_cases hk : x = key
      · subst hk
        have hown := Lib.hid Hr.out.1
        have hB1 : Below wr.heap.size wr (wr.alloc (.cells #[.int .i64 y1, .int .i64 y2, .int .i64 y3, .int .i64 y4, .string y5] 58)) := (Below.refl _ _).alloc (Nat.le_refl _) _
        have hone : OneV (wr.alloc (.cells #[.int .i64 y1, .int .i64 y2, .int .i64 y3, .int .i64 y4, .string y5] 58)) wr.heap.size (y1, y2, y3, y4, y5) := OneV.new wr (y1, y2, y3, y4, y5)
        have HA := Lib.hid (And.intro (hown.out.below hB1 (Nat.le_refl _)) (And.intro hone.read (And.intro (show (getL (l.take i) x).length + [((y1, y2, y3, y4, y5) : Ver)].length ≤ 1000000 by
          have h1 := getL_le (l.take i) x
          have h2 := List.length_take_le i l
          simp; omega) (show w.heap.size ≤ (wr.alloc (.cells #[.int .i64 y1, .int .i64 y2, .int .i64 y3, .int .i64 y4, .string y5] 58)).heap.size by have := Hr.out.2.size; simp; omega))))
        have Hbb := Lib.hid (Hr.out.2.trans (hB1.mono Hr.out.2.size))
        clear hB1 hone
        go_wp2_with (at_builtin; refine append_vers 26 35 rfl rfl w.heap.size _ (getL (l.take i) x) _ (some ⟨wr.heap.size, 0, none⟩) 1 1 [(y1, y2, y3, y4, y5)] rfl rfl HA.out.1 rfl HA.out.2.2.1 (fun e => by cases e) HA.out.2.1 HA.out.2.2.2 ?_)
        intro v' w' q1 q2 _ _
        have HR : Hid (OwnV w.heap.size w' v' (getL (l.take (i + 1)) x) ∧ Below w.heap.size w w') := Lib.hid ⟨by rw [Hgt.out, if_pos (by trivial)]; exact q1, Hbb.out.grown q2 HA.out.2.2.2 (fun j e => (hown.out.lt j e).1)⟩
        clear q1 q2 hown k0 k1 k2 k3 k4 k5
        go_wp2
        go_roundw
        case rel => exact ⟨i + 1, by omega, by go_num, HR⟩
        case measure => simp [intOf]; omega
      · have e1 := txt_neV hk
        have HR : Hid (OwnV w.heap.size wr u5 (getL (l.take (i + 1)) key) ∧ Below w.heap.size w wr) := Lib.hid ⟨by rw [Hgt.out, if_neg hk, List.append_nil]; exact Hr.out.1, Hr.out.2⟩
        clear hk
        go_wp2
        go_roundw
        case rel => exact ⟨i + 1, by omega, by go_num, HR⟩
        case measure => simp [intOf]; omega
    · have hall : l.take i = l := List.take_of_length_le (by have := Hn.out; omega)
      have HR : Hid (OwnV w.heap.size wr u5 (getL l key) ∧ Below w.heap.size w wr) := Lib.hid (by have h := Hr.out; rw [hall] at h; exact h)
      clear hall hM hR ha hc hcm
      go_wp2
      go_ret
      exact ⟨HR.out.2, _, rfl, HR.out.1⟩
end
end Go.Proofs.YtolbdcmoblcakaaGreatDoor
/- Slices of texts: that are read, that come in, that are the call's own. -/
namespace Go.Proofs.YtolbdcmoblcakaaGreatDoor
open Go.RowKit Go.ChangeShapes Go.WideShapes

/-- The slice at address a reads as the texts L, in a block below n₀. -/
def TxsAt (n₀ : Nat) (w : World) (a : Option Addr) (L : List ByteArray) : Prop :=
  L = [] ∨ ∃ b off, a = some ⟨b, off, none⟩ ∧ b < n₀ ∧ ∀ j, j < L.length → w.cell? ⟨b, off + j, none⟩ = some (.string (L[j]?.getD ⟨#[]⟩))
theorem TxsAt.below {n₀ : Nat} {A B : World} (h : Below n₀ A B) {a : Option Addr} {L : List ByteArray} : TxsAt n₀ A a L → TxsAt n₀ B a L
  | .inl e => .inl e
  | .inr ⟨b, off, e, hb, hc⟩ => .inr ⟨b, off, e, hb, fun j hj => (h.cell (p := ⟨b, off + j, none⟩) hb).trans (hc j hj)⟩
theorem TxsAt.mono {n₀ n₁ : Nat} {A : World} (h : n₀ ≤ n₁) {a : Option Addr} {L : List ByteArray} : TxsAt n₀ A a L → TxsAt n₁ A a L
  | .inl e => .inl e
  | .inr ⟨b, off, e, hb, hc⟩ => .inr ⟨b, off, e, by omega, hc⟩
theorem TxsAt.take {n₀ : Nat} {A : World} {a : Option Addr} {L : List ByteArray} (k : Nat) : TxsAt n₀ A a L → TxsAt n₀ A a (L.take k)
  | .inl e => .inl (by rw [e]; simp)
  | .inr ⟨b, off, e, hb, hc⟩ => .inr ⟨b, off, e, hb, fun j hj => by
      have hj' : j < L.length := by simp at hj; omega
      have hk : j < k := by simp at hj; omega
      rw [hc j hj', List.getElem?_take, if_pos hk]⟩
/-- What the walk is told of a slice of texts that came in. -/
structure TxsIn (w : World) (a : Option Addr) (len cap : Nat) (L : List ByteArray) : Prop where
  len_ : L.length = len
  cap_ : len ≤ cap
  max_ : cap ≤ maxLen
  nil_ : a = none → cap = 0
  siz_ : ∀ s ∈ L, s.size ≤ maxLen
  txs : TxsAt w.heap.size w a L
theorem TxsIn.sizeAt {w : World} {a : Option Addr} {len cap : Nat} {L : List ByteArray} (h : TxsIn w a len cap L) (j : Nat) : (L[j]?.getD ⟨#[]⟩).size ≤ maxLen := by
  by_cases hj : j < L.length
  · rw [List.getElem?_eq_getElem hj]; exact h.siz_ _ (List.getElem_mem hj)
  · rw [List.getElem?_eq_none (by omega)]; exact Nat.zero_le _
theorem cellsOfStr : Tryz.prog.cellsOf 9 = 1 := by kernel_rfl
theorem text_at {w : World} {x : Addr} {n : Nat} {V : Nat → Value} (h : ∀ i, i < n → w.cell? (x.add i) = some (V i)) (hp : 0 < n) : ∃ b off, x = ⟨b, off, none⟩ ∧ b < w.heap.size ∧ ∀ j, j < n → w.cell? ⟨b, off + j, none⟩ = some (V j) := by
  obtain ⟨b, off, spot⟩ := x
  have hspot : spot = none := by simpa [Addr.add] using World.cell?_spot (h 0 hp)
  subst hspot
  have hc : ∀ j, j < n → w.cell? ⟨b, off + j, none⟩ = some (V j) := fun j hj => by rw [← Go.WideShapes.add_plain]; exact h j hj
  refine ⟨b, off, rfl, ?_, hc⟩
  have h1 := hc 0 hp
  rcases Nat.lt_or_ge b w.heap.size with h | h
  · exact h
  · simp [World.cell?, Array.getElem?_eq_none h] at h1
theorem texts_of_trod {H : Type} {enc : TypeId × Value → H} {W : World} {v : Value} {fuel : Nat} {x : DataW H × List MemPlace} (h : DataW.trod enc Tryz.prog W 0 (fun _ => true) true fuel 22 [v] = some x) :
    ∃ a len cap L, v = .slice a len cap ∧ TxsIn W a len cap L := by
  rcases open_strings Tryz.underlying22 Tryz.underlying9 cellsOfStr h with ⟨hcs, _⟩ | ⟨x, l, c, ss, hcs, _, hl, hm, hz, _, hcell, hsz⟩
  · simp at hcs
    subst hcs
    exact ⟨none, 0, 0, [], rfl, rfl, Nat.le_refl _, by simp [maxLen], fun _ => rfl, (fun _ h => by cases h), .inl rfl⟩
  · simp at hcs
    subst hcs
    rw [if_pos rfl] at hz
    subst hz
    refine ⟨some x, l, ss.length, ss.take l, rfl, by simp; omega, hl, hm, (fun e => by cases e), fun s hs => hsz s (List.mem_of_mem_take hs), ?_⟩
    by_cases h0 : l = 0
    · left; subst h0; simp
    · obtain ⟨b, off, rfl, hb, hc⟩ := text_at hcell (by omega)
      refine .inr ⟨b, off, rfl, hb, fun j hj => ?_⟩
      have hj2 : j < l := by simp at hj; omega
      have hj3 : j < ss.length := by omega
      rw [hc j hj3, List.getElem?_take, if_pos hj2]
      simp [List.getD, List.getElem?_eq_getElem hj3]
theorem open_texts {H : Type} {enc : TypeId × Value → H} {W : World} {a : Option Addr} {len cap : Nat} {d : DataW H} {p : List MemPlace} (h : DataW.Trod enc Tryz.prog W 0 (fun _ => true) true 22 (.slice a len cap) d p) :
    ∃ L, TxsIn W a len cap L := by
  obtain ⟨fuel, hf⟩ := h
  obtain ⟨a', len', cap', L, e, hL⟩ := texts_of_trod (v := .slice a len cap) (by simpa [Value.cells] using hf)
  obtain ⟨rfl, rfl, rfl⟩ := Value.slice.inj e
  exact ⟨L, hL⟩

/-- v owns the texts L. -/
def OwnT (B : Nat) (w : World) (v : Value) (L : List ByteArray) : Prop := Own1 9 B w v (L.map Value.string)
theorem OwnT.nil (B : Nat) (w : World) : OwnT B w (.slice none 0 0) [] := World.ownsRow_nil _ _ _ _
theorem OwnT.read {B : Nat} {w : World} {v : Value} {L : List ByteArray} (h : OwnT B w v L) : ∃ a cap, v = .slice a L.length cap ∧ L.length ≤ cap ∧ cap ≤ maxLen ∧ (a = none → cap = 0) ∧ TxsAt w.heap.size w a L := by
  rcases Own1.shape h with ⟨rfl, hl⟩ | ⟨g, cap, rfl, _, hg, hc, hm, _, hcell⟩
  · have : L = [] := by simpa using hl
    subst this
    exact ⟨none, 0, rfl, by simp, by simp [maxLen], fun _ => rfl, .inl rfl⟩
  · refine ⟨_, cap, by simp, by simpa using hc, hm, (fun e => by cases e), .inr ⟨g, 0, rfl, hg, fun j hj => ?_⟩⟩
    rw [Nat.zero_add, hcell j (by simpa using hj)]
    simp [hj]
theorem info_text : (Tryz.prog.info? 9).map (fun i => (i.zero, i.size, i.bytes)) = some (some (.string ⟨#[]⟩), 1, 16) := by kernel_rfl
/-- append(s, t) of a text. -/
theorem append_txt {ops : Array Oper} {rest : List Oper} {o : Oper} {a : Act} {Q : Exit → Act → World → Prop} {w0 : World} (s x : Nat) (hgd : o.guard = none)
    (ho : o.op = .call { callee := .builtin .append, args := #[.tmp s, .tmp x], argTypes := #[22, 22] }) (B : Nat) (v : Value) (L : List ByteArray) (t : ByteArray)
    (hs : a.eval (.tmp s) = v) (hx : a.eval (.tmp x) = .slice (some ⟨w0.heap.size, 0, none⟩) 1 1) (hown : OwnT B w0 v L) (hl : L.length ≤ 1000000) (hB : B ≤ w0.heap.size)
    (h : ∀ v' w', OwnT B w' v' (L ++ [t]) → (w0.alloc (.cells #[.string t] 9)).grownBy w' v.ownBlock → (v'.ownBlock = v.ownBlock ∨ v'.ownBlock = some (w0.heap.size + 1)) → wpList Tryz.prog ops Q rest (a.put o.dst v') w') :
    wpList Tryz.prog ops Q (o :: rest) a (w0.alloc (.cells #[.string t] 9)) := by
  refine append_one 22 9 (.string ⟨#[]⟩) 16 Tryz.underlying22 info_text rfl s x hgd ho B v _ _ rfl hs hx hown (by simp; omega) (by simp [maxLen]; omega) hB ?_
  intro v' w' h1 h2 h3
  exact h v' w' (by unfold OwnT; rw [List.map_append]; exact h1) h2 h3
/-- append(s, l...) of texts. -/
theorem append_txts {ops : Array Oper} {rest : List Oper} {o : Oper} {a : Act} {Q : Exit → Act → World → Prop} {w : World} (s x : Nat) (hgd : o.guard = none)
    (ho : o.op = .call { callee := .builtin .append, args := #[.tmp s, .tmp x], argTypes := #[22, 22] }) (B : Nat) (v : Value) (L : List ByteArray) (n₀ : Nat) (ad : Option Addr) (len cap : Nat) (M : List ByteArray)
    (hs : a.eval (.tmp s) = v) (hx : a.eval (.tmp x) = .slice ad len cap) (hown : OwnT B w v L) (hlen : M.length = len) (hl : L.length + M.length ≤ 1000000) (ha : ad = none → cap = 0) (hI : TxsAt n₀ w ad M) (hB : B ≤ w.heap.size)
    (h : ∀ v' w', OwnT B w' v' (L ++ M) → w.grownBy w' v.ownBlock → (v'.ownBlock = v.ownBlock ∨ v'.ownBlock = some w.heap.size) → wpList Tryz.prog ops Q rest (a.put o.dst v') w') :
    wpList Tryz.prog ops Q (o :: rest) a w := by
  obtain ⟨i, hi, hz0, hz1, hz2⟩ := info_parts info_text
  subst hlen
  have hown' : w.ownsRow B 9 1 v L.length (L.map Value.string) := by
    have h0 := hown
    unfold OwnT Own1 at h0
    simpa using h0
  have at_ : ∀ y : Addr, ad = some y → (∀ j u, (M.map Value.string)[j]? = some u → w.cell? (y.add j) = some u) → wpList Tryz.prog ops Q (o :: rest) a w := fun y e hc => by
    refine wpList_append_own_at _ hgd (.tmp s) (.tmp x) 22 ho B 9 i _ 1 16 Tryz.underlying22 hi hz0 hz1 hz2 rfl (by decide) v L.length (L.map Value.string) hs hown' y M.length cap (M.map Value.string) (hx.trans (by rw [e])) (by simp) hc (fun u hu => ?_) (by unfold maxLen; omega) (by omega) hB ?_
    · obtain ⟨t, _, rfl⟩ := List.mem_map.1 hu
      rfl
    · intro v' w' h1 h2 _ h4
      refine h v' w' ?_ h2 h4
      unfold OwnT Own1
      rw [List.map_append]
      simpa using h1
  rcases hI with rfl | ⟨b, off, e, _, hcell⟩
  · cases ad with
    | none =>
      obtain rfl := ha rfl
      refine wpList_append_own_none hgd (.tmp s) (.tmp x) 22 ho B 9 i 1 Tryz.underlying22 hi v L.length (L.map Value.string) hs hown' hx ?_
      exact h v w (by simpa using hown) (World.grownBy.refl _ _) (.inl rfl)
    | some ad => exact at_ ad rfl (fun j u hj => by simp at hj)
  · refine at_ _ e (fun j u hj => ?_)
    have hj2 : j < M.length := by have := (List.getElem?_eq_some_iff.1 hj).1; simpa using this
    rw [Go.WideShapes.add_plain, hcell j hj2, ← hj]
    simp [List.getElem?_eq_getElem hj2]
end Go.Proofs.YtolbdcmoblcakaaGreatDoor
/- The walk of SameVersions. -/
namespace Go.Proofs.YtolbdcmoblcakaaGreatDoor
section
open Go.RowKit

theorem txt_neW {a b : ByteArray} (h : a ≠ b) : (a.toList == b.toList) = false := by
  rw [beq_eq_false_iff_ne]
  intro e
  apply h
  rw [ByteArray.toList_eq, ByteArray.toList_eq] at e
  cases a; cases b
  exact congrArg ByteArray.mk (Array.toList_inj.1 e)
theorem vers_ext {A B : List Ver} (hl : A.length = B.length) (h : ∀ j, j < A.length → (A[j]?.getD ver0) = (B[j]?.getD ver0)) : A = B := by
  apply List.ext_getElem hl
  intro i h1 h2
  have := h i h1
  rw [List.getElem?_eq_getElem h1, List.getElem?_eq_getElem h2] at this
  exact this
set_option maxRecDepth 100000 in
set_option maxHeartbeats 4000000 in
theorem samev_walk (n₀ : Nat) (a : Option Addr) (la ca : Nat) (A : List Ver) (b : Option Addr) (lb cb : Nat) (B : List Ver) (r : Bool) (w : World) (hla : A.length = la) (hlb : B.length = lb) (hm : la ≤ maxLen) (hA : VrR n₀ w a A) (hB : VrR n₀ w b B) (hr : decide (A = B) = r) :
    Calls Tryz.prog 20 #[.slice a la ca, .slice b lb cb] w fun e w' => e = .returned (.bool r) ∧ Below w.heap.size w w' := by
  have hm9 : la ≤ 9223372036854775807 := hm
  have HA := Lib.hid hA
  have HB := Lib.hid hB
  have Hl := Lib.hid (And.intro hla hlb)
  have Hr := Lib.hid hr
  by_cases hlen : la = lb
  · subst hlen
    clear hA hB hla hlb hr hm
    go_enter Tryz.func20, Tryz.ntmps20
    go_wp2
    go_loopw [5] (fun vi wr => ∃ k : Nat, k ≤ la ∧ vi = .int .i64 k ∧ Hid ((∀ j, j < k → (A[j]?.getD ver0) = (B[j]?.getD ver0)) ∧ ∃ q, wr = w.drewN q)) (fun i _ => la - (intOf i).toNat)
    case atStart => exact ⟨0, by omega, rfl, Lib.hid ⟨fun j hj => by omega, 0, rfl⟩⟩
    case round =>
      obtain ⟨k, hk, rfl, H⟩ := hrel
      have hbw : Below w.heap.size w wr := by
        obtain ⟨_, q, rfl⟩ := H.out
        exact ⟨rfl, rfl, rfl, Nat.le_refl _, fun _ _ => rfl⟩
      have Hbw := Lib.hid hbw
      have hk2 : k < la ∨ k = la := by omega
      rcases hk2 with hlt | rfl
      · have hlt2 : (k : Int) < la := by omega
        have hcA : ∀ n, VrR n w a A → VrR n wr a A := fun n h => by
          obtain ⟨_, q, rfl⟩ := H.out
          exact h
        have hcB : ∀ n, VrR n w b B → VrR n wr b B := fun n h => by
          obtain ⟨_, q, rfl⟩ := H.out
          exact h
        rcases hcA _ HA.out with he | ⟨ba, oa, rfl, _, h1⟩
        · exfalso
          have := Hl.out.1
          rw [he] at this; simp at this; omega
        rcases hcB _ HB.out with he | ⟨bb, ob, rfl, _, h2⟩
        · exfalso
          have := Hl.out.2
          rw [he] at this; simp at this; omega
        obtain ⟨p0, p1, p2, p3, p4⟩ := VrR.at5 h1 (i := k) (by have := Hl.out.1; omega)
        obtain ⟨q0, q1, q2, q3, q4⟩ := VrR.at5 h2 (i := k) (by have := Hl.out.2; omega)
        obtain ⟨⟨x1, x2, x3, x4, x5⟩, hx⟩ : ∃ x, A[k]?.getD ver0 = x := ⟨_, rfl⟩
        obtain ⟨⟨y1, y2, y3, y4, y5⟩, hy⟩ : ∃ y, B[k]?.getD ver0 = y := ⟨_, rfl⟩
        rw [hx] at p0 p1 p2 p3 p4
        rw [hy] at q0 q1 q2 q3 q4
        dsimp only at p0 p1 p2 p3 p4 q0 q1 q2 q3 q4
        have Hxy := Lib.hid (And.intro hx hy)
        clear hx hy hcA hcB hbw h1 h2
        have hcs : (x1 = y1 ∧ x2 = y2 ∧ x3 = y3 ∧ x4 = y4 ∧ x5 = y5) ∨ x1 ≠ y1 ∨ (x1 = y1 ∧ x2 ≠ y2) ∨ (x1 = y1 ∧ x2 = y2 ∧ x3 ≠ y3) ∨ (x1 = y1 ∧ x2 = y2 ∧ x3 = y3 ∧ x4 ≠ y4) ∨ (x1 = y1 ∧ x2 = y2 ∧ x3 = y3 ∧ x4 = y4 ∧ x5 ≠ y5) := by
          by_cases e1 : x1 = y1
          · by_cases e2 : x2 = y2
            · by_cases e3 : x3 = y3
              · by_cases e4 : x4 = y4
                · by_cases e5 : x5 = y5
                  · exact .inl ⟨e1, e2, e3, e4, e5⟩
                  · exact .inr (.inr (.inr (.inr (.inr ⟨e1, e2, e3, e4, e5⟩))))
                · exact .inr (.inr (.inr (.inr (.inl ⟨e1, e2, e3, e4⟩))))
              · exact .inr (.inr (.inr (.inl ⟨e1, e2, e3⟩)))
            · exact .inr (.inr (.inl ⟨e1, e2⟩))
          · exact .inr (.inl e1)
        rcases hcs with ⟨rfl, rfl, rfl, rfl, rfl⟩ | hne
        · go_wp2
          go_quiet (fail)
          go_wp2
          go_roundw
          case rel => exact ⟨k + 1, by omega, by go_num, Lib.hid ⟨fun j hj => by
            by_cases e : j = k
            · rw [e, Hxy.out.1, Hxy.out.2]
            · exact H.out.1 j (by omega), by
              obtain ⟨_, q, hq⟩ := H.out
              exact ⟨q + nq, by rw [hq, World.drewN_drewN]⟩⟩⟩
          case measure => simp [intOf]; omega
        · have hrf : r = false := by
            rw [← Hr.out]
            apply decide_eq_false
            intro hAB
            have h9 : ((x1, x2, x3, x4, x5) : Ver) = (y1, y2, y3, y4, y5) := by rw [← Hxy.out.1, ← Hxy.out.2, hAB]
            simp only [Prod.mk.injEq] at h9
            obtain ⟨rfl, rfl, rfl, rfl, rfl⟩ := h9
            simp at hne
          subst hrf
          clear Hxy
          rcases hne with h9 | ⟨rfl, h9⟩ | ⟨rfl, rfl, h9⟩ | ⟨rfl, rfl, rfl, h9⟩ | ⟨rfl, rfl, rfl, rfl, h9⟩
          · have e1 : (x1 == y1) = false := beq_eq_false_iff_ne.2 h9
            clear h9
            go_wp2
            go_quiet (fail)
            go_wp2
            go_ret
            exact ⟨rfl, Hbw.out.trans ⟨rfl, rfl, rfl, Nat.le_refl _, fun _ _ => rfl⟩⟩
          · have e1 : (x2 == y2) = false := beq_eq_false_iff_ne.2 h9
            clear h9
            go_wp2
            go_quiet (fail)
            go_wp2
            go_ret
            exact ⟨rfl, Hbw.out.trans ⟨rfl, rfl, rfl, Nat.le_refl _, fun _ _ => rfl⟩⟩
          · have e1 : (x3 == y3) = false := beq_eq_false_iff_ne.2 h9
            clear h9
            go_wp2
            go_quiet (fail)
            go_wp2
            go_ret
            exact ⟨rfl, Hbw.out.trans ⟨rfl, rfl, rfl, Nat.le_refl _, fun _ _ => rfl⟩⟩
          · have e1 : (x4 == y4) = false := beq_eq_false_iff_ne.2 h9
            clear h9
            go_wp2
            go_quiet (fail)
            go_wp2
            go_ret
            exact ⟨rfl, Hbw.out.trans ⟨rfl, rfl, rfl, Nat.le_refl _, fun _ _ => rfl⟩⟩
          · have e1 := txt_neW h9
            clear h9
            go_wp2
            go_quiet (fail)
            go_wp2
            go_ret
            exact ⟨rfl, Hbw.out.trans ⟨rfl, rfl, rfl, Nat.le_refl _, fun _ _ => rfl⟩⟩
      · have hrt : r = true := by
          rw [← Hr.out]
          exact decide_eq_true (vers_ext (by have := Hl.out; omega) (fun j hj => H.out.1 j (by have := Hl.out.1; omega)))
        subst hrt
        clear hbw
        go_wp2
        go_ret
        exact ⟨rfl, Hbw.out⟩
  · have hrf : r = false := by
      rw [← hr]
      exact decide_eq_false (fun e => hlen (by rw [← hla, ← hlb, e]))
    subst hrf
    have e1 : ((la : Int) == (lb : Int)) = false := beq_eq_false_iff_ne.2 (by omega)
    have e2 : ((la : Int) != (lb : Int)) = true := bne_iff_ne.2 (by omega)
    have e3 : (la == lb) = false := beq_eq_false_iff_ne.2 hlen
    clear hA hB hla hlb hr hm hlen
    go_enter Tryz.func20, Tryz.ntmps20
    go_wp2
    go_ret
    exact ⟨rfl, Below.refl _ _⟩
end
end Go.Proofs.YtolbdcmoblcakaaGreatDoor
