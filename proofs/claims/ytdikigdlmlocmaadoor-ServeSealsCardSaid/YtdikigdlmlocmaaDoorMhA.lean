/- The document's model of a hold in memory; its Get; SameVersions. -/
import Derived.Test.YtdikigdlmlocmaaDoorHld
import Derived.Test.YtdikigdlmlocmaaDoorRec
import Derived.Deep.QuietTactic
import Derived.BigQuiet
namespace Go.Proofs.YtdikigdlmlocmaaDoor
section
open Go.RowKit

/-- a version that is kept under a key. -/
abbrev Kp := ByteArray × Ver
def encKp (p : Kp) : List Value := .string p.1 :: encVr p.2
def kp0 : Kp := (⟨#[]⟩, ver0)
/-- rows of the model that are read. -/
def KpR (n₀ : Nat) (w : World) (a : Option Addr) (l : List Kp) : Prop :=
  l = [] ∨ ∃ b off, a = some ⟨b, off, none⟩ ∧ b < n₀ ∧ ∀ i, i < l.length → w.cell? ⟨b, off + i * 6, none⟩ = some (.string (l[i]?.getD kp0).1) ∧ w.cell? ⟨b, off + i * 6 + 1, none⟩ = some (.int .i64 (l[i]?.getD kp0).2.1) ∧
    w.cell? ⟨b, off + i * 6 + 1 + 1, none⟩ = some (.int .i64 (l[i]?.getD kp0).2.2.1) ∧ w.cell? ⟨b, off + i * 6 + 1 + 2, none⟩ = some (.int .i64 (l[i]?.getD kp0).2.2.2.1) ∧
    w.cell? ⟨b, off + i * 6 + 1 + 3, none⟩ = some (.int .i64 (l[i]?.getD kp0).2.2.2.2.1) ∧ w.cell? ⟨b, off + i * 6 + 1 + 4, none⟩ = some (.string (l[i]?.getD kp0).2.2.2.2.2)
theorem KpR.below {n₀ : Nat} {A B : World} (h : Below n₀ A B) {a : Option Addr} {l : List Kp} : KpR n₀ A a l → KpR n₀ B a l
  | .inl e => .inl e
  | .inr ⟨b, off, e, hb, hc⟩ => .inr ⟨b, off, e, hb, fun i hi => by
    obtain ⟨h0, h1, h2, h3, h4, h5⟩ := hc i hi
    exact ⟨(h.cell (p := ⟨b, _, none⟩) hb).trans h0, (h.cell (p := ⟨b, _, none⟩) hb).trans h1, (h.cell (p := ⟨b, _, none⟩) hb).trans h2, (h.cell (p := ⟨b, _, none⟩) hb).trans h3, (h.cell (p := ⟨b, _, none⟩) hb).trans h4, (h.cell (p := ⟨b, _, none⟩) hb).trans h5⟩⟩
theorem KpR.mono {n₀ n₁ : Nat} {A : World} (h : n₀ ≤ n₁) {a : Option Addr} {l : List Kp} : KpR n₀ A a l → KpR n₁ A a l
  | .inl e => .inl e
  | .inr ⟨b, off, e, hb, hc⟩ => .inr ⟨b, off, e, by omega, hc⟩
theorem KpR.of_rec {n₀ : Nat} {w : World} {a : Option Addr} {l : List Kp} (h : RecR 6 n₀ w a (l.map encKp)) : KpR n₀ w a l := by
  rcases h with he | ⟨b, off, e, hb, hc⟩
  · left
    simpa using he
  · refine .inr ⟨b, off, e, hb, fun i hi => ?_⟩
    have hi2 : i < (l.map encKp).length := by simpa using hi
    have hel : (l.map encKp)[i]?.getD [] = encKp (l[i]?.getD kp0) := by simp [List.getElem?_eq_getElem hi]
    have k0 := hc i 0 hi2 (by decide)
    have k1 := hc i 1 hi2 (by decide)
    have k2 := hc i 2 hi2 (by decide)
    have k3 := hc i 3 hi2 (by decide)
    have k4 := hc i 4 hi2 (by decide)
    have k5 := hc i 5 hi2 (by decide)
    rw [hel] at k0 k1 k2 k3 k4 k5
    exact ⟨k0, k1, k2, k3, k4, k5⟩
/-- the document's hold lies at mb. -/
structure MHAt (G : Nat → Prop) (w : World) (mb : Nat) (sd : Bool) (l : List Kp) : Prop where
  hG : G mb
  hlt : mb < w.heap.size
  c1 : w.cell? ⟨mb, 1, none⟩ = some (.bool sd)
  f0 : w.frozen? ⟨mb, 0, none⟩ = false
  f1 : w.frozen? ⟨mb, 1, none⟩ = false
  c0 : ∃ a cap, w.cell? ⟨mb, 0, none⟩ = some (.slice a l.length cap) ∧ l.length ≤ cap ∧ cap ≤ maxLen ∧ (a = none → cap = 0) ∧ (∀ x, a = some x → G x.block ∧ x.block ≠ mb) ∧ KpR w.heap.size w a l
theorem MHAt.kept {G F : Nat → Prop} {w w' : World} {mb : Nat} {sd : Bool} {l : List Kp} (h : MHAt G w mb sd l) (hk : KeptBut F w w') (hd : ∀ b, b < w.heap.size → G b → ¬ F b) : MHAt G w' mb sd l := by
  have eb : w'.heap[mb]? = w.heap[mb]? := hk.block mb h.hlt (hd mb h.hlt h.hG)
  have ec : ∀ j, w'.cell? ⟨mb, j, none⟩ = w.cell? ⟨mb, j, none⟩ := fun j => World.cell?_of_block (a := ⟨mb, j, none⟩) eb
  have ef : ∀ j, w'.frozen? ⟨mb, j, none⟩ = w.frozen? ⟨mb, j, none⟩ := fun j => World.frozen?_of_block (a := ⟨mb, j, none⟩) eb
  obtain ⟨a, cap, h1, h2, h3, h4, h5, h6⟩ := h.c0
  refine ⟨h.hG, Nat.lt_of_lt_of_le h.hlt hk.size, (ec 1).trans h.c1, (ef 0).trans h.f0, (ef 1).trans h.f1, a, cap, (ec 0).trans h1, h2, h3, h4, h5, ?_⟩
  rcases h6 with he | ⟨b, off, rfl, hb, hc⟩
  · exact .inl he
  · have hbb : w'.heap[b]? = w.heap[b]? := hk.block b hb (hd b hb (h5 _ rfl).1)
    have hcc : ∀ o, w'.cell? ⟨b, o, none⟩ = w.cell? ⟨b, o, none⟩ := fun o => World.cell?_of_block (a := ⟨b, o, none⟩) hbb
    refine .inr ⟨b, off, rfl, Nat.lt_of_lt_of_le hb hk.size, fun i hi => ?_⟩
    obtain ⟨k0, k1, k2, k3, k4, k5⟩ := hc i hi
    exact ⟨(hcc _).trans k0, (hcc _).trans k1, (hcc _).trans k2, (hcc _).trans k3, (hcc _).trans k4, (hcc _).trans k5⟩
theorem MHAt.below {G : Nat → Prop} {w w' : World} {mb : Nat} {sd : Bool} {l : List Kp} (h : MHAt G w mb sd l) {n : Nat} (hk : Below n w w') (hn : w.heap.size ≤ n) : MHAt G w' mb sd l :=
  h.kept (KeptBut.of_below (F := fun b => n ≤ b) hk (fun _ _ h => h)) (fun _ hb _ => Nat.not_le_of_lt (Nat.lt_of_lt_of_le hb hn))
/-- the versions of a key. -/
def getL (l : List Kp) (key : ByteArray) : List Ver := (l.filter fun p => decide (p.1 = key)).map (·.2)
theorem getL_take {l : List Kp} {key : ByteArray} {i : Nat} (hi : i < l.length) : getL (l.take (i + 1)) key = getL (l.take i) key ++ (if (l[i]?.getD kp0).1 = key then [(l[i]?.getD kp0).2] else []) := by
  unfold getL
  rw [List.take_succ_eq_append_getElem hi, List.filter_append, List.map_append, List.getElem?_eq_getElem hi]
  simp only [Option.getD_some, List.filter_cons, List.filter_nil]
  by_cases h : l[i].1 = key
  · rw [if_pos (by simpa using h), if_pos h]; rfl
  · rw [if_neg (by simpa using h), if_neg h]; rfl
theorem txt_neV {a b : ByteArray} (h : a ≠ b) : (a.toList == b.toList) = false := by
  rw [beq_eq_false_iff_ne]
  intro e
  apply h
  rw [ByteArray.toList_eq, ByteArray.toList_eq] at e
  cases a; cases b
  exact congrArg ByteArray.mk (Array.toList_inj.1 e)
theorem getL_le (l : List Kp) (key : ByteArray) : (getL l key).length ≤ l.length := by
  unfold getL; rw [List.length_map]; exact List.length_filter_le _ _
end
end Go.Proofs.YtdikigdlmlocmaaDoor
