/- Errors with a number and a place: what a walk is told of them. -/
import Derived.Test.YthdicfcgkbepdaaGreatDoorCodeF
import Derived.Test.YthdicfcgkbepdaaGreatDoorNod
namespace Go.Proofs.YthdicfcgkbepdaaGreatDoor
open Go.RowKit

/-- the errors that the checks of nodes hand back. -/
structure ErrNx (w : World) (E : Nat → Addr) : Prop where
  c1 : w.cell? ⟨3, 0, none⟩ = some (errV (E 1))
  c3 : w.cell? ⟨2, 0, none⟩ = some (errV (E 3))
  c5 : w.cell? ⟨4, 0, none⟩ = some (errV (E 5))
theorem ErrNx.below {n : Nat} {w w' : World} {E : Nat → Addr} (hb : Below n w w') (hn : w.heap.size ≤ n) (h : ErrNx w E) : ErrNx w' E := by
  have c : ∀ {p v}, w.cell? p = some v → w'.cell? p = some v := fun {p v} h => (hb.cell (Nat.lt_of_lt_of_le (lt_of_cell h) hn)).trans h
  exact ⟨c h.c1, c h.c3, c h.c5⟩
theorem ErrEnv.nx {w : World} {E : Nat → Addr} (h : ErrEnv w E) : ErrNx w E := ⟨h.c1, h.c3, h.c5⟩
/-- the error v bears the number and the place f (0: none). -/
def FltV (w : World) (E : Nat → Addr) (f : Nat × Int) (v : Value) : Prop :=
  (f = (0, -1) ∧ v = .nilIface) ∨ (∃ i, i < 12 ∧ f = (i + 1, -1) ∧ v = errV (E i)) ∨ (∃ i n, i < 12 ∧ f.1 = i + 1 ∧ v = faultV n ∧ FaultAt w n f.2 (E i))
theorem FltV.below {n : Nat} {w w' : World} {E : Nat → Addr} {f : Nat × Int} {v : Value} (hb : Below n w w') (hn : w.heap.size ≤ n) (h : FltV w E f v) : FltV w' E f v := by
  rcases h with h | h | ⟨i, m, h1, h2, h3, h4⟩
  · exact .inl h
  · exact .inr (.inl h)
  · exact .inr (.inr ⟨i, m, h1, h2, h3, h4.below hb hn⟩)
/-- an error, or none. -/
theorem FltV.nil {w : World} {E : Nat → Addr} {f : Nat × Int} {v : Value} (h : FltV w E f v) (h0 : f.1 = 0) : f = (0, -1) ∧ v = .nilIface := by
  rcases h with h | ⟨i, _, h2, _⟩ | ⟨i, m, _, h2, _⟩
  · exact h
  · rw [h2] at h0; simp at h0
  · omega
/-- an error's value: one of the two makes. -/
theorem FltV.some_ {w : World} {E : Nat → Addr} {f : Nat × Int} {v : Value} (h : FltV w E f v) (h0 : f.1 ≠ 0) : (∃ a, v = errV a) ∨ ∃ n, v = faultV n := by
  rcases h with ⟨h, _⟩ | ⟨i, _, _, h2⟩ | ⟨i, m, _, _, h2, _⟩
  · rw [h] at h0; exact absurd rfl h0
  · exact .inl ⟨_, h2⟩
  · exact .inr ⟨_, h2⟩
theorem code_flt {w : World} {E : Nat → Addr} {f : Nat × Int} {v : Value} (hE : ErrEnv w E) (h : FltV w E f v) :
    Calls Tryz.prog 25 #[v] w fun e w' => e = .returned (.tuple #[.int .i64 (f.1 : Nat), .int .i64 f.2]) ∧ Below w.heap.size w w' := by
  rcases h with ⟨rfl, rfl⟩ | ⟨i, hi, rfl, rfl⟩ | ⟨i, m, hi, h1, rfl, hF⟩
  · exact (code_nil w).mono fun e w' ⟨he, hw⟩ => ⟨he, hw ▸ Below.refl _ _⟩
  · exact (code_err E i hi w hE).mono fun e w' ⟨he, hw⟩ => ⟨by rw [he]; simp, hw⟩
  · exact (code_fault E i hi m f.2 w hE hF).mono fun e w' ⟨he, hw⟩ => ⟨by rw [he, h1]; simp, hw⟩
end Go.Proofs.YthdicfcgkbepdaaGreatDoor
