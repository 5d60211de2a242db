/- Walks of the document's Times and SameMatrix; of the program's Times where they do not go together. -/
import Derived.Test.YtmaalkjimppnkaaDoorMatL
import Derived.Test.YtmaalkjimppnkaaDoorRefC
namespace Go.Proofs.YtmaalkjimppnkaaDoor
open Go.RowKit

/-- the row while a column of it grows. -/
def growing (MA MB : Nat → Nat → Nat) (K i j k : Nat) : Nat → Nat := Mx.upd (firstK j (timesRow MA MB i K) (fun _ => 0)) j (timesRow MA MB i k j)

/-- a row as a text. -/
def rowText (f : Nat → Nat) (C : Nat) : List UInt8 := (List.range C).map fun j => UInt8.ofNat (f j)
theorem conv_row (w : World) (p o C cap : Nat) (f : Nat → Nat) (hf : ∀ j, f j < 256) (hc : ∀ j, j < C → w.cell? ⟨p, o + j, none⟩ = some (.int .u8 (f j : Nat))) :
    (convert 122 9 (.slice (some ⟨p, o, none⟩) C cap)).run Tryd.prog w = .ok (.string ⟨(rowText f C).toArray⟩) w := by
  have hl : (rowText f C).length = C := by simp [rowText]
  have h := run_convert_bytes_back (P := Tryd.prog) w 122 9 5 ⟨p, o, none⟩ cap (rowText f C) Tryd.underlying122 Tryd.underlying5 Tryd.underlying9 (fun j hj => by
    rw [Addr.add_lit, hc j (by rw [← hl]; exact hj)]
    have e : (rowText f C)[j] = UInt8.ofNat (f j) := by simp [rowText]
    rw [e, UInt8.toNat_ofNat_of_lt' (hf j)])
  rw [hl] at h
  exact h
end Go.Proofs.YtmaalkjimppnkaaDoor
