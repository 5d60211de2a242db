/- The closed fact of chapter 4, and what is sealed is opened. -/
import Derived.Test.YtgcnohejmofhkaaDoorOpen
import Derived.Test.YtgcnohejmofhkaaDoorEnv
import Derived.Lib.Strings
namespace Go.Proofs.YtgcnohejmofhkaaDoor
open Go.RowKit

theorem below_drewN' (w : World) (n : Nat) : Below w.heap.size w (w.drewN n) := ⟨rfl, rfl, rfl, Nat.le_refl _, fun _ _ => rfl⟩
theorem crc_known : Sm.crc (Sm.nats ⟨#[49, 50, 51, 52, 53, 54, 55, 56, 57]⟩) = 3421780262 ∧ Sm.hash (Sm.nats ⟨#[97]⟩) = 3826002220 ∧ Sm.crc (Sm.nats ⟨#[]⟩) = 0 := by decide +kernel
theorem data_inj {a b : ByteArray} (h : a.data.toList = b.data.toList) : a = b := by
  obtain ⟨a⟩ := a
  obtain ⟨b⟩ := b
  exact congrArg ByteArray.mk (Array.toList_inj.1 h)
theorem append_list (a b : ByteArray) : (a ++ b).data.toList = a.data.toList ++ b.data.toList := by simp
theorem bodyOf_append {s f : ByteArray} (hf : f.size = 4) : bodyOf (s ++ f) = s := by
  apply data_inj
  unfold bodyOf
  have hl : (s ++ f).size - 4 = s.data.toList.length := by
    have : (s ++ f).size = s.size + f.size := by simp
    rw [this, hf]; simp
  rw [Lib.extract_data, append_list, hl]
  simp
theorem tailOf_append {s f : ByteArray} (hf : f.size = 4) : tailOf (s ++ f) = f := by
  apply data_inj
  unfold tailOf
  have hl : (s ++ f).size - 4 = s.data.toList.length := by
    have : (s ++ f).size = s.size + f.size := by simp
    rw [this, hf]; simp
  have hz : (s ++ f).size - s.data.toList.length = f.data.toList.length := by
    have : (s ++ f).size = s.size + f.size := by simp
    rw [this]; simp
  rw [Lib.extract_data, append_list, hl, hz, List.drop_left]
  exact List.take_of_length_le (Nat.le_refl _)
theorem fourS_size (n : Nat) : (fourS n).size = 4 := rfl
end Go.Proofs.YtgcnohejmofhkaaDoor
