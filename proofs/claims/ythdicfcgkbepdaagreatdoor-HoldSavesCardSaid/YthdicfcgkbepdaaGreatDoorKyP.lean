/- Plain: a model's keys. -/
import Derived.Test.YthdicfcgkbepdaaGreatDoorMhA
namespace Go.Proofs.YthdicfcgkbepdaaGreatDoor
section
open Go.RowKit

/-- keys, each once where it stands together. -/
def keyStep (out : List ByteArray) (p : Kp) : List ByteArray := if out.getLast? = some p.1 then out else out ++ [p.1]
def keysL (l : List Kp) : List ByteArray := l.foldl keyStep []
theorem keysL_take {l : List Kp} {i : Nat} (hi : i < l.length) : keysL (l.take (i + 1)) = keyStep (keysL (l.take i)) (l[i]?.getD kp0) := by
  unfold keysL
  rw [List.take_succ_eq_append_getElem hi, List.foldl_append, List.getElem?_eq_getElem hi]
  rfl
theorem keyStep_le (out : List ByteArray) (p : Kp) : (keyStep out p).length ≤ out.length + 1 := by
  unfold keyStep
  split <;> simp
end
end Go.Proofs.YthdicfcgkbepdaaGreatDoor
