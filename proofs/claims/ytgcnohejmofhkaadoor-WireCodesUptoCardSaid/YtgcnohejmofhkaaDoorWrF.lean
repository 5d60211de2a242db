/- Decode, whole. -/
import Derived.Test.YtgcnohejmofhkaaDoorWrE
namespace Go.Proofs.YtgcnohejmofhkaaDoor
section
open Go.RowKit

/-- what Decode hands back for a packed text. -/
def decodeB (s : ByteArray) : Msg × Option Nat :=
  if 4000 < s.size then (msg0, some 0) else if s.size < 4 then (msg0, some 0) else if fourS (Sm.crc (Sm.nats (bodyOf s))) = tailOf s then decR (decB (bodyOf s)) else (msg0, some 8)
theorem decode_walk (w : World) (s : ByteArray) (E : Nat → Addr) (hE : ErrEnv w E) :
    Calls Tryd.prog 11 #[.string s] w fun e w' => DecP E w w' (decodeB s) e := by
  unfold decodeB
  by_cases h1 : 4000 < s.size
  · rw [if_pos h1]
    exact decode_long w s E hE h1
  · rw [if_neg h1]
    by_cases h2 : s.size < 4
    · rw [if_pos h2]
      exact decode_bad w s ⟨#[]⟩ E 0 (by omega) fun W hb => open_short s W _ h2 ((hb.cell (lt_of_cell hE.c0)).trans hE.c0)
    · rw [if_neg h2]
      by_cases h3 : fourS (Sm.crc (Sm.nats (bodyOf s))) = tailOf s
      · rw [if_pos h3]
        exact decode_ok w s (bodyOf s) E hE (by omega) (by unfold bodyOf; simp [ByteArray.size_extract]; omega) fun W hb => open_ok s W (by omega) (by omega) h3
      · rw [if_neg h3]
        exact decode_bad w s ⟨#[]⟩ E 8 (by omega) fun W hb => open_sum s W _ (by omega) (by omega) ((hb.cell (lt_of_cell hE.c8)).trans hE.c8) h3
end
end Go.Proofs.YtgcnohejmofhkaaDoor
