/- The document's Unwire, whole: as Decode. -/
import Derived.Test.YtgcnohejmofhkaaDoorWrH
namespace Go.Proofs.YtgcnohejmofhkaaDoor
section
open Go.RowKit

theorem unwire_walk (w : World) (s : ByteArray) :
    Calls Tryd.prog 15 #[.string s] w fun e w' => UnwP w w' (decodeB s) e := by
  unfold decodeB
  by_cases h1 : 4000 < s.size
  · rw [if_pos h1]
    exact unwire_long w s h1
  · rw [if_neg h1]
    by_cases h2 : s.size < 4
    · rw [if_pos h2]
      exact unwire_bad w s ⟨#[]⟩ 0 (by omega) fun W hb => (ropen_short s W h2).mono fun e W' hp => ⟨hp.1, hp.2 ▸ Below.refl _ _⟩
    · rw [if_neg h2]
      by_cases h3 : fourS (Sm.crc (Sm.nats (bodyOf s))) = tailOf s
      · rw [if_pos h3]
        exact unwire_ok w s (bodyOf s) (by omega) (by unfold bodyOf; simp [ByteArray.size_extract]; omega) fun W hb => ropen_ok s W (by omega) (by omega) h3
      · rw [if_neg h3]
        exact unwire_bad w s ⟨#[]⟩ 8 (by omega) fun W hb => ropen_sum s W (by omega) (by omega) h3
end
end Go.Proofs.YtgcnohejmofhkaaDoor
