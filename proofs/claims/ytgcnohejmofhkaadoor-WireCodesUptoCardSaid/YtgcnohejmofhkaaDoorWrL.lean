/- The zero message as bytes. -/
import Derived.Test.YtgcnohejmofhkaaDoorWrK
namespace Go.Proofs.YtgcnohejmofhkaaDoor
section
open Go.RowKit

def zeroB : ByteArray := strOf (encB msg0)
set_option maxRecDepth 100000 in
theorem decB_zero : decB zeroB = some msg0 := by kernel_rfl
set_option maxRecDepth 100000 in
theorem encB_zero : (encB msg0).length = 64 := by kernel_rfl
set_option maxRecDepth 100000 in
theorem encBad_zero : encBad msg0 = false := by kernel_rfl
theorem zeroB_size : zeroB.size = 64 := by
  unfold zeroB strOf
  simp [ByteArray.size, encB_zero]
/-- the zero message, packed. -/
def zeroS : ByteArray := zeroB ++ fourS (Sm.crc (Sm.nats zeroB))
theorem encE_zero (E : Nat → Addr) : encE E msg0 = .returned (.tuple #[.string zeroS, .nilIface]) := by
  unfold encE
  rw [if_neg (by rw [encBad_zero]; simp), if_neg (by rw [encB_zero]; omega)]
  rfl
theorem zeroS_size : zeroS.size = 68 := by
  unfold zeroS
  rw [ByteArray.size_append, zeroB_size, fourS_size]
theorem decodeB_zero : decodeB zeroS = (msg0, none) := by
  unfold decodeB
  have h1 : bodyOf zeroS = zeroB := bodyOf_append (fourS_size _)
  have h2 : tailOf zeroS = fourS (Sm.crc (Sm.nats zeroB)) := tailOf_append (fourS_size _)
  rw [zeroS_size, if_neg (by omega), if_neg (by omega), h1, h2, if_pos rfl, decB_zero]
  rfl
set_option maxRecDepth 100000 in
set_option maxHeartbeats 4000000 in
theorem wired_walk (w : World) (E : Nat → Addr) (hE : ErrEnv w E) :
    Calls Tryd.prog 5 #[] w fun e w' => e = .returned (.bool true) ∧ Below w.heap.size w w' := by
  have He := Lib.hid (encode_walk w ⟨#[]⟩ ⟨#[]⟩ ⟨#[]⟩ ⟨#[]⟩ 0 0 false none 0 0 [] E hE rfl (by omega) (.inl rfl) (by have := encB_zero; unfold msg0 at this; rw [this]; omega))
  have hz := zeroS_size
  have Hz := Lib.hid hz
  have HE := Lib.hid hE
  clear hE
  go_enter Tryd.func5, Tryd.ntmps5
  go_wp2_with fail
  refine He.out.mono ?_
  rintro e W1 ⟨h1, hb1⟩
  have h2 : e = .returned (.tuple #[.string zeroS, .nilIface]) := h1.trans (encE_zero E)
  subst h2
  clear h1
  have HE1 : ErrEnv W1 E := HE.out.below hb1 (Nat.le_refl _)
  have Hd := Lib.hid (decode_walk W1 zeroS E HE1)
  go_wp2_with fail
  refine Hd.out.mono ?_
  rintro e W2 ⟨hb2, v, rfl, hv⟩
  rw [decodeB_zero] at hv
  rw [decodeB_zero]
  obtain ⟨a, cap, rfl, _, _, _, _⟩ := hv.read
  have HB := Lib.hid (hb1.trans (hb2.mono hb1.size))
  clear hb1 hb2 hv HE1
  unfold msg0
  have hzi : (zeroS.size : Int) = 68 := by rw [Hz.out]; rfl
  go_wp2
  go_ret
  exact ⟨rfl, HB.out.alloc HB.out.size _⟩
end
end Go.Proofs.YtgcnohejmofhkaaDoor
