/- Texts: their bytes; slices of texts that are read, and that are the call's own. -/
import Derived.Test.YthdicfcgkbepdaaGreatDoorBytes
import Derived.Test.YthdicfcgkbepdaaGreatDoorErr
namespace Go.Proofs.YthdicfcgkbepdaaGreatDoor
open Go.RowKit

/-- byte i of a text, 0 behind its end. -/
def sb (s : ByteArray) (i : Nat) : Nat := (s.data.toList[i]?.getD 0).toNat
theorem sb_lt (s : ByteArray) (i : Nat) : sb s i < 256 := (s.data.toList[i]?.getD 0).toNat_lt
theorem sb_get (s : ByteArray) (i : Nat) (h : i < s.size) : sb s i = (s[i]'h).toNat := by
  have h2 : i < s.data.toList.length := by simpa using h
  unfold sb
  rw [List.getElem?_eq_getElem h2]
  rfl
theorem sb_out (s : ByteArray) (i : Nat) (h : s.size ≤ i) : sb s i = 0 := by
  unfold sb
  rw [List.getElem?_eq_none (by simpa using h)]
  rfl
/-- so many texts, each of W bytes, in blocks below n₀. -/
structure TxtR (n₀ : Nat) (w : World) (b off k W : Nat) (t : Nat → ByteArray) : Prop where
  lo : b < n₀
  cell : ∀ j, j < k → w.cell? ⟨b, off + j, none⟩ = some (.string (t j))
  size : ∀ j, j < k → (t j).size = W
theorem TxtR.below {n₀ b off k W : Nat} {w w' : World} {t : Nat → ByteArray} (h : TxtR n₀ w b off k W t) (hb : Below n₀ w w') : TxtR n₀ w' b off k W t :=
  ⟨h.lo, fun j hj => (hb.cell (p := ⟨b, off + j, none⟩) h.lo).trans (h.cell j hj), h.size⟩
theorem TxtR.mono {n₀ n₁ b off k W : Nat} {w : World} {t : Nat → ByteArray} (h : TxtR n₀ w b off k W t) (hn : n₀ ≤ n₁) : TxtR n₁ w b off k W t := ⟨by have := h.lo; omega, h.cell, h.size⟩
theorem info_str : (Tryz.prog.info? 9).map (fun i => (i.zero, i.size, i.bytes)) = some (some (.string ⟨#[]⟩), 1, 16) := by kernel_rfl
/-- append(s, t) of a text. -/
theorem append_str {ops : Array Oper} {rest : List Oper} {o : Oper} {a : Act} {Q : Exit → Act → World → Prop} {w0 : World} (s x : Nat) (hgd : o.guard = none)
    (ho : o.op = .call { callee := .builtin .append, args := #[.tmp s, .tmp x], argTypes := #[80, 80] }) (B : Nat) (v : Value) (us : List Value) (t : ByteArray)
    (hs : a.eval (.tmp s) = v) (hx : a.eval (.tmp x) = .slice (some ⟨w0.heap.size, 0, none⟩) 1 1) (hown : Own1 9 B w0 v us) (hl : us.length ≤ 1000000) (hB : B ≤ w0.heap.size)
    (h : ∀ v' w', Own1 9 B w' v' (us ++ [.string t]) → (w0.alloc (.cells #[.string t] 9)).grownBy w' v.ownBlock → (v'.ownBlock = v.ownBlock ∨ v'.ownBlock = some (w0.heap.size + 1)) → wpList Tryz.prog ops Q rest (a.put o.dst v') w') :
    wpList Tryz.prog ops Q (o :: rest) a (w0.alloc (.cells #[.string t] 9)) :=
  append_one 80 9 (.string ⟨#[]⟩) 16 Tryz.underlying80 info_str rfl s x hgd ho B v us _ rfl hs hx hown (by omega) (by unfold maxLen; omega) hB h
/-- the texts of a slice of the call's own, read. -/
theorem txt_of_own {B k W : Nat} {w : World} {v : Value} {t : Nat → ByteArray} (h : Own1 9 B w v ((List.range k).map fun j => Value.string (t j))) (hk : 0 < k) (hW : ∀ j, j < k → (t j).size = W) :
    ∃ g cap, v = .slice (some ⟨g, 0, none⟩) k cap ∧ B ≤ g ∧ k ≤ cap ∧ TxtR w.heap.size w g 0 k W t := by
  rcases h.shape with ⟨_, e⟩ | ⟨g, cap, e, hg, hlt, hc, _, _, hcell⟩
  · have := congrArg List.length e
    simp at this; omega
  · have hl : ((List.range k).map fun j => Value.string (t j)).length = k := by simp
    rw [hl] at e hc hcell
    refine ⟨g, cap, e, hg, hc, hlt, fun j hj => ?_, hW⟩
    rw [Nat.zero_add, hcell j hj]; simp [hj]
end Go.Proofs.YthdicfcgkbepdaaGreatDoor
