/- A pair of cells stored anew; what an error bears stays. -/
import Derived.Test.YtjgllhnecoibkaaGreatDoorNds
namespace Go.Proofs.YtjgllhnecoibkaaGreatDoor
open Go.RowKit

theorem Pair.put {w : World} {b : Nat} {x y : Value} (h : Pair w b x y) (u v : Value) : Pair ((w.setCell ⟨b, 0, none⟩ u).setCell ⟨b, 1, none⟩ v) b u v := by
  have h1 : (w.setCell ⟨b, 0, none⟩ u).cell? ⟨b, 1, none⟩ = some y := by rw [World.cell?_setCell_other _ _ _ _ (by simp)]; exact h.c1
  refine ⟨?_, World.cell?_setCell_same _ _ _ h1, ?_, ?_⟩
  · rw [World.cell?_setCell_other _ _ _ _ (by simp)]
    exact World.cell?_setCell_same _ _ _ h.c0
  · rw [World.frozen?_setCell, World.frozen?_setCell]; exact h.f0
  · rw [World.frozen?_setCell, World.frozen?_setCell]; exact h.f1
theorem Pair.put_far {w : World} {b : Nat} {p : Addr} {z : Value} (hp : w.cell? p = some z) (hne : p.block ≠ b) (u v : Value) : ((w.setCell ⟨b, 0, none⟩ u).setCell ⟨b, 1, none⟩ v).cell? p = some z := by
  rw [World.cell?_setCell_other _ _ _ _ (by intro e; rw [← e] at hne; exact hne rfl), World.cell?_setCell_other _ _ _ _ (by intro e; rw [← e] at hne; exact hne rfl)]
  exact hp
theorem FltV.put {w : World} {b : Nat} {x y : Int} {E : Nat → Addr} {f : Nat × Int} {v : Value} (hp : Pair w b (.int .i64 x) (.int .i64 y)) (h : FltV w E f v) (s t : Value) : FltV ((w.setCell ⟨b, 0, none⟩ s).setCell ⟨b, 1, none⟩ t) E f v := by
  rcases h with h | h | ⟨i, m, h1, h2, h3, h4⟩
  · exact .inl h
  · exact .inr (.inl h)
  · have hne : m ≠ b := by
      rintro rfl
      have h5 := h4.c1
      rw [hp.c1] at h5
      simp [errV] at h5
    exact .inr (.inr ⟨i, m, h1, h2, h3, ⟨Pair.put_far h4.c0 hne _ _, Pair.put_far h4.c1 hne _ _⟩⟩)
end Go.Proofs.YtjgllhnecoibkaaGreatDoor
