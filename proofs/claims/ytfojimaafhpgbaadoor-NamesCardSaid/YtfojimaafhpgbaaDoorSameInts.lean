/- The walk of the document's SameInts. -/
import Derived.Test.YtfojimaafhpgbaaDoorProg
import Derived.WalkKit
import Derived.WalkLawsBesides
import Derived.Lib.Hide
import Derived.Deep.QuietTactic
import Derived.BigQuiet
import Derived.Deep.RegionWith
namespace Go.Proofs.YtfojimaafhpgbaaDoor
open Go.RowKit

/-- the slice of ints at address a reads as l. -/
def IntsAt (w : World) (a : Option Addr) (l : List Int) : Prop := l = [] ∨ ∃ b off, a = some ⟨b, off, none⟩ ∧ ∀ j, j < l.length → w.cell? ⟨b, off + j, none⟩ = some (.int .i64 (l[j]?.getD 0))
theorem IntsAt.new (w : World) (C : Array Value) (t : TypeId) (l : List Int) (h : ∀ j, j < l.length → C[j]? = some (.int .i64 (l[j]?.getD 0))) : IntsAt (w.alloc (.cells C t)) (some ⟨w.heap.size, 0, none⟩) l :=
  .inr ⟨_, 0, rfl, fun j hj => by rw [Nat.zero_add, World.cell?_alloc_at _ _ _ _ rfl]; exact h j hj⟩
theorem IntsAt.alloc {w : World} {a : Option Addr} {l : List Int} (o : Obj) : IntsAt w a l → IntsAt (w.alloc o) a l
  | .inl h => .inl h
  | .inr ⟨b, off, e, h⟩ => .inr ⟨b, off, e, fun j hj => by
      have := h j hj
      rw [World.cell?_alloc_lt]
      · exact this
      · rcases Nat.lt_or_ge b w.heap.size with h1 | h1
        · exact h1
        · simp [World.cell?, Array.getElem?_eq_none h1] at this⟩
theorem same_below {w w' : World} (n : Nat) (h : ∃ q, w' = w.drewN q) : Below n w w' := by
  obtain ⟨q, rfl⟩ := h
  exact ⟨rfl, rfl, rfl, Nat.le_refl _, fun _ _ => rfl⟩
set_option maxRecDepth 100000 in
set_option maxHeartbeats 1000000 in
theorem sameInts_walk (a b : Option Addr) (ca cb : Nat) (l : List Int) (w : World) (hl : l.length ≤ maxLen) (ha : IntsAt w a l) (hb : IntsAt w b l) :
    Calls Tryd.prog 29 #[.slice a l.length ca, .slice b l.length cb] w fun e w' => e = .returned (.bool true) ∧ Below w.heap.size w w' := by
  have hm : l.length ≤ 9223372036854775807 := hl
  go_enter Tryd.func29, Tryd.ntmps29
  go_wp2
  go_loopw [5] (fun vi wr => ∃ k : Nat, k ≤ l.length ∧ vi = .int .i64 k ∧ ∃ q, wr = w.drewN q) (fun i _ => l.length - (intOf i).toNat)
  case atStart => exact ⟨0, by omega, rfl, 0, rfl⟩
  case round =>
    obtain ⟨k, hk, rfl, q, hq⟩ := hrel
    have hk2 : k < l.length ∨ k = l.length := by omega
    rcases hk2 with hlt | rfl
    · rcases ha with rfl | ⟨ba, oa, rfl, ha⟩
      · cases hlt
      rcases hb with rfl | ⟨bb, ob, rfl, hb⟩
      · cases hlt
      have h1 : wr.cell? ⟨ba, oa + k, none⟩ = some (.int .i64 (l[k]?.getD 0)) := by rw [hq]; exact ha k hlt
      have h2 : wr.cell? ⟨bb, ob + k, none⟩ = some (.int .i64 (l[k]?.getD 0)) := by rw [hq]; exact hb k hlt
      have hlt2 : (k : Int) < l.length := by omega
      generalize l[k]?.getD 0 = c at h1 h2
      have Hq := Lib.hid hq
      clear ha hb hq
      go_wp2
      go_quiet (fail)
      go_wp2
      go_round
      case rel => exact ⟨k + 1, by omega, by go_num, q + nq, by rw [Hq.out]; simp [World.drewN_drewN]⟩
      case measure => simp [intOf]; omega
    · go_wp2
      go_ret
      exact ⟨rfl, same_below _ ⟨q, rfl⟩⟩
end Go.Proofs.YtfojimaafhpgbaaDoor
