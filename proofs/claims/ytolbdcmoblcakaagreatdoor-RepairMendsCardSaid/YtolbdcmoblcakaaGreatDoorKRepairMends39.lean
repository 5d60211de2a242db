/- A slice of texts that comes in, of any length: its reach; it is copied whole. -/
import Derived.Test.YtolbdcmoblcakaaGreatDoorKRepairMends06
import Derived.SizedLaws
import Derived.Test.YtolbdcmoblcakaaGreatDoorKRepairMends05
import Derived.Test.YtolbdcmoblcakaaGreatDoorRows
import Derived.JoinedOf
import Derived.KernelRfl
import Derived.JoinedCond
namespace Go.Proofs.YtolbdcmoblcakaaGreatDoor
open Go.RowKit Go.ChangeShapes Go.WideShapes

theorem bytes_str : Tryz.prog.bytesOf 9 = 16 := by kernel_rfl
theorem reach_texts {H : Type} {enc : TypeId × Value → H} {W : World} {ts : List TypeId} {ds : List (DataW H)} (hsz : (DataW.weightsEach Tryz.prog ts ds).all (· ≤ reachBytes) = true) {j : Nat} {a : Option Addr} {len cap : Nat} {d : DataW H} {p : List MemPlace}
    (ht : ts[j]? = some 22) (hd : ds[j]? = some d) (h : DataW.Trod enc Tryz.prog W 0 (fun _ => true) true 22 (.slice a len cap) d p) : len * 16 ≤ 140737488351232 := by
  obtain ⟨fuel, hf⟩ := h
  have hf2 : DataW.trod enc Tryz.prog W 0 (fun _ => true) true fuel 22 [.slice a len cap] = some (d, p) := by simpa [Value.cells] using hf
  rcases open_strings Tryz.underlying22 Tryz.underlying9 cellsOfStr hf2 with ⟨hcs, _⟩ | ⟨x, l, c, ss, hcs, _, hl, hm, hz, hx, _⟩
  · simp at hcs
    omega
  · simp at hcs
    obtain ⟨_, rfl, rfl⟩ := hcs
    simp only [Prod.mk.injEq] at hx
    rw [hx.1] at hd
    have h9 := sized_slice hsz ht hd Tryz.underlying22
    rw [bytes_str] at h9
    rw [if_pos rfl] at hz
    simp [strs, reachBytes] at h9
    omega
/-- append(s, l...) of texts, l of any length that comes in. -/
theorem append_txtsR {ops : Array Oper} {rest : List Oper} {o : Oper} {a : Act} {Q : Exit → Act → World → Prop} {w : World} (s x : Nat) (hgd : o.guard = none)
    (ho : o.op = .call { callee := .builtin .append, args := #[.tmp s, .tmp x], argTypes := #[22, 22] }) (B : Nat) (v : Value) (L : List ByteArray) (n₀ : Nat) (ad : Option Addr) (len cap : Nat) (M : List ByteArray)
    (hs : a.eval (.tmp s) = v) (hx : a.eval (.tmp x) = .slice ad len cap) (hown : OwnT B w v L) (hlen : M.length = len) (hl : (L.length + M.length) * 16 ≤ 140737488355328) (ha : ad = none → cap = 0) (hI : TxsAt n₀ w ad M) (hB : B ≤ w.heap.size)
    (h : ∀ v' w', OwnT B w' v' (L ++ M) → w.grownBy w' v.ownBlock → (v'.ownBlock = v.ownBlock ∨ v'.ownBlock = some w.heap.size) → wpList Tryz.prog ops Q rest (a.put o.dst v') w') :
    wpList Tryz.prog ops Q (o :: rest) a w := by
  obtain ⟨i, hi, hz0, hz1, hz2⟩ := info_parts info_text
  subst hlen
  have hown' : w.ownsRow B 9 1 v L.length (L.map Value.string) := by
    have h0 := hown
    unfold OwnT Own1 at h0
    simpa using h0
  have at_ : ∀ y : Addr, ad = some y → (∀ j u, (M.map Value.string)[j]? = some u → w.cell? (y.add j) = some u) → wpList Tryz.prog ops Q (o :: rest) a w := fun y e hc => by
    refine wpList_append_own_at _ hgd (.tmp s) (.tmp x) 22 ho B 9 i _ 1 16 Tryz.underlying22 hi hz0 hz1 hz2 rfl (by decide) v L.length (L.map Value.string) hs hown' y M.length cap (M.map Value.string) (hx.trans (by rw [e])) (by simp) hc (fun u hu => ?_) (by unfold maxLen; omega) (by omega) hB ?_
    · obtain ⟨t, _, rfl⟩ := List.mem_map.1 hu
      rfl
    · intro v' w' h1 h2 _ h4
      refine h v' w' ?_ h2 h4
      unfold OwnT Own1
      rw [List.map_append]
      simpa using h1
  rcases hI with rfl | ⟨b, off, e, _, hcell⟩
  · cases ad with
    | none =>
      obtain rfl := ha rfl
      refine wpList_append_own_none hgd (.tmp s) (.tmp x) 22 ho B 9 i 1 Tryz.underlying22 hi v L.length (L.map Value.string) hs hown' hx ?_
      exact h v w (by simpa using hown) (World.grownBy.refl _ _) (.inl rfl)
    | some ad => exact at_ ad rfl (fun j u hj => by simp at hj)
  · refine at_ _ e (fun j u hj => ?_)
    have hj2 : j < M.length := by have := (List.getElem?_eq_some_iff.1 hj).1; simpa using this
    rw [Go.WideShapes.add_plain, hcell j hj2, ← hj]
    simp [List.getElem?_eq_getElem hj2]
end Go.Proofs.YtolbdcmoblcakaaGreatDoor
/- How many shelves may come in. -/
namespace Go.Proofs.YtolbdcmoblcakaaGreatDoor
section
open Go.RowKit Go.ChangeShapes Go.WideShapes

theorem bytes_shelf : Tryz.prog.bytesOf 72 = 32 := by kernel_rfl
theorem reach_shelves {H : Type} {enc : TypeId × Value → H} {W : World} {ts : List TypeId} {ds : List (DataW H)} (hsz : (DataW.weightsEach Tryz.prog ts ds).all (· ≤ reachBytes) = true) {j : Nat} {a : Option Addr} {len cap : Nat} {d : DataW H} {p : List MemPlace}
    (ht : ts[j]? = some 25) (hd : ds[j]? = some d) (h : DataW.Trod enc Tryz.prog W 0 (fun _ => true) true 25 (.slice a len cap) d p) : len * 32 ≤ 140737488351232 := by
  obtain ⟨fuel, hf⟩ := h
  rcases Go.Deep.open_slice Tryz.underlying25 hf with ⟨hcs, _⟩ | ⟨x, l, c, m, n, D, Pl, hcs, _, hl, hm, hmm, hy, hr⟩
  · simp [Value.cells] at hcs
    omega
  · simp [Value.cells] at hcs
    obtain ⟨rfl, rfl, rfl⟩ := hcs
    simp only [Prod.mk.injEq] at hy
    rw [hy.1] at hd
    have h9 := sized_slice hsz ht hd Tryz.underlying25
    rw [bytes_shelf] at h9
    rw [if_pos rfl] at hmm
    simp [reachBytes] at h9
    omega
end
end Go.Proofs.YtolbdcmoblcakaaGreatDoor
/- The closed facts of the form that speak of the program alone: asked once for all rows of this seat. -/
namespace Go.Proofs.YtolbdcmoblcakaaGreatDoor
namespace Closed
theorem and_mk {a b : Bool} (ha : a = true) (hb : b = true) : (a && b) = true := by rw [ha, hb]; rfl
theorem laidOut : laidOutB Tryz.prog = true := by kernel_rfl
theorem mapsRowed : Go.mapsRowed Tryz.prog = true := by kernel_rfl
theorem stops : (Tryz.prog.stops == []) = true := by kernel_rfl
theorem stopKnobs : (Tryz.prog.stopKnobs == []) = true := by kernel_rfl
theorem plainKeys : (Rows.repairMendsRow.plainKeys == Tryz.prog.plainKeys) = true := by kernel_rfl
theorem stopsHeard : Tryz.prog.stopsHeard = true := by kernel_rfl
theorem mayEnter : Tryz.prog.mayEnter = true := by kernel_rfl
theorem lifted : (Rows.repairMendsRow.lifted == Tryz.prog.liftsFinal) = true := by kernel_rfl
theorem make : (Tryz.prog.make == some Rows.repairMendsRow.make) = true := by kernel_rfl
theorem pinned : (Rows.repairMendsRow.pinned == Rows.repairMendsRow.pinnedBy) = true := by kernel_rfl
end Closed
end Go.Proofs.YtolbdcmoblcakaaGreatDoor
