/- The walk of Decode. -/
import Derived.Test.YtgcnohejmofhkaaDoorWrD
import Derived.Laws.Pointers
import Derived.RegionTactic
namespace Go.Proofs.YtgcnohejmofhkaaDoor
section
open Go.RowKit

theorem KeptBut.heap {F : Nat → Prop} {a b : World} (h : KeptBut F a b) {k : Nat} {o : Obj} (hk : a.heap[k]? = some o) (hf : ¬ F k) : b.heap[k]? = some o := (h.block k (Array.getElem?_eq_some_iff.1 hk).1 hf).trans hk
theorem store8 {W : World} {p : Nat} {t : TypeId} {a0 a1 a2 a3 a4 a5 a6 a7 : Value} (h : W.heap[p]? = some (.cells #[a0, a1, a2, a3, a4, a5, a6, a7] t (0, 0))) (b0 b1 b2 b3 b4 b5 b6 b7 : Value) :
    KeptBut (fun b => b = p) W ((((((((W.setCell ⟨p, 0, none⟩ b0).setCell ⟨p, 1, none⟩ b1).setCell ⟨p, 2, none⟩ b2).setCell ⟨p, 3, none⟩ b3).setCell ⟨p, 4, none⟩ b4).setCell ⟨p, 5, none⟩ b5).setCell ⟨p, 6, none⟩ b6).setCell ⟨p, 7, none⟩ b7) ∧ ((((((((W.setCell ⟨p, 0, none⟩ b0).setCell ⟨p, 1, none⟩ b1).setCell ⟨p, 2, none⟩ b2).setCell ⟨p, 3, none⟩ b3).setCell ⟨p, 4, none⟩ b4).setCell ⟨p, 5, none⟩ b5).setCell ⟨p, 6, none⟩ b6).setCell ⟨p, 7, none⟩ b7).heap[p]? = some (.cells #[b0, b1, b2, b3, b4, b5, b6, b7] t (0, 0)) := by
  refine ⟨((((((((KeptBut.refl (fun b => b = p) W).set1 (p := ⟨p, 0, none⟩) rfl _).set1 (p := ⟨p, 1, none⟩) rfl _).set1 (p := ⟨p, 2, none⟩) rfl _).set1 (p := ⟨p, 3, none⟩) rfl _).set1 (p := ⟨p, 4, none⟩) rfl _).set1 (p := ⟨p, 5, none⟩) rfl _).set1 (p := ⟨p, 6, none⟩) rfl _).set1 (p := ⟨p, 7, none⟩) rfl _, ?_⟩
  have h0 : (W.setCell ⟨p, 0, none⟩ b0).heap[p]? = some (.cells #[b0, a1, a2, a3, a4, a5, a6, a7] t (0, 0)) := (heap_setCell_same W p 0 _ _ b0 h).trans (by simp)
  have h1 : ((W.setCell ⟨p, 0, none⟩ b0).setCell ⟨p, 1, none⟩ b1).heap[p]? = some (.cells #[b0, b1, a2, a3, a4, a5, a6, a7] t (0, 0)) := (heap_setCell_same (W.setCell ⟨p, 0, none⟩ b0) p 1 _ _ b1 h0).trans (by simp)
  have h2 : (((W.setCell ⟨p, 0, none⟩ b0).setCell ⟨p, 1, none⟩ b1).setCell ⟨p, 2, none⟩ b2).heap[p]? = some (.cells #[b0, b1, b2, a3, a4, a5, a6, a7] t (0, 0)) := (heap_setCell_same ((W.setCell ⟨p, 0, none⟩ b0).setCell ⟨p, 1, none⟩ b1) p 2 _ _ b2 h1).trans (by simp)
  have h3 : ((((W.setCell ⟨p, 0, none⟩ b0).setCell ⟨p, 1, none⟩ b1).setCell ⟨p, 2, none⟩ b2).setCell ⟨p, 3, none⟩ b3).heap[p]? = some (.cells #[b0, b1, b2, b3, a4, a5, a6, a7] t (0, 0)) := (heap_setCell_same (((W.setCell ⟨p, 0, none⟩ b0).setCell ⟨p, 1, none⟩ b1).setCell ⟨p, 2, none⟩ b2) p 3 _ _ b3 h2).trans (by simp)
  have h4 : (((((W.setCell ⟨p, 0, none⟩ b0).setCell ⟨p, 1, none⟩ b1).setCell ⟨p, 2, none⟩ b2).setCell ⟨p, 3, none⟩ b3).setCell ⟨p, 4, none⟩ b4).heap[p]? = some (.cells #[b0, b1, b2, b3, b4, a5, a6, a7] t (0, 0)) := (heap_setCell_same ((((W.setCell ⟨p, 0, none⟩ b0).setCell ⟨p, 1, none⟩ b1).setCell ⟨p, 2, none⟩ b2).setCell ⟨p, 3, none⟩ b3) p 4 _ _ b4 h3).trans (by simp)
  have h5 : ((((((W.setCell ⟨p, 0, none⟩ b0).setCell ⟨p, 1, none⟩ b1).setCell ⟨p, 2, none⟩ b2).setCell ⟨p, 3, none⟩ b3).setCell ⟨p, 4, none⟩ b4).setCell ⟨p, 5, none⟩ b5).heap[p]? = some (.cells #[b0, b1, b2, b3, b4, b5, a6, a7] t (0, 0)) := (heap_setCell_same (((((W.setCell ⟨p, 0, none⟩ b0).setCell ⟨p, 1, none⟩ b1).setCell ⟨p, 2, none⟩ b2).setCell ⟨p, 3, none⟩ b3).setCell ⟨p, 4, none⟩ b4) p 5 _ _ b5 h4).trans (by simp)
  have h6 : (((((((W.setCell ⟨p, 0, none⟩ b0).setCell ⟨p, 1, none⟩ b1).setCell ⟨p, 2, none⟩ b2).setCell ⟨p, 3, none⟩ b3).setCell ⟨p, 4, none⟩ b4).setCell ⟨p, 5, none⟩ b5).setCell ⟨p, 6, none⟩ b6).heap[p]? = some (.cells #[b0, b1, b2, b3, b4, b5, b6, a7] t (0, 0)) := (heap_setCell_same ((((((W.setCell ⟨p, 0, none⟩ b0).setCell ⟨p, 1, none⟩ b1).setCell ⟨p, 2, none⟩ b2).setCell ⟨p, 3, none⟩ b3).setCell ⟨p, 4, none⟩ b4).setCell ⟨p, 5, none⟩ b5) p 6 _ _ b6 h5).trans (by simp)
  have h7 : ((((((((W.setCell ⟨p, 0, none⟩ b0).setCell ⟨p, 1, none⟩ b1).setCell ⟨p, 2, none⟩ b2).setCell ⟨p, 3, none⟩ b3).setCell ⟨p, 4, none⟩ b4).setCell ⟨p, 5, none⟩ b5).setCell ⟨p, 6, none⟩ b6).setCell ⟨p, 7, none⟩ b7).heap[p]? = some (.cells #[b0, b1, b2, b3, b4, b5, b6, b7] t (0, 0)) := (heap_setCell_same (((((((W.setCell ⟨p, 0, none⟩ b0).setCell ⟨p, 1, none⟩ b1).setCell ⟨p, 2, none⟩ b2).setCell ⟨p, 3, none⟩ b3).setCell ⟨p, 4, none⟩ b4).setCell ⟨p, 5, none⟩ b5).setCell ⟨p, 6, none⟩ b6) p 7 _ _ b7 h6).trans (by simp)
  exact h7
def zeroM : Array Value := #[.string ⟨#[]⟩, .string ⟨#[]⟩, .string ⟨#[]⟩, .string ⟨#[]⟩, .int .i64 0, .int .i64 0, .bool false, .slice none 0 0]
theorem rep16 : (Array.replicate 16 undef : Array Value) = #[undef, undef, undef, undef, undef, undef, undef, undef, undef, undef, undef, undef, undef, undef, undef, undef] := rfl
theorem isBlind (w : World) : (Instr.typeAssert (.iface 65 (.agg #[])) 20 65 true).run Tryd.prog w = .ok (.tuple #[.agg #[], .bool true]) w := by kernel_rfl
set_option maxRecDepth 100000 in
set_option maxHeartbeats 4000000 in
theorem catch_idle (p q : Addr) (w : World) :
    CallsD Tryd.prog 23 #[.pointer (some p), .pointer (some q)] .returning w fun e u' w' => e = .returned (.tuple #[]) ∧ u' = .returning ∧ w' = w := by
  refine callsD_of_wpS Tryd.func23 rfl fun c₀ cs hu => ?_
  apply wpS_seq
  apply wpS_region
  simp [wpOpsS, go_sem, recoverD, hu, Tryd.ntmps23, Exit.thenS, rep16]
  refine wpS_of_wp ?_
  go_wp2
  cases c₀
  simp_all [bodyPostS, results, Tryd.results23]
set_option maxRecDepth 100000 in
set_option maxHeartbeats 4000000 in
theorem catch_blind (p q : Nat) (a0 a1 a2 a3 a4 a5 a6 a7 : Value) (e0 : Value) (older : List PanicEntry) (ea : Addr) (w : World) (hp : w.heap[p]? = some (.cells #[a0, a1, a2, a3, a4, a5, a6, a7] 31 (0, 0))) (hpq : p ≠ q) (hq : w.heap[q]? = some (.cells #[e0] 28 (0, 0))) (hz : w.cell? ⟨1, 0, none⟩ = some (errV ea)) :
    CallsD Tryd.prog 23 #[.pointer (some ⟨p, 0, none⟩), .pointer (some ⟨q, 0, none⟩)] (.panicking (blindE :: older)) w fun e u' w' => e = .returned (.tuple #[]) ∧ u' = .panicking ({ v := .iface 65 (.agg #[]), recovered := true } :: older) ∧ KeptBut (fun b => b = p ∨ b = q) w w' ∧ w'.heap[p]? = some (.cells zeroM 31 (0, 0)) ∧ w'.heap[q]? = some (.cells #[errV ea] 28 (0, 0)) := by
  unfold blindE
  refine callsD_of_wpS Tryd.func23 rfl fun c₀ cs hu => ?_
  apply wpS_seq
  apply wpS_region
  simp [wpOpsS, go_sem, recoverD, hu, Tryd.ntmps23, Exit.thenS, rep16]
  have hib := isBlind
  obtain ⟨Wa, hWa⟩ : ∃ Wa, w.alloc (.cells #[] 65) = Wa := ⟨_, rfl⟩
  have hba : Below w.heap.size w Wa := by rw [← hWa]; exact (Below.refl _ _).alloc (Nat.le_refl _) _
  have hpa : Wa.heap[p]? = some (.cells #[a0, a1, a2, a3, a4, a5, a6, a7] 31 (0, 0)) := (hba.block p (Array.getElem?_eq_some_iff.1 hp).1).trans hp
  have hqa : Wa.heap[q]? = some (.cells #[e0] 28 (0, 0)) := (hba.block q (Array.getElem?_eq_some_iff.1 hq).1).trans hq
  have hza := (hba.cell (lt_of_cell hz)).trans hz
  have c0 := cell_of_heap hqa 0
  have z0 := frozen_of_heap hqa 0
  have x0 := cell_of_heap hpa 0
  have x1 := cell_of_heap hpa 1
  have x2 := cell_of_heap hpa 2
  have x3 := cell_of_heap hpa 3
  have x4 := cell_of_heap hpa 4
  have x5 := cell_of_heap hpa 5
  have x6 := cell_of_heap hpa 6
  have x7 := cell_of_heap hpa 7
  have z1 := frozen_of_heap hpa 0
  have z2 := frozen_of_heap hpa 1
  have z3 := frozen_of_heap hpa 2
  have z4 := frozen_of_heap hpa 3
  have z5 := frozen_of_heap hpa 4
  have z6 := frozen_of_heap hpa 5
  have z7 := frozen_of_heap hpa 6
  have z8 := frozen_of_heap hpa 7
  have hpq1 : ¬ p = q := hpq
  have hqp1 : ¬ q = p := fun e => hpq e.symm
  have H := Lib.hid (And.intro hba (And.intro hpa (And.intro hqa hpq)))
  clear hba hpa hqa hp hq hz
  refine wpS_of_wp ?_
  go_wp2
  simp [bodyPostS, results, Tryd.results23]
  obtain ⟨k1, k2⟩ := store8 H.out.2.1 (.string ⟨#[]⟩) (.string ⟨#[]⟩) (.string ⟨#[]⟩) (.string ⟨#[]⟩) (.int .i64 0) (.int .i64 0) (.bool false) (.slice none 0 0)
  have k3 := k1.heap H.out.2.2.1 (fun e => H.out.2.2.2 e.symm)
  refine ⟨?_, ?_, ?_⟩
  · exact ((KeptBut.of_below H.out.1 (fun k h1 h2 => by omega)).trans (k1.mono fun k _ e => .inl e)).set1 (p := ⟨q, 0, none⟩) (.inr rfl) _
  · rw [Below.heap_setCell _ _ _ _ (fun e => H.out.2.2.2 e)]
    exact k2
  · exact (heap_setCell_same _ q 0 _ _ _ k3).trans (by simp)
/-- what Decode hands back: a message, or an error. -/
def DecP (E : Nat → Addr) (w w' : World) (r : Msg × Option Nat) (e : Ending) : Prop :=
  Below w.heap.size w w' ∧ ∃ v, e = .returned (.tuple #[.agg #[.string r.1.fr, .string r.1.dst, .string r.1.kind, .string r.1.key, .int .i64 r.1.op, .int .i64 r.1.cf, .bool r.1.sl, v], match r.2 with | none => .nilIface | some i => errV (E i)]) ∧ OwnV w.heap.size w' v r.1.L
/-- Decode's two results lie behind one another. -/
structure ResAt (w : World) (rb : Nat) (a0 a1 a2 a3 a4 a5 a6 a7 e0 : Value) : Prop where
  m : w.heap[rb]? = some (.cells #[a0, a1, a2, a3, a4, a5, a6, a7] 31 (0, 0))
  e : w.heap[rb + 1]? = some (.cells #[e0] 28 (0, 0))
theorem ResAt.cells {w : World} {rb : Nat} {a0 a1 a2 a3 a4 a5 a6 a7 e0 : Value} (h : ResAt w rb a0 a1 a2 a3 a4 a5 a6 a7 e0) :
    (w.cell? ⟨rb, 0, none⟩ = some a0 ∧ w.cell? ⟨rb, 1, none⟩ = some a1 ∧ w.cell? ⟨rb, 2, none⟩ = some a2 ∧ w.cell? ⟨rb, 3, none⟩ = some a3 ∧ w.cell? ⟨rb, 4, none⟩ = some a4 ∧ w.cell? ⟨rb, 5, none⟩ = some a5 ∧ w.cell? ⟨rb, 6, none⟩ = some a6 ∧ w.cell? ⟨rb, 7, none⟩ = some a7 ∧ w.cell? ⟨rb + 1, 0, none⟩ = some e0) ∧
    (w.frozen? ⟨rb, 0, none⟩ = false ∧ w.frozen? ⟨rb, 1, none⟩ = false ∧ w.frozen? ⟨rb, 2, none⟩ = false ∧ w.frozen? ⟨rb, 3, none⟩ = false ∧ w.frozen? ⟨rb, 4, none⟩ = false ∧ w.frozen? ⟨rb, 5, none⟩ = false ∧ w.frozen? ⟨rb, 6, none⟩ = false ∧ w.frozen? ⟨rb, 7, none⟩ = false ∧ w.frozen? ⟨rb + 1, 0, none⟩ = false) :=
  ⟨⟨cell_of_heap h.m 0, cell_of_heap h.m 1, cell_of_heap h.m 2, cell_of_heap h.m 3, cell_of_heap h.m 4, cell_of_heap h.m 5, cell_of_heap h.m 6, cell_of_heap h.m 7, cell_of_heap h.e 0⟩,
    frozen_of_heap h.m 0, frozen_of_heap h.m 1, frozen_of_heap h.m 2, frozen_of_heap h.m 3, frozen_of_heap h.m 4, frozen_of_heap h.m 5, frozen_of_heap h.m 6, frozen_of_heap h.m 7, frozen_of_heap h.e 0⟩
theorem ResAt.new (w : World) : ResAt ((w.alloc (.cells zeroM 31)).alloc (.cells #[.nilIface] 28)) w.heap.size (.string ⟨#[]⟩) (.string ⟨#[]⟩) (.string ⟨#[]⟩) (.string ⟨#[]⟩) (.int .i64 0) (.int .i64 0) (.bool false) (.slice none 0 0) .nilIface :=
  ⟨(Below.heap_alloc _ _ _ (by simp)).trans (heap_alloc_new w _), by rw [show w.heap.size + 1 = (w.alloc (.cells zeroM 31)).heap.size by simp]; exact heap_alloc_new _ _⟩
theorem ResAt.kept {F : Nat → Prop} {w w' : World} {rb : Nat} {a0 a1 a2 a3 a4 a5 a6 a7 e0 : Value} (h : ResAt w rb a0 a1 a2 a3 a4 a5 a6 a7 e0) (hk : KeptBut F w w') (h1 : ¬ F rb) (h2 : ¬ F (rb + 1)) : ResAt w' rb a0 a1 a2 a3 a4 a5 a6 a7 e0 := ⟨hk.heap h.m h1, hk.heap h.e h2⟩
set_option maxRecDepth 100000 in
set_option maxHeartbeats 4000000 in
theorem dec_results {WF : World} {rb : Nat} {a0 a1 a2 a3 a4 a5 a6 a7 e0 : Value} {tm : Array Value} (h2 : tm[2]?.getD undef = .pointer (some ⟨rb, 0, none⟩)) (h3 : tm[3]?.getD undef = .pointer (some ⟨rb + 1, 0, none⟩)) (h : ResAt WF rb a0 a1 a2 a3 a4 a5 a6 a7 e0) :
    (results Tryd.f11 tm).run Tryd.prog WF = .ok (.tuple #[.agg #[a0, a1, a2, a3, a4, a5, a6, a7], e0]) WF := by
  obtain ⟨⟨y0, y1, y2, y3, y4, y5, y6, y7, yc⟩, _⟩ := h.cells
  simp [results, Tryd.results11, go_sem, h2, h3, y0, y1, y2, y3, y4, y5, y6, y7, yc]
theorem dec_close {R : Ending → World → Prop} {WF : World} {rb : Nat} {a0 a1 a2 a3 a4 a5 a6 a7 e0 : Value} {tm : Array Value} (h : ResAt WF rb a0 a1 a2 a3 a4 a5 a6 a7 e0) (h2 : tm[2]?.getD undef = .pointer (some ⟨rb, 0, none⟩)) (h3 : tm[3]?.getD undef = .pointer (some ⟨rb + 1, 0, none⟩))
    (hR : R (.returned (.tuple #[.agg #[a0, a1, a2, a3, a4, a5, a6, a7], e0])) WF) : bodyPostD Tryd.prog Tryd.f11 R Exit.ret { tmps := tm, defers := [] } WF :=
  ⟨_, dec_results h2 h3 h, hR⟩
/-- m, err = .., ..: both results are set. -/
theorem ResAt.set {w : World} {rb : Nat} {a0 a1 a2 a3 a4 a5 a6 a7 e0 : Value} (h : ResAt w rb a0 a1 a2 a3 a4 a5 a6 a7 e0) (b0 b1 b2 b3 b4 b5 b6 b7 f0 : Value) :
    ResAt (((((((((w.setCell ⟨rb, 0, none⟩ b0).setCell ⟨rb, 1, none⟩ b1).setCell ⟨rb, 2, none⟩ b2).setCell ⟨rb, 3, none⟩ b3).setCell ⟨rb, 4, none⟩ b4).setCell ⟨rb, 5, none⟩ b5).setCell ⟨rb, 6, none⟩ b6).setCell ⟨rb, 7, none⟩ b7).setCell ⟨rb + 1, 0, none⟩ f0) rb b0 b1 b2 b3 b4 b5 b6 b7 f0 ∧
    KeptBut (fun b => b = rb ∨ b = rb + 1) w (((((((((w.setCell ⟨rb, 0, none⟩ b0).setCell ⟨rb, 1, none⟩ b1).setCell ⟨rb, 2, none⟩ b2).setCell ⟨rb, 3, none⟩ b3).setCell ⟨rb, 4, none⟩ b4).setCell ⟨rb, 5, none⟩ b5).setCell ⟨rb, 6, none⟩ b6).setCell ⟨rb, 7, none⟩ b7).setCell ⟨rb + 1, 0, none⟩ f0) := by
  obtain ⟨k1, k2⟩ := store8 h.m b0 b1 b2 b3 b4 b5 b6 b7
  have k3 := k1.heap h.e (fun e => by omega)
  exact ⟨⟨(Below.heap_setCell _ _ _ _ (fun e => by have e2 : rb = rb + 1 := e; omega)).trans k2, (heap_setCell_same _ _ 0 _ _ _ k3).trans (by simp)⟩, (k1.mono fun k _ e => .inl e).set1 (p := ⟨rb + 1, 0, none⟩) (.inr rfl) _⟩
theorem ResAt.setE {w : World} {rb : Nat} {a0 a1 a2 a3 a4 a5 a6 a7 e0 : Value} (h : ResAt w rb a0 a1 a2 a3 a4 a5 a6 a7 e0) (f0 : Value) : ResAt (w.setCell ⟨rb + 1, 0, none⟩ f0) rb a0 a1 a2 a3 a4 a5 a6 a7 f0 ∧ KeptBut (fun b => b = rb ∨ b = rb + 1) w (w.setCell ⟨rb + 1, 0, none⟩ f0) :=
  ⟨⟨(Below.heap_setCell _ _ _ _ (fun e => by have e2 : rb = rb + 1 := e; omega)).trans h.m, (heap_setCell_same _ _ 0 _ _ _ h.e).trans (by simp)⟩, (KeptBut.refl _ _).set1 (p := ⟨rb + 1, 0, none⟩) (.inr rfl) _⟩
set_option maxRecDepth 100000 in
set_option maxHeartbeats 8000000 in
theorem decode_long (w : World) (s : ByteArray) (E : Nat → Addr) (hE : ErrEnv w E) (hs : 4000 < s.size) :
    Calls Tryd.prog 11 #[.string s] w fun e w' => DecP E w w' (msg0, some 0) e := by
  have hsi : (4000 : Int) < s.size := by omega
  have hmf : ∀ (fn : Fn) (first cap : Array Value) (w : World), (Instr.makeFunc fn first cap).run Tryd.prog w = .ok (.func fn first cap) w := fun _ _ _ _ => rfl
  have hR := ResAt.new w
  have hb2 : Below w.heap.size w ((w.alloc (.cells zeroM 31)).alloc (.cells #[.nilIface] 28)) := ((Below.refl w.heap.size w).alloc (Nat.le_refl _) _).alloc (by simp) _
  unfold zeroM at hR hb2
  obtain ⟨W2, hW2⟩ : ∃ W2, ((w.alloc (.cells #[.string ⟨#[]⟩, .string ⟨#[]⟩, .string ⟨#[]⟩, .string ⟨#[]⟩, .int .i64 0, .int .i64 0, .bool false, .slice none 0 0] 31)).alloc (.cells #[.nilIface] 28)) = W2 := ⟨_, rfl⟩
  rw [hW2] at hR hb2
  obtain ⟨⟨x0, x1, x2, x3, x4, x5, x6, x7, c0⟩, z1, z2, z3, z4, z5, z6, z7, z8, z0⟩ := hR.cells
  have KT : Hid (∀ W, Below w.heap.size w W → W.cell? ⟨1, 0, none⟩ = some (errV (E 0))) := Lib.hid fun W hb => (hb.cell (lt_of_cell hE.c0)).trans hE.c0
  have H := Lib.hid (And.intro hb2 hR)
  have hgz := KT.out W2 hb2
  have hgl : 1 < w.heap.size := lt_of_cell hE.c0
  have hg1 : 1 ≠ w.heap.size := by omega
  have hg2 : 1 ≠ w.heap.size + 1 := by omega
  have hg1' := hg1.symm
  have hg2' := hg2.symm
  clear hb2 hR hE
  go_enter_defers Tryd.func11, Tryd.ntmps11
  go_wp2
  go_region
  all_goals
    go_wp2
    obtain ⟨q1, q2⟩ := H.out.2.set (.string ⟨#[]⟩) (.string ⟨#[]⟩) (.string ⟨#[]⟩) (.string ⟨#[]⟩) (.int .i64 0) (.int .i64 0) (.bool false) (.slice none 0 0) (errV (E 0))
    refine dec_close (q1.kept (KeptBut.refl (fun _ => False) _).drew1 (fun h => h) (fun h => h)) rfl rfl ?_
    exact ⟨(H.out.1.trans (q2.below H.out.1.size (fun k e => by omega))).drew, _, rfl, OwnV.nil _ _⟩
set_option maxRecDepth 100000 in
set_option maxHeartbeats 8000000 in
theorem decode_bad (w : World) (s t : ByteArray) (E : Nat → Addr) (i : Nat) (hs : s.size ≤ 4000) (hO : ∀ W, Below w.heap.size w W → Calls Tryd.prog 22 #[.string s] W fun e W' => e = .returned (.tuple #[.string t, errV (E i)]) ∧ Below W.heap.size W W') :
    Calls Tryd.prog 11 #[.string s] w fun e w' => DecP E w w' (msg0, some i) e := by
  have hsi : ¬ (4000 : Int) < s.size := by omega
  have hmf : ∀ (fn : Fn) (first cap : Array Value) (w : World), (Instr.makeFunc fn first cap).run Tryd.prog w = .ok (.func fn first cap) w := fun _ _ _ _ => rfl
  have hR := ResAt.new w
  have hb2 : Below w.heap.size w ((w.alloc (.cells zeroM 31)).alloc (.cells #[.nilIface] 28)) := ((Below.refl w.heap.size w).alloc (Nat.le_refl _) _).alloc (by simp) _
  have hsz2 : ((w.alloc (.cells zeroM 31)).alloc (.cells #[.nilIface] 28)).heap.size = w.heap.size + 1 + 1 := by simp
  unfold zeroM at hR hb2 hsz2
  obtain ⟨W2, hW2⟩ : ∃ W2, ((w.alloc (.cells #[.string ⟨#[]⟩, .string ⟨#[]⟩, .string ⟨#[]⟩, .string ⟨#[]⟩, .int .i64 0, .int .i64 0, .bool false, .slice none 0 0] 31)).alloc (.cells #[.nilIface] 28)) = W2 := ⟨_, rfl⟩
  rw [hW2] at hR hb2 hsz2
  have Ho := Lib.hid (hO W2 hb2)
  have H := Lib.hid (And.intro hb2 (And.intro hR hsz2))
  clear hb2 hR hO hsz2
  go_enter_defers Tryd.func11, Tryd.ntmps11
  go_wp2_with fail
  refine Ho.out.mono ?_
  rintro e W3 ⟨rfl, hb3⟩
  have hR3 := H.out.2.1.kept (KeptBut.of_below (F := fun b => W2.heap.size ≤ b) hb3 (fun _ _ h => h)) (by have := H.out.2.2; omega) (by have := H.out.2.2; omega)
  obtain ⟨⟨x0, x1, x2, x3, x4, x5, x6, x7, c0⟩, z1, z2, z3, z4, z5, z6, z7, z8, z0⟩ := hR3.cells
  have H3 := Lib.hid (And.intro (H.out.1.trans (hb3.mono H.out.1.size)) hR3)
  clear hR3 hb3
  go_wp2
  go_region
  all_goals
    go_wp2
    obtain ⟨g1, g2⟩ := H3.out.2.setE (errV (E i))
    obtain ⟨q1, q2⟩ := g1.set (.string ⟨#[]⟩) (.string ⟨#[]⟩) (.string ⟨#[]⟩) (.string ⟨#[]⟩) (.int .i64 0) (.int .i64 0) (.bool false) (.slice none 0 0) (errV (E i))
    refine dec_close (q1.kept (KeptBut.refl (fun _ => False) _).drew1 (fun h => h) (fun h => h)) rfl rfl ?_
    exact ⟨(H3.out.1.trans ((g2.trans q2).below H3.out.1.size (fun k e => by omega))).drew, _, rfl, OwnV.nil _ _⟩
set_option maxRecDepth 100000 in
theorem dec_panic {E : Nat → Addr} {w WF : World} {rb : Nat} {a0 a1 a2 a3 a4 a5 a6 a7 e0 : Value} {tm : Array Value} (h : ResAt WF rb a0 a1 a2 a3 a4 a5 a6 a7 e0) (hz : WF.cell? ⟨1, 0, none⟩ = some (errV (E 0))) (hb : Below w.heap.size w WF) (hrb : w.heap.size ≤ rb) (h2 : tm[2]?.getD undef = .pointer (some ⟨rb, 0, none⟩)) (h3 : tm[3]?.getD undef = .pointer (some ⟨rb + 1, 0, none⟩)) :
    bodyPostD Tryd.prog Tryd.f11 (fun e w' => DecP E w w' (msg0, some 0) e) (Exit.panic [blindE]) { tmps := tm, defers := [{ target := .fn (Fn.func 23) #[.pointer (some ⟨rb, 0, none⟩), .pointer (some ⟨rb + 1, 0, none⟩)], args := #[] }] } WF := by
  refine leaves_cons (f := 23) (args := #[.pointer (some ⟨rb, 0, none⟩), .pointer (some ⟨rb + 1, 0, none⟩)]) (by simp) (by simp [go_sem]) ?_
  refine (catch_blind rb (rb + 1) a0 a1 a2 a3 a4 a5 a6 a7 e0 [] (E 0) WF h.m (by omega) h.e hz).mono ?_
  rintro e u' w'' ⟨rfl, rfl, hk, hm, he⟩
  refine ⟨_, dec_results h2 h3 (show ResAt w'' rb _ _ _ _ _ _ _ _ _ from ⟨hm, he⟩), hb.trans (hk.below hb.size (fun k e => by omega)), _, rfl, OwnV.nil _ _⟩
theorem dec_done {R : Ending → World → Prop} {WF : World} {rb : Nat} {a0 a1 a2 a3 a4 a5 a6 a7 e0 : Value} {tm : Array Value} (h : ResAt WF rb a0 a1 a2 a3 a4 a5 a6 a7 e0) (h2 : tm[2]?.getD undef = .pointer (some ⟨rb, 0, none⟩)) (h3 : tm[3]?.getD undef = .pointer (some ⟨rb + 1, 0, none⟩)) (hR : R (.returned (.tuple #[.agg #[a0, a1, a2, a3, a4, a5, a6, a7], e0])) WF) :
    bodyPostD Tryd.prog Tryd.f11 R Exit.ret { tmps := tm, defers := [{ target := .fn (Fn.func 23) #[.pointer (some ⟨rb, 0, none⟩), .pointer (some ⟨rb + 1, 0, none⟩)], args := #[] }] } WF := by
  refine leaves_cons (f := 23) (args := #[.pointer (some ⟨rb, 0, none⟩), .pointer (some ⟨rb + 1, 0, none⟩)]) (by simp) (by simp [go_sem]) ?_
  refine (catch_idle ⟨rb, 0, none⟩ ⟨rb + 1, 0, none⟩ WF).mono ?_
  rintro e u' w'' ⟨rfl, rfl, rfl⟩
  exact ⟨_, dec_results h2 h3 h, hR⟩
theorem eyeT_size {s t r : ByteArray} (h : eyeT s = some (t, r)) : r.size + 8 ≤ s.size ∧ t.size ≤ s.size := by
  unfold eyeT at h
  cases hN : eyeN s with
  | none => rw [hN] at h; cases h
  | some p =>
    obtain ⟨n, q⟩ := p
    rw [hN] at h
    obtain ⟨hq, _⟩ := eyeN_size hN
    dsimp only at h
    by_cases hn : n ≤ q.size
    · rw [if_pos hn] at h
      simp only [Option.some.injEq, Prod.mk.injEq] at h
      obtain ⟨rfl, rfl⟩ := h
      simp [ByteArray.size_extract]
      omega
    · rw [if_neg hn] at h; cases h
def eyeV (s : ByteArray) : Option (Ver × ByteArray) :=
  match eyeN s with
  | none => none
  | some (a, s1) => match eyeN s1 with
    | none => none
    | some (b, s2) => match eyeN s2 with
      | none => none
      | some (c, s3) => match eyeN s3 with
        | none => none
        | some (d, s4) => match eyeT s4 with
          | none => none
          | some (t, s5) => some (((a : Int), (b : Int), (c : Int), (d : Int), t), s5)
def eyeL : Nat → ByteArray → Option (List Ver × ByteArray)
  | 0, s => some ([], s)
  | n + 1, s => match eyeV s with
    | none => none
    | some (v, r) => match eyeL n r with
      | none => none
      | some (vs, q) => some (v :: vs, q)
/-- what Decode makes of an opened text. -/
def decB (t : ByteArray) : Option Msg :=
  match eyeT t with
  | none => none
  | some (fr, s1) => match eyeT s1 with
    | none => none
    | some (dst, s2) => match eyeT s2 with
      | none => none
      | some (kind, s3) => match eyeT s3 with
        | none => none
        | some (key, s4) => match eyeN s4 with
          | none => none
          | some (op, s5) => match eyeN s5 with
            | none => none
            | some (cf, s6) => match eyeN s6 with
              | none => none
              | some (sl, s7) => if sl < 2 then match eyeN s7 with
                  | none => none
                  | some (many, s8) => match eyeL many s8 with
                    | none => none
                    | some (L, s9) => if s9.size = 0 then some ⟨fr, dst, kind, key, (op : Int), (cf : Int), decide (sl = 1), L⟩ else none
                else none
def decR (o : Option Msg) : Msg × Option Nat := match o with | none => (msg0, some 0) | some m => (m, none)
theorem toList_empty (s : ByteArray) : s.toList.isEmpty = decide (s.size = 0) := by
  have h : s.toList.length = s.size := by
    have := congrArg List.length (Lib.toList_data s)
    simpa using this
  cases hs : s.toList with
  | nil => rw [hs] at h; simp at h; simp [← h]
  | cons x l => rw [hs] at h; simp only [List.length_cons] at h; exact (decide_eq_false (by omega)).symm
theorem ownV_ne {B : Nat} {w : World} {v : Value} {L : List Ver} (h : OwnV B w v L) {k : Nat} {cs : Array Value} {t : TypeId} (hk : w.heap[k]? = some (.cells cs t (0, 0))) (ht : t ≠ 50) : v.ownBlock ≠ some k := fun e => by
  rcases h.2 with ⟨rfl, _⟩ | ⟨g, cap, cur, rfl, hb, hgg, _⟩
  · cases e
  · have e2 : g = k := by simpa [Value.ownBlock] using e
    subst e2
    rw [hgg] at hk
    simp at hk
    exact ht hk.2.symm
/-- the state of Decode's loop over the versions: what is read so far. -/
def DlAt (w : World) (eb : Nat) (fr dst kind key : ByteArray) (op cf : Nat) (bs : Bool) (many : Nat) (s8 : ByteArray) (wr : World) (i : Nat) (s' : ByteArray) (v : Value) (A : List Ver) : Prop :=
  EyeAt wr eb s' ∧ ResAt wr w.heap.size (.string fr) (.string dst) (.string kind) (.string key) (.int .i64 (op : Int)) (.int .i64 (cf : Int)) (.bool bs) v .nilIface ∧ OwnV w.heap.size wr v A ∧ Below w.heap.size w wr ∧ A.length = i ∧ s'.size + 40 * i ≤ 4000 ∧ eyeL many s8 = (eyeL (many - i) s').map (fun p => (A ++ p.1, p.2))
theorem eyeV_size {s r : ByteArray} {x : Ver} (h : eyeV s = some (x, r)) : r.size + 40 ≤ s.size := by
  unfold eyeV at h
  cases h1 : eyeN s with
  | none => rw [h1] at h; cases h
  | some p1 =>
  obtain ⟨a, s1⟩ := p1
  rw [h1] at h; dsimp only at h
  cases h2 : eyeN s1 with
  | none => rw [h2] at h; cases h
  | some p2 =>
  obtain ⟨b, s2⟩ := p2
  rw [h2] at h; dsimp only at h
  cases h3 : eyeN s2 with
  | none => rw [h3] at h; cases h
  | some p3 =>
  obtain ⟨c, s3⟩ := p3
  rw [h3] at h; dsimp only at h
  cases h4 : eyeN s3 with
  | none => rw [h4] at h; cases h
  | some p4 =>
  obtain ⟨d, s4⟩ := p4
  rw [h4] at h; dsimp only at h
  cases h5 : eyeT s4 with
  | none => rw [h5] at h; cases h
  | some p5 =>
  obtain ⟨t, s5⟩ := p5
  rw [h5] at h; dsimp only at h
  simp only [Option.some.injEq, Prod.mk.injEq] at h
  obtain ⟨_, rfl⟩ := h
  have := (eyeN_size h1).1
  have := (eyeN_size h2).1
  have := (eyeN_size h3).1
  have := (eyeN_size h4).1
  have := (eyeT_size h5).1
  omega
theorem DlAt.stop {w : World} {eb : Nat} {fr dst kind key : ByteArray} {op cf : Nat} {bs : Bool} {many : Nat} {s8 : ByteArray} {wr : World} {i : Nat} {s' : ByteArray} {v : Value} {A : List Ver} (h : DlAt w eb fr dst kind key op cf bs many s8 wr i s' v A) (hi : i < many) (hV : eyeV s' = none) : eyeL many s8 = none := by
  rw [h.2.2.2.2.2.2, show many - i = (many - i - 1) + 1 by omega]
  simp only [eyeL, hV, Option.map_none]
theorem DlAt.next {w : World} {eb : Nat} {fr dst kind key : ByteArray} {op cf : Nat} {bs : Bool} {many : Nat} {s8 : ByteArray} {wr : World} {i : Nat} {s' : ByteArray} {v : Value} {A : List Ver} (h : DlAt w eb fr dst kind key op cf bs many s8 wr i s' v A) (hi : i < many) {x : Ver} {r : ByteArray} (hV : eyeV s' = some (x, r)) : eyeL many s8 = (eyeL (many - (i + 1)) r).map (fun p => ((A ++ [x]) ++ p.1, p.2)) ∧ r.size + 40 * (i + 1) ≤ 4000 := by
  refine ⟨?_, ?_⟩
  · rw [h.2.2.2.2.2.2, show many - i = (many - (i + 1)) + 1 by omega]
    simp only [eyeL, hV]
    cases eyeL (many - (i + 1)) r with
    | none => rfl
    | some q => simp
  · have := eyeV_size hV
    have := h.2.2.2.2.2.1
    omega
set_option maxRecDepth 100000 in
set_option maxHeartbeats 16000000 in
theorem decode_ok (w : World) (s t : ByteArray) (E : Nat → Addr) (hE : ErrEnv w E) (hs : s.size ≤ 4000) (ht : t.size ≤ 4000) (hO : ∀ W, Below w.heap.size w W → Calls Tryd.prog 22 #[.string s] W fun e W' => e = .returned (.tuple #[.string t, .nilIface]) ∧ Below W.heap.size W W') :
    Calls Tryd.prog 11 #[.string s] w fun e w' => DecP E w w' (decR (decB t)) e := by
  have hsi : ¬ (4000 : Int) < s.size := by omega
  have hmf : ∀ (fn : Fn) (first cap : Array Value) (w : World), (Instr.makeFunc fn first cap).run Tryd.prog w = .ok (.func fn first cap) w := fun _ _ _ _ => rfl
  have hR := ResAt.new w
  have hb2 : Below w.heap.size w ((w.alloc (.cells zeroM 31)).alloc (.cells #[.nilIface] 28)) := ((Below.refl w.heap.size w).alloc (Nat.le_refl _) _).alloc (by simp) _
  have hsz2 : ((w.alloc (.cells zeroM 31)).alloc (.cells #[.nilIface] 28)).heap.size = w.heap.size + 1 + 1 := by simp
  unfold zeroM at hR hb2 hsz2
  obtain ⟨W2, hW2⟩ : ∃ W2, ((w.alloc (.cells #[.string ⟨#[]⟩, .string ⟨#[]⟩, .string ⟨#[]⟩, .string ⟨#[]⟩, .int .i64 0, .int .i64 0, .bool false, .slice none 0 0] 31)).alloc (.cells #[.nilIface] 28)) = W2 := ⟨_, rfl⟩
  rw [hW2] at hR hb2 hsz2
  have Ho := Lib.hid (hO W2 hb2)
  have H := Lib.hid (And.intro hb2 (And.intro hR hsz2))
  clear hb2 hR hO hsz2
  go_enter_defers Tryd.func11, Tryd.ntmps11
  go_wp2_with fail
  refine Ho.out.mono ?_
  rintro e W3 ⟨rfl, hb3⟩
  have hR3 := H.out.2.1.kept (KeptBut.of_below (F := fun b => W2.heap.size ≤ b) hb3 (fun _ _ h => h)) (by have := H.out.2.2; omega) (by have := H.out.2.2; omega)
  obtain ⟨⟨x0, x1, x2, x3, x4, x5, x6, x7, c0⟩, z1, z2, z3, z4, z5, z6, z7, z8, z0⟩ := hR3.cells
  obtain ⟨g1, g2⟩ := hR3.setE .nilIface
  have hb3' : Below w.heap.size w W3 := H.out.1.trans (hb3.mono H.out.1.size)
  obtain ⟨W4, hW4⟩ : ∃ W4, W3.setCell ⟨w.heap.size + 1, 0, none⟩ .nilIface = W4 := ⟨_, rfl⟩
  rw [hW4] at g1 g2
  have hb4 : Below w.heap.size w W4 := hb3'.trans (g2.below hb3'.size (fun k e => by omega))
  have hsz4 : w.heap.size + 1 < W4.heap.size := (Array.getElem?_eq_some_iff.1 g1.e).1
  have Hy1 := Lib.hid (text_walk (W4.alloc (.cells #[.string t] 69)) W4.heap.size t (heap_alloc_new W4 _) (by omega))
  have c4 := g1.cells.1.2.2.2.2.2.2.2.2
  have H4 := Lib.hid (And.intro hb4 (And.intro g1 hsz4))
  clear x0 x1 x2 x3 x4 x5 x6 x7 z1 z2 z3 z4 z5 z6 z7 z8
  clear hb4 g1 g2 hb3 hb3' hR3 hsz4
  go_wp2_with fail
  obtain ⟨eb, heb⟩ : ∃ eb, W4.heap.size = eb := ⟨_, rfl⟩
  have HD : Hid (∀ W, KeptBut (fun b => b = eb) (W4.alloc (.cells #[.string t] 69)) W → Below w.heap.size w W ∧ ResAt W w.heap.size (.string ⟨#[]⟩) (.string ⟨#[]⟩) (.string ⟨#[]⟩) (.string ⟨#[]⟩) (.int .i64 0) (.int .i64 0) (.bool false) (.slice none 0 0) .nilIface ∧ W.cell? ⟨1, 0, none⟩ = some (errV (E 0))) := Lib.hid fun W hk => by
    have h1 : Below w.heap.size w (W4.alloc (.cells #[.string t] 69)) := H4.out.1.alloc (by have := H4.out.2.2; omega) _
    have h2 : Below w.heap.size w W := h1.trans (hk.below h1.size (fun k e => by have := H4.out.2.2; omega))
    exact ⟨h2, (H4.out.2.1.kept (KeptBut.of_below (F := fun b => W4.heap.size ≤ b) ((Below.refl _ _).alloc (Nat.le_refl _) _) (fun _ _ h => h)) (by have := H4.out.2.2; omega) (by have := H4.out.2.2; omega)).kept hk (by have := H4.out.2.2; omega) (by have := H4.out.2.2; omega), (h2.cell (lt_of_cell hE.c0)).trans hE.c0⟩
  have Hpan : ∀ (W : World) (tm : Array Value), KeptBut (fun b => b = eb) (W4.alloc (.cells #[.string t] 69)) W → tm[2]?.getD undef = .pointer (some ⟨w.heap.size, 0, none⟩) → tm[3]?.getD undef = .pointer (some ⟨w.heap.size + 1, 0, none⟩) → bodyPostD Tryd.prog Tryd.f11 (fun e w' => DecP E w w' (msg0, some 0) e) (Exit.panic [blindE]) { tmps := tm, defers := [{ target := .fn (Fn.func 23) #[.pointer (some ⟨w.heap.size, 0, none⟩), .pointer (some ⟨w.heap.size + 1, 0, none⟩)], args := #[] }] } W := fun W tm hk h2 h3 => dec_panic (HD.out W hk).2.1 (HD.out W hk).2.2 (HD.out W hk).1 (Nat.le_refl _) h2 h3
  have HP := Lib.hid Hpan
  clear Hpan
  rw [heb] at Hy1 ⊢
  refine Hy1.out.mono ?_
  intro e W5 hp5
  cases hT1 : eyeT t with
  | none =>
    rw [hT1] at hp5
    obtain ⟨rfl, hk5⟩ := hp5
    have hdec : decB t = none := by unfold decB; simp only [hT1]
    go_wp2
    rw [hdec]
    exact HP.out _ _ hk5 rfl rfl
  | some p1 =>
  obtain ⟨fr, s1⟩ := p1
  rw [hT1] at hp5
  obtain ⟨rfl, he5, hk5⟩ := hp5
  have hz5 : s1.size ≤ 4000 := by have := eyeT_size hT1; omega
  have Hy2 := Lib.hid (text_walk W5 eb s1 he5 (by omega))
  go_wp2_with fail
  refine Hy2.out.mono ?_
  intro e W6 hp6
  cases hT2 : eyeT s1 with
  | none =>
    rw [hT2] at hp6
    obtain ⟨rfl, hk6⟩ := hp6
    have hdec : decB t = none := by unfold decB; simp only [hT1, hT2]
    go_wp2
    rw [hdec]
    exact HP.out _ _ (hk5.trans hk6) rfl rfl
  | some p2 =>
  obtain ⟨dst, s2⟩ := p2
  rw [hT2] at hp6
  obtain ⟨rfl, he6, hk6⟩ := hp6
  have hz6 : s2.size ≤ 4000 := by have := eyeT_size hT2; omega
  have hK6 := hk5.trans hk6
  have Hy3 := Lib.hid (text_walk W6 eb s2 he6 (by omega))
  go_wp2_with fail
  refine Hy3.out.mono ?_
  intro e W7 hp7
  cases hT3 : eyeT s2 with
  | none =>
    rw [hT3] at hp7
    obtain ⟨rfl, hk7⟩ := hp7
    have hdec : decB t = none := by unfold decB; simp only [hT1, hT2, hT3]
    go_wp2
    rw [hdec]
    exact HP.out _ _ (hK6.trans hk7) rfl rfl
  | some p3 =>
  obtain ⟨kind, s3⟩ := p3
  rw [hT3] at hp7
  obtain ⟨rfl, he7, hk7⟩ := hp7
  have hz7 : s3.size ≤ 4000 := by have := eyeT_size hT3; omega
  have hK7 := hK6.trans hk7
  have Hy4 := Lib.hid (text_walk W7 eb s3 he7 (by omega))
  go_wp2_with fail
  refine Hy4.out.mono ?_
  intro e W8 hp8
  cases hT4 : eyeT s3 with
  | none =>
    rw [hT4] at hp8
    obtain ⟨rfl, hk8⟩ := hp8
    have hdec : decB t = none := by unfold decB; simp only [hT1, hT2, hT3, hT4]
    go_wp2
    rw [hdec]
    exact HP.out _ _ (hK7.trans hk8) rfl rfl
  | some p4 =>
  obtain ⟨key, s4⟩ := p4
  rw [hT4] at hp8
  obtain ⟨rfl, he8, hk8⟩ := hp8
  have hz8 : s4.size ≤ 4000 := by have := eyeT_size hT4; omega
  have hK8 := hK7.trans hk8
  have Hy5 := Lib.hid (number_walk W8 eb s4 he8 (by omega))
  go_wp2_with fail
  refine Hy5.out.mono ?_
  intro e W9 hp9
  cases hT5 : eyeN s4 with
  | none =>
    rw [hT5] at hp9
    obtain ⟨rfl, hk9⟩ := hp9
    have hdec : decB t = none := by unfold decB; simp only [hT1, hT2, hT3, hT4, hT5]
    go_wp2
    rw [hdec]
    exact HP.out _ _ (hK8.trans hk9) rfl rfl
  | some p5 =>
  obtain ⟨op, s5⟩ := p5
  rw [hT5] at hp9
  obtain ⟨rfl, he9, hk9⟩ := hp9
  have hz9 : s5.size ≤ 4000 := by have := eyeN_size hT5; omega
  have hK9 := hK8.trans hk9
  have Hy6 := Lib.hid (number_walk W9 eb s5 he9 (by omega))
  go_wp2_with fail
  refine Hy6.out.mono ?_
  intro e W10 hp10
  cases hT6 : eyeN s5 with
  | none =>
    rw [hT6] at hp10
    obtain ⟨rfl, hk10⟩ := hp10
    have hdec : decB t = none := by unfold decB; simp only [hT1, hT2, hT3, hT4, hT5, hT6]
    go_wp2
    rw [hdec]
    exact HP.out _ _ (hK9.trans hk10) rfl rfl
  | some p6 =>
  obtain ⟨cf, s6⟩ := p6
  rw [hT6] at hp10
  obtain ⟨rfl, he10, hk10⟩ := hp10
  have hz10 : s6.size ≤ 4000 := by have := eyeN_size hT6; omega
  have hK10 := hK9.trans hk10
  obtain ⟨⟨x0, x1, x2, x3, x4, x5, x6, x7, _⟩, z1, z2, z3, z4, z5, z6, z7, z8, _⟩ := (HD.out W10 hK10).2.1.cells
  obtain ⟨q1, q2⟩ := store8 (HD.out W10 hK10).2.1.m (.string fr) (.string dst) (.string kind) (.string key) (.int .i64 (op : Int)) (.int .i64 (cf : Int)) (.bool false) (.slice none 0 0)
  obtain ⟨W11, hW11⟩ : ∃ W11, ((((((((W10.setCell ⟨w.heap.size, 0, none⟩ (.string fr)).setCell ⟨w.heap.size, 1, none⟩ (.string dst)).setCell ⟨w.heap.size, 2, none⟩ (.string kind)).setCell ⟨w.heap.size, 3, none⟩ (.string key)).setCell ⟨w.heap.size, 4, none⟩ (.int .i64 (op : Int))).setCell ⟨w.heap.size, 5, none⟩ (.int .i64 (cf : Int))).setCell ⟨w.heap.size, 6, none⟩ (.bool false)).setCell ⟨w.heap.size, 7, none⟩ (.slice none 0 0)) = W11 := ⟨_, rfl⟩
  rw [hW11] at q1 q2
  have hB11 : Below w.heap.size w W11 := (HD.out W10 hK10).1.trans (q1.below (HD.out W10 hK10).1.size (fun k e => by omega))
  have hR11 : ResAt W11 w.heap.size (.string fr) (.string dst) (.string kind) (.string key) (.int .i64 (op : Int)) (.int .i64 (cf : Int)) (.bool false) (.slice none 0 0) .nilIface := ⟨q2, q1.heap (HD.out W10 hK10).2.1.e (fun e => by omega)⟩
  have heR : eb ≠ w.heap.size ∧ eb ≠ w.heap.size + 1 := by have := H4.out.2.2; omega
  have he11 : EyeAt W11 eb s6 := q1.heap he10 heR.1
  have HE0 : Hid (∀ W, Below w.heap.size w W → W.cell? ⟨1, 0, none⟩ = some (errV (E 0))) := Lib.hid fun W hb => (hb.cell (lt_of_cell hE.c0)).trans hE.c0
  have Hy7 := Lib.hid (number_walk W11 eb s6 he11 (by omega))
  have H11 := Lib.hid (And.intro hB11 (And.intro hR11 heR))
  clear q1 q2 hB11 hR11 heR he11 HP HD Ho Hy1 Hy2 Hy3 Hy4 Hy5 Hy6
  unfold intV
  go_wp2_with fail
  have HPg : Hid (∀ (W : World) (tm : Array Value) (a0 a1 a2 a3 a4 a5 a6 a7 e0 : Value), ResAt W w.heap.size a0 a1 a2 a3 a4 a5 a6 a7 e0 → Below w.heap.size w W → tm[2]?.getD undef = .pointer (some ⟨w.heap.size, 0, none⟩) → tm[3]?.getD undef = .pointer (some ⟨w.heap.size + 1, 0, none⟩) → bodyPostD Tryd.prog Tryd.f11 (fun e w' => DecP E w w' (msg0, some 0) e) (Exit.panic [blindE]) { tmps := tm, defers := [{ target := .fn (Fn.func 23) #[.pointer (some ⟨w.heap.size, 0, none⟩), .pointer (some ⟨w.heap.size + 1, 0, none⟩)], args := #[] }] } W) := Lib.hid fun W tm a0 a1 a2 a3 a4 a5 a6 a7 e0 hr hb h2 h3 => dec_panic hr (HE0.out W hb) hb (Nat.le_refl _) h2 h3
  refine Hy7.out.mono ?_
  intro e W12 hp12
  cases hT7 : eyeN s6 with
  | none =>
    rw [hT7] at hp12
    obtain ⟨rfl, hk12⟩ := hp12
    have hdec : decB t = none := by unfold decB; simp only [hT1, hT2, hT3, hT4, hT5, hT6, hT7]
    go_wp2
    rw [hdec]
    exact HPg.out _ _ _ _ _ _ _ _ _ _ _ (H11.out.2.1.kept hk12 (fun e => H11.out.2.2.1 e.symm) (fun e => H11.out.2.2.2 e.symm)) (H11.out.1.trans (hk12.below H11.out.1.size (fun k e => by have := H4.out.2.2; omega))) rfl rfl
  | some p7 =>
  obtain ⟨sl, s7⟩ := p7
  rw [hT7] at hp12
  obtain ⟨rfl, he12, hk12⟩ := hp12
  have hz12 : s7.size ≤ 4000 := by have := eyeN_size hT7; omega
  have hR12 := H11.out.2.1.kept hk12 (fun e => H11.out.2.2.1 e.symm) (fun e => H11.out.2.2.2 e.symm)
  have hB12 : Below w.heap.size w W12 := H11.out.1.trans (hk12.below H11.out.1.size (fun k e => by have := H4.out.2.2; omega))
  clear hk12 x0 x1 x2 x3 x4 x5 x6 x7 z1 z2 z3 z4 z5 z6 z7 z8
  by_cases hsl : sl < 2
  · have hslI : (sl : Int) < 2 := by omega
    have hdsl : decide ((sl : Int) < 2) = true := decide_eq_true hslI
    obtain ⟨bs, hbs⟩ : ∃ bs, decide (sl = 1) = bs := ⟨_, rfl⟩
    have hbe : ((sl : Int) == 1) = bs := by
      rw [← hbs, Bool.eq_iff_iff]
      simp
      omega
    obtain ⟨⟨x0, x1, x2, x3, x4, x5, x6, x7, _⟩, z1, z2, z3, z4, z5, z6, z7, z8, _⟩ := hR12.cells
    obtain ⟨W13, hW13⟩ : ∃ W13, W12.setCell ⟨w.heap.size, 6, none⟩ (.bool bs) = W13 := ⟨_, rfl⟩
    have hk13 : KeptBut (fun b => b = w.heap.size) W12 W13 := by rw [← hW13]; exact (KeptBut.refl (fun b => b = w.heap.size) W12).set1 (p := ⟨w.heap.size, 6, none⟩) rfl _
    have hm13 : W13.heap[w.heap.size]? = some (.cells #[.string fr, .string dst, .string kind, .string key, .int .i64 (op : Int), .int .i64 (cf : Int), .bool bs, .slice none 0 0] 31 (0, 0)) := by
      rw [← hW13]
      exact (heap_setCell_same W12 _ 6 _ _ _ hR12.m).trans (by simp)
    have hR13 : ResAt W13 w.heap.size (.string fr) (.string dst) (.string kind) (.string key) (.int .i64 (op : Int)) (.int .i64 (cf : Int)) (.bool bs) (.slice none 0 0) .nilIface := ⟨hm13, hk13.heap hR12.e (fun e => by omega)⟩
    have hB13 : Below w.heap.size w W13 := hB12.trans (hk13.below hB12.size (fun k e => by omega))
    have he13 : EyeAt W13 eb s7 := hk13.heap he12 H11.out.2.2.1
    have Hy8 := Lib.hid (number_walk W13 eb s7 he13 (by omega))
    have H13 := Lib.hid (And.intro hB13 (And.intro hR13 hbs))
    clear hm13 hk13 hR13 hB13 he13 hR12 hB12 hbs
    unfold intV
    go_wp2_with fail
    refine (must_yes _).mono ?_
    rintro e W12' ⟨rfl, rfl⟩
    go_wp2_with fail
    refine Hy8.out.mono ?_
    intro e W14 hp14
    cases hT8 : eyeN s7 with
    | none =>
      rw [hT8] at hp14
      obtain ⟨rfl, hk14⟩ := hp14
      have hdec : decB t = none := by unfold decB; simp only [hT1, hT2, hT3, hT4, hT5, hT6, hT7, hT8, if_pos hsl]
      go_wp2
      rw [hdec]
      exact HPg.out _ _ _ _ _ _ _ _ _ _ _ (H13.out.2.1.kept hk14 (fun e => H11.out.2.2.1 e.symm) (fun e => H11.out.2.2.2 e.symm)) (H13.out.1.trans (hk14.below H13.out.1.size (fun k e => by have := H4.out.2.2; omega))) rfl rfl
    | some p8 =>
    obtain ⟨many, s8⟩ := p8
    rw [hT8] at hp14
    obtain ⟨rfl, he14, hk14⟩ := hp14
    have hz14 : s8.size ≤ 4000 := by have := eyeN_size hT8; omega
    have hmany : (many : Int) ≤ 9223372036854775807 := by have := (eyeN_size hT8).2; omega
    have hR14 := H13.out.2.1.kept hk14 (fun e => H11.out.2.2.1 e.symm) (fun e => H11.out.2.2.2 e.symm)
    have hB14 : Below w.heap.size w W14 := H13.out.1.trans (hk14.below H13.out.1.size (fun k e => by have := H4.out.2.2; omega))
    clear hk14 x0 x1 x2 x3 x4 x5 x6 x7 z1 z2 z3 z4 z5 z6 z7 z8
    unfold intV
    go_wp2
    have HDn : Hid (eyeL many s8 = none → decB t = none) := Lib.hid fun e => by unfold decB; simp only [hT1, hT2, hT3, hT4, hT5, hT6, hT7, hT8, if_pos hsl, e]
    have HDs : Hid (∀ L s9, eyeL many s8 = some (L, s9) → decB t = if s9.size = 0 then some ⟨fr, dst, kind, key, (op : Int), (cf : Int), bs, L⟩ else none) := Lib.hid fun L s9 e => by unfold decB; simp only [hT1, hT2, hT3, hT4, hT5, hT6, hT7, hT8, if_pos hsl, e, H13.out.2.2]
    have HI := Lib.hid (show DlAt w eb fr dst kind key op cf bs many s8 W14 0 s8 (.slice none 0 0) [] from ⟨he14, hR14, OwnV.nil _ _, hB14, rfl, by omega, by simp⟩)
    clear hT1 hT2 hT3 hT4 hT5 hT6 hT7 hT8 he14 hR14 hB14 Hy7 Hy8 H13 hz5 hz6 hz7 hz8 hz9 hz10 hz12 hz14 he5 he6 he7 he8 he9 he10 he12 hk5 hk6 hk7 hk8 hk9 hk10 hK6 hK7 hK8 hK9 hK10 hW11 hW13 hbe hdsl hslI
    have Hez := Lib.hid (And.intro H11.out.2.2 H4.out.2.2)
    clear H11 H4 H
    go_loopw [49] (fun vi wr => ∃ (i : Nat), i ≤ many ∧ vi = .int .i64 i ∧ Hid (∃ s' v A, DlAt w eb fr dst kind key op cf bs many s8 wr i s' v A)) (fun vi _ => many - (intOf vi).toNat)
    case atStart => exact ⟨0, by omega, rfl, Lib.hid ⟨_, _, _, HI.out⟩⟩
    case round =>
      obtain ⟨i, hi, rfl, Hr⟩ := hrel
      obtain ⟨s', v, A, hDl⟩ := Hr.out
      have HL := Lib.hid hDl
      obtain ⟨he, hR, hO, hB, hAl, hsz, _⟩ := hDl
      have hi2 : i < many ∨ i = many := by omega
      rcases hi2 with hilt | rfl
      · have hilt2 : (i : Int) < many := by omega
        have hzz0 : s'.size ≤ 4000 := by omega
        clear Hr HI
        have Hz1 := Lib.hid (number_walk wr eb s' he (by omega))
        try unfold intV
        go_wp2_with fail
        refine Hz1.out.mono ?_
        intro e Wa hq1
        cases hV1 : eyeN s' with
        | none =>
          rw [hV1] at hq1
          obtain ⟨rfl, hkn1⟩ := hq1
          have hdec : decB t = none := HDn.out (HL.out.stop hilt (by unfold eyeV; simp only [hV1]))
          go_wp2
          rw [hdec]
          exact HPg.out _ _ _ _ _ _ _ _ _ _ _ (hR.kept hkn1 (fun e => Hez.out.1.1 e.symm) (fun e => Hez.out.1.2 e.symm)) (hB.trans (hkn1.below hB.size (fun k e => by have := Hez.out.2; omega))) rfl rfl
        | some pp1 =>
        obtain ⟨va, sa⟩ := pp1
        rw [hV1] at hq1
        obtain ⟨rfl, hf1, hkn1⟩ := hq1
        have hzz1 : sa.size ≤ 4000 := by have := eyeN_size hV1; omega
        have hRR1 := hR.kept hkn1 (fun e => Hez.out.1.1 e.symm) (fun e => Hez.out.1.2 e.symm)
        have hBB1 : Below w.heap.size w Wa := hB.trans (hkn1.below hB.size (fun k e => by have := Hez.out.2; omega))
        have Hz2 := Lib.hid (number_walk Wa eb sa hf1 (by omega))
        try unfold intV
        go_wp2_with fail
        refine Hz2.out.mono ?_
        intro e Wb hq2
        cases hV2 : eyeN sa with
        | none =>
          rw [hV2] at hq2
          obtain ⟨rfl, hkn2⟩ := hq2
          have hdec : decB t = none := HDn.out (HL.out.stop hilt (by unfold eyeV; simp only [hV1, hV2]))
          go_wp2
          rw [hdec]
          exact HPg.out _ _ _ _ _ _ _ _ _ _ _ (hRR1.kept hkn2 (fun e => Hez.out.1.1 e.symm) (fun e => Hez.out.1.2 e.symm)) (hBB1.trans (hkn2.below hBB1.size (fun k e => by have := Hez.out.2; omega))) rfl rfl
        | some pp2 =>
        obtain ⟨vb, sb2⟩ := pp2
        rw [hV2] at hq2
        obtain ⟨rfl, hf2, hkn2⟩ := hq2
        have hzz2 : sb2.size ≤ 4000 := by have := eyeN_size hV2; omega
        have hRR2 := hRR1.kept hkn2 (fun e => Hez.out.1.1 e.symm) (fun e => Hez.out.1.2 e.symm)
        have hBB2 : Below w.heap.size w Wb := hBB1.trans (hkn2.below hBB1.size (fun k e => by have := Hez.out.2; omega))
        have Hz3 := Lib.hid (number_walk Wb eb sb2 hf2 (by omega))
        try unfold intV
        go_wp2_with fail
        refine Hz3.out.mono ?_
        intro e Wc hq3
        cases hV3 : eyeN sb2 with
        | none =>
          rw [hV3] at hq3
          obtain ⟨rfl, hkn3⟩ := hq3
          have hdec : decB t = none := HDn.out (HL.out.stop hilt (by unfold eyeV; simp only [hV1, hV2, hV3]))
          go_wp2
          rw [hdec]
          exact HPg.out _ _ _ _ _ _ _ _ _ _ _ (hRR2.kept hkn3 (fun e => Hez.out.1.1 e.symm) (fun e => Hez.out.1.2 e.symm)) (hBB2.trans (hkn3.below hBB2.size (fun k e => by have := Hez.out.2; omega))) rfl rfl
        | some pp3 =>
        obtain ⟨vc, sc⟩ := pp3
        rw [hV3] at hq3
        obtain ⟨rfl, hf3, hkn3⟩ := hq3
        have hzz3 : sc.size ≤ 4000 := by have := eyeN_size hV3; omega
        have hRR3 := hRR2.kept hkn3 (fun e => Hez.out.1.1 e.symm) (fun e => Hez.out.1.2 e.symm)
        have hBB3 : Below w.heap.size w Wc := hBB2.trans (hkn3.below hBB2.size (fun k e => by have := Hez.out.2; omega))
        clear Hz1 Hz2 Hz3
        have hkk3 := (hkn1.trans hkn2).trans hkn3
        obtain ⟨nb, hnb⟩ : ∃ nb, Wc.heap.size = nb := ⟨_, rfl⟩
        obtain ⟨Wd, hWd⟩ : ∃ Wd, Wc.alloc (.cells #[.int .i64 (va : Int), .int .i64 (vb : Int), .int .i64 (vc : Int), .int .i64 0, .string ⟨#[]⟩] 50) = Wd := ⟨_, rfl⟩
        have hbd : Below Wc.heap.size Wc Wd := by rw [← hWd]; exact (Below.refl _ _).alloc (Nat.le_refl _) _
        have hnd : Wd.heap[nb]? = some (.cells #[.int .i64 (va : Int), .int .i64 (vb : Int), .int .i64 (vc : Int), .int .i64 0, .string ⟨#[]⟩] 50 (0, 0)) := by rw [← hWd, ← hnb]; exact heap_alloc_new _ _
        have hebc : eb < Wc.heap.size := (Array.getElem?_eq_some_iff.1 hf3).1
        have hfd : EyeAt Wd eb sc := (hbd.block eb hebc).trans hf3
        have hrbc := (Array.getElem?_eq_some_iff.1 hRR3.m).1
        have hrbe := (Array.getElem?_eq_some_iff.1 hRR3.e).1
        have hKd : KeptBut (fun b => Wc.heap.size ≤ b) Wc Wd := KeptBut.of_below hbd (fun _ _ h => h)
        have hRd := hRR3.kept hKd (by omega) (by omega)
        have hBd : Below w.heap.size w Wd := hBB3.trans (hbd.mono hBB3.size)
        have hebn : ¬ nb = eb := by omega
        have hrbn : ¬ nb = w.heap.size := by omega
        have hOc : OwnV w.heap.size Wc v A := hO.heap (fun g hg => hkk3.block g (hO.lt g hg).2 (fun e => ownV_ne hO he (by decide) (by rw [hg, e])))
        have hOd : OwnV w.heap.size Wd v A := hOc.below hbd (Nat.le_refl _)
        have Hz4 := Lib.hid (number_walk Wd eb sc hfd (by omega))
        rw [← hWd] at Hz4
        have HWd := Lib.hid hWd
        clear hWd
        try unfold intV
        go_wp2_with fail
        refine Hz4.out.mono ?_
        intro e We hq4
        rw [HWd.out] at hq4
        cases hV4 : eyeN sc with
        | none =>
          rw [hV4] at hq4
          obtain ⟨rfl, hkn4⟩ := hq4
          have hdec : decB t = none := HDn.out (HL.out.stop hilt (by unfold eyeV; simp only [hV1, hV2, hV3, hV4]))
          go_wp2
          rw [hdec]
          exact HPg.out _ _ _ _ _ _ _ _ _ _ _ (hRd.kept hkn4 (fun e => Hez.out.1.1 e.symm) (fun e => Hez.out.1.2 e.symm)) (hBd.trans (hkn4.below hBd.size (fun k e => by have := Hez.out.2; omega))) rfl rfl
        | some pp4 =>
        obtain ⟨vd, sd⟩ := pp4
        rw [hV4] at hq4
        obtain ⟨rfl, hf4, hkn4⟩ := hq4
        have hzz4 : sd.size ≤ 4000 := by have := eyeN_size hV4; omega
        have hRR4 := hRd.kept hkn4 (fun e => Hez.out.1.1 e.symm) (fun e => Hez.out.1.2 e.symm)
        have hBB4 : Below w.heap.size w We := hBd.trans (hkn4.below hBd.size (fun k e => by have := Hez.out.2; omega))
        have Hz5 := Lib.hid (text_walk We eb sd hf4 (by omega))
        try unfold intV
        go_wp2_with fail
        refine Hz5.out.mono ?_
        intro e Wf hq5
        cases hV5 : eyeT sd with
        | none =>
          rw [hV5] at hq5
          obtain ⟨rfl, hkn5⟩ := hq5
          have hdec : decB t = none := HDn.out (HL.out.stop hilt (by unfold eyeV; simp only [hV1, hV2, hV3, hV4, hV5]))
          go_wp2
          rw [hdec]
          exact HPg.out _ _ _ _ _ _ _ _ _ _ _ (hRR4.kept hkn5 (fun e => Hez.out.1.1 e.symm) (fun e => Hez.out.1.2 e.symm)) (hBB4.trans (hkn5.below hBB4.size (fun k e => by have := Hez.out.2; omega))) rfl rfl
        | some pp5 =>
        obtain ⟨vt, se⟩ := pp5
        rw [hV5] at hq5
        obtain ⟨rfl, hf5, hkn5⟩ := hq5
        have hzz5 : se.size ≤ 4000 := by have := eyeT_size hV5; omega
        have hRR5 := hRR4.kept hkn5 (fun e => Hez.out.1.1 e.symm) (fun e => Hez.out.1.2 e.symm)
        have hBB5 : Below w.heap.size w Wf := hBB4.trans (hkn5.below hBB4.size (fun k e => by have := Hez.out.2; omega))
        have hkk5 := hkn4.trans hkn5
        have hnf : Wf.heap[nb]? = some (.cells #[.int .i64 (va : Int), .int .i64 (vb : Int), .int .i64 (vc : Int), .int .i64 0, .string ⟨#[]⟩] 50 (0, 0)) := hkk5.heap hnd hebn
        have hOf : OwnV w.heap.size Wf v A := hOd.heap (fun g hg => hkk5.block g (hOd.lt g hg).2 (fun e => ownV_ne hOd hfd (by decide) (by rw [hg, e])))
        have hVx : eyeV s' = some ((((va : Int), (vb : Int), (vc : Int), (vd : Int), vt) : Ver), se) := by unfold eyeV; simp only [hV1, hV2, hV3, hV4, hV5]
        obtain ⟨hnx, hnz⟩ := HL.out.next hilt hVx
        obtain ⟨W21, hW21⟩ : ∃ W21, (Wf.setCell ⟨nb, 3, none⟩ (.int .i64 (vd : Int))).setCell ⟨nb, 4, none⟩ (.string vt) = W21 := ⟨_, rfl⟩
        have hk21 : KeptBut (fun b => b = nb) Wf W21 := by rw [← hW21]; exact ((KeptBut.refl (fun b => b = nb) Wf).set1 (p := ⟨nb, 3, none⟩) rfl _).set1 (p := ⟨nb, 4, none⟩) rfl _
        have hn21a : (Wf.setCell ⟨nb, 3, none⟩ (.int .i64 (vd : Int))).heap[nb]? = some (.cells #[.int .i64 (va : Int), .int .i64 (vb : Int), .int .i64 (vc : Int), .int .i64 (vd : Int), .string ⟨#[]⟩] 50 (0, 0)) := (heap_setCell_same Wf nb 3 _ _ _ hnf).trans (by simp)
        have hn21 : W21.heap[nb]? = some (.cells #[.int .i64 (va : Int), .int .i64 (vb : Int), .int .i64 (vc : Int), .int .i64 (vd : Int), .string vt] 50 (0, 0)) := by rw [← hW21]; exact (heap_setCell_same _ nb 4 _ _ _ hn21a).trans (by simp)
        have hR21 := hRR5.kept hk21 (fun e => by omega) (fun e => by omega)
        have hf21 : EyeAt W21 eb se := hk21.heap hf5 (fun e => hebn e.symm)
        have hB21 : Below w.heap.size w W21 := hBB5.trans (hk21.below hBB5.size (fun k e => by omega))
        have hO21 : OwnV w.heap.size W21 v A := hOf.heap (fun g hg => hk21.block g (hOf.lt g hg).2 (fun e => by have := (hOc.lt g hg).2; omega))
        have hbl : Below W21.heap.size W21 (W21.alloc (.cells #[.int .i64 (va : Int), .int .i64 (vb : Int), .int .i64 (vc : Int), .int .i64 (vd : Int), .string vt] 50)) := (Below.refl _ _).alloc (Nat.le_refl _) _
        have hone : OneV (W21.alloc (.cells #[.int .i64 (va : Int), .int .i64 (vb : Int), .int .i64 (vc : Int), .int .i64 (vd : Int), .string vt] 50)) W21.heap.size (((va : Int), (vb : Int), (vc : Int), (vd : Int), vt) : Ver) := OneV.new W21 ((va : Int), (vb : Int), (vc : Int), (vd : Int), vt)
        have hlt1 := (Array.getElem?_eq_some_iff.1 hR21.m).1
        have hlt2 := (Array.getElem?_eq_some_iff.1 hR21.e).1
        have hlt3 := (Array.getElem?_eq_some_iff.1 hf21).1
        have hR22 := hR21.kept (KeptBut.of_below (F := fun b => W21.heap.size ≤ b) hbl (fun _ _ h => h)) (by omega) (by omega)
        have hf22 : EyeAt (W21.alloc (.cells #[.int .i64 (va : Int), .int .i64 (vb : Int), .int .i64 (vc : Int), .int .i64 (vd : Int), .string vt] 50)) eb se := (hbl.block eb hlt3).trans hf21
        have hO22 := hO21.below hbl (Nat.le_refl _)
        have hB22 := hB21.trans (hbl.mono hB21.size)
        have hiA : A.length + [(((va : Int), (vb : Int), (vc : Int), (vd : Int), vt) : Ver)].length ≤ 1000000 := by simp; omega
        have HA := Lib.hid (And.intro hO22 (And.intro hone.read (And.intro hiA (And.intro hB22.size (And.intro hR22 (And.intro hf22 hB22))))))
        have n0 := cell_of_heap hnf 0
        have n1 := cell_of_heap hnf 1
        have n2 := cell_of_heap hnf 2
        have n3 := cell_of_heap hnf 3
        have n4 := cell_of_heap hnf 4
        have m3 := frozen_of_heap hnf 3
        have m4 := frozen_of_heap hnf 4
        have o0 := cell_of_heap hn21 0
        have o1 := cell_of_heap hn21 1
        have o2 := cell_of_heap hn21 2
        have o3 := cell_of_heap hn21 3
        have o4 := cell_of_heap hn21 4
        have o7 := cell_of_heap hR21.m 7
        have HX := Lib.hid (And.intro hnx (And.intro hnz (And.intro hAl (And.intro hlt1 (And.intro hlt2 hlt3)))))
        have HO21 := Lib.hid hO21
        clear Hz4 Hz5 HWd HL hR hO hB he hsz hkk3 hbd hnd hebc hfd hrbc hrbe hKd hRd hBd hOc hOd hkk5 hnf hOf hVx hnx hnz hk21 hn21a hn21 hR21 hf21 hB21 hO21 hbl hone hR22 hf22 hO22 hB22 hiA hRR1 hRR2 hRR3 hRR4 hRR5 hBB1 hBB2 hBB3 hBB4 hBB5 hkn1 hkn2 hkn3 hkn4 hkn5 hf1 hf2 hf3 hf4 hf5 hV1 hV2 hV3 hV4 hV5 hAl hlt1 hlt2 hlt3
        try unfold intV
        go_wp2_with (at_builtin; refine append_vers 66 68 rfl rfl w.heap.size _ A _ (some ⟨W21.heap.size, 0, none⟩) 1 1 [(((va : Int), (vb : Int), (vc : Int), (vd : Int), vt) : Ver)] rfl rfl HA.out.1 rfl HA.out.2.2.1 (fun e => by cases e) HA.out.2.1 HA.out.2.2.2.1 ?_)
        intro v' w' q1 q2 _ _
        obtain ⟨nl, hnl⟩ : ∃ nl, (A ++ [(((va : Int), (vb : Int), (vc : Int), (vd : Int), vt) : Ver)]).length = nl := ⟨_, rfl⟩
        obtain ⟨a', cap', hv', _, _, _, _⟩ := q1.read
        rw [hnl] at hv'
        subst hv'
        obtain ⟨hnx, hnz, hAl, hlt1, hlt2, hlt3⟩ := HX.out
        obtain ⟨hO22, _, _, hsz22, hR22, hf22, hB22⟩ := HA.out
        have hsa : (W21.alloc (.cells #[.int .i64 (va : Int), .int .i64 (vb : Int), .int .i64 (vc : Int), .int .i64 (vd : Int), .string vt] 50)).heap.size = W21.heap.size + 1 := by simp
        have hRw : ResAt w' w.heap.size (.string fr) (.string dst) (.string kind) (.string key) (.int .i64 (op : Int)) (.int .i64 (cf : Int)) (.bool bs) v .nilIface := ⟨(q2.block _ (by omega) (ownV_ne hO22 hR22.m (by decide)).symm).trans hR22.m, (q2.block _ (by omega) (ownV_ne hO22 hR22.e (by decide)).symm).trans hR22.e⟩
        have hfw : EyeAt w' eb se := (q2.block _ (by omega) (ownV_ne hO22 hf22 (by decide)).symm).trans hf22
        have hBw : Below w.heap.size w w' := hB22.grown q2 hsz22 (fun j e => (hO22.lt j e).1)
        obtain ⟨W24, hW24⟩ : ∃ W24, w'.setCell ⟨w.heap.size, 7, none⟩ (.slice a' nl cap') = W24 := ⟨_, rfl⟩
        have hR24 : ResAt W24 w.heap.size (.string fr) (.string dst) (.string kind) (.string key) (.int .i64 (op : Int)) (.int .i64 (cf : Int)) (.bool bs) (.slice a' nl cap') .nilIface := by
          rw [← hW24]
          exact ⟨(heap_setCell_same w' w.heap.size 7 _ _ _ hRw.m).trans (by simp), (Below.heap_setCell _ _ _ _ (fun e => by have e2 : w.heap.size + 1 = w.heap.size := e; omega)).trans hRw.e⟩
        have hf24 : EyeAt W24 eb se := by
          rw [← hW24]
          exact (Below.heap_setCell _ _ _ _ (fun e => Hez.out.1.1 e)).trans hfw
        have hO24 : OwnV w.heap.size W24 (.slice a' nl cap') (A ++ [(((va : Int), (vb : Int), (vc : Int), (vd : Int), vt) : Ver)]) := by
          rw [← hW24]
          exact q1.heap (fun g hg => Below.heap_setCell _ _ _ _ (fun e => by have e2 : g = w.heap.size := e; exact ownV_ne q1 hRw.m (by decide) (by rw [hg, e2])))
        have hB24 : Below w.heap.size w W24 := by
          rw [← hW24]
          exact hBw.trans (((KeptBut.refl (fun b => b = w.heap.size) w').set1 (p := ⟨w.heap.size, 7, none⟩) rfl _).below hBw.size (fun k e => by omega))
        have HN := Lib.hid (show DlAt w eb fr dst kind key op cf bs many s8 W24 (i + 1) se _ _ from ⟨hf24, hR24, hO24, hB24, by simp [hAl], hnz, hnx⟩)
        have r7 := cell_of_heap hRw.m 7
        have y7 := frozen_of_heap hRw.m 7
        clear hnl hnx hnz hAl hlt1 hlt2 hlt3 hO22 hsz22 hR22 hf22 hB22 hsa hRw hfw hBw hR24 hf24 hO24 hB24 q1 q2
        go_wp2
        go_roundw
        case rel => exact ⟨i + 1, by omega, by go_num, Lib.hid ⟨_, _, _, HN.out⟩⟩
        case measure => simp [intOf]; omega
      · have ce := cell_of_heap he 0
        have hfin : eyeL i s8 = some (A, s') := by
          have h := HL.out.2.2.2.2.2.2
          rw [Nat.sub_self] at h
          simpa [eyeL] using h
        have hdec := HDs.out _ _ hfin
        obtain ⟨be, hbe⟩ : ∃ be, s'.toList.isEmpty = be := ⟨_, rfl⟩
        have hbs : be = decide (s'.size = 0) := by
          rw [← hbe]
          exact toList_empty s'
        obtain ⟨sa, scp, rfl, _, _, _, _⟩ := hO.read
        obtain ⟨⟨x0, x1, x2, x3, x4, x5, x6, x7, xe⟩, z1, z2, z3, z4, z5, z6, z7, z8, ze⟩ := hR.cells
        have HR := Lib.hid (And.intro hR (And.intro hO hB))
        clear hR hO hB Hr HI
        cases be with
        | false =>
          have hne : ¬ s'.size = 0 := fun e => by rw [decide_eq_true e] at hbs; cases hbs
          rw [if_neg hne] at hdec
          clear hbs
          go_wp2_with fail
          refine (must_no _).mono ?_
          rintro e W2' ⟨rfl, rfl⟩
          go_wp2
          rw [hdec]
          exact HPg.out _ _ _ _ _ _ _ _ _ _ _ HR.out.1 HR.out.2.2 rfl rfl
        | true =>
          have hne : s'.size = 0 := of_decide_eq_true hbs.symm
          rw [if_pos hne] at hdec
          clear hbs
          go_wp2_with fail
          refine (must_yes _).mono ?_
          rintro e W2' ⟨rfl, rfl⟩
          go_wp2
          have HO : OwnV w.heap.size W2' (.slice sa i scp) A := by rw [← hAl]; exact HR.out.2.1
          obtain ⟨q1, q2⟩ := HR.out.1.set (.string fr) (.string dst) (.string kind) (.string key) (.int .i64 (op : Int)) (.int .i64 (cf : Int)) (.bool bs) (.slice sa i scp) .nilIface
          have HB : Below w.heap.size w _ := HR.out.2.2.trans (q2.below HR.out.2.2.size (fun k e => by omega))
          have HO2 := HO.heap (fun g hg => q2.block g (HO.lt g hg).2 (fun e => by
            rcases e with e | e
            · exact ownV_ne HO HR.out.1.m (by decide) (by rw [← e]; exact hg)
            · exact ownV_ne HO HR.out.1.e (by decide) (by rw [← e]; exact hg)))
          refine dec_done q1 rfl rfl ?_
          rw [hdec]
          exact ⟨HB, _, rfl, HO2⟩
  · have hslI : ¬ (sl : Int) < 2 := by omega
    have hdsl : decide ((sl : Int) < 2) = false := decide_eq_false hslI
    unfold intV
    go_wp2_with fail
    refine (must_no _).mono ?_
    rintro e W12' ⟨rfl, rfl⟩
    have hdec : decB t = none := by unfold decB; simp only [hT1, hT2, hT3, hT4, hT5, hT6, hT7, if_neg hsl]
    go_wp2
    rw [hdec]
    exact HPg.out _ _ _ _ _ _ _ _ _ _ _ hR12 hB12 rfl rfl
end
end Go.Proofs.YtgcnohejmofhkaaDoor
