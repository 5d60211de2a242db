/- Walks: matrix.Check; the document's IsMatrix; the law's wideMatrix. -/
import Derived.Test.YtabboioamdphmaaGreatDoorSCarryHears08
import Derived.Test.YtabboioamdphmaaGreatDoorSCarryHears07
import Derived.Deep.OwnRows
import Derived.StillTailTactics
namespace Go.Proofs.YtabboioamdphmaaGreatDoor
open Go.RowKit

set_option maxRecDepth 100000 in
set_option maxHeartbeats 1000000 in
theorem check_all (b off len cap c0 : Nat) (A : Nat → Option Addr) (Ln C : Nat → Nat) (w : World) (z : Value) (hz : w.cell? ⟨2, 0, none⟩ = some z) (hn : 1 ≤ len) (hn2 : len ≤ 16)
    (hh : ∀ j, j < len → w.cell? ⟨b, off + j, none⟩ = some (.slice (A j) (Ln j) (C j))) (hc0 : Ln 0 = c0) (h1 : 1 ≤ c0) (h2 : c0 ≤ 16) :
    Calls Tryz.prog 120 #[.slice (some ⟨b, off, none⟩) len cap] w fun e w' => (((∀ j, j < len → Ln j = c0) ∧ e = .returned .nilIface) ∨ (∃ j, j < len ∧ Ln j ≠ c0) ∧ e = .returned z) ∧ Below w.heap.size w w' := by
  have hBl : Below w.heap.size w (w.alloc (.cells #[.slice (some ⟨b, off, none⟩) len cap] 107)) := (Below.refl _ w).alloc (Nat.le_refl _) _
  have hz2 : (w.alloc (.cells #[.slice (some ⟨b, off, none⟩) len cap] 107)).cell? ⟨2, 0, none⟩ = some z := hBl.cell (lt_of_cell hz) ▸ hz
  have hh2 : ∀ j, j < len → (w.alloc (.cells #[.slice (some ⟨b, off, none⟩) len cap] 107)).cell? ⟨b, off + j, none⟩ = some (.slice (A j) (Ln j) (C j)) := fun j hj => hBl.cell (p := ⟨b, off + j, none⟩) (lt_of_cell (hh 0 (by omega)) : b < w.heap.size) ▸ hh j hj
  have hc2 := hh2 0 (by omega)
  rw [hc0, Nat.add_zero] at hc2
  have hf := chk_contains b off len cap c0 A Ln C ⟨w.heap.size, 0, none⟩ _ (by unfold maxLen; omega) (by omega) hc0 (by simp) hh2
  have Hf := Lib.hid hf
  have g0 : ¬ (len : Int) < 1 := by omega
  have g1 : ¬ (16 : Int) < len := by omega
  have g2 : (0 : Int) < len := by omega
  have g3 : ¬ (c0 : Int) < 1 := by omega
  have g4 : ¬ (16 : Int) < c0 := by omega
  clear hf hh hh2 hz hc0
  go_enter Tryz.func120, Tryz.ntmps120
  go_wp2_with fail
  refine Hf.out.mono ?_
  rintro e w' ⟨hres, rfl⟩
  rcases hres with ⟨hzz, rfl⟩ | ⟨hne, rfl⟩
  · have Hz := Lib.hid hzz; clear hzz
    go_wp2
    go_ret
    exact ⟨.inl ⟨Hz.out, rfl⟩, hBl⟩
  · have Hz := Lib.hid hne; clear hne
    go_wp2
    go_ret
    exact ⟨.inr ⟨Hz.out, rfl⟩, hBl⟩
/-! ### the document's IsMatrix -/
end Go.Proofs.YtabboioamdphmaaGreatDoor
/- Slices of rows of the call's own that are only read from then on. -/
namespace Go.Proofs.YtabboioamdphmaaGreatDoor
open Go.RowKit

theorem info_row : (Tryz.prog.info? 112).map (fun i => (i.zero, i.size, i.bytes)) = some (some (.slice none 0 0), 1, 24) := by kernel_rfl
theorem append_rowv {ops : Array Oper} {rest : List Oper} {o : Oper} {a : Act} {Q : Exit → Act → World → Prop} {w0 : World} (s x : Nat) (hgd : o.guard = none)
    (ho : o.op = .call { callee := .builtin .append, args := #[.tmp s, .tmp x], argTypes := #[107, 107] }) (B : Nat) (v : Value) (us : List Value) (ad : Option Addr) (n c : Nat)
    (hs : a.eval (.tmp s) = v) (hx : a.eval (.tmp x) = .slice (some ⟨w0.heap.size, 0, none⟩) 1 1) (hown : Own1 112 B w0 v us) (hl : us.length ≤ 1000000) (hB : B ≤ w0.heap.size)
    (h : ∀ v' w', Own1 112 B w' v' (us ++ [.slice ad n c]) → (w0.alloc (.cells #[.slice ad n c] 112)).grownBy w' v.ownBlock → (v'.ownBlock = v.ownBlock ∨ v'.ownBlock = some (w0.heap.size + 1)) → wpList Tryz.prog ops Q rest (a.put o.dst v') w') :
    wpList Tryz.prog ops Q (o :: rest) a (w0.alloc (.cells #[.slice ad n c] 112)) :=
  append_one 107 112 (.slice none 0 0) 24 Tryz.underlying107 info_row rfl s x hgd ho B v us _ rfl hs hx hown (by omega) (by unfold maxLen; omega) hB h

theorem RowAt.heap {n₀ : Nat} {w w' : World} {l : List Nat} {ad : Option Addr} (h : RowAt n₀ w ad l) (e : ∀ p, ad = some p → p.block < n₀ → w'.heap[p.block]? = w.heap[p.block]?) : RowAt n₀ w' ad l := by
  rcases h with h | ⟨b, off, rfl, hb, hc⟩
  · exact .inl h
  · refine .inr ⟨b, off, rfl, hb, fun j hj => ?_⟩
    have := hc j hj
    have e1 := e _ rfl hb
    unfold World.cell? at this ⊢
    rw [e1]; exact this

structure OwnR (B : Nat) (w : World) (v : Value) (L : List (List Nat)) (A : Nat → Option Addr) (C : Nat → Nat) : Prop where
  own : Own1 112 B w v ((List.range L.length).map fun i => Value.slice (A i) (L[i]?.getD []).length (C i))
  row : ∀ i, i < L.length → (L[i]?.getD []).length ≤ C i ∧ C i ≤ maxLen ∧ RowAt w.heap.size w (A i) (L[i]?.getD []) ∧ (A i = none → C i = 0)
  off : ∀ i, i < L.length → ∀ p, A i = some p → v.ownBlock ≠ some p.block
theorem OwnR.nil (B : Nat) (w : World) (A : Nat → Option Addr) (C : Nat → Nat) : OwnR B w (.slice none 0 0) [] A C :=
  ⟨Own1.nil _ _ _, fun _ h => by simp at h, fun _ h => by simp at h⟩
theorem OwnR.kept {B : Nat} {w w' : World} {v : Value} {L : List (List Nat)} {A : Nat → Option Addr} {C : Nat → Nat} (h : OwnR B w v L A C) {r : Option Nat} (hg : w.grownBy w' r) (h1 : ∀ i, i < L.length → ∀ p, A i = some p → r ≠ some p.block) (h2 : ∀ k, v.ownBlock = some k → r ≠ some k) : OwnR B w' v L A C :=
  ⟨h.own.kept hg (by
      cases e : v.ownBlock with
      | none => exact .inl rfl
      | some k => exact .inr (fun e2 => h2 k e e2.symm)),
    fun i hi => ⟨(h.row i hi).1, (h.row i hi).2.1, ((h.row i hi).2.2.1.heap (fun p e hp => hg.block _ hp (fun e2 => h1 i hi p e e2.symm))).mono hg.size, (h.row i hi).2.2.2⟩, h.off⟩
theorem OwnR.below {B n₀ : Nat} {w w' : World} {v : Value} {L : List (List Nat)} {A : Nat → Option Addr} {C : Nat → Nat} (h : OwnR B w v L A C) (hb : Below n₀ w w') (hn : w.heap.size ≤ n₀) : OwnR B w' v L A C :=
  h.kept (r := none) ⟨hb.os, hb.tape, hb.output, hb.size, fun k hk _ => hb.block k (by omega)⟩ (fun _ _ _ _ e => by cases e) (fun _ _ e => by cases e)
def updA (A : Nat → Option Addr) (n : Nat) (x : Option Addr) : Nat → Option Addr := fun i => if i = n then x else A i
theorem OwnR.snoc {B : Nat} {w0 w' : World} {v v' : Value} {L : List (List Nat)} {A : Nat → Option Addr} {C : Nat → Nat} (h : OwnR B w0 v L A C) {ad : Option Addr} {l : List Nat} {c : Nat} {o : Obj}
    (hr : RowAt w0.heap.size w0 ad l) (hlc : l.length ≤ c) (hc : c ≤ maxLen) (h0 : ad = none → c = 0) (hoff : ∀ p, ad = some p → v.ownBlock ≠ some p.block) (hlt : ∀ p, ad = some p → p.block < w0.heap.size)
    (hltA : ∀ i, i < L.length → ∀ p, A i = some p → p.block < w0.heap.size)
    (hown : Own1 112 B w' v' ((List.range L.length).map (fun i => Value.slice (A i) (L[i]?.getD []).length (C i)) ++ [Value.slice ad l.length c])) (hg : (w0.alloc o).grownBy w' v.ownBlock)
    (hat : v'.ownBlock = v.ownBlock ∨ v'.ownBlock = some (w0.heap.size + 1)) : OwnR B w' v' (L ++ [l]) (updA A L.length ad) (Mx.upd C L.length c) := by
  have hgb : ∀ b, b < w0.heap.size → v.ownBlock ≠ some b → w'.heap[b]? = w0.heap[b]? := fun b hb hne => (hg.block b (by simp; omega) (fun e => hne e.symm)).trans (heap_alloc_lt _ hb)
  have hsz : w0.heap.size + 1 ≤ w'.heap.size := by have := hg.size; simpa using this
  have old : ∀ i, i < L.length → (L ++ [l])[i]?.getD [] = L[i]?.getD [] ∧ updA A L.length ad i = A i ∧ Mx.upd C L.length c i = C i := fun i hi => by
    refine ⟨by rw [List.getElem?_append_left hi], by unfold updA; rw [if_neg (by omega)], by unfold Mx.upd; rw [if_neg (by omega)]⟩
  have new : (L ++ [l])[L.length]?.getD [] = l ∧ updA A L.length ad L.length = ad ∧ Mx.upd C L.length c L.length = c := ⟨by simp, by simp [updA], by simp [Mx.upd]⟩
  have tr : ∀ {x : Option Addr} {y : List Nat}, RowAt w0.heap.size w0 x y → (∀ p, x = some p → v.ownBlock ≠ some p.block) → RowAt w'.heap.size w' x y := fun hx ho => (hx.heap (fun p e hp => hgb _ hp (ho p e))).mono (by omega)
  have hlen : (L ++ [l]).length = L.length + 1 := by simp
  have split : ∀ i, i < (L ++ [l]).length → i < L.length ∨ i = L.length := fun i hi => by rw [hlen] at hi; omega
  refine ⟨?_, fun i hi => ?_, fun i hi p e => ?_⟩
  · rw [hlen, List.range_succ, List.map_append]
    have e1 : (List.range L.length).map (fun i => Value.slice (updA A L.length ad i) ((L ++ [l])[i]?.getD []).length (Mx.upd C L.length c i)) = (List.range L.length).map (fun i => Value.slice (A i) (L[i]?.getD []).length (C i)) := by
      refine List.map_congr_left fun i hi => ?_
      obtain ⟨a1, a2, a3⟩ := old i (List.mem_range.1 hi)
      rw [a1, a2, a3]
    rw [e1]
    have e2 : [L.length].map (fun i => Value.slice (updA A L.length ad i) ((L ++ [l])[i]?.getD []).length (Mx.upd C L.length c i)) = [Value.slice ad l.length c] := by
      rw [List.map_cons, List.map_nil, new.1, new.2.1, new.2.2]
    rw [e2]; exact hown
  · rcases split i hi with hi | rfl
    · obtain ⟨a1, a2, a3⟩ := old i hi
      rw [a1, a2, a3]
      obtain ⟨b1, b2, b3, b4⟩ := h.row i hi
      exact ⟨b1, b2, tr b3 (h.off i hi), b4⟩
    · rw [new.1, new.2.1, new.2.2]
      exact ⟨hlc, hc, tr hr hoff, h0⟩
  · have hx : p.block < w0.heap.size ∧ v.ownBlock ≠ some p.block := by
      rcases split i hi with hi | rfl
      · obtain ⟨a1, a2, a3⟩ := old i hi
        rw [a2] at e
        exact ⟨hltA i hi p e, h.off i hi p e⟩
      · rw [new.2.1] at e
        exact ⟨hlt p e, hoff p e⟩
    rcases hat with e1 | e1
    · rw [e1]; exact hx.2
    · rw [e1]; intro e2
      have := Option.some.inj e2
      omega
theorem OwnR.rows {B : Nat} {w : World} {v : Value} {L : List (List Nat)} {A : Nat → Option Addr} {C : Nat → Nat} (h : OwnR B w v L A C) : ∃ a cap, v = .slice a L.length cap ∧ L.length ≤ cap ∧ cap ≤ maxLen ∧ RowsAt w.heap.size w a L := by
  rcases h.own.shape with ⟨e1, e⟩ | ⟨g, cap, e, hg, hlt, hc, hm, hf, hcell⟩
  · have := congrArg List.length e
    simp at this
    subst this
    exact ⟨none, 0, e1, Nat.le_refl _, by simp [maxLen], .inl rfl⟩
  · have hl : ((List.range L.length).map fun i => Value.slice (A i) (L[i]?.getD []).length (C i)).length = L.length := by simp
    rw [hl] at e hc hcell
    refine ⟨_, cap, e, hc, hm, .inr ⟨g, 0, A, C, rfl, hlt, fun i hi => ⟨?_, h.row i hi⟩⟩⟩
    rw [Nat.zero_add, hcell i hi]; simp [hi]
end Go.Proofs.YtabboioamdphmaaGreatDoor
/- Walks: the document's IsMatrix; the law's wideMatrix and ownMatrix. -/
namespace Go.Proofs.YtabboioamdphmaaGreatDoor
open Go.RowKit

end Go.Proofs.YtabboioamdphmaaGreatDoor
/- Rectangular matrices that are read; matrix.Check of one; the walk of matrix.Times. -/
namespace Go.Proofs.YtabboioamdphmaaGreatDoor
open Go.RowKit

structure MatR (n₀ : Nat) (w : World) (b off n C : Nat) (p o caps : Nat → Nat) (M : Nat → Nat → Nat) : Prop where
  lo : b < n₀
  head : ∀ i, i < n → w.cell? ⟨b, off + i, none⟩ = some (.slice (some ⟨p i, o i, none⟩) C (caps i))
  cap : ∀ i, i < n → C ≤ caps i ∧ caps i ≤ maxLen
  plo : ∀ i, i < n → p i < n₀
  cell : ∀ i, i < n → ∀ j, j < C → w.cell? ⟨p i, o i + j, none⟩ = some (.int .u8 (M i j : Nat))
theorem MatR.below {n₀ b off n C : Nat} {w w' : World} {p o caps : Nat → Nat} {M : Nat → Nat → Nat} (h : MatR n₀ w b off n C p o caps M) (hb : Below n₀ w w') : MatR n₀ w' b off n C p o caps M :=
  ⟨h.lo, fun i hi => (hb.cell (p := ⟨b, off + i, none⟩) h.lo).trans (h.head i hi), h.cap, h.plo, fun i hi j hj => (hb.cell (p := ⟨p i, o i + j, none⟩) (h.plo i hi)).trans (h.cell i hi j hj)⟩
theorem MatR.mono {n₀ n₁ b off n C : Nat} {w : World} {p o caps : Nat → Nat} {M : Nat → Nat → Nat} (h : MatR n₀ w b off n C p o caps M) (hn : n₀ ≤ n₁) : MatR n₁ w b off n C p o caps M :=
  ⟨by have := h.lo; omega, h.head, h.cap, fun i hi => by have := h.plo i hi; omega, h.cell⟩
theorem MatR.some_ {n₀ b off n m C : Nat} {w : World} {p o caps : Nat → Nat} {M : Nat → Nat → Nat} (h : MatR n₀ w b off n C p o caps M) (hm : m ≤ n) : MatR n₀ w b off m C p o caps M :=
  ⟨h.lo, fun i hi => h.head i (by omega), fun i hi => h.cap i (by omega), fun i hi => h.plo i (by omega), fun i hi => h.cell i (by omega)⟩
theorem RowsAt.mat {n₀ : Nat} {w : World} {a : Option Addr} {L : List (List Nat)} (h : RowsAt n₀ w a L) (hm : IsMat L) : ∃ b off p o caps, a = some ⟨b, off, none⟩ ∧ MatR n₀ w b off L.length (L[0]?.getD []).length p o caps (ent L) := by
  rcases h with rfl | ⟨b, off, A, C, rfl, hb, hc⟩
  · exact absurd hm.n1 (by simp)
  have each : ∀ i, i < L.length → ∃ q : Nat × Nat, A i = some ⟨q.1, q.2, none⟩ ∧ q.1 < n₀ ∧ ∀ j, j < (L[0]?.getD []).length → w.cell? ⟨q.1, q.2 + j, none⟩ = some (.int .u8 (ent L i j : Nat)) := fun i hi => by
    rcases (hc i hi).2.2.2.1 with e | ⟨b', off', e, hb', hc'⟩
    · have := hm.c1
      have h0 := hm.all i hi
      rw [e] at h0
      simp at h0
      omega
    · exact ⟨(b', off'), e, hb', fun j hj => hc' j (by rw [hm.all i hi]; exact hj)⟩
  obtain ⟨q, hq⟩ := Go.Deep.choose_lt each
  refine ⟨b, off, fun i => (q i).1, fun i => (q i).2, C, rfl, hb, fun i hi => ?_, fun i hi => ?_, fun i hi => (hq i hi).2.1, fun i hi => (hq i hi).2.2⟩
  · rw [(hc i hi).1, (hq i hi).1, hm.all i hi]
  · have := hc i hi
    rw [hm.all i hi] at this
    exact ⟨this.2.1, this.2.2.1⟩
theorem MatV.read {B : Nat} {w : World} {g n C : Nat} {bs caps : Nat → Nat} {M : Nat → Nat → Nat} (h : MatV B w g n C bs caps M) (hn : 0 < n) (hC : 0 < C) : MatR w.heap.size w g 0 n C bs (fun _ => 0) caps M := by
  have hl := h.lt hn hC
  exact ⟨hl g (.inl rfl), fun i hi => by rw [Nat.zero_add]; exact h.head i hi, h.cap, fun i hi => hl _ (.inr ⟨i, hi, rfl⟩), fun i hi j hj => by rw [Nat.zero_add]; exact (h.row i hi).cell j hj⟩
theorem MatR.rows {n₀ b off n C : Nat} {w : World} {p o caps : Nat → Nat} {M : Nat → Nat → Nat} (h : MatR n₀ w b off n C p o caps M) : RowsAt n₀ w (some ⟨b, off, none⟩) (rowsOf M n C) := by
  refine .inr ⟨b, off, fun i => some ⟨p i, o i, none⟩, caps, rfl, h.lo, fun i hi => ?_⟩
  rw [rowsOf_length] at hi
  rw [rowsOf_at M hi]
  refine ⟨by simpa using h.head i hi, by simpa using (h.cap i hi).1, (h.cap i hi).2, .inr ⟨p i, o i, rfl, h.plo i hi, fun j hj => ?_⟩, fun e => by cases e⟩
  simp at hj
  rw [h.cell i hi j hj]
  simp [hj]
theorem MatR.congr {n₀ b off n C : Nat} {w : World} {p o caps : Nat → Nat} {M M' : Nat → Nat → Nat} (h : MatR n₀ w b off n C p o caps M) (e : ∀ i, i < n → ∀ j, j < C → M i j = M' i j) : MatR n₀ w b off n C p o caps M' :=
  { h with cell := fun i hi j hj => by rw [← e i hi j hj]; exact h.cell i hi j hj }
theorem OwnM.only {B g : Nat} {w w' : World} {v : Value} {n C : Nat} {bs caps : Nat → Nat} {M : Nat → Nat → Nat} (h : OwnM B w v n C bs caps M) (ho : OnlyB g w w') (h1 : ∀ i, i < n → bs i ≠ g) (h2 : v.ownBlock ≠ some g) : OwnM B w' v n C bs caps M :=
  h.kept (r := some g) ⟨ho.os, ho.tape, ho.output, Nat.le_of_eq ho.size.symm, fun k _ hk => ho.block k (fun e => hk (by rw [e]))⟩ (fun i hi e => h1 i hi (Option.some.inj e).symm) (fun k hk e => h2 (by rw [hk]; exact e.symm))

theorem check_mat (n₀ b off n C cap : Nat) (p o caps : Nat → Nat) (M : Nat → Nat → Nat) (w : World) (z : Value) (hz : w.cell? ⟨2, 0, none⟩ = some z) (h : MatR n₀ w b off n C p o caps M) (hn : 1 ≤ n) (hn2 : n ≤ 16) (hC : 1 ≤ C) (hC2 : C ≤ 16) :
    Calls Tryz.prog 120 #[.slice (some ⟨b, off, none⟩) n cap] w fun e w' => e = .returned .nilIface ∧ Below w.heap.size w w' := by
  refine (check_all b off n cap C (fun i => some ⟨p i, o i, none⟩) (fun _ => C) caps w z hz hn hn2 h.head rfl hC hC2).mono ?_
  rintro e w' ⟨h1 | ⟨⟨j, hj, hne⟩, _⟩, hB⟩
  · exact ⟨h1.2, hB⟩
  · exact absurd rfl hne

theorem mul_q (a b : Nat) (w : World) (ha : a < 256) (hb : b < 256) : Calls Tryz.prog 126 #[.int .u8 a, .int .u8 b] w fun e w' => e = .returned (.int .u8 (Gf.mul a b : Nat)) ∧ w' = w :=
  (mul_walk a b w ha hb).mono fun _ _ ⟨he, hw⟩ => ⟨he, hw.symm⟩
theorem RowV.made (w : World) (C : Nat) : RowV (w.alloc (.cells (madeCells #[.int .u8 0] C) 5)) w.heap.size C (fun _ => 0) := by
  have h := World.rowIs_made w (.int .u8 0) C 5
  exact ⟨fun j hj => h.cell hj, fun j _ => h.frozen j⟩
def timesRow (MA MB : Nat → Nat → Nat) (i t : Nat) : Nat → Nat := fun j => Mx.dot (MA i) (fun l => MB l j) t

set_option maxRecDepth 100000 in
set_option maxHeartbeats 4000000 in
theorem times_walk (n₀ ba oa n K ca bb ob C cb : Nat) (pa oa' capa pb ob' capb : Nat → Nat) (MA MB : Nat → Nat → Nat) (w : World) (z : Value) (hn₀ : n₀ ≤ w.heap.size) (hz : w.cell? ⟨2, 0, none⟩ = some z)
    (hA : MatR n₀ w ba oa n K pa oa' capa MA) (hB : MatR n₀ w bb ob K C pb ob' capb MB) (bA : Mx.ByM MA) (bB : Mx.ByM MB) (hn : 1 ≤ n) (hn2 : n ≤ 16) (hK : 1 ≤ K) (hK2 : K ≤ 16) (hC : 1 ≤ C) (hC2 : C ≤ 16) :
    Calls Tryz.prog 119 #[.slice (some ⟨ba, oa, none⟩) n ca, .slice (some ⟨bb, ob, none⟩) K cb] w fun e w' => (∃ v bs caps, e = .returned (.tuple #[v, .nilIface]) ∧ OwnM w.heap.size w' v n C bs caps (Mx.mulM MA MB K)) ∧ Below w.heap.size w w' := by
  have hmk := fun (W : World) => run_make_row' (P := Tryz.prog) (w := W) 112 5 (.int .u8 0) 1 Tryz.underlying112 info_uint8 rfl .i64 .i64 C (by omega) (by omega)
  have Hmk := Lib.hid hmk
  have HA := Lib.hid hA
  have HB := Lib.hid hB
  have Hz := Lib.hid hz
  clear hmk hA hB hz
  go_enter Tryz.func119, Tryz.ntmps119
  go_wp2_with fail
  refine (check_mat n₀ ba oa n K ca pa oa' capa MA w z Hz.out HA.out hn hn2 hK hK2).mono ?_
  rintro e w1 ⟨rfl, hb1⟩
  go_wp2_with fail
  have hz1 : w1.cell? ⟨2, 0, none⟩ = some z := (hb1.cell (lt_of_cell Hz.out)).trans Hz.out
  refine (check_mat n₀ bb ob K C cb pb ob' capb MB w1 z hz1 (HB.out.below (Below.mono hb1 hn₀)) hK hK2 hC hC2).mono ?_
  rintro e w2 ⟨rfl, hb2⟩
  have hb3 : Below w.heap.size w w2 := hb1.trans (hb2.mono hb1.size)
  have hA0 := (HA.out.below (hb3.mono hn₀)).head 0 (by omega)
  rw [Nat.add_zero] at hA0
  have hn3 : (0 : Int) < n := by omega
  have hB3 := Lib.hid hb3
  clear hz1 hb1 hb2 hb3
  go_wp2
  go_loopw [6, 33] (fun vo vi wr => ∃ (i : Nat) (bs caps : Nat → Nat), i ≤ n ∧ vi = .int .i64 i ∧ Hid (OwnM w.heap.size wr vo i C bs caps (Mx.mulM MA MB K) ∧ Below w.heap.size w wr)) (fun _ i _ => n - (intOf i).toNat)
  case atStart => exact ⟨0, fun _ => 0, fun _ => 0, by omega, rfl, Lib.hid ⟨OwnM.nil _ _ _ _ _ _, hB3.out⟩⟩
  case round =>
    obtain ⟨i, bs, caps, hi, rfl, H⟩ := hrel
    have hi2 : i < n ∨ i = n := by omega
    rcases hi2 with hlt | rfl
    · have hlt2 : (i : Int) < n := by omega
      have hA1 := (HA.out.below (H.out.2.mono hn₀)).head i hlt
      have hB1 := (HB.out.below (H.out.2.mono hn₀)).head 0 (by omega)
      rw [Nat.add_zero] at hB1
      have hK3 : (0 : Int) < K := by omega
      have hmk := Hmk.out wr
      obtain ⟨wo, rfl⟩ : ∃ wo : World, wo = wr := ⟨_, rfl⟩
      go_wp2
      have hsz := H.out.2.size
      have hrow := RowV.made wo C
      obtain ⟨W0, hW0⟩ : ∃ W0, (wo.alloc (.cells (madeCells #[.int .u8 0] C) 5)) = W0 := ⟨_, rfl⟩
      have hb0 : Below w.heap.size w W0 := by rw [← hW0]; exact H.out.2.alloc hsz _
      have hm0 : OwnM w.heap.size W0 u6 i C bs caps (Mx.mulM MA MB K) := by rw [← hW0]; exact H.out.1.below ((Below.refl _ wo).alloc (Nat.le_refl _) _) (Nat.le_refl _)
      have hs0 : W0.heap.size = wo.heap.size + 1 := by rw [← hW0]; simp
      have hl0 : ∀ i', i' < i → bs i' ≠ wo.heap.size := fun i' h e => by have := H.out.1.lt i' h; omega
      have ho0 : u6.ownBlock ≠ some wo.heap.size := fun e => by have := (H.out.1.own.lt _ e).2; omega
      rw [hW0] at hrow ⊢
      obtain ⟨g, hg⟩ : ∃ g, wo.heap.size = g := ⟨_, rfl⟩
      rw [hg] at hrow hs0 hl0 ho0 hsz ⊢
      have Hx := Lib.hid (And.intro hrow (And.intro hb0 (And.intro hm0 (And.intro hs0 (And.intro hl0 ho0)))))
      clear hrow hb0 hm0 hs0 hl0 ho0 hW0 hg hmk hA1 hB1
      go_loopw [44] (fun vt wr => ∃ t : Nat, t ≤ K ∧ vt = .int .i64 t ∧ Hid (OnlyB g W0 wr ∧ RowV wr g C (timesRow MA MB i t))) (fun t _ => K - (intOf t).toNat)
      case atStart => exact ⟨0, by omega, rfl, Lib.hid ⟨OnlyB.refl _ _, Hx.out.1⟩⟩
      case round =>
        obtain ⟨t, ht, rfl, H2⟩ := hrel
        have ht2 : t < K ∨ t = K := by omega
        rcases ht2 with htl | rfl
        · have htl2 : (t : Int) < K := by omega
          have hA2 := (HA.out.below (Hx.out.2.1.mono hn₀))
          have hcA : wr.cell? ⟨pa i, oa' i + t, none⟩ = some (.int .u8 (MA i t : Nat)) := (H2.out.1.cell (p := ⟨pa i, oa' i + t, none⟩) (by have := HA.out.plo i hlt; show pa i ≠ g; omega)).trans (hA2.cell i hlt t htl)
          have hx := bA i t
          obtain ⟨x, hxe⟩ : ∃ x, MA i t = x := ⟨_, rfl⟩
          rw [hxe] at hcA hx
          have Hxe := Lib.hid hxe
          clear hxe hA2
          obtain ⟨wm, rfl⟩ : ∃ wm : World, wm = wr := ⟨_, rfl⟩
          go_wp2
          go_loopw [51] (fun vs wr => ∃ s : Nat, s ≤ C ∧ vs = .int .i64 s ∧ Hid (OnlyB g W0 wr ∧ RowV wr g C (firstK s (timesRow MA MB i (t + 1)) (timesRow MA MB i t)))) (fun s _ => C - (intOf s).toNat)
          case atStart => exact ⟨0, by omega, rfl, Lib.hid ⟨H2.out.1, H2.out.2.congr fun j _ => by unfold firstK; rw [if_neg (by omega)]⟩⟩
          case round =>
            obtain ⟨s, hs, rfl, H3⟩ := hrel
            have hs2 : s < C ∨ s = C := by omega
            rcases hs2 with hsl | rfl
            · have hsl2 : (s : Int) < C := by omega
              have hB2 := (HB.out.below (Hx.out.2.1.mono hn₀))
              have hcB : wr.cell? ⟨bb, ob + t, none⟩ = some (.slice (some ⟨pb t, ob' t, none⟩) C (capb t)) := (H3.out.1.cell (p := ⟨bb, ob + t, none⟩) (by have := HB.out.lo; show bb ≠ g; omega)).trans (hB2.head t htl)
              have hcC : wr.cell? ⟨pb t, ob' t + s, none⟩ = some (.int .u8 (MB t s : Nat)) := (H3.out.1.cell (p := ⟨pb t, ob' t + s, none⟩) (by have := HB.out.plo t htl; show pb t ≠ g; omega)).trans (hB2.cell t htl s hsl)
              have hcD : wr.cell? ⟨g, s, none⟩ = some (.int .u8 (timesRow MA MB i t s : Nat)) := by
                have := H3.out.2.cell s hsl
                unfold firstK at this; rwa [if_neg (by omega)] at this
              have hfr := H3.out.2.free s hsl
              have hy := bB t s
              have hd : timesRow MA MB i t s < 256 := Mx.dot_lt (bA i) t
              have hnew : timesRow MA MB i (t + 1) s = timesRow MA MB i t s ^^^ Gf.mul x (MB t s) := by
                unfold timesRow
                show Mx.dot _ _ t ^^^ Gf.mul (MA i t) (MB t s) = _
                rw [Hxe.out]
              obtain ⟨y, hye⟩ : ∃ y, MB t s = y := ⟨_, rfl⟩
              obtain ⟨d, hde⟩ : ∃ d, timesRow MA MB i t s = d := ⟨_, rfl⟩
              rw [hye] at hcC hy hnew
              rw [hde] at hcD hd hnew
              have hml := Gf.mul_lt y hx
              have hz3 : bits .xor .u8 (d : Int) ((Gf.mul x y : Nat) : Int) = ((d ^^^ Gf.mul x y : Nat) : Int) := u8_xor_nat _ _ hd hml
              have hmq := fun W => mul_q x y W hx hy
              obtain ⟨q, hqe⟩ : ∃ q, Gf.mul x y = q := ⟨_, rfl⟩
              rw [hqe] at hz3 hmq hml hnew
              have Hz3 := Lib.hid hz3
              have Hnew := Lib.hid hnew
              have Hmq := Lib.hid hmq
              clear hz3 hnew hmq hye hde hqe hB2
              go_wp2
              refine wp_region_still_tail 15 (by kernel_rfl) (by kernel_rfl) ?_
              simp only [List.take_succ_cons, List.take_zero, List.drop_succ_cons, List.drop_zero]
              repeat still_step
              still_call (Hmq.out _)
              repeat still_step
              refine wpStill_nil ?_
              change wpList _ _ _ _ _ wr.drew
              go_wp2
              go_roundw
              case rel =>
                refine ⟨s + 1, by omega, by go_num, Lib.hid ⟨?_, ?_⟩⟩
                · exact (H3.out.1.trans (OnlyB.setCell _ _ _ _)).trans (OnlyB.drewN _ _ 1)
                · refine RowV.drewN 1 ?_
                  rw [Hz3.out]
                  refine (H3.out.2.set (x := d ^^^ q) hsl).congr fun j hj => ?_
                  unfold Mx.upd firstK
                  by_cases e : j = s
                  · subst e; rw [if_pos rfl, if_pos (by omega)]; exact Hnew.out.symm
                  · rw [if_neg e]
                    by_cases e2 : j < s
                    · rw [if_pos e2, if_pos (by omega)]
                    · rw [if_neg e2, if_neg (by omega)]
              case measure => simp [intOf]; omega
            · go_wp2
              go_roundw
              case rel => exact ⟨t + 1, by omega, by go_num, Lib.hid ⟨H3.out.1, H3.out.2.congr fun j hj => by unfold firstK; rw [if_pos hj]⟩⟩
              case measure => simp [intOf]; omega
        · obtain ⟨_, hb0, hm0, hs0, hl0, ho0⟩ := Hx.out
          have hm1 := hm0.only H2.out.1 hl0 ho0
          have hb1 := hb0.trans (H2.out.1.below hsz)
          have hgl : g < wr.heap.size := by have := H2.out.1.size; omega
          have hown := Lib.hid hm1.own
          have hul : ((List.range i).map fun i => Value.slice (some ⟨bs i, 0, none⟩) C (caps i)).length ≤ 1000000 := by simp; omega
          have hsz1 := hb1.size
          have Hy := Lib.hid (And.intro hm1 (And.intro hb1 (And.intro hl0 ho0)))
          clear hb0 hm0 hs0 hl0 ho0 hm1 hb1
          go_wp2_with (at_builtin; refine append_rowv 71 73 rfl rfl w.heap.size _ _ (some ⟨g, 0, none⟩) C C rfl rfl hown.out hul hsz1 ?_)
          intro v' w' k1 k2 k3
          obtain ⟨hm1, hb1, hl0, ho0⟩ := Hy.out
          have hm2 := hm1.snoc H2.out.2 hsz hgl hl0 ho0 ⟨Nat.le_refl _, by unfold maxLen; omega⟩ k1 k2 k3
          have hb2 : Below w.heap.size w w' := (hb1.alloc hsz1 _).grown k2 (by simp; omega) (fun j e => (hm1.own.lt j e).1)
          have hm3 := hm2.congr (M' := Mx.mulM MA MB t) (fun i' hi' j hj => by
            unfold Mx.putR
            by_cases e : i' = i
            · rw [if_pos e, e]; rfl
            · rw [if_neg e])
          have HR := Lib.hid (And.intro hm3 hb2)
          clear hm1 hb1 hl0 ho0 hm2 hb2 hm3 k1 k2 k3 Hy hown
          go_wp2
          go_roundw
          case rel => exact ⟨i + 1, _, _, by omega, by go_num, HR⟩
          case measure => simp [intOf]; omega
    · go_wp2
      go_ret2
      exact ⟨⟨_, bs, caps, rfl, H.out.1⟩, H.out.2⟩
end Go.Proofs.YtabboioamdphmaaGreatDoor
/- Walks: a copy of a row; matrix.Rank. -/
namespace Go.Proofs.YtabboioamdphmaaGreatDoor
open Go.RowKit

theorem Own1.lower {E : TypeId} {B B' : Nat} {w : World} {v : Value} {us : List Value} (h : Own1 E B w v us) (hB : B' ≤ B) : Own1 E B' w v us := by
  unfold Own1 World.ownsRow at *
  refine ⟨h.1, ?_⟩
  rcases h.2 with h2 | ⟨g, cap, cur, e, hb, h3⟩
  · exact .inl h2
  · exact .inr ⟨g, cap, cur, e, Nat.le_trans hB hb, h3⟩
theorem OwnM.lower {B B' : Nat} {w : World} {v : Value} {n C : Nat} {bs caps : Nat → Nat} {M : Nat → Nat → Nat} (h : OwnM B w v n C bs caps M) (hB : B' ≤ B) : OwnM B' w v n C bs caps M :=
  ⟨h.own.lower hB, h.row, h.inj, fun i hi => Nat.le_trans hB (h.low i hi), h.lt, h.off, h.cap⟩
theorem MatV.lower {B B' : Nat} {w : World} {g n C : Nat} {bs caps : Nat → Nat} {M : Nat → Nat → Nat} (h : MatV B w g n C bs caps M) (hB : B' ≤ B) : MatV B' w g n C bs caps M :=
  ⟨h.head, h.free, h.row, h.inj, h.off, fun i hi => Nat.le_trans hB (h.low i hi), Nat.le_trans hB h.lowg, h.cap⟩

theorem append_rowvH {ops : Array Oper} {rest : List Oper} {o : Oper} {a : Act} {Q : Exit → Act → World → Prop} {w0 : World} (s x : Nat) (hgd : o.guard = none)
    (ho : o.op = .call { callee := .builtin .append, args := #[.tmp s, .tmp x], argTypes := #[107, 107] }) (B H : Nat) (v : Value) (us : List Value) (ad : Option Addr) (n c : Nat) (hH : w0.heap.size = H)
    (hs : a.eval (.tmp s) = v) (hx : a.eval (.tmp x) = .slice (some ⟨H, 0, none⟩) 1 1) (hown : Own1 112 B w0 v us) (hl : us.length ≤ 1000000) (hB : B ≤ w0.heap.size)
    (h : ∀ v' w', Own1 112 B w' v' (us ++ [.slice ad n c]) → (w0.alloc (.cells #[.slice ad n c] 112)).grownBy w' v.ownBlock → (v'.ownBlock = v.ownBlock ∨ v'.ownBlock = some (w0.heap.size + 1)) → wpList Tryz.prog ops Q rest (a.put o.dst v') w') :
    wpList Tryz.prog ops Q (o :: rest) a (w0.alloc (.cells #[.slice ad n c] 112)) := by
  subst hH
  exact append_rowv s x hgd ho B v us ad n c hs hx hown hl hB h

theorem clone_row (n₀ p o C c : Nat) (f : Nat → Nat) (w : World) (hp : p < n₀) (hn : n₀ ≤ w.heap.size) (hC : 1 ≤ C) (hC2 : C ≤ 1000) (hc : ∀ j, j < C → w.cell? ⟨p, o + j, none⟩ = some (.int .u8 (f j : Nat))) :
    Calls Tryz.prog 121 #[.slice (some ⟨p, o, none⟩) C c] w fun e w' => (∃ v, e = .returned v ∧ OwnB w.heap.size w' v ((List.range C).map f)) ∧ Below w.heap.size w w' := by
  have hl : ((List.range C).map f).length = C := by simp
  have h := clone_walk n₀ ⟨p, o, none⟩ c ((List.range C).map f) w (.inr ⟨p, o, rfl, hp, fun j hj => by rw [hl] at hj; rw [hc j hj]; simp [hj]⟩) hn (by rw [hl]; omega)
  rw [hl] at h
  exact h
theorem OwnB.copy {B C : Nat} {w : World} {v : Value} {f : Nat → Nat} (h : OwnB B w v ((List.range C).map f)) (hC : 1 ≤ C) : ∃ g cap, v = .slice (some ⟨g, 0, none⟩) C cap ∧ B ≤ g ∧ g < w.heap.size ∧ C ≤ cap ∧ cap ≤ maxLen ∧ RowV w g C f := by
  have hl : ((List.range C).map f).length = C := by simp
  obtain ⟨g, cap, e, h1, h2, h3, h4, h5⟩ := h.rowV (by rw [hl]; omega)
  rw [hl] at e h3 h5
  exact ⟨g, cap, e, h1, h2, h3, h4, h5.congr fun j hj => by simp [hj]⟩

end Go.Proofs.YtabboioamdphmaaGreatDoor
