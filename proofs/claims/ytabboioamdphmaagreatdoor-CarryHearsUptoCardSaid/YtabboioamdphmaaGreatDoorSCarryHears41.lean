/- The bulk of what comes in. -/
import Derived.Test.YtabboioamdphmaaGreatDoorSCarryHears23
import Derived.Test.YtabboioamdphmaaGreatDoorSCarryHears15
import Derived.Lib.SmallJoins
import Derived.Test.YtabboioamdphmaaGreatDoorSCarryHears36
import Derived.Test.YtabboioamdphmaaGreatDoorSCarryHears32
import Derived.Test.YtabboioamdphmaaGreatDoorSCarryHears40
import Derived.Test.YtabboioamdphmaaGreatDoorSCarryHears27
import Derived.Test.YtabboioamdphmaaGreatDoorSCarryHears25
namespace Go.Proofs.YtabboioamdphmaaGreatDoor
section
open Go.RowKit

variable {H : Type} {enc : TypeId × Value → H} {W : World}
theorem blk_part {d : DataW H} {l : List (DataW H)} (h : d ∈ l) : Rows.uptoBulk d ≤ Rows.uptoBulkAll l := by
  induction l with
  | nil => cases h
  | cons x r ih =>
    simp only [Rows.uptoBulkAll]
    cases List.mem_cons.1 h with
    | inl e => subst e; omega
    | inr e => have := ih e; omega
theorem blk_bound {l : List (DataW H)} (hk : Rows.uptoSmall H l = true) : Rows.uptoBulkAll l ≤ 1048576 := of_decide_eq_true hk
def vbulk (x : Ver) : Nat := 2 + x.2.2.2.2.size
def vsbulk (L : List Ver) : Nat := (L.map vbulk).sum
def mbulk (m : Msg) : Nat := m.fr.size + m.dst.size + m.kind.size + m.key.size + vsbulk m.L
theorem vsbulk_length : ∀ L : List Ver, 2 * L.length ≤ vsbulk L
  | [] => by simp
  | x :: L => by
    have := vsbulk_length L
    unfold vsbulk at this ⊢
    rw [List.map_cons, List.sum_cons, List.length_cons]
    unfold vbulk at this ⊢
    omega
theorem sum_blk {f : Nat → Ver} {D : Nat → DataW H} : ∀ {n : Nat}, (∀ i, i < n → vbulk (f i) ≤ Rows.uptoBulk (D i)) → (((List.range n).map f).map vbulk).sum ≤ Rows.uptoBulkAll ((List.range n).map D) := by
  intro n
  have key : ∀ l : List Nat, (∀ i ∈ l, vbulk (f i) ≤ Rows.uptoBulk (D i)) → ((l.map f).map vbulk).sum ≤ Rows.uptoBulkAll (l.map D) := by
    intro l
    induction l with
    | nil => intro _; simp
    | cons i l ih =>
      intro h
      have h1 := h i (List.mem_cons_self ..)
      have h2 := ih (fun k hk => h k (List.mem_cons_of_mem _ hk))
      simp only [List.map_cons, List.sum_cons, Rows.uptoBulkAll]
      omega
  exact fun h => key _ (fun i hi => h i (List.mem_range.1 hi))
set_option maxRecDepth 10000 in
theorem ver_blk {n : Nat} {cs : List Value} {x : Ver} {y : DataW H × List MemPlace} (hc : cs = encVr x) (h : DataW.trod enc Tryz.prog W 0 (fun _ => true) true n 76 cs = some y) : vbulk x ≤ Rows.uptoBulk y.1 := by
  subst hc
  obtain ⟨x1, x2, x3, x4, s⟩ := x
  obtain ⟨xs, k, hk, hxy, hcl, hxl, hf⟩ := DataW.trod_struct Tryz.underlying76 h
  obtain ⟨y0, y1, y2, rfl⟩ := list3 hxl
  have cS : Tryz.prog.cellsOf 74 = 2 := by kernel_rfl
  have cX : Tryz.prog.cellsOf 9 = 1 := by kernel_rfl
  have g2 : DataW.trod enc Tryz.prog W 0 (fun _ => true) true k 74 (((encVr (x1, x2, x3, x4, s)).drop 3).take (Tryz.prog.cellsOf 74)) = some y2 := hf 2 _ rfl
  rw [cS] at g2
  have g2' : DataW.trod enc Tryz.prog W 0 (fun _ => true) true k 74 [.int .i64 x4, .string s] = some y2 := g2
  obtain ⟨zs, k2, hk2, hzy, _, hxl2, hf2⟩ := DataW.trod_struct Tryz.underlying74 g2'
  obtain ⟨z2, z3, rfl⟩ := list2 hxl2
  have e3 : DataW.trod enc Tryz.prog W 0 (fun _ => true) true k2 9 ((([.int .i64 x4, .string s] : List Value).drop 1).take (Tryz.prog.cellsOf 9)) = some z3 := hf2 1 _ rfl
  rw [cX] at e3
  obtain ⟨s4, q4, e4, hs⟩ := DataW.trod_string Tryz.underlying9 (show DataW.trod enc Tryz.prog W 0 (fun _ => true) true k2 9 [.string s] = some z3 from e3)
  simp at q4
  subst q4
  rw [hxy, hzy]
  unfold vbulk
  simp [Rows.uptoBulk, Rows.uptoBulkAll, e4]
  omega
set_option maxRecDepth 10000 in
theorem vers_blk {n : Nat} {v : Value} {y : DataW H × List MemPlace} (h : DataW.trod enc Tryz.prog W 0 (fun _ => true) true n 53 [v] = some y) :
    ∃ a len cap L, v = .slice a len cap ∧ VersIn W a len cap L ∧ ((y.1 = .nil ∧ len = 0) ∨ ∃ es sp, y.1 = .slice es sp ∧ es.length = len) ∧ vsbulk L ≤ Rows.uptoBulk y.1 := by
  rcases Go.Deep.open_slice Tryz.underlying53 h with ⟨hcs, rfl⟩ | ⟨x, len, cap, m, n, D, Pl, hcs, _, hl, hm, hmm, hy, hr⟩
  · simp at hcs
    subst hcs
    exact ⟨none, 0, 0, [], rfl, ⟨rfl, Nat.le_refl _, by simp [maxLen], fun _ => rfl, .inl rfl, fun x hx => (by cases hx)⟩, .inl ⟨rfl, rfl⟩, Nat.zero_le _⟩
  · simp at hcs
    subst hcs
    rw [if_pos rfl] at hmm
    subst hmm
    have ec : Tryz.prog.cellsOf 76 = 5 := by kernel_rfl
    rw [ec] at hr
    have each : ∀ i, i < m → ∃ z : Ver, VerOk z ∧ vbulk z ≤ Rows.uptoBulk (D i) ∧ ∀ j, j < 5 → W.cell? ((x.add (i * 5)).add j) = (encVr z)[j]? := fun i hi => by
      obtain ⟨cs', h3, h4⟩ := hr i hi
      obtain ⟨z, e, hz⟩ := ver_trodI h4
      obtain ⟨_, hlen, hcell⟩ := World.cells?_some h3
      exact ⟨z, hz, ver_blk e h4, fun j hj => by rw [hcell j hj, e]⟩
    obtain ⟨f, hff⟩ := Go.Deep.choose_lt each
    refine ⟨_, len, m, (List.range len).map f, rfl, ⟨by simp, hl, hm, (fun e => by cases e), ?_, fun z hz => ?_⟩, .inr ⟨_, _, by rw [hy], by simp⟩, ?_⟩
    · by_cases h0 : len = 0
      · left; subst h0; rfl
      · obtain ⟨b, off, spot⟩ := x
        have h00 := (hff 0 (by omega)).2.2 0 (by omega)
        have hspot : spot = none := by
          have h00' : W.cell? ((Addr.add ⟨b, off, spot⟩ (0 * 5)).add 0) = some (.int .i64 (f 0).1) := h00
          simpa [Addr.add] using World.cell?_spot h00'
        subst hspot
        have hb : b < W.heap.size := by
          have h00' : W.cell? ((Addr.add ⟨b, off, none⟩ (0 * 5)).add 0) = some (.int .i64 (f 0).1) := h00
          simpa [Addr.add] using lt_of_cell h00'
        refine .inr ⟨b, off, rfl, hb, fun i j hi hj => ?_⟩
        have hi2 : i < len := by simpa using hi
        have e : ((List.range len).map f)[i]?.getD ver0 = f i := by simp [hi2]
        rw [e, ← (hff i (by omega)).2.2 j hj, Go.WideShapes.add_plain, Go.WideShapes.add_plain]
    · obtain ⟨i, hi, rfl⟩ := List.mem_map.1 hz
      exact (hff i (by have := List.mem_range.1 hi; omega)).1
    · rw [hy]
      simp only [Rows.uptoBulk]
      have h9 := sum_blk (f := f) (D := D) (n := len) (fun i hi => (hff i (by omega)).2.1)
      unfold vsbulk
      omega
set_option maxRecDepth 10000 in
theorem msg_blk {n : Nat} {cs : List Value} {y : DataW H × List MemPlace} (h : DataW.trod enc Tryz.prog W 0 (fun _ => true) true n 57 cs = some y) :
    ∃ (x : Msg) (a : Option Addr) (cap : Nat), cs = [.string x.fr, .string x.dst, .string x.kind, .string x.key, .int .i64 x.op, .int .i64 x.cf, .bool x.sl, .slice a x.L.length cap] ∧ MsgOk x ∧ VersIn W a x.L.length cap x.L ∧
      (∀ B, (∀ k ∈ y.1.weights Tryz.prog 57, k ≤ B) → x.L.length * 48 ≤ B) ∧ mbulk x ≤ Rows.uptoBulk y.1 := by
  obtain ⟨xs, k, hk, hxy, hcl, hxl, hf⟩ := DataW.trod_struct Tryz.underlying57 h
  have ec : Tryz.prog.cellsOf 57 = 8 := by kernel_rfl
  rw [ec] at hcl
  obtain ⟨v0, v1, v2, v3, v4, v5, v6, v7, rfl⟩ := list8 hcl
  obtain ⟨y0, y1, y2, y3, y4, y5, y6, y7, rfl⟩ := list8 hxl
  have cI : Tryz.prog.cellsOf 3 = 1 := by kernel_rfl
  have cX : Tryz.prog.cellsOf 9 = 1 := by kernel_rfl
  have cB : Tryz.prog.cellsOf 4 = 1 := by kernel_rfl
  have cL : Tryz.prog.cellsOf 53 = 1 := by kernel_rfl
  have g0 : DataW.trod enc Tryz.prog W 0 (fun _ => true) true k 9 ((([v0, v1, v2, v3, v4, v5, v6, v7] : List Value).drop 0).take (Tryz.prog.cellsOf 9)) = some y0 := hf 0 _ rfl
  have g1 : DataW.trod enc Tryz.prog W 0 (fun _ => true) true k 9 ((([v0, v1, v2, v3, v4, v5, v6, v7] : List Value).drop 1).take (Tryz.prog.cellsOf 9)) = some y1 := hf 1 _ rfl
  have g2 : DataW.trod enc Tryz.prog W 0 (fun _ => true) true k 9 ((([v0, v1, v2, v3, v4, v5, v6, v7] : List Value).drop 2).take (Tryz.prog.cellsOf 9)) = some y2 := hf 2 _ rfl
  have g3 : DataW.trod enc Tryz.prog W 0 (fun _ => true) true k 9 ((([v0, v1, v2, v3, v4, v5, v6, v7] : List Value).drop 3).take (Tryz.prog.cellsOf 9)) = some y3 := hf 3 _ rfl
  have g4 : DataW.trod enc Tryz.prog W 0 (fun _ => true) true k 3 ((([v0, v1, v2, v3, v4, v5, v6, v7] : List Value).drop 4).take (Tryz.prog.cellsOf 3)) = some y4 := hf 4 _ rfl
  have g5 : DataW.trod enc Tryz.prog W 0 (fun _ => true) true k 3 ((([v0, v1, v2, v3, v4, v5, v6, v7] : List Value).drop 5).take (Tryz.prog.cellsOf 3)) = some y5 := hf 5 _ rfl
  have g6 : DataW.trod enc Tryz.prog W 0 (fun _ => true) true k 4 ((([v0, v1, v2, v3, v4, v5, v6, v7] : List Value).drop 6).take (Tryz.prog.cellsOf 4)) = some y6 := hf 6 _ rfl
  have g7 : DataW.trod enc Tryz.prog W 0 (fun _ => true) true k 53 ((([v0, v1, v2, v3, v4, v5, v6, v7] : List Value).drop 7).take (Tryz.prog.cellsOf 53)) = some y7 := hf 7 _ rfl
  rw [cX] at g0 g1 g2 g3
  rw [cI] at g4 g5
  rw [cB] at g6
  rw [cL] at g7
  obtain ⟨s0, q0, e0, h0⟩ := DataW.trod_string Tryz.underlying9 (show DataW.trod enc Tryz.prog W 0 (fun _ => true) true k 9 [v0] = some y0 from g0)
  obtain ⟨s1, q1, e1, h1⟩ := DataW.trod_string Tryz.underlying9 (show DataW.trod enc Tryz.prog W 0 (fun _ => true) true k 9 [v1] = some y1 from g1)
  obtain ⟨s2, q2, e2, h2⟩ := DataW.trod_string Tryz.underlying9 (show DataW.trod enc Tryz.prog W 0 (fun _ => true) true k 9 [v2] = some y2 from g2)
  obtain ⟨s3, q3, e3, h3⟩ := DataW.trod_string Tryz.underlying9 (show DataW.trod enc Tryz.prog W 0 (fun _ => true) true k 9 [v3] = some y3 from g3)
  obtain ⟨n4, q4, _, w4⟩ := DataW.trod_int Tryz.underlying3 (show DataW.trod enc Tryz.prog W 0 (fun _ => true) true k 3 [v4] = some y4 from g4)
  obtain ⟨n5, q5, _, w5⟩ := DataW.trod_int Tryz.underlying3 (show DataW.trod enc Tryz.prog W 0 (fun _ => true) true k 3 [v5] = some y5 from g5)
  obtain ⟨b6, q6, _⟩ := DataW.trod_bool Tryz.underlying4 (show DataW.trod enc Tryz.prog W 0 (fun _ => true) true k 4 [v6] = some y6 from g6)
  obtain ⟨a, len, cap, L, q7, hL, hd, hbk⟩ := vers_blk (show DataW.trod enc Tryz.prog W 0 (fun _ => true) true k 53 [v7] = some y7 from g7)
  simp at q0 q1 q2 q3 q4 q5 q6
  subst q0 q1 q2 q3 q4 q5 q6 q7
  have hlen := hL.1
  subst hlen
  refine ⟨⟨s0, s1, s2, s3, n4, n5, b6, L⟩, a, cap, rfl, ⟨h0, h1, h2, h3, bounds_i64 w4, bounds_i64 w5, hL.2.2.2.2.2⟩, hL, fun B hB => ?_, ?_⟩
  · rcases hd with ⟨_, hd⟩ | ⟨es, sp, hd, he⟩
    · show L.length * 48 ≤ B
      omega
    · have h9 : (es.length + sp.length) * 48 ≤ B := by
        refine hB _ ?_
        rw [hxy]
        simp [DataW.weights, Tryz.underlying57, DataW.weightsEach, hd, Tryz.underlying53, bytes_ver]
      show L.length * 48 ≤ B
      have h8 : (es.length + sp.length) * 48 = es.length * 48 + sp.length * 48 := Nat.add_mul _ _ _
      omega
  · rw [hxy]
    unfold mbulk
    simp [Rows.uptoBulk, Rows.uptoBulkAll, e0, e1, e2, e3]
    omega
end
end Go.Proofs.YtabboioamdphmaaGreatDoor
/- Messages that come in, and their bulk. -/
namespace Go.Proofs.YtabboioamdphmaaGreatDoor
section
open Go.RowKit

variable {H : Type} {enc : TypeId × Value → H} {W : World}
def msgsbulk (l : List Msg) : Nat := (l.map mbulk).sum
theorem sum_blkm {f : Nat → Msg} {D : Nat → DataW H} : ∀ {n : Nat}, (∀ i, i < n → mbulk (f i) ≤ Rows.uptoBulk (D i)) → msgsbulk ((List.range n).map f) ≤ Rows.uptoBulkAll ((List.range n).map D) := by
  intro n
  have key : ∀ l : List Nat, (∀ i ∈ l, mbulk (f i) ≤ Rows.uptoBulk (D i)) → msgsbulk (l.map f) ≤ Rows.uptoBulkAll (l.map D) := by
    intro l
    induction l with
    | nil => intro _; simp [msgsbulk]
    | cons i l ih =>
      intro h
      have h1 := h i (List.mem_cons_self ..)
      have h2 := ih (fun k hk => h k (List.mem_cons_of_mem _ hk))
      unfold msgsbulk at h2 ⊢
      simp only [List.map_cons, List.sum_cons, Rows.uptoBulkAll]
      omega
  exact fun h => key _ (fun i hi => h i (List.mem_range.1 hi))
set_option maxRecDepth 10000 in
theorem open_msgs_blk {a : Option Addr} {len cap : Nat} {d : DataW H} {p : List MemPlace} (h : DataW.Trod enc Tryz.prog W 0 (fun _ => true) true 25 (.slice a len cap) d p) :
    ∃ L, MsgsIn W a len cap L ∧ msgsbulk L ≤ Rows.uptoBulk d := by
  obtain ⟨fuel, hf⟩ := h
  rcases Go.Deep.open_slice Tryz.underlying25 hf with ⟨hcs, hy⟩ | ⟨x, l, c, m, n, D, Pl, hcs, _, hl, hm, hmm, hy, hr⟩
  · simp [Value.cells] at hcs
    obtain ⟨rfl, rfl, rfl⟩ := hcs
    exact ⟨[], ⟨rfl, Nat.le_refl _, by simp [maxLen], fun _ => rfl, .inl rfl, fun i hi => by omega⟩, by simp [msgsbulk]⟩
  · simp [Value.cells] at hcs
    obtain ⟨rfl, rfl, rfl⟩ := hcs
    rw [if_pos rfl] at hmm
    subst hmm
    have ec : Tryz.prog.cellsOf 57 = 8 := by kernel_rfl
    rw [ec] at hr
    have each : ∀ i, i < m → ∃ z : Msg × Option Addr × Nat, MsgOk z.1 ∧ VersIn W z.2.1 z.1.L.length z.2.2 z.1.L ∧ mbulk z.1 ≤ Rows.uptoBulk (D i) ∧
        ∀ j, j < 8 → W.cell? ((x.add (i * 8)).add j) = ([.string z.1.fr, .string z.1.dst, .string z.1.kind, .string z.1.key, .int .i64 z.1.op, .int .i64 z.1.cf, .bool z.1.sl, .slice z.2.1 z.1.L.length z.2.2] : List Value)[j]? := fun i hi => by
      obtain ⟨cs', h3, h4⟩ := hr i hi
      obtain ⟨z, za, zc, e, hz, hv, _, hb⟩ := msg_blk h4
      obtain ⟨_, hlen, hcell⟩ := World.cells?_some h3
      exact ⟨(z, za, zc), hz, hv, hb, fun j hj => by rw [hcell j hj, e]⟩
    obtain ⟨f, hff⟩ := Go.Deep.choose_lt each
    have eg : ∀ i, i < len → ((List.range len).map fun i => (f i).1)[i]?.getD msg0 = (f i).1 := fun i hi => by simp [hi]
    refine ⟨(List.range len).map fun i => (f i).1, ⟨by simp, hl, hm, (fun e => by cases e), ?_, fun i hi => ?_⟩, ?_⟩
    · by_cases h0 : len = 0
      · left; subst h0; rfl
      · obtain ⟨b, off, spot⟩ := x
        have h00 := (hff 0 (by omega)).2.2.2 0 (by omega)
        have hspot : spot = none := by simpa [Addr.add] using World.cell?_spot h00
        subst hspot
        have hb : b < W.heap.size := by simpa [Addr.add] using lt_of_cell h00
        refine .inr ⟨b, off, rfl, hb, fun i hi => ?_⟩
        have hi2 : i < len := by simpa using hi
        rw [eg i hi2]
        obtain ⟨k1, k2, k3, k4⟩ := hff i (by omega)
        have c : ∀ j, j < 8 → W.cell? ⟨b, off + i * 8 + j, none⟩ = ([.string (f i).1.fr, .string (f i).1.dst, .string (f i).1.kind, .string (f i).1.key, .int .i64 (f i).1.op, .int .i64 (f i).1.cf, .bool (f i).1.sl, .slice (f i).2.1 (f i).1.L.length (f i).2.2] : List Value)[j]? := fun j hj => by
          rw [← k4 j hj, Go.WideShapes.add_plain, Go.WideShapes.add_plain]
        exact ⟨c 0 (by omega), c 1 (by omega), c 2 (by omega), c 3 (by omega), c 4 (by omega), c 5 (by omega), c 6 (by omega), _, _, c 7 (by omega), k2.2.1, k2.2.2.1, k2.2.2.2.1, k2.2.2.2.2.1⟩
    · rw [eg i hi]
      exact (hff i (by omega)).1
    · obtain ⟨rfl, rfl⟩ := Prod.mk.inj hy
      simp only [Rows.uptoBulk]
      have h9 := sum_blkm (f := fun i => (f i).1) (D := D) (n := len) (fun i hi => (hff i (by omega)).2.2.1)
      omega
end
end Go.Proofs.YtabboioamdphmaaGreatDoor
/- A configuration that comes in. -/
namespace Go.Proofs.YtabboioamdphmaaGreatDoor
open Go.RowKit Go.ChangeShapes Go.WideShapes

structure CfgIn (w : World) (n k : Int) (a : Option Addr) (len cap : Nat) (L : List ByteArray) : Prop where
  n_ : -9223372036854775808 ≤ n ∧ n ≤ 9223372036854775807
  k_ : -9223372036854775808 ≤ k ∧ k ≤ 9223372036854775807
  t_ : TxsIn w a len cap L
set_option maxRecDepth 100000 in
theorem open_config {H : Type} {enc : TypeId × Value → H} {W : World} {base : Nat} {v : Value} {d : DataW H} {p : List MemPlace} (hv : Value.okWide Tryz.prog W .any base 24 v) (h : DataW.Trod enc Tryz.prog W 0 (fun _ => true) true 24 v d p) :
    ∃ n k a len cap L, v = .agg #[.int .i64 n, .int .i64 k, .slice a len cap] ∧ CfgIn W n k a len cap L := by
  obtain ⟨v0, v1, v2, y0, y1, y2, m, rfl, _, _, h0, h1, h2⟩ := Joins.open_agg3 Tryz.underlying24 (by kernel_rfl) (by kernel_rfl) hv h
  obtain ⟨n, e0, _, w0⟩ := DataW.trod_int Tryz.underlying3 h0
  obtain ⟨k, e1, _, w1⟩ := DataW.trod_int Tryz.underlying3 h1
  obtain ⟨a, len, cap, L, e2, hL⟩ := texts_of_trod h2
  simp at e0 e1
  subst e0 e1 e2
  exact ⟨n, k, a, len, cap, L, rfl, bounds_i64 w0, bounds_i64 w1, hL⟩
end Go.Proofs.YtabboioamdphmaaGreatDoor
/- A bid that comes in. -/
namespace Go.Proofs.YtabboioamdphmaaGreatDoor
section
open Go.RowKit Go.ChangeShapes Go.WideShapes

variable {H : Type} {enc : TypeId × Value → H} {W : World}
end
end Go.Proofs.YtabboioamdphmaaGreatDoor
/- What the law AskHears needs of both asks at the start. -/
namespace Go.Proofs.YtabboioamdphmaaGreatDoor
section
open Go.RowKit Go.Maps Go.BigFrame

def rNewV (who op n k : Int) (a : Option Addr) (len cap : Nat) (cf : Int) (key text : ByteArray) (put : Bool) : List Value :=
  [.string (⟨#[99]⟩ ++ digT who.toNat), .string key, .int .i64 who, .int .i64 op, .int .i64 cf, .int .i64 n, .int .i64 k, .slice a len cap, .int .i64 0, .int .i64 0, .slice none 0 0, .bool put, .bool false, .string kLooking, .slice none 0 0, .slice none 0 0, .int .i64 0, .int .i64 0, .string text, .bool false]
theorem DuoAt.fresh {w W V : World} {ab bm mo : Nat} {ma : Option Addr} {mc : Nat} {F : Nat → Prop} {who op n k cf : Int} {L : List ByteArray} {key text : ByteArray} {put : Bool} {a : Option Addr} {len cap : Nat} (hX : TalkX F W ab bm ma mc (newA who op n k L cf key text put).t (askV (newA who op n k L cf key text put)))
    (hF : ∀ b, F b → w.heap.size ≤ b) (hw : w.heap.size ≤ W.heap.size) (hb : Below w.heap.size w V) (hWV : Below W.heap.size W V) (hmo : W.heap.size ≤ mo) (hc : CellsAt V mo (rNewV who op n k a len cap cf key text put)) (hn : 0 ≤ n) (hk : 0 ≤ k) (hlen : L.length = len) (hm : len ≤ cap ∧ cap ≤ maxLen ∧ (a = none → cap = 0)) (hT : TxsAt w.heap.size w a L) :
    DuoAt askV w V ab mo none 0 (newA who op n k L cf key text put) (newA who op n k L cf key text put) F (fun b => b = mo) := by
  subst hlen
  refine ⟨⟨bm, ma, mc, hX.below hWV (Nat.le_refl _)⟩, ⟨a, cap, .slice none 0 0, .slice none 0 0, [], rfl, fun b e => by rw [e]; exact hc.lt, ?_, OwnT.nil _ _, OwnVs.nil _ _, fun g e => by simp [Value.ownBlock] at e, fun g e => by simp [Value.ownBlock] at e, fun i hi => by simp at hi, hm, ?_, ⟨Nat.le_refl _, Nat.zero_le _, fun _ => rfl⟩, .inl rfl, fun b hb9 e => by omega⟩, hF, fun b hf e => by have := hX.talk.lt b hf; omega, hb⟩
  · have e : rAskV (newA who op n k L cf key text put) (.slice a L.length cap) (.slice none 0 0) (.slice none 0 0) (.slice none 0 0) = rNewV who op n k a L.length cap cf key text put := by
      unfold rAskV rNewV newA
      dsimp only
      rw [Int.toNat_of_nonneg hn, Int.toNat_of_nonneg hk]
      rfl
    show CellsAt V mo (rAskV (newA who op n k L cf key text put) (.slice a L.length cap) (.slice none 0 0) (.slice none 0 0) (.slice none 0 0))
    rw [e]
    exact hc
  · rcases hT with e | ⟨b, off, e, hb9, hcc⟩
    · exact .inl e
    · exact .inr ⟨b, off, e, hb9, Nat.lt_of_lt_of_le hb9 hb.size, fun j hj => (hb.cell (p := ⟨b, off + j, none⟩) hb9).trans (hcc j hj)⟩
theorem msgs_tot : ∀ l : List Msg, 2 * (l.map fun m => m.L.length).sum ≤ msgsbulk l
  | [] => by simp [msgsbulk]
  | m :: l => by
    have h1 := msgs_tot l
    have h2 := vsbulk_length m.L
    unfold msgsbulk at h1 ⊢
    simp only [List.map_cons, List.sum_cons]
    unfold mbulk at h1 ⊢
    omega
theorem totL_bulk (l : List Msg) (i : Nat) (h : msgsbulk l ≤ 1048576) : totL l i ≤ 524288 := by
  have h1 := totL_le l i
  have h2 := msgs_tot l
  unfold totL at h1 ⊢
  rw [List.take_length] at h1
  omega
theorem DuoAt.hear1' {w0 w w' : World} {ab mo : Nat} {na : Option Addr} {nc : Nat} {a1 a2 A2 : AskS} {F G : Nat → Prop} {ma : Option Addr} {mc n1 : Nat} {m : Msg} {l1 : List Msg} {e : Ending} (h : DuoAt askV w0 w ab mo na nc a1 a2 F G) (hp : AskPost F w w' ab ma mc a1 m e) (hA : (askHear a1 m).1 = A2) (hl : (askHear a1 m).2 = l1) (hn : l1.length = n1) :
    ∃ F' a5 c5, e = .returned (.slice a5 n1 c5) ∧ DuoAt askV w0 w' ab mo na nc A2 a2 F' G ∧ MsgsS (fun b => ¬ F' b ∧ ¬ G b) w' a5 l1 := by
  subst hA hl hn
  exact h.hear1 hp
theorem DuoAt.hear2' {vV : AskS → List Value} {w0 w w' : World} {ab mo : Nat} {na : Option Addr} {nc : Nat} {a1 a2 A2 : AskS} {F G : Nat → Prop} {m : Msg} {e : Ending} {a : Option Addr} {n1 : Nat} {l1 : List Msg} (h : DuoAt vV w0 w ab mo na nc a1 a2 F G) (hp : RAskPost (fun b => b < w0.heap.size) G w w' mo na nc a2 m e) (hv : MsgsS (fun b => ¬ F b ∧ ¬ G b) w a l1) (hA : (askHear a2 m).1 = A2) (hl : (askHear a2 m).2 = l1) (hn : l1.length = n1) :
    ∃ G' a8 c8, e = .returned (.slice a8 n1 c8) ∧ DuoAt vV w0 w' ab mo na nc a1 A2 F G' ∧ MsgsR w'.heap.size w' a l1 ∧ MsgsR w'.heap.size w' a8 l1 := by
  subst hA hl hn
  exact h.hear2 hp hv
theorem DuoAt.back' {vV : AskS → List Value} {w0 w w' : World} {ab mo : Nat} {na : Option Addr} {nc : Nat} {a1 a2 : AskS} {F G : Nat → Prop} {v : Value} {n1 : Nat} {l1 : List Msg} (h : DuoAt vV w0 w ab mo na nc a1 a2 F G) (hb : Below w.heap.size w w') (hv : MsgsO w.heap.size (fun b => (¬ F b ∧ ¬ G b) ∧ b < w.heap.size) w' v l1) (hn : l1.length = n1) :
    ∃ a5 c5, v = .slice a5 n1 c5 ∧ DuoAt vV w0 w' ab mo na nc a1 a2 F G ∧ MsgsS (fun b => ¬ F b ∧ ¬ G b) w' a5 l1 := by
  subst hn
  exact h.back hb hv
theorem DuoAt.state {w0 w : World} {ab mo : Nat} {na : Option Addr} {nc : Nat} {a1 a2 : AskS} {F G : Nat → Prop} (h : DuoAt askV w0 w ab mo na nc a1 a2 F G) : w.cell? ⟨ab, 15, none⟩ = some (.string (stT a1)) := by
  obtain ⟨⟨bm, ma, mc, hX⟩, _⟩ := h
  exact hX.cell 6 (by show 6 < 7; decide)
theorem DuoAt.state2 {vV : AskS → List Value} {w0 w : World} {ab mo : Nat} {na : Option Addr} {nc : Nat} {a1 a2 : AskS} {F G : Nat → Prop} (h : DuoAt vV w0 w ab mo na nc a1 a2 F G) : w.cell? ⟨mo, 13, none⟩ = some (.string (stT a2)) ∧ w.cell? ⟨mo, 16, none⟩ = some (.int .i64 a2.tag.1) ∧ w.cell? ⟨mo, 17, none⟩ = some (.int .i64 a2.tag.2) ∧ w.cell? ⟨mo, 18, none⟩ = some (.string a2.text) ∧ w.cell? ⟨mo, 19, none⟩ = some (.bool a2.found) := by
  obtain ⟨_, ⟨_, _, _, _, _, hR⟩, _⟩ := h
  exact ⟨hR.cs.cell 13 (by show 13 < 20; decide), hR.cs.cell 16 (by show 16 < 20; decide), hR.cs.cell 17 (by show 17 < 20; decide), hR.cs.cell 18 (by show 18 < 20; decide), hR.cs.cell 19 (by show 19 < 20; decide)⟩
theorem ans_yes {a : AskS} (h2 : a.st = 2) (h3 : a.found = true) : ansE a = .returned (.tuple #[.agg #[.int .i64 a.tag.1, .int .i64 a.tag.2], .string a.text, .bool true]) := by
  unfold ansE
  rw [if_pos h2, h3]
theorem wpAnyH_weaken {P : Program} {md : Region.Mode} {ops : Array Oper} {Q : Exit → Act → World → Prop} {S1 S2 : World → Prop} (h : ∀ w, S2 w → S1 w) : ∀ (fuel : Nat) (listed : Array Bool) (a : Act) (w : World), wpAnyH P md ops Q S2 fuel listed a w → wpAnyH P md ops Q S1 fuel listed a w
  | 0, _, _, _, h9 => h9
  | fuel + 1, _, _, _, h9 => ⟨h9.1, fun i hi => wpOp_mono (fun a' w' h' => ⟨h w' h'.1, wpAnyH_weaken h fuel _ a' w' h'.2⟩) (h9.2 i hi)⟩
end
end Go.Proofs.YtabboioamdphmaaGreatDoor
