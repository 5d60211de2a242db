/- The bulk of what comes in. -/
import Derived.Test.YtgcnohejmofhkaaDoorMsg
namespace Go.Proofs.YtgcnohejmofhkaaDoor
section
open Go.RowKit

variable {H : Type} {enc : TypeId × Value → H} {W : World}
theorem blk_part {d : DataW H} {l : List (DataW H)} (h : d ∈ l) : Rows.uptoBulk d ≤ Rows.uptoBulkAll l := by
  induction l with
  | nil => cases h
  | cons x r ih =>
    simp only [Rows.uptoBulkAll]
    cases List.mem_cons.1 h with
    | inl e => subst e; omega
    | inr e => have := ih e; omega
theorem blk_bound {l : List (DataW H)} (hk : Rows.uptoSmall H l = true) : Rows.uptoBulkAll l ≤ 1048576 := of_decide_eq_true hk
/-- the letters of a version, at least. -/
def vbulk (x : Ver) : Nat := 2 + x.2.2.2.2.size
def vsbulk (L : List Ver) : Nat := (L.map vbulk).sum
def mbulk (m : Msg) : Nat := m.fr.size + m.dst.size + m.kind.size + m.key.size + vsbulk m.L
theorem vsbulk_length : ∀ L : List Ver, 2 * L.length ≤ vsbulk L
  | [] => by simp
  | x :: L => by
    have := vsbulk_length L
    unfold vsbulk at this ⊢
    rw [List.map_cons, List.sum_cons, List.length_cons]
    unfold vbulk at this ⊢
    omega
theorem sum_blk {f : Nat → Ver} {D : Nat → DataW H} : ∀ {n : Nat}, (∀ i, i < n → vbulk (f i) ≤ Rows.uptoBulk (D i)) → (((List.range n).map f).map vbulk).sum ≤ Rows.uptoBulkAll ((List.range n).map D) := by
  intro n
  have key : ∀ l : List Nat, (∀ i ∈ l, vbulk (f i) ≤ Rows.uptoBulk (D i)) → ((l.map f).map vbulk).sum ≤ Rows.uptoBulkAll (l.map D) := by
    intro l
    induction l with
    | nil => intro _; simp
    | cons i l ih =>
      intro h
      have h1 := h i (List.mem_cons_self ..)
      have h2 := ih (fun k hk => h k (List.mem_cons_of_mem _ hk))
      simp only [List.map_cons, List.sum_cons, Rows.uptoBulkAll]
      omega
  exact fun h => key _ (fun i hi => h i (List.mem_range.1 hi))
set_option maxRecDepth 10000 in
theorem ver_blk {n : Nat} {cs : List Value} {x : Ver} {y : DataW H × List MemPlace} (hc : cs = encVr x) (h : DataW.trod enc Tryd.prog W 0 (fun _ => true) true n 50 cs = some y) : vbulk x ≤ Rows.uptoBulk y.1 := by
  subst hc
  obtain ⟨x1, x2, x3, x4, s⟩ := x
  obtain ⟨xs, k, hk, hxy, hcl, hxl, hf⟩ := DataW.trod_struct Tryd.underlying50 h
  obtain ⟨y0, y1, y2, rfl⟩ := list3 hxl
  have cS : Tryd.prog.cellsOf 46 = 2 := by kernel_rfl
  have cX : Tryd.prog.cellsOf 9 = 1 := by kernel_rfl
  have g2 : DataW.trod enc Tryd.prog W 0 (fun _ => true) true k 46 (((encVr (x1, x2, x3, x4, s)).drop 3).take (Tryd.prog.cellsOf 46)) = some y2 := hf 2 _ rfl
  rw [cS] at g2
  have g2' : DataW.trod enc Tryd.prog W 0 (fun _ => true) true k 46 [.int .i64 x4, .string s] = some y2 := g2
  obtain ⟨zs, k2, hk2, hzy, _, hxl2, hf2⟩ := DataW.trod_struct Tryd.underlying46 g2'
  obtain ⟨z2, z3, rfl⟩ := list2 hxl2
  have e3 : DataW.trod enc Tryd.prog W 0 (fun _ => true) true k2 9 ((([.int .i64 x4, .string s] : List Value).drop 1).take (Tryd.prog.cellsOf 9)) = some z3 := hf2 1 _ rfl
  rw [cX] at e3
  obtain ⟨s4, q4, e4, hs⟩ := DataW.trod_string Tryd.underlying9 (show DataW.trod enc Tryd.prog W 0 (fun _ => true) true k2 9 [.string s] = some z3 from e3)
  simp at q4
  subst q4
  rw [hxy, hzy]
  unfold vbulk
  simp [Rows.uptoBulk, Rows.uptoBulkAll, e4]
  omega
set_option maxRecDepth 10000 in
theorem vers_blk {n : Nat} {v : Value} {y : DataW H × List MemPlace} (h : DataW.trod enc Tryd.prog W 0 (fun _ => true) true n 22 [v] = some y) :
    ∃ a len cap L, v = .slice a len cap ∧ VersIn W a len cap L ∧ ((y.1 = .nil ∧ len = 0) ∨ ∃ es sp, y.1 = .slice es sp ∧ es.length = len) ∧ vsbulk L ≤ Rows.uptoBulk y.1 := by
  rcases Go.Deep.open_slice Tryd.underlying22 h with ⟨hcs, rfl⟩ | ⟨x, len, cap, m, n, D, Pl, hcs, _, hl, hm, hmm, hy, hr⟩
  · simp at hcs
    subst hcs
    exact ⟨none, 0, 0, [], rfl, ⟨rfl, Nat.le_refl _, by simp [maxLen], fun _ => rfl, .inl rfl, fun x hx => (by cases hx)⟩, .inl ⟨rfl, rfl⟩, Nat.zero_le _⟩
  · simp at hcs
    subst hcs
    rw [if_pos rfl] at hmm
    subst hmm
    have ec : Tryd.prog.cellsOf 50 = 5 := by kernel_rfl
    rw [ec] at hr
    have each : ∀ i, i < m → ∃ z : Ver, VerOk z ∧ vbulk z ≤ Rows.uptoBulk (D i) ∧ ∀ j, j < 5 → W.cell? ((x.add (i * 5)).add j) = (encVr z)[j]? := fun i hi => by
      obtain ⟨cs', h3, h4⟩ := hr i hi
      obtain ⟨z, e, hz⟩ := ver_trodI h4
      obtain ⟨_, hlen, hcell⟩ := World.cells?_some h3
      exact ⟨z, hz, ver_blk e h4, fun j hj => by rw [hcell j hj, e]⟩
    obtain ⟨f, hff⟩ := Go.Deep.choose_lt each
    refine ⟨_, len, m, (List.range len).map f, rfl, ⟨by simp, hl, hm, (fun e => by cases e), ?_, fun z hz => ?_⟩, .inr ⟨_, _, by rw [hy], by simp⟩, ?_⟩
    · by_cases h0 : len = 0
      · left; subst h0; rfl
      · obtain ⟨b, off, spot⟩ := x
        have h00 := (hff 0 (by omega)).2.2 0 (by omega)
        have hspot : spot = none := by
          have h00' : W.cell? ((Addr.add ⟨b, off, spot⟩ (0 * 5)).add 0) = some (.int .i64 (f 0).1) := h00
          simpa [Addr.add] using World.cell?_spot h00'
        subst hspot
        have hb : b < W.heap.size := by
          have h00' : W.cell? ((Addr.add ⟨b, off, none⟩ (0 * 5)).add 0) = some (.int .i64 (f 0).1) := h00
          simpa [Addr.add] using lt_of_cell h00'
        refine .inr ⟨b, off, rfl, hb, fun i j hi hj => ?_⟩
        have hi2 : i < len := by simpa using hi
        have e : ((List.range len).map f)[i]?.getD ver0 = f i := by simp [hi2]
        rw [e, ← (hff i (by omega)).2.2 j hj, Go.WideShapes.add_plain, Go.WideShapes.add_plain]
    · obtain ⟨i, hi, rfl⟩ := List.mem_map.1 hz
      exact (hff i (by have := List.mem_range.1 hi; omega)).1
    · rw [hy]
      simp only [Rows.uptoBulk]
      have h9 := sum_blk (f := f) (D := D) (n := len) (fun i hi => (hff i (by omega)).2.1)
      unfold vsbulk
      omega
set_option maxRecDepth 10000 in
theorem msg_blk {n : Nat} {cs : List Value} {y : DataW H × List MemPlace} (h : DataW.trod enc Tryd.prog W 0 (fun _ => true) true n 24 cs = some y) :
    ∃ (x : Msg) (a : Option Addr) (cap : Nat), cs = [.string x.fr, .string x.dst, .string x.kind, .string x.key, .int .i64 x.op, .int .i64 x.cf, .bool x.sl, .slice a x.L.length cap] ∧ MsgOk x ∧ VersIn W a x.L.length cap x.L ∧
      (∀ B, (∀ k ∈ y.1.weights Tryd.prog 24, k ≤ B) → x.L.length * 48 ≤ B) ∧ mbulk x ≤ Rows.uptoBulk y.1 := by
  obtain ⟨xs, k, hk, hxy, hcl, hxl, hf⟩ := DataW.trod_struct Tryd.underlying24 h
  have ec : Tryd.prog.cellsOf 24 = 8 := by kernel_rfl
  rw [ec] at hcl
  obtain ⟨v0, v1, v2, v3, v4, v5, v6, v7, rfl⟩ := list8 hcl
  obtain ⟨y0, y1, y2, y3, y4, y5, y6, y7, rfl⟩ := list8 hxl
  have cI : Tryd.prog.cellsOf 3 = 1 := by kernel_rfl
  have cX : Tryd.prog.cellsOf 9 = 1 := by kernel_rfl
  have cB : Tryd.prog.cellsOf 4 = 1 := by kernel_rfl
  have cL : Tryd.prog.cellsOf 22 = 1 := by kernel_rfl
  have g0 : DataW.trod enc Tryd.prog W 0 (fun _ => true) true k 9 ((([v0, v1, v2, v3, v4, v5, v6, v7] : List Value).drop 0).take (Tryd.prog.cellsOf 9)) = some y0 := hf 0 _ rfl
  have g1 : DataW.trod enc Tryd.prog W 0 (fun _ => true) true k 9 ((([v0, v1, v2, v3, v4, v5, v6, v7] : List Value).drop 1).take (Tryd.prog.cellsOf 9)) = some y1 := hf 1 _ rfl
  have g2 : DataW.trod enc Tryd.prog W 0 (fun _ => true) true k 9 ((([v0, v1, v2, v3, v4, v5, v6, v7] : List Value).drop 2).take (Tryd.prog.cellsOf 9)) = some y2 := hf 2 _ rfl
  have g3 : DataW.trod enc Tryd.prog W 0 (fun _ => true) true k 9 ((([v0, v1, v2, v3, v4, v5, v6, v7] : List Value).drop 3).take (Tryd.prog.cellsOf 9)) = some y3 := hf 3 _ rfl
  have g4 : DataW.trod enc Tryd.prog W 0 (fun _ => true) true k 3 ((([v0, v1, v2, v3, v4, v5, v6, v7] : List Value).drop 4).take (Tryd.prog.cellsOf 3)) = some y4 := hf 4 _ rfl
  have g5 : DataW.trod enc Tryd.prog W 0 (fun _ => true) true k 3 ((([v0, v1, v2, v3, v4, v5, v6, v7] : List Value).drop 5).take (Tryd.prog.cellsOf 3)) = some y5 := hf 5 _ rfl
  have g6 : DataW.trod enc Tryd.prog W 0 (fun _ => true) true k 4 ((([v0, v1, v2, v3, v4, v5, v6, v7] : List Value).drop 6).take (Tryd.prog.cellsOf 4)) = some y6 := hf 6 _ rfl
  have g7 : DataW.trod enc Tryd.prog W 0 (fun _ => true) true k 22 ((([v0, v1, v2, v3, v4, v5, v6, v7] : List Value).drop 7).take (Tryd.prog.cellsOf 22)) = some y7 := hf 7 _ rfl
  rw [cX] at g0 g1 g2 g3
  rw [cI] at g4 g5
  rw [cB] at g6
  rw [cL] at g7
  obtain ⟨s0, q0, e0, h0⟩ := DataW.trod_string Tryd.underlying9 (show DataW.trod enc Tryd.prog W 0 (fun _ => true) true k 9 [v0] = some y0 from g0)
  obtain ⟨s1, q1, e1, h1⟩ := DataW.trod_string Tryd.underlying9 (show DataW.trod enc Tryd.prog W 0 (fun _ => true) true k 9 [v1] = some y1 from g1)
  obtain ⟨s2, q2, e2, h2⟩ := DataW.trod_string Tryd.underlying9 (show DataW.trod enc Tryd.prog W 0 (fun _ => true) true k 9 [v2] = some y2 from g2)
  obtain ⟨s3, q3, e3, h3⟩ := DataW.trod_string Tryd.underlying9 (show DataW.trod enc Tryd.prog W 0 (fun _ => true) true k 9 [v3] = some y3 from g3)
  obtain ⟨n4, q4, _, w4⟩ := DataW.trod_int Tryd.underlying3 (show DataW.trod enc Tryd.prog W 0 (fun _ => true) true k 3 [v4] = some y4 from g4)
  obtain ⟨n5, q5, _, w5⟩ := DataW.trod_int Tryd.underlying3 (show DataW.trod enc Tryd.prog W 0 (fun _ => true) true k 3 [v5] = some y5 from g5)
  obtain ⟨b6, q6, _⟩ := DataW.trod_bool Tryd.underlying4 (show DataW.trod enc Tryd.prog W 0 (fun _ => true) true k 4 [v6] = some y6 from g6)
  obtain ⟨a, len, cap, L, q7, hL, hd, hbk⟩ := vers_blk (show DataW.trod enc Tryd.prog W 0 (fun _ => true) true k 22 [v7] = some y7 from g7)
  simp at q0 q1 q2 q3 q4 q5 q6
  subst q0 q1 q2 q3 q4 q5 q6 q7
  have hlen := hL.1
  subst hlen
  refine ⟨⟨s0, s1, s2, s3, n4, n5, b6, L⟩, a, cap, rfl, ⟨h0, h1, h2, h3, bounds_i64 w4, bounds_i64 w5, hL.2.2.2.2.2⟩, hL, fun B hB => ?_, ?_⟩
  · rcases hd with ⟨_, hd⟩ | ⟨es, sp, hd, he⟩
    · show L.length * 48 ≤ B
      omega
    · have h9 : (es.length + sp.length) * 48 ≤ B := by
        refine hB _ ?_
        rw [hxy]
        simp [DataW.weights, Tryd.underlying24, DataW.weightsEach, hd, Tryd.underlying22, bytes_ver]
      show L.length * 48 ≤ B
      have h8 : (es.length + sp.length) * 48 = es.length * 48 + sp.length * 48 := Nat.add_mul _ _ _
      omega
  · rw [hxy]
    unfold mbulk
    simp [Rows.uptoBulk, Rows.uptoBulkAll, e0, e1, e2, e3]
    omega
/-- what is known of a message that came in by value. -/
def MsgIn (W : World) (m : Msg) (a : Option Addr) (len cap : Nat) : Prop := MsgOk m ∧ VersIn W a len cap m.L
set_option maxRecDepth 10000 in
theorem open_message {base : Nat} {v : Value} {d : DataW H} {p : List MemPlace} (hv : Value.okWide Tryd.prog W .any base 24 v) (h : DataW.Trod enc Tryd.prog W 0 (fun _ => true) true 24 v d p) :
    ∃ fr dst kind key op cf sl a len cap L, v = .agg #[.string fr, .string dst, .string kind, .string key, .int .i64 op, .int .i64 cf, .bool sl, .slice a len cap] ∧ MsgIn W ⟨fr, dst, kind, key, op, cf, sl, L⟩ a len cap ∧ mbulk ⟨fr, dst, kind, key, op, cf, sl, L⟩ ≤ Rows.uptoBulk d := by
  obtain ⟨cs, rfl, hsz⟩ := Go.WideShapes.okWide_struct Tryd.underlying24 hv
  obtain ⟨fuel, hf⟩ := h
  obtain ⟨⟨fr, dst, kind, key, op, cf, sl, L⟩, a, cap, e, hok, hin, _, hb⟩ := msg_blk hf
  refine ⟨fr, dst, kind, key, op, cf, sl, a, L.length, cap, L, ?_, ⟨hok, hin⟩, hb⟩
  have e2 : cs.toList = [.string fr, .string dst, .string kind, .string key, .int .i64 op, .int .i64 cf, .bool sl, .slice a L.length cap] := by simpa [Value.cells] using e
  congr 1
  exact Array.toList_inj.1 e2
end
end Go.Proofs.YtgcnohejmofhkaaDoor
