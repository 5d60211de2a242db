/- Messages: that are read, that come in. -/
import Derived.Test.YtjhjpijjfpfjeaaGreatDoorKQuorumBest07
import Derived.Lib.SmallJoins
import Derived.SizedLaws
import Derived.Test.YtjhjpijjfpfjeaaGreatDoorKQuorumBest06
import Derived.Test.YtjhjpijjfpfjeaaGreatDoorKQuorumBest01
namespace Go.Proofs.YtjhjpijjfpfjeaaGreatDoor
section
open Go.RowKit

/-- an int that can be. -/
def Int64 (c : Int) : Prop := -9223372036854775808 ≤ c ∧ c ≤ 9223372036854775807
/-- a message. -/
structure Msg where
  fr : ByteArray
  dst : ByteArray
  kind : ByteArray
  key : ByteArray
  op : Int
  cf : Int
  sl : Bool
  L : List Ver
def msg0 : Msg := ⟨⟨#[]⟩, ⟨#[]⟩, ⟨#[]⟩, ⟨#[]⟩, 0, 0, false, []⟩
instance : Inhabited Msg := ⟨msg0⟩
def VerOk (x : Ver) : Prop := Int64 x.1 ∧ Int64 x.2.1 ∧ Int64 x.2.2.1 ∧ Int64 x.2.2.2.1 ∧ x.2.2.2.2.size ≤ maxLen
structure MsgOk (m : Msg) : Prop where
  fr : m.fr.size ≤ maxLen
  dst : m.dst.size ≤ maxLen
  kind : m.kind.size ≤ maxLen
  key : m.key.size ≤ maxLen
  op : Int64 m.op
  cf : Int64 m.cf
  L : ∀ x ∈ m.L, VerOk x
/-- a message lies at b, from o on. -/
def MsgAt (n₀ : Nat) (w : World) (b o : Nat) (m : Msg) : Prop :=
  w.cell? ⟨b, o, none⟩ = some (.string m.fr) ∧ w.cell? ⟨b, o + 1, none⟩ = some (.string m.dst) ∧ w.cell? ⟨b, o + 2, none⟩ = some (.string m.kind) ∧ w.cell? ⟨b, o + 3, none⟩ = some (.string m.key) ∧
  w.cell? ⟨b, o + 4, none⟩ = some (.int .i64 m.op) ∧ w.cell? ⟨b, o + 5, none⟩ = some (.int .i64 m.cf) ∧ w.cell? ⟨b, o + 6, none⟩ = some (.bool m.sl) ∧
  ∃ ad cap, w.cell? ⟨b, o + 7, none⟩ = some (.slice ad m.L.length cap) ∧ m.L.length ≤ cap ∧ cap ≤ maxLen ∧ (ad = none → cap = 0) ∧ VrR n₀ w ad m.L
theorem MsgAt.below {n₀ : Nat} {A B : World} (h : Below n₀ A B) {b o : Nat} {m : Msg} (hb : b < n₀) (hm : MsgAt n₀ A b o m) : MsgAt n₀ B b o m := by
  obtain ⟨h0, h1, h2, h3, h4, h5, h6, ad, cap, h7, h8, h9, h10, h11⟩ := hm
  have c : ∀ {o v}, A.cell? ⟨b, o, none⟩ = some v → B.cell? ⟨b, o, none⟩ = some v := fun {o v} h9 => (h.cell (p := ⟨b, o, none⟩) hb).trans h9
  exact ⟨c h0, c h1, c h2, c h3, c h4, c h5, c h6, ad, cap, c h7, h8, h9, h10, h11.below h⟩
theorem MsgAt.mono {n₀ n₁ : Nat} (h : n₀ ≤ n₁) {w : World} {b o : Nat} {m : Msg} (hm : MsgAt n₀ w b o m) : MsgAt n₁ w b o m := by
  obtain ⟨h0, h1, h2, h3, h4, h5, h6, ad, cap, h7, h8, h9, h10, h11⟩ := hm
  exact ⟨h0, h1, h2, h3, h4, h5, h6, ad, cap, h7, h8, h9, h10, h11.mono h⟩
/-- messages that are read. -/
def MsgsR (n₀ : Nat) (w : World) (a : Option Addr) (l : List Msg) : Prop :=
  l = [] ∨ ∃ b off, a = some ⟨b, off, none⟩ ∧ b < n₀ ∧ ∀ i, i < l.length → MsgAt n₀ w b (off + i * 8) (l[i]?.getD msg0)
theorem MsgsR.below {n₀ : Nat} {A B : World} (h : Below n₀ A B) {a : Option Addr} {l : List Msg} : MsgsR n₀ A a l → MsgsR n₀ B a l
  | .inl e => .inl e
  | .inr ⟨b, off, e, hb, hc⟩ => .inr ⟨b, off, e, hb, fun i hi => (hc i hi).below h hb⟩
theorem MsgsR.mono {n₀ n₁ : Nat} {A : World} (h : n₀ ≤ n₁) {a : Option Addr} {l : List Msg} : MsgsR n₀ A a l → MsgsR n₁ A a l
  | .inl e => .inl e
  | .inr ⟨b, off, e, hb, hc⟩ => .inr ⟨b, off, e, by omega, fun i hi => (hc i hi).mono h⟩
/-- what is known of versions that came in. -/
def VersIn (w : World) (a : Option Addr) (len cap : Nat) (l : List Ver) : Prop := l.length = len ∧ len ≤ cap ∧ cap ≤ maxLen ∧ (a = none → cap = 0) ∧ VrR w.heap.size w a l ∧ ∀ x ∈ l, VerOk x
/-- what is known of messages that came in. -/
def MsgsIn (w : World) (a : Option Addr) (len cap : Nat) (l : List Msg) : Prop := l.length = len ∧ len ≤ cap ∧ cap ≤ maxLen ∧ (a = none → cap = 0) ∧ MsgsR w.heap.size w a l ∧ ∀ i, i < len → MsgOk (l[i]?.getD msg0)
theorem weights_in {H : Type} {P : Program} {e : TypeId} {n : Nat} : ∀ {l : List (DataW H)} {d : DataW H}, d ∈ l → n ∈ d.weights P e → n ∈ DataW.weightsAll P e l
  | x :: r, d, hd, hn => by
    unfold DataW.weightsAll
    rcases List.mem_cons.1 hd with rfl | hd
    · exact List.mem_append.2 (.inl hn)
    · exact List.mem_append.2 (.inr (weights_in hd hn))
variable {H : Type} {enc : TypeId × Value → H} {W : World}
set_option maxRecDepth 10000 in
theorem ver_trodI {n : Nat} {cs : List Value} {y : DataW H × List MemPlace} (h : DataW.trod enc Tryz.prog W 0 (fun _ => true) true n 51 cs = some y) : ∃ x : Ver, cs = encVr x ∧ VerOk x := by
  obtain ⟨xs, k, hk, hxy, hcl, hxl, hf⟩ := DataW.trod_struct Tryz.underlying51 h
  have ec : Tryz.prog.cellsOf 51 = 5 := by kernel_rfl
  rw [ec] at hcl
  obtain ⟨v0, v1, v2, v3, v4, rfl⟩ := list5 hcl
  obtain ⟨y0, y1, y2, rfl⟩ := list3 hxl
  have cT : Tryz.prog.cellsOf 30 = 2 := by kernel_rfl
  have cS : Tryz.prog.cellsOf 49 = 2 := by kernel_rfl
  have cI : Tryz.prog.cellsOf 3 = 1 := by kernel_rfl
  have cX : Tryz.prog.cellsOf 9 = 1 := by kernel_rfl
  have g0 : DataW.trod enc Tryz.prog W 0 (fun _ => true) true k 30 ((([v0, v1, v2, v3, v4] : List Value).drop 0).take (Tryz.prog.cellsOf 30)) = some y0 := hf 0 _ rfl
  have g1 : DataW.trod enc Tryz.prog W 0 (fun _ => true) true k 3 ((([v0, v1, v2, v3, v4] : List Value).drop 2).take (Tryz.prog.cellsOf 3)) = some y1 := hf 1 _ rfl
  have g2 : DataW.trod enc Tryz.prog W 0 (fun _ => true) true k 49 ((([v0, v1, v2, v3, v4] : List Value).drop 3).take (Tryz.prog.cellsOf 49)) = some y2 := hf 2 _ rfl
  rw [cT] at g0
  rw [cI] at g1
  rw [cS] at g2
  have g0' : DataW.trod enc Tryz.prog W 0 (fun _ => true) true k 30 [v0, v1] = some y0 := g0
  have g1' : DataW.trod enc Tryz.prog W 0 (fun _ => true) true k 3 [v2] = some y1 := g1
  have g2' : DataW.trod enc Tryz.prog W 0 (fun _ => true) true k 49 [v3, v4] = some y2 := g2
  obtain ⟨xs, k1, hk1, _, _, hxl1, hf1⟩ := DataW.trod_struct Tryz.underlying30 g0'
  obtain ⟨z0, z1, rfl⟩ := list2 hxl1
  obtain ⟨xs, k2, hk2, _, _, hxl2, hf2⟩ := DataW.trod_struct Tryz.underlying49 g2'
  obtain ⟨z2, z3, rfl⟩ := list2 hxl2
  have e0 : DataW.trod enc Tryz.prog W 0 (fun _ => true) true k1 3 ((([v0, v1] : List Value).drop 0).take (Tryz.prog.cellsOf 3)) = some z0 := hf1 0 _ rfl
  have e1 : DataW.trod enc Tryz.prog W 0 (fun _ => true) true k1 3 ((([v0, v1] : List Value).drop 1).take (Tryz.prog.cellsOf 3)) = some z1 := hf1 1 _ rfl
  have e2 : DataW.trod enc Tryz.prog W 0 (fun _ => true) true k2 3 ((([v3, v4] : List Value).drop 0).take (Tryz.prog.cellsOf 3)) = some z2 := hf2 0 _ rfl
  have e3 : DataW.trod enc Tryz.prog W 0 (fun _ => true) true k2 9 ((([v3, v4] : List Value).drop 1).take (Tryz.prog.cellsOf 9)) = some z3 := hf2 1 _ rfl
  rw [cI] at e0 e1 e2
  rw [cX] at e3
  obtain ⟨n0, q0, _, w0⟩ := DataW.trod_int Tryz.underlying3 (show DataW.trod enc Tryz.prog W 0 (fun _ => true) true k1 3 [v0] = some z0 from e0)
  obtain ⟨n1, q1, _, w1⟩ := DataW.trod_int Tryz.underlying3 (show DataW.trod enc Tryz.prog W 0 (fun _ => true) true k1 3 [v1] = some z1 from e1)
  obtain ⟨n2, q2, _, w2⟩ := DataW.trod_int Tryz.underlying3 g1'
  obtain ⟨n3, q3, _, w3⟩ := DataW.trod_int Tryz.underlying3 (show DataW.trod enc Tryz.prog W 0 (fun _ => true) true k2 3 [v3] = some z2 from e2)
  obtain ⟨s4, q4, _, hs⟩ := DataW.trod_string Tryz.underlying9 (show DataW.trod enc Tryz.prog W 0 (fun _ => true) true k2 9 [v4] = some z3 from e3)
  simp at q0 q1 q2 q3 q4
  subst q0 q1 q2 q3 q4
  exact ⟨(n0, n1, n2, n3, s4), rfl, bounds_i64 w0, bounds_i64 w1, bounds_i64 w2, bounds_i64 w3, hs⟩
set_option maxRecDepth 10000 in
theorem vers_trod {n : Nat} {v : Value} {y : DataW H × List MemPlace} (h : DataW.trod enc Tryz.prog W 0 (fun _ => true) true n 47 [v] = some y) :
    ∃ a len cap L, v = .slice a len cap ∧ VersIn W a len cap L ∧ ((y.1 = .nil ∧ len = 0) ∨ ∃ es sp, y.1 = .slice es sp ∧ es.length = len) := by
  rcases Go.Deep.open_slice Tryz.underlying47 h with ⟨hcs, rfl⟩ | ⟨x, len, cap, m, n, D, Pl, hcs, _, hl, hm, hmm, hy, hr⟩
  · simp at hcs
    subst hcs
    exact ⟨none, 0, 0, [], rfl, ⟨rfl, Nat.le_refl _, by simp [maxLen], fun _ => rfl, .inl rfl, fun x hx => (by cases hx)⟩, .inl ⟨rfl, rfl⟩⟩
  · simp at hcs
    subst hcs
    rw [if_pos rfl] at hmm
    subst hmm
    have ec : Tryz.prog.cellsOf 51 = 5 := by kernel_rfl
    rw [ec] at hr
    have each : ∀ i, i < m → ∃ z : Ver, VerOk z ∧ ∀ j, j < 5 → W.cell? ((x.add (i * 5)).add j) = (encVr z)[j]? := fun i hi => by
      obtain ⟨cs', h3, h4⟩ := hr i hi
      obtain ⟨z, e, hz⟩ := ver_trodI h4
      obtain ⟨_, hlen, hcell⟩ := World.cells?_some h3
      exact ⟨z, hz, fun j hj => by rw [hcell j hj, e]⟩
    obtain ⟨f, hff⟩ := Go.Deep.choose_lt each
    refine ⟨_, len, m, (List.range len).map f, rfl, ⟨by simp, hl, hm, (fun e => by cases e), ?_, fun z hz => ?_⟩, .inr ⟨_, _, by rw [hy], by simp⟩⟩
    · by_cases h0 : len = 0
      · left; subst h0; rfl
      · obtain ⟨b, off, spot⟩ := x
        have h00 := (hff 0 (by omega)).2 0 (by omega)
        have hspot : spot = none := by
          have h00' : W.cell? ((Addr.add ⟨b, off, spot⟩ (0 * 5)).add 0) = some (.int .i64 (f 0).1) := h00
          simpa [Addr.add] using World.cell?_spot h00'
        subst hspot
        have hb : b < W.heap.size := by
          have h00' : W.cell? ((Addr.add ⟨b, off, none⟩ (0 * 5)).add 0) = some (.int .i64 (f 0).1) := h00
          simpa [Addr.add] using lt_of_cell h00'
        refine .inr ⟨b, off, rfl, hb, fun i j hi hj => ?_⟩
        have hi2 : i < len := by simpa using hi
        have e : ((List.range len).map f)[i]?.getD ver0 = f i := by simp [hi2]
        rw [e, ← (hff i (by omega)).2 j hj, Go.WideShapes.add_plain, Go.WideShapes.add_plain]
    · obtain ⟨i, hi, rfl⟩ := List.mem_map.1 hz
      exact (hff i (by have := List.mem_range.1 hi; omega)).1
theorem bytes_ver : Tryz.prog.bytesOf 51 = 48 := by kernel_rfl
end
end Go.Proofs.YtjhjpijjfpfjeaaGreatDoor
/- The bulk of what comes in. -/
namespace Go.Proofs.YtjhjpijjfpfjeaaGreatDoor
section
open Go.RowKit

variable {H : Type} {enc : TypeId × Value → H} {W : World}
theorem blk_part {d : DataW H} {l : List (DataW H)} (h : d ∈ l) : Rows.uptoBulk d ≤ Rows.uptoBulkAll l := by
  induction l with
  | nil => cases h
  | cons x r ih =>
    simp only [Rows.uptoBulkAll]
    cases List.mem_cons.1 h with
    | inl e => subst e; omega
    | inr e => have := ih e; omega
theorem blk_bound {l : List (DataW H)} (hk : Rows.uptoSmall H l = true) : Rows.uptoBulkAll l ≤ 1048576 := of_decide_eq_true hk
/-- the letters of a version, at least. -/
def vbulk (x : Ver) : Nat := 2 + x.2.2.2.2.size
def vsbulk (L : List Ver) : Nat := (L.map vbulk).sum
def mbulk (m : Msg) : Nat := m.fr.size + m.dst.size + m.kind.size + m.key.size + vsbulk m.L
theorem vsbulk_length : ∀ L : List Ver, 2 * L.length ≤ vsbulk L
  | [] => by simp
  | x :: L => by
    have := vsbulk_length L
    unfold vsbulk at this ⊢
    rw [List.map_cons, List.sum_cons, List.length_cons]
    unfold vbulk at this ⊢
    omega
theorem sum_blk {f : Nat → Ver} {D : Nat → DataW H} : ∀ {n : Nat}, (∀ i, i < n → vbulk (f i) ≤ Rows.uptoBulk (D i)) → (((List.range n).map f).map vbulk).sum ≤ Rows.uptoBulkAll ((List.range n).map D) := by
  intro n
  have key : ∀ l : List Nat, (∀ i ∈ l, vbulk (f i) ≤ Rows.uptoBulk (D i)) → ((l.map f).map vbulk).sum ≤ Rows.uptoBulkAll (l.map D) := by
    intro l
    induction l with
    | nil => intro _; simp
    | cons i l ih =>
      intro h
      have h1 := h i (List.mem_cons_self ..)
      have h2 := ih (fun k hk => h k (List.mem_cons_of_mem _ hk))
      simp only [List.map_cons, List.sum_cons, Rows.uptoBulkAll]
      omega
  exact fun h => key _ (fun i hi => h i (List.mem_range.1 hi))
set_option maxRecDepth 10000 in
theorem ver_blk {n : Nat} {cs : List Value} {x : Ver} {y : DataW H × List MemPlace} (hc : cs = encVr x) (h : DataW.trod enc Tryz.prog W 0 (fun _ => true) true n 51 cs = some y) : vbulk x ≤ Rows.uptoBulk y.1 := by
  subst hc
  obtain ⟨x1, x2, x3, x4, s⟩ := x
  obtain ⟨xs, k, hk, hxy, hcl, hxl, hf⟩ := DataW.trod_struct Tryz.underlying51 h
  obtain ⟨y0, y1, y2, rfl⟩ := list3 hxl
  have cS : Tryz.prog.cellsOf 49 = 2 := by kernel_rfl
  have cX : Tryz.prog.cellsOf 9 = 1 := by kernel_rfl
  have g2 : DataW.trod enc Tryz.prog W 0 (fun _ => true) true k 49 (((encVr (x1, x2, x3, x4, s)).drop 3).take (Tryz.prog.cellsOf 49)) = some y2 := hf 2 _ rfl
  rw [cS] at g2
  have g2' : DataW.trod enc Tryz.prog W 0 (fun _ => true) true k 49 [.int .i64 x4, .string s] = some y2 := g2
  obtain ⟨zs, k2, hk2, hzy, _, hxl2, hf2⟩ := DataW.trod_struct Tryz.underlying49 g2'
  obtain ⟨z2, z3, rfl⟩ := list2 hxl2
  have e3 : DataW.trod enc Tryz.prog W 0 (fun _ => true) true k2 9 ((([.int .i64 x4, .string s] : List Value).drop 1).take (Tryz.prog.cellsOf 9)) = some z3 := hf2 1 _ rfl
  rw [cX] at e3
  obtain ⟨s4, q4, e4, hs⟩ := DataW.trod_string Tryz.underlying9 (show DataW.trod enc Tryz.prog W 0 (fun _ => true) true k2 9 [.string s] = some z3 from e3)
  simp at q4
  subst q4
  rw [hxy, hzy]
  unfold vbulk
  simp [Rows.uptoBulk, Rows.uptoBulkAll, e4]
  omega
set_option maxRecDepth 10000 in
theorem vers_blk {n : Nat} {v : Value} {y : DataW H × List MemPlace} (h : DataW.trod enc Tryz.prog W 0 (fun _ => true) true n 47 [v] = some y) :
    ∃ a len cap L, v = .slice a len cap ∧ VersIn W a len cap L ∧ ((y.1 = .nil ∧ len = 0) ∨ ∃ es sp, y.1 = .slice es sp ∧ es.length = len) ∧ vsbulk L ≤ Rows.uptoBulk y.1 := by
  rcases Go.Deep.open_slice Tryz.underlying47 h with ⟨hcs, rfl⟩ | ⟨x, len, cap, m, n, D, Pl, hcs, _, hl, hm, hmm, hy, hr⟩
  · simp at hcs
    subst hcs
    exact ⟨none, 0, 0, [], rfl, ⟨rfl, Nat.le_refl _, by simp [maxLen], fun _ => rfl, .inl rfl, fun x hx => (by cases hx)⟩, .inl ⟨rfl, rfl⟩, Nat.zero_le _⟩
  · simp at hcs
    subst hcs
    rw [if_pos rfl] at hmm
    subst hmm
    have ec : Tryz.prog.cellsOf 51 = 5 := by kernel_rfl
    rw [ec] at hr
    have each : ∀ i, i < m → ∃ z : Ver, VerOk z ∧ vbulk z ≤ Rows.uptoBulk (D i) ∧ ∀ j, j < 5 → W.cell? ((x.add (i * 5)).add j) = (encVr z)[j]? := fun i hi => by
      obtain ⟨cs', h3, h4⟩ := hr i hi
      obtain ⟨z, e, hz⟩ := ver_trodI h4
      obtain ⟨_, hlen, hcell⟩ := World.cells?_some h3
      exact ⟨z, hz, ver_blk e h4, fun j hj => by rw [hcell j hj, e]⟩
    obtain ⟨f, hff⟩ := Go.Deep.choose_lt each
    refine ⟨_, len, m, (List.range len).map f, rfl, ⟨by simp, hl, hm, (fun e => by cases e), ?_, fun z hz => ?_⟩, .inr ⟨_, _, by rw [hy], by simp⟩, ?_⟩
    · by_cases h0 : len = 0
      · left; subst h0; rfl
      · obtain ⟨b, off, spot⟩ := x
        have h00 := (hff 0 (by omega)).2.2 0 (by omega)
        have hspot : spot = none := by
          have h00' : W.cell? ((Addr.add ⟨b, off, spot⟩ (0 * 5)).add 0) = some (.int .i64 (f 0).1) := h00
          simpa [Addr.add] using World.cell?_spot h00'
        subst hspot
        have hb : b < W.heap.size := by
          have h00' : W.cell? ((Addr.add ⟨b, off, none⟩ (0 * 5)).add 0) = some (.int .i64 (f 0).1) := h00
          simpa [Addr.add] using lt_of_cell h00'
        refine .inr ⟨b, off, rfl, hb, fun i j hi hj => ?_⟩
        have hi2 : i < len := by simpa using hi
        have e : ((List.range len).map f)[i]?.getD ver0 = f i := by simp [hi2]
        rw [e, ← (hff i (by omega)).2.2 j hj, Go.WideShapes.add_plain, Go.WideShapes.add_plain]
    · obtain ⟨i, hi, rfl⟩ := List.mem_map.1 hz
      exact (hff i (by have := List.mem_range.1 hi; omega)).1
    · rw [hy]
      simp only [Rows.uptoBulk]
      have h9 := sum_blk (f := f) (D := D) (n := len) (fun i hi => (hff i (by omega)).2.1)
      unfold vsbulk
      omega
/-- what is known of a message that came in by value. -/
def MsgIn (W : World) (m : Msg) (a : Option Addr) (len cap : Nat) : Prop := MsgOk m ∧ VersIn W a len cap m.L
end
end Go.Proofs.YtjhjpijjfpfjeaaGreatDoor
/- The walks of slices.Index and slices.Contains at bytes, and of field.Between. -/
namespace Go.Proofs.YtjhjpijjfpfjeaaGreatDoor
open Go.RowKit

/-- where c stands in l, or -1. -/
def idxI (c : Nat) (l : List Nat) : Int := if c ∈ l then (l.findIdx (· == c) : Int) else -1
theorem idxI_hit {c : Nat} {l : List Nat} {k : Nat} (hk : k < l.length) (h : l[k]?.getD 0 = c) (hn : ∀ j, j < k → l[j]?.getD 0 ≠ c) : idxI c l = k := by
  have e : l[k] = c := by rw [List.getElem?_eq_getElem hk] at h; exact h
  have hm : c ∈ l := e ▸ List.getElem_mem hk
  unfold idxI
  rw [if_pos hm]
  have h2 : l.findIdx (· == c) = k := by
    rw [List.findIdx_eq hk]
    refine ⟨by simp [e], fun j hj => ?_⟩
    have := hn j hj
    rw [List.getElem?_eq_getElem (by omega)] at this
    simpa using this
  rw [h2]
theorem idxI_miss {c : Nat} {l : List Nat} (hn : ∀ j, j < l.length → l[j]?.getD 0 ≠ c) : idxI c l = -1 := by
  unfold idxI
  rw [if_neg]
  intro hm
  obtain ⟨j, hj, e⟩ := List.getElem_of_mem hm
  exact hn j hj (by rw [List.getElem?_eq_getElem hj]; exact e)

/-- the two products of the i-th point, when k points are over. -/
def lagN (xs : List Nat) (i x a y : Nat) : Nat → Nat × Nat
  | 0 => (y, 1)
  | k + 1 => if k = i then lagN xs i x a y k else (Gf.mul (lagN xs i x a y k).1 (x ^^^ xs[k]?.getD 0), Gf.mul (lagN xs i x a y k).2 (a ^^^ xs[k]?.getD 0))
theorem lagN_lt {xs : List Nat} (hx : Bytes xs) {i x a y : Nat} (hy : y < 256) : ∀ k, (lagN xs i x a y k).1 < 256 ∧ (lagN xs i x a y k).2 < 256
  | 0 => ⟨hy, (by decide : (1 : Nat) < 256)⟩
  | k + 1 => by
    unfold lagN
    split
    · exact lagN_lt hx hy k
    · exact ⟨Gf.mul_lt _ (lagN_lt hx hy k).1, Gf.mul_lt _ (lagN_lt hx hy k).2⟩
theorem lagN_skip {xs : List Nat} {i x a y k : Nat} (h : k = i) : lagN xs i x a y (k + 1) = lagN xs i x a y k := by rw [lagN, if_pos h]
theorem lagN_step {xs : List Nat} {i x a y k : Nat} (h : k ≠ i) : lagN xs i x a y (k + 1) = (Gf.mul (lagN xs i x a y k).1 (x ^^^ xs[k]?.getD 0), Gf.mul (lagN xs i x a y k).2 (a ^^^ xs[k]?.getD 0)) := by rw [lagN, if_neg h]
/-- the i-th term. -/
def lagT (xs ys : List Nat) (x i : Nat) : Nat :=
  let p := lagN xs i x (xs[i]?.getD 0) (ys[i]?.getD 0) xs.length
  Gf.mul p.1 (Gf.inv p.2)
/-- the sum of the first i terms. -/
def btwN (xs ys : List Nat) (x : Nat) : Nat → Nat
  | 0 => 0
  | i + 1 => btwN xs ys x i ^^^ lagT xs ys x i
theorem lagT_lt {xs ys : List Nat} (hx : Bytes xs) (hy : Bytes ys) (x i : Nat) : lagT xs ys x i < 256 := Gf.mul_lt _ (lagN_lt hx (hy.at i) _).1
theorem btwN_lt {xs ys : List Nat} (hx : Bytes xs) (hy : Bytes ys) (x : Nat) : ∀ i, btwN xs ys x i < 256
  | 0 => (by decide : 0 < 256)
  | i + 1 => Gf.xor_lt (btwN_lt hx hy x i) (lagT_lt hx hy x i)

end Go.Proofs.YtjhjpijjfpfjeaaGreatDoor
