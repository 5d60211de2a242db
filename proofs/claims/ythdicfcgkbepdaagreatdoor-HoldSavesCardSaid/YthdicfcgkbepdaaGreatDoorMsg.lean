/- Messages: that are read, that come in. -/
import Derived.Test.YthdicfcgkbepdaaGreatDoorActs
import Derived.Lib.SmallJoins
import Derived.SizedLaws
namespace Go.Proofs.YthdicfcgkbepdaaGreatDoor
section
open Go.RowKit

/-- an int that can be. -/
def Int64 (c : Int) : Prop := -9223372036854775808 ≤ c ∧ c ≤ 9223372036854775807
/-- a message. -/
structure Msg where
  fr : ByteArray
  dst : ByteArray
  kind : ByteArray
  key : ByteArray
  op : Int
  cf : Int
  sl : Bool
  L : List Ver
def msg0 : Msg := ⟨⟨#[]⟩, ⟨#[]⟩, ⟨#[]⟩, ⟨#[]⟩, 0, 0, false, []⟩
instance : Inhabited Msg := ⟨msg0⟩
def VerOk (x : Ver) : Prop := Int64 x.1 ∧ Int64 x.2.1 ∧ Int64 x.2.2.1 ∧ Int64 x.2.2.2.1 ∧ x.2.2.2.2.size ≤ maxLen
structure MsgOk (m : Msg) : Prop where
  fr : m.fr.size ≤ maxLen
  dst : m.dst.size ≤ maxLen
  kind : m.kind.size ≤ maxLen
  key : m.key.size ≤ maxLen
  op : Int64 m.op
  cf : Int64 m.cf
  L : ∀ x ∈ m.L, VerOk x
/-- a message lies at b, from o on. -/
def MsgAt (n₀ : Nat) (w : World) (b o : Nat) (m : Msg) : Prop :=
  w.cell? ⟨b, o, none⟩ = some (.string m.fr) ∧ w.cell? ⟨b, o + 1, none⟩ = some (.string m.dst) ∧ w.cell? ⟨b, o + 2, none⟩ = some (.string m.kind) ∧ w.cell? ⟨b, o + 3, none⟩ = some (.string m.key) ∧
  w.cell? ⟨b, o + 4, none⟩ = some (.int .i64 m.op) ∧ w.cell? ⟨b, o + 5, none⟩ = some (.int .i64 m.cf) ∧ w.cell? ⟨b, o + 6, none⟩ = some (.bool m.sl) ∧
  ∃ ad cap, w.cell? ⟨b, o + 7, none⟩ = some (.slice ad m.L.length cap) ∧ m.L.length ≤ cap ∧ cap ≤ maxLen ∧ (ad = none → cap = 0) ∧ VrR n₀ w ad m.L
theorem MsgAt.below {n₀ : Nat} {A B : World} (h : Below n₀ A B) {b o : Nat} {m : Msg} (hb : b < n₀) (hm : MsgAt n₀ A b o m) : MsgAt n₀ B b o m := by
  obtain ⟨h0, h1, h2, h3, h4, h5, h6, ad, cap, h7, h8, h9, h10, h11⟩ := hm
  have c : ∀ {o v}, A.cell? ⟨b, o, none⟩ = some v → B.cell? ⟨b, o, none⟩ = some v := fun {o v} h9 => (h.cell (p := ⟨b, o, none⟩) hb).trans h9
  exact ⟨c h0, c h1, c h2, c h3, c h4, c h5, c h6, ad, cap, c h7, h8, h9, h10, h11.below h⟩
theorem MsgAt.mono {n₀ n₁ : Nat} (h : n₀ ≤ n₁) {w : World} {b o : Nat} {m : Msg} (hm : MsgAt n₀ w b o m) : MsgAt n₁ w b o m := by
  obtain ⟨h0, h1, h2, h3, h4, h5, h6, ad, cap, h7, h8, h9, h10, h11⟩ := hm
  exact ⟨h0, h1, h2, h3, h4, h5, h6, ad, cap, h7, h8, h9, h10, h11.mono h⟩
/-- messages that are read. -/
def MsgsR (n₀ : Nat) (w : World) (a : Option Addr) (l : List Msg) : Prop :=
  l = [] ∨ ∃ b off, a = some ⟨b, off, none⟩ ∧ b < n₀ ∧ ∀ i, i < l.length → MsgAt n₀ w b (off + i * 8) (l[i]?.getD msg0)
theorem MsgsR.below {n₀ : Nat} {A B : World} (h : Below n₀ A B) {a : Option Addr} {l : List Msg} : MsgsR n₀ A a l → MsgsR n₀ B a l
  | .inl e => .inl e
  | .inr ⟨b, off, e, hb, hc⟩ => .inr ⟨b, off, e, hb, fun i hi => (hc i hi).below h hb⟩
theorem MsgsR.mono {n₀ n₁ : Nat} {A : World} (h : n₀ ≤ n₁) {a : Option Addr} {l : List Msg} : MsgsR n₀ A a l → MsgsR n₁ A a l
  | .inl e => .inl e
  | .inr ⟨b, off, e, hb, hc⟩ => .inr ⟨b, off, e, by omega, fun i hi => (hc i hi).mono h⟩
/-- what is known of versions that came in. -/
def VersIn (w : World) (a : Option Addr) (len cap : Nat) (l : List Ver) : Prop := l.length = len ∧ len ≤ cap ∧ cap ≤ maxLen ∧ (a = none → cap = 0) ∧ VrR w.heap.size w a l ∧ ∀ x ∈ l, VerOk x
/-- what is known of messages that came in. -/
def MsgsIn (w : World) (a : Option Addr) (len cap : Nat) (l : List Msg) : Prop := l.length = len ∧ len ≤ cap ∧ cap ≤ maxLen ∧ (a = none → cap = 0) ∧ MsgsR w.heap.size w a l ∧ ∀ i, i < len → MsgOk (l[i]?.getD msg0)
theorem weights_in {H : Type} {P : Program} {e : TypeId} {n : Nat} : ∀ {l : List (DataW H)} {d : DataW H}, d ∈ l → n ∈ d.weights P e → n ∈ DataW.weightsAll P e l
  | x :: r, d, hd, hn => by
    unfold DataW.weightsAll
    rcases List.mem_cons.1 hd with rfl | hd
    · exact List.mem_append.2 (.inl hn)
    · exact List.mem_append.2 (.inr (weights_in hd hn))
variable {H : Type} {enc : TypeId × Value → H} {W : World}
set_option maxRecDepth 10000 in
theorem ver_trodI {n : Nat} {cs : List Value} {y : DataW H × List MemPlace} (h : DataW.trod enc Tryz.prog W 0 (fun _ => true) true n 49 cs = some y) : ∃ x : Ver, cs = encVr x ∧ VerOk x := by
  obtain ⟨xs, k, hk, hxy, hcl, hxl, hf⟩ := DataW.trod_struct Tryz.underlying49 h
  have ec : Tryz.prog.cellsOf 49 = 5 := by kernel_rfl
  rw [ec] at hcl
  obtain ⟨v0, v1, v2, v3, v4, rfl⟩ := list5 hcl
  obtain ⟨y0, y1, y2, rfl⟩ := list3 hxl
  have cT : Tryz.prog.cellsOf 45 = 2 := by kernel_rfl
  have cS : Tryz.prog.cellsOf 47 = 2 := by kernel_rfl
  have cI : Tryz.prog.cellsOf 3 = 1 := by kernel_rfl
  have cX : Tryz.prog.cellsOf 9 = 1 := by kernel_rfl
  have g0 : DataW.trod enc Tryz.prog W 0 (fun _ => true) true k 45 ((([v0, v1, v2, v3, v4] : List Value).drop 0).take (Tryz.prog.cellsOf 45)) = some y0 := hf 0 _ rfl
  have g1 : DataW.trod enc Tryz.prog W 0 (fun _ => true) true k 3 ((([v0, v1, v2, v3, v4] : List Value).drop 2).take (Tryz.prog.cellsOf 3)) = some y1 := hf 1 _ rfl
  have g2 : DataW.trod enc Tryz.prog W 0 (fun _ => true) true k 47 ((([v0, v1, v2, v3, v4] : List Value).drop 3).take (Tryz.prog.cellsOf 47)) = some y2 := hf 2 _ rfl
  rw [cT] at g0
  rw [cI] at g1
  rw [cS] at g2
  have g0' : DataW.trod enc Tryz.prog W 0 (fun _ => true) true k 45 [v0, v1] = some y0 := g0
  have g1' : DataW.trod enc Tryz.prog W 0 (fun _ => true) true k 3 [v2] = some y1 := g1
  have g2' : DataW.trod enc Tryz.prog W 0 (fun _ => true) true k 47 [v3, v4] = some y2 := g2
  obtain ⟨xs, k1, hk1, _, _, hxl1, hf1⟩ := DataW.trod_struct Tryz.underlying45 g0'
  obtain ⟨z0, z1, rfl⟩ := list2 hxl1
  obtain ⟨xs, k2, hk2, _, _, hxl2, hf2⟩ := DataW.trod_struct Tryz.underlying47 g2'
  obtain ⟨z2, z3, rfl⟩ := list2 hxl2
  have e0 : DataW.trod enc Tryz.prog W 0 (fun _ => true) true k1 3 ((([v0, v1] : List Value).drop 0).take (Tryz.prog.cellsOf 3)) = some z0 := hf1 0 _ rfl
  have e1 : DataW.trod enc Tryz.prog W 0 (fun _ => true) true k1 3 ((([v0, v1] : List Value).drop 1).take (Tryz.prog.cellsOf 3)) = some z1 := hf1 1 _ rfl
  have e2 : DataW.trod enc Tryz.prog W 0 (fun _ => true) true k2 3 ((([v3, v4] : List Value).drop 0).take (Tryz.prog.cellsOf 3)) = some z2 := hf2 0 _ rfl
  have e3 : DataW.trod enc Tryz.prog W 0 (fun _ => true) true k2 9 ((([v3, v4] : List Value).drop 1).take (Tryz.prog.cellsOf 9)) = some z3 := hf2 1 _ rfl
  rw [cI] at e0 e1 e2
  rw [cX] at e3
  obtain ⟨n0, q0, _, w0⟩ := DataW.trod_int Tryz.underlying3 (show DataW.trod enc Tryz.prog W 0 (fun _ => true) true k1 3 [v0] = some z0 from e0)
  obtain ⟨n1, q1, _, w1⟩ := DataW.trod_int Tryz.underlying3 (show DataW.trod enc Tryz.prog W 0 (fun _ => true) true k1 3 [v1] = some z1 from e1)
  obtain ⟨n2, q2, _, w2⟩ := DataW.trod_int Tryz.underlying3 g1'
  obtain ⟨n3, q3, _, w3⟩ := DataW.trod_int Tryz.underlying3 (show DataW.trod enc Tryz.prog W 0 (fun _ => true) true k2 3 [v3] = some z2 from e2)
  obtain ⟨s4, q4, _, hs⟩ := DataW.trod_string Tryz.underlying9 (show DataW.trod enc Tryz.prog W 0 (fun _ => true) true k2 9 [v4] = some z3 from e3)
  simp at q0 q1 q2 q3 q4
  subst q0 q1 q2 q3 q4
  exact ⟨(n0, n1, n2, n3, s4), rfl, bounds_i64 w0, bounds_i64 w1, bounds_i64 w2, bounds_i64 w3, hs⟩
set_option maxRecDepth 10000 in
theorem vers_trod {n : Nat} {v : Value} {y : DataW H × List MemPlace} (h : DataW.trod enc Tryz.prog W 0 (fun _ => true) true n 57 [v] = some y) :
    ∃ a len cap L, v = .slice a len cap ∧ VersIn W a len cap L ∧ ((y.1 = .nil ∧ len = 0) ∨ ∃ es sp, y.1 = .slice es sp ∧ es.length = len) := by
  rcases Go.Deep.open_slice Tryz.underlying57 h with ⟨hcs, rfl⟩ | ⟨x, len, cap, m, n, D, Pl, hcs, _, hl, hm, hmm, hy, hr⟩
  · simp at hcs
    subst hcs
    exact ⟨none, 0, 0, [], rfl, ⟨rfl, Nat.le_refl _, by simp [maxLen], fun _ => rfl, .inl rfl, fun x hx => (by cases hx)⟩, .inl ⟨rfl, rfl⟩⟩
  · simp at hcs
    subst hcs
    rw [if_pos rfl] at hmm
    subst hmm
    have ec : Tryz.prog.cellsOf 49 = 5 := by kernel_rfl
    rw [ec] at hr
    have each : ∀ i, i < m → ∃ z : Ver, VerOk z ∧ ∀ j, j < 5 → W.cell? ((x.add (i * 5)).add j) = (encVr z)[j]? := fun i hi => by
      obtain ⟨cs', h3, h4⟩ := hr i hi
      obtain ⟨z, e, hz⟩ := ver_trodI h4
      obtain ⟨_, hlen, hcell⟩ := World.cells?_some h3
      exact ⟨z, hz, fun j hj => by rw [hcell j hj, e]⟩
    obtain ⟨f, hff⟩ := Go.Deep.choose_lt each
    refine ⟨_, len, m, (List.range len).map f, rfl, ⟨by simp, hl, hm, (fun e => by cases e), ?_, fun z hz => ?_⟩, .inr ⟨_, _, by rw [hy], by simp⟩⟩
    · by_cases h0 : len = 0
      · left; subst h0; rfl
      · obtain ⟨b, off, spot⟩ := x
        have h00 := (hff 0 (by omega)).2 0 (by omega)
        have hspot : spot = none := by
          have h00' : W.cell? ((Addr.add ⟨b, off, spot⟩ (0 * 5)).add 0) = some (.int .i64 (f 0).1) := h00
          simpa [Addr.add] using World.cell?_spot h00'
        subst hspot
        have hb : b < W.heap.size := by
          have h00' : W.cell? ((Addr.add ⟨b, off, none⟩ (0 * 5)).add 0) = some (.int .i64 (f 0).1) := h00
          simpa [Addr.add] using lt_of_cell h00'
        refine .inr ⟨b, off, rfl, hb, fun i j hi hj => ?_⟩
        have hi2 : i < len := by simpa using hi
        have e : ((List.range len).map f)[i]?.getD ver0 = f i := by simp [hi2]
        rw [e, ← (hff i (by omega)).2 j hj, Go.WideShapes.add_plain, Go.WideShapes.add_plain]
    · obtain ⟨i, hi, rfl⟩ := List.mem_map.1 hz
      exact (hff i (by have := List.mem_range.1 hi; omega)).1
theorem bytes_ver : Tryz.prog.bytesOf 49 = 48 := by kernel_rfl
end
end Go.Proofs.YthdicfcgkbepdaaGreatDoor
