/- Acts on a hold that come in. -/
import Derived.Test.YthdicfcgkbepdaaGreatDoorHld
import Derived.Deep.SlicePairs
import Derived.Deep.QuietTactic
import Derived.BigQuiet
namespace Go.Proofs.YthdicfcgkbepdaaGreatDoor
open Go.RowKit

/-- an act: kind, key, version, number. -/
abbrev HAct := ByteArray × ByteArray × Ver × Int
def act0 : HAct := (⟨#[]⟩, ⟨#[]⟩, ver0, 0)
def ActOk (x : HAct) : Prop := x.1.size ≤ maxLen ∧ x.2.1.size ≤ maxLen ∧ x.2.2.1.2.2.2.2.size ≤ maxLen ∧ x.2.2.2 ≤ 9223372036854775807
def ActR (n₀ : Nat) (w : World) (a : Option Addr) (l : List HAct) : Prop :=
  l = [] ∨ ∃ b off, a = some ⟨b, off, none⟩ ∧ b < n₀ ∧ ∀ i, i < l.length → w.cell? ⟨b, off + i * 8, none⟩ = some (.string (l[i]?.getD act0).1) ∧ w.cell? ⟨b, off + i * 8 + 1, none⟩ = some (.string (l[i]?.getD act0).2.1) ∧
    w.cell? ⟨b, off + i * 8 + 2, none⟩ = some (.int .i64 (l[i]?.getD act0).2.2.1.1) ∧ w.cell? ⟨b, off + i * 8 + 3, none⟩ = some (.int .i64 (l[i]?.getD act0).2.2.1.2.1) ∧ w.cell? ⟨b, off + i * 8 + 4, none⟩ = some (.int .i64 (l[i]?.getD act0).2.2.1.2.2.1) ∧
    w.cell? ⟨b, off + i * 8 + 5, none⟩ = some (.int .i64 (l[i]?.getD act0).2.2.1.2.2.2.1) ∧ w.cell? ⟨b, off + i * 8 + 6, none⟩ = some (.string (l[i]?.getD act0).2.2.1.2.2.2.2) ∧ w.cell? ⟨b, off + i * 8 + 7, none⟩ = some (.int .i64 (l[i]?.getD act0).2.2.2)
theorem ActR.below {n₀ : Nat} {A B : World} (h : Below n₀ A B) {a : Option Addr} {l : List HAct} : ActR n₀ A a l → ActR n₀ B a l
  | .inl e => .inl e
  | .inr ⟨b, off, e, hb, hc⟩ => .inr ⟨b, off, e, hb, fun i hi => by
    obtain ⟨h0, h1, h2, h3, h4, h5, h6, h7⟩ := hc i hi
    have c : ∀ {o v}, A.cell? ⟨b, o, none⟩ = some v → B.cell? ⟨b, o, none⟩ = some v := fun {o v} h9 => (h.cell (p := ⟨b, o, none⟩) hb).trans h9
    exact ⟨c h0, c h1, c h2, c h3, c h4, c h5, c h6, c h7⟩⟩
/-- what is known of acts that came in. -/
def ActsIn (w : World) (a : Option Addr) (len cap : Nat) (l : List HAct) : Prop := l.length = len ∧ len ≤ cap ∧ cap ≤ maxLen ∧ (a = none → cap = 0) ∧ ActR w.heap.size w a l ∧ ∀ i, i < len → ActOk (l[i]?.getD act0)
theorem list2 {α : Type} {l : List α} (h : l.length = 2) : ∃ a b, l = [a, b] := by
  match l, h with
  | [a, b], _ => exact ⟨a, b, rfl⟩
theorem list3 {α : Type} {l : List α} (h : l.length = 3) : ∃ a b c, l = [a, b, c] := by
  match l, h with
  | [a, b, c], _ => exact ⟨a, b, c, rfl⟩
theorem list4 {α : Type} {l : List α} (h : l.length = 4) : ∃ a b c d, l = [a, b, c, d] := by
  match l, h with
  | [a, b, c, d], _ => exact ⟨a, b, c, d, rfl⟩
theorem list5 {α : Type} {l : List α} (h : l.length = 5) : ∃ a b c d e, l = [a, b, c, d, e] := by
  match l, h with
  | [a, b, c, d, e], _ => exact ⟨a, b, c, d, e, rfl⟩
theorem list8 {α : Type} {l : List α} (h : l.length = 8) : ∃ a b c d e f g i, l = [a, b, c, d, e, f, g, i] := by
  match l, h with
  | [a, b, c, d, e, f, g, i], _ => exact ⟨a, b, c, d, e, f, g, i, rfl⟩
section
variable {H : Type} {enc : TypeId × Value → H} {W : World}
set_option maxRecDepth 10000 in
theorem ver_trod {n : Nat} {cs : List Value} {y : DataW H × List MemPlace} (h : DataW.trod enc Tryz.prog W 0 (fun _ => true) true n 49 cs = some y) : ∃ x : Ver, cs = encVr x ∧ x.2.2.2.2.size ≤ maxLen := by
  obtain ⟨xs, k, hk, hxy, hcl, hxl, hf⟩ := DataW.trod_struct Tryz.underlying49 h
  have ec : Tryz.prog.cellsOf 49 = 5 := by kernel_rfl
  rw [ec] at hcl
  obtain ⟨v0, v1, v2, v3, v4, rfl⟩ := list5 hcl
  obtain ⟨y0, y1, y2, rfl⟩ := list3 hxl
  have cT : Tryz.prog.cellsOf 45 = 2 := by kernel_rfl
  have cS : Tryz.prog.cellsOf 47 = 2 := by kernel_rfl
  have cI : Tryz.prog.cellsOf 3 = 1 := by kernel_rfl
  have cX : Tryz.prog.cellsOf 9 = 1 := by kernel_rfl
  have g0 : DataW.trod enc Tryz.prog W 0 (fun _ => true) true k 45 ((([v0, v1, v2, v3, v4] : List Value).drop 0).take (Tryz.prog.cellsOf 45)) = some y0 := hf 0 _ rfl
  have g1 : DataW.trod enc Tryz.prog W 0 (fun _ => true) true k 3 ((([v0, v1, v2, v3, v4] : List Value).drop 2).take (Tryz.prog.cellsOf 3)) = some y1 := hf 1 _ rfl
  have g2 : DataW.trod enc Tryz.prog W 0 (fun _ => true) true k 47 ((([v0, v1, v2, v3, v4] : List Value).drop 3).take (Tryz.prog.cellsOf 47)) = some y2 := hf 2 _ rfl
  rw [cT] at g0
  rw [cI] at g1
  rw [cS] at g2
  have g0' : DataW.trod enc Tryz.prog W 0 (fun _ => true) true k 45 [v0, v1] = some y0 := g0
  have g1' : DataW.trod enc Tryz.prog W 0 (fun _ => true) true k 3 [v2] = some y1 := g1
  have g2' : DataW.trod enc Tryz.prog W 0 (fun _ => true) true k 47 [v3, v4] = some y2 := g2
  obtain ⟨xs, k1, hk1, _, _, hxl1, hf1⟩ := DataW.trod_struct Tryz.underlying45 g0'
  obtain ⟨z0, z1, rfl⟩ := list2 hxl1
  obtain ⟨xs, k2, hk2, _, _, hxl2, hf2⟩ := DataW.trod_struct Tryz.underlying47 g2'
  obtain ⟨z2, z3, rfl⟩ := list2 hxl2
  have e0 : DataW.trod enc Tryz.prog W 0 (fun _ => true) true k1 3 ((([v0, v1] : List Value).drop 0).take (Tryz.prog.cellsOf 3)) = some z0 := hf1 0 _ rfl
  have e1 : DataW.trod enc Tryz.prog W 0 (fun _ => true) true k1 3 ((([v0, v1] : List Value).drop 1).take (Tryz.prog.cellsOf 3)) = some z1 := hf1 1 _ rfl
  have e2 : DataW.trod enc Tryz.prog W 0 (fun _ => true) true k2 3 ((([v3, v4] : List Value).drop 0).take (Tryz.prog.cellsOf 3)) = some z2 := hf2 0 _ rfl
  have e3 : DataW.trod enc Tryz.prog W 0 (fun _ => true) true k2 9 ((([v3, v4] : List Value).drop 1).take (Tryz.prog.cellsOf 9)) = some z3 := hf2 1 _ rfl
  rw [cI] at e0 e1 e2
  rw [cX] at e3
  obtain ⟨n0, q0, _, _⟩ := DataW.trod_int Tryz.underlying3 (show DataW.trod enc Tryz.prog W 0 (fun _ => true) true k1 3 [v0] = some z0 from e0)
  obtain ⟨n1, q1, _, _⟩ := DataW.trod_int Tryz.underlying3 (show DataW.trod enc Tryz.prog W 0 (fun _ => true) true k1 3 [v1] = some z1 from e1)
  obtain ⟨n2, q2, _, _⟩ := DataW.trod_int Tryz.underlying3 g1'
  obtain ⟨n3, q3, _, _⟩ := DataW.trod_int Tryz.underlying3 (show DataW.trod enc Tryz.prog W 0 (fun _ => true) true k2 3 [v3] = some z2 from e2)
  obtain ⟨s4, q4, _, hs⟩ := DataW.trod_string Tryz.underlying9 (show DataW.trod enc Tryz.prog W 0 (fun _ => true) true k2 9 [v4] = some z3 from e3)
  simp at q0 q1 q2 q3 q4
  subst q0 q1 q2 q3 q4
  exact ⟨(n0, n1, n2, n3, s4), rfl, hs⟩
set_option maxRecDepth 10000 in
theorem act_trod {n : Nat} {cs : List Value} {y : DataW H × List MemPlace} (h : DataW.trod enc Tryz.prog W 0 (fun _ => true) true n 85 cs = some y) :
    ∃ x : HAct, cs = [.string x.1, .string x.2.1, .int .i64 x.2.2.1.1, .int .i64 x.2.2.1.2.1, .int .i64 x.2.2.1.2.2.1, .int .i64 x.2.2.1.2.2.2.1, .string x.2.2.1.2.2.2.2, .int .i64 x.2.2.2] ∧ ActOk x := by
  obtain ⟨xs, k, hk, hxy, hcl, hxl, hf⟩ := DataW.trod_struct Tryz.underlying85 h
  have ec : Tryz.prog.cellsOf 85 = 8 := by kernel_rfl
  rw [ec] at hcl
  obtain ⟨v0, v1, v2, v3, v4, v5, v6, v7, rfl⟩ := list8 hcl
  obtain ⟨y0, y1, y2, y3, rfl⟩ := list4 hxl
  have cV : Tryz.prog.cellsOf 49 = 5 := by kernel_rfl
  have cI : Tryz.prog.cellsOf 3 = 1 := by kernel_rfl
  have cX : Tryz.prog.cellsOf 9 = 1 := by kernel_rfl
  have g0 : DataW.trod enc Tryz.prog W 0 (fun _ => true) true k 9 ((([v0, v1, v2, v3, v4, v5, v6, v7] : List Value).drop 0).take (Tryz.prog.cellsOf 9)) = some y0 := hf 0 _ rfl
  have g1 : DataW.trod enc Tryz.prog W 0 (fun _ => true) true k 9 ((([v0, v1, v2, v3, v4, v5, v6, v7] : List Value).drop 1).take (Tryz.prog.cellsOf 9)) = some y1 := hf 1 _ rfl
  have g2 : DataW.trod enc Tryz.prog W 0 (fun _ => true) true k 49 ((([v0, v1, v2, v3, v4, v5, v6, v7] : List Value).drop 2).take (Tryz.prog.cellsOf 49)) = some y2 := hf 2 _ rfl
  have g3 : DataW.trod enc Tryz.prog W 0 (fun _ => true) true k 3 ((([v0, v1, v2, v3, v4, v5, v6, v7] : List Value).drop 7).take (Tryz.prog.cellsOf 3)) = some y3 := hf 3 _ rfl
  rw [cX] at g0 g1
  rw [cV] at g2
  rw [cI] at g3
  obtain ⟨s0, q0, _, h0⟩ := DataW.trod_string Tryz.underlying9 (show DataW.trod enc Tryz.prog W 0 (fun _ => true) true k 9 [v0] = some y0 from g0)
  obtain ⟨s1, q1, _, h1⟩ := DataW.trod_string Tryz.underlying9 (show DataW.trod enc Tryz.prog W 0 (fun _ => true) true k 9 [v1] = some y1 from g1)
  obtain ⟨x, q2, h2⟩ := ver_trod (show DataW.trod enc Tryz.prog W 0 (fun _ => true) true k 49 [v2, v3, v4, v5, v6] = some y2 from g2)
  obtain ⟨n3, q3, _, h3⟩ := DataW.trod_int Tryz.underlying3 (show DataW.trod enc Tryz.prog W 0 (fun _ => true) true k 3 [v7] = some y3 from g3)
  simp [encVr] at q0 q1 q2 q3
  obtain ⟨p0, p1, p2, p3, p4⟩ := q2
  subst q0 q1 q3 p0 p1 p2 p3 p4
  exact ⟨(s0, s1, x, n3), rfl, h0, h1, h2, (bounds_i64 h3).2⟩
theorem open_acts {a : Option Addr} {len cap : Nat} {d : DataW H} {p : List MemPlace} (h : DataW.Trod enc Tryz.prog W 0 (fun _ => true) true 34 (.slice a len cap) d p) : ∃ L, ActsIn W a len cap L := by
  obtain ⟨fuel, hf⟩ := h
  rcases Go.Deep.open_slice Tryz.underlying34 hf with ⟨hcs, _⟩ | ⟨x, l, c, m, n, D, Pl, hcs, _, hl, hm, hmm, _, hr⟩
  · simp [Value.cells] at hcs
    obtain ⟨rfl, rfl, rfl⟩ := hcs
    exact ⟨[], rfl, Nat.le_refl _, by simp [maxLen], fun _ => rfl, .inl rfl, fun i hi => by omega⟩
  · simp [Value.cells] at hcs
    obtain ⟨rfl, rfl, rfl⟩ := hcs
    rw [if_pos rfl] at hmm
    subst hmm
    have ec : Tryz.prog.cellsOf 85 = 8 := by kernel_rfl
    rw [ec] at hr
    have each : ∀ i, i < m → ∃ z : HAct, ActOk z ∧ ∀ j, j < 8 → W.cell? ((x.add (i * 8)).add j) = ([.string z.1, .string z.2.1, .int .i64 z.2.2.1.1, .int .i64 z.2.2.1.2.1, .int .i64 z.2.2.1.2.2.1, .int .i64 z.2.2.1.2.2.2.1, .string z.2.2.1.2.2.2.2, .int .i64 z.2.2.2] : List Value)[j]? := fun i hi => by
      obtain ⟨cs', h3, h4⟩ := hr i hi
      obtain ⟨z, e, hz⟩ := act_trod h4
      obtain ⟨_, hlen, hcell⟩ := World.cells?_some h3
      exact ⟨z, hz, fun j hj => by rw [hcell j hj, e]⟩
    obtain ⟨f, hff⟩ := Go.Deep.choose_lt each
    refine ⟨(List.range len).map f, by simp, hl, hm, (fun e => by cases e), ?_, fun i hi => ?_⟩
    · by_cases h0 : len = 0
      · left; subst h0; rfl
      · obtain ⟨b, off, spot⟩ := x
        have h00 := (hff 0 (by omega)).2 0 (by omega)
        have hspot : spot = none := by simpa [Addr.add] using World.cell?_spot h00
        subst hspot
        have hb : b < W.heap.size := by simpa [Addr.add] using lt_of_cell h00
        refine .inr ⟨b, off, rfl, hb, fun i hi => ?_⟩
        have hi2 : i < m := by simp at hi; omega
        have hi3 : i < len := by simpa using hi
        have e : ((List.range len).map f)[i]?.getD act0 = f i := by simp [hi3]
        rw [e]
        have c : ∀ j, j < 8 → W.cell? ⟨b, off + i * 8 + j, none⟩ = ([.string (f i).1, .string (f i).2.1, .int .i64 (f i).2.2.1.1, .int .i64 (f i).2.2.1.2.1, .int .i64 (f i).2.2.1.2.2.1, .int .i64 (f i).2.2.1.2.2.2.1, .string (f i).2.2.1.2.2.2.2, .int .i64 (f i).2.2.2] : List Value)[j]? := fun j hj => by
          rw [← (hff i hi2).2 j hj, Go.WideShapes.add_plain, Go.WideShapes.add_plain]
        exact ⟨c 0 (by omega), c 1 (by omega), c 2 (by omega), c 3 (by omega), c 4 (by omega), c 5 (by omega), c 6 (by omega), c 7 (by omega)⟩
    · have e : ((List.range len).map f)[i]?.getD act0 = f i := by simp [hi]
      rw [e]
      exact (hff i (by omega)).1
end
section
set_option maxRecDepth 100000 in
set_option maxHeartbeats 4000000 in
/-- heavy answers, whatever; it reads alone. -/
theorem heavy_walk (w : World) (a : Option Addr) (len cap : Nat) (l : List HAct) (hA : ActsIn w a len cap l) :
    Calls Tryz.prog 12 #[.slice a len cap] w fun e w' => (∃ r, e = .returned (.bool r)) ∧ Below w.heap.size w w' := by
  obtain ⟨hl, hc, hm, ha, hR, hok⟩ := hA
  have hm9 : len ≤ 9223372036854775807 := by unfold maxLen at hm; omega
  have Hl := Lib.hid (And.intro hl (And.intro hR hok))
  clear hl ha hR hok hm
  go_enter Tryz.func12, Tryz.ntmps12
  go_wp2
  go_loopw [3, 4] (fun vn vi wr => ∃ (i : Nat) (z : Int), i ≤ len ∧ vi = .int .i64 i ∧ vn = .int .i64 z ∧ Hid (Below w.heap.size w wr)) (fun _ vi _ => len - (intOf vi).toNat)
  case atStart => exact ⟨0, 0, by omega, rfl, rfl, Lib.hid (Below.refl _ _)⟩
  case round =>
    obtain ⟨i, z, hi, rfl, rfl, Hr⟩ := hrel
    have hi2 : i < len ∨ i = len := by omega
    rcases hi2 with hilt | rfl
    · have hilt2 : (i : Int) < len := by omega
      rcases Hl.out.2.1.below Hr.out with he | ⟨b, off, rfl, _, hcx⟩
      · exfalso
        have := Hl.out.1
        rw [he] at this; simp at this; omega
      obtain ⟨k0, k1, k2, k3, k4, k5, k6, k7⟩ := hcx i (by rw [Hl.out.1]; exact hilt)
      obtain ⟨⟨s0, s1, ⟨x1, x2, x3, x4, x5⟩, N⟩, hx⟩ : ∃ x, l[i]?.getD act0 = x := ⟨_, rfl⟩
      rw [hx] at k0 k1 k2 k3 k4 k5 k6 k7
      dsimp only at k0 k1 k2 k3 k4 k5 k6 k7
      have k6' : wr.cell? ⟨b, off + i * 8 + 2 + 3 + 1, none⟩ = some (.string x5) := k6
      clear hcx hx k0 k2 k3 k4 k5 k7 k6
      go_wp2
      go_quiet (fail)
      have HB3 := Lib.hid (Hr.out.trans (show Below w.heap.size wr (wr.drewN nq) from ⟨rfl, rfl, rfl, Nat.le_refl _, fun _ _ => rfl⟩))
      go_wp2
      go_roundw
      case rel => exact ⟨i + 1, _, by omega, by go_num, rfl, HB3⟩
      case measure => simp [intOf]; omega
    · go_wp2
      go_ret
      exact ⟨⟨_, rfl⟩, Hr.out⟩
end
end Go.Proofs.YthdicfcgkbepdaaGreatDoor
