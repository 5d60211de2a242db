/- The walk of the document's Begin. -/
import Derived.Test.YtabboioamdphmaaGreatDoorKAskHears37
import Derived.Test.YtabboioamdphmaaGreatDoorKAskHears26
import Derived.Test.YtabboioamdphmaaGreatDoorKAskHears17
import Derived.Lib.SmallJoins
namespace Go.Proofs.YtabboioamdphmaaGreatDoor
section
open Go.RowKit Go.Maps Go.BigFrame

set_option maxHeartbeats 1000000 in
theorem rbegin_ask (S F : Nat → Prop) (w : World) (mo : Nat) (ma : Option Addr) (mc : Nat) (na : Option Addr) (nc : Nat) (fv lv : Value) (us : List Value) (a : AskS) (h : RAskAt S F w mo ma mc na nc fv lv us a) (hok : TalkOk a.t) (hmv : a.moves = false) :
    Calls Tryz.prog 17 #[.pointer (some ⟨mo, 0, none⟩)] w fun e w' => Below w.heap.size w w' ∧ RetMsgs (fun b => w.heap.size ≤ b) w' e (sendT a.t kLook (fun _ => [])) := by
  have Hs := Lib.hid (rsend_nil S F w mo ma mc na nc fv lv us a kLook h hok)
  have d12 : w.cell? ⟨mo, 12, none⟩ = some (.bool false) := (h.cs.cell 12 (by show 12 < 20; decide)).trans (by rw [← hmv]; rfl)
  unfold kLook at Hs ⊢
  clear h hok hmv
  go_enter Tryz.func17, Tryz.ntmps17
  go_wp2_with fail
  refine Hs.out.mono ?_
  rintro e w2 ⟨hb, b, cap, rfl, h1, h2, h3, h4⟩
  have H := Lib.hid (And.intro hb (And.intro h1 (And.intro h2 (And.intro h3 h4))))
  clear hb h1 h2 h3 h4
  go_wp2
  go_ret
  exact ⟨H.out.1, b, cap, rfl, H.out.2.1, H.out.2.2.1, H.out.2.2.2.1, H.out.2.2.2.2⟩
set_option maxHeartbeats 1000000 in
theorem rbegin_mover (S F : Nat → Prop) (w : World) (mo : Nat) (ma : Option Addr) (mc : Nat) (na : Option Addr) (nc : Nat) (fv lv : Value) (us : List Value) (a : AskS) (h : RAskAt S F w mo ma mc na nc fv lv us a) (hok : TalkOk a.t) (hmv : a.moves = true) (hst : a.st = 0) :
    Calls Tryz.prog 17 #[.pointer (some ⟨mo, 0, none⟩)] w fun e w' => Below w.heap.size w w' ∧ RetMsgs (fun b => w.heap.size ≤ b) w' e (sendT a.t kSeal' (fun _ => [])) := by
  have Hs := Lib.hid (rsend_nil S F w mo ma mc na nc fv lv us a kSeal' h hok)
  have d12 : w.cell? ⟨mo, 12, none⟩ = some (.bool true) := (h.cs.cell 12 (by show 12 < 20; decide)).trans (by rw [← hmv]; rfl)
  have hs : stT a = ⟨#[115, 101, 97, 108, 105, 110, 103]⟩ := by unfold stT; rw [if_pos hst, if_pos hmv]; rfl
  have d13 : w.cell? ⟨mo, 13, none⟩ = some (.string ⟨#[115, 101, 97, 108, 105, 110, 103]⟩) := (h.cs.cell 13 (by show 13 < 20; decide)).trans (by rw [← hs]; rfl)
  unfold kSeal' at Hs ⊢
  clear h hok hmv hst hs
  go_enter Tryz.func17, Tryz.ntmps17
  go_wp2_with fail
  refine Hs.out.mono ?_
  rintro e w2 ⟨hb, b, cap, rfl, h1, h2, h3, h4⟩
  have H := Lib.hid (And.intro hb (And.intro h1 (And.intro h2 (And.intro h3 h4))))
  clear hb h1 h2 h3 h4
  go_wp2
  go_ret
  exact ⟨H.out.1, b, cap, rfl, H.out.2.1, H.out.2.2.1, H.out.2.2.2.1, H.out.2.2.2.2⟩
end
end Go.Proofs.YtabboioamdphmaaGreatDoor
/- The bulk of what comes in. -/
namespace Go.Proofs.YtabboioamdphmaaGreatDoor
section
open Go.RowKit

variable {H : Type} {enc : TypeId × Value → H} {W : World}
theorem blk_part {d : DataW H} {l : List (DataW H)} (h : d ∈ l) : Rows.uptoBulk d ≤ Rows.uptoBulkAll l := by
  induction l with
  | nil => cases h
  | cons x r ih =>
    simp only [Rows.uptoBulkAll]
    cases List.mem_cons.1 h with
    | inl e => subst e; omega
    | inr e => have := ih e; omega
theorem blk_bound {l : List (DataW H)} (hk : Rows.uptoSmall H l = true) : Rows.uptoBulkAll l ≤ 1048576 := of_decide_eq_true hk
/-- the letters of a version, at least. -/
def vbulk (x : Ver) : Nat := 2 + x.2.2.2.2.size
def vsbulk (L : List Ver) : Nat := (L.map vbulk).sum
def mbulk (m : Msg) : Nat := m.fr.size + m.dst.size + m.kind.size + m.key.size + vsbulk m.L
theorem vsbulk_length : ∀ L : List Ver, 2 * L.length ≤ vsbulk L
  | [] => by simp
  | x :: L => by
    have := vsbulk_length L
    unfold vsbulk at this ⊢
    rw [List.map_cons, List.sum_cons, List.length_cons]
    unfold vbulk at this ⊢
    omega
theorem sum_blk {f : Nat → Ver} {D : Nat → DataW H} : ∀ {n : Nat}, (∀ i, i < n → vbulk (f i) ≤ Rows.uptoBulk (D i)) → (((List.range n).map f).map vbulk).sum ≤ Rows.uptoBulkAll ((List.range n).map D) := by
  intro n
  have key : ∀ l : List Nat, (∀ i ∈ l, vbulk (f i) ≤ Rows.uptoBulk (D i)) → ((l.map f).map vbulk).sum ≤ Rows.uptoBulkAll (l.map D) := by
    intro l
    induction l with
    | nil => intro _; simp
    | cons i l ih =>
      intro h
      have h1 := h i (List.mem_cons_self ..)
      have h2 := ih (fun k hk => h k (List.mem_cons_of_mem _ hk))
      simp only [List.map_cons, List.sum_cons, Rows.uptoBulkAll]
      omega
  exact fun h => key _ (fun i hi => h i (List.mem_range.1 hi))
set_option maxRecDepth 10000 in
theorem ver_blk {n : Nat} {cs : List Value} {x : Ver} {y : DataW H × List MemPlace} (hc : cs = encVr x) (h : DataW.trod enc Tryz.prog W 0 (fun _ => true) true n 76 cs = some y) : vbulk x ≤ Rows.uptoBulk y.1 := by
  subst hc
  obtain ⟨x1, x2, x3, x4, s⟩ := x
  obtain ⟨xs, k, hk, hxy, hcl, hxl, hf⟩ := DataW.trod_struct Tryz.underlying76 h
  obtain ⟨y0, y1, y2, rfl⟩ := list3 hxl
  have cS : Tryz.prog.cellsOf 74 = 2 := by kernel_rfl
  have cX : Tryz.prog.cellsOf 9 = 1 := by kernel_rfl
  have g2 : DataW.trod enc Tryz.prog W 0 (fun _ => true) true k 74 (((encVr (x1, x2, x3, x4, s)).drop 3).take (Tryz.prog.cellsOf 74)) = some y2 := hf 2 _ rfl
  rw [cS] at g2
  have g2' : DataW.trod enc Tryz.prog W 0 (fun _ => true) true k 74 [.int .i64 x4, .string s] = some y2 := g2
  obtain ⟨zs, k2, hk2, hzy, _, hxl2, hf2⟩ := DataW.trod_struct Tryz.underlying74 g2'
  obtain ⟨z2, z3, rfl⟩ := list2 hxl2
  have e3 : DataW.trod enc Tryz.prog W 0 (fun _ => true) true k2 9 ((([.int .i64 x4, .string s] : List Value).drop 1).take (Tryz.prog.cellsOf 9)) = some z3 := hf2 1 _ rfl
  rw [cX] at e3
  obtain ⟨s4, q4, e4, hs⟩ := DataW.trod_string Tryz.underlying9 (show DataW.trod enc Tryz.prog W 0 (fun _ => true) true k2 9 [.string s] = some z3 from e3)
  simp at q4
  subst q4
  rw [hxy, hzy]
  unfold vbulk
  simp [Rows.uptoBulk, Rows.uptoBulkAll, e4]
  omega
set_option maxRecDepth 10000 in
theorem vers_blk {n : Nat} {v : Value} {y : DataW H × List MemPlace} (h : DataW.trod enc Tryz.prog W 0 (fun _ => true) true n 53 [v] = some y) :
    ∃ a len cap L, v = .slice a len cap ∧ VersIn W a len cap L ∧ ((y.1 = .nil ∧ len = 0) ∨ ∃ es sp, y.1 = .slice es sp ∧ es.length = len) ∧ vsbulk L ≤ Rows.uptoBulk y.1 := by
  rcases Go.Deep.open_slice Tryz.underlying53 h with ⟨hcs, rfl⟩ | ⟨x, len, cap, m, n, D, Pl, hcs, _, hl, hm, hmm, hy, hr⟩
  · simp at hcs
    subst hcs
    exact ⟨none, 0, 0, [], rfl, ⟨rfl, Nat.le_refl _, by simp [maxLen], fun _ => rfl, .inl rfl, fun x hx => (by cases hx)⟩, .inl ⟨rfl, rfl⟩, Nat.zero_le _⟩
  · simp at hcs
    subst hcs
    rw [if_pos rfl] at hmm
    subst hmm
    have ec : Tryz.prog.cellsOf 76 = 5 := by kernel_rfl
    rw [ec] at hr
    have each : ∀ i, i < m → ∃ z : Ver, VerOk z ∧ vbulk z ≤ Rows.uptoBulk (D i) ∧ ∀ j, j < 5 → W.cell? ((x.add (i * 5)).add j) = (encVr z)[j]? := fun i hi => by
      obtain ⟨cs', h3, h4⟩ := hr i hi
      obtain ⟨z, e, hz⟩ := ver_trodI h4
      obtain ⟨_, hlen, hcell⟩ := World.cells?_some h3
      exact ⟨z, hz, ver_blk e h4, fun j hj => by rw [hcell j hj, e]⟩
    obtain ⟨f, hff⟩ := Go.Deep.choose_lt each
    refine ⟨_, len, m, (List.range len).map f, rfl, ⟨by simp, hl, hm, (fun e => by cases e), ?_, fun z hz => ?_⟩, .inr ⟨_, _, by rw [hy], by simp⟩, ?_⟩
    · by_cases h0 : len = 0
      · left; subst h0; rfl
      · obtain ⟨b, off, spot⟩ := x
        have h00 := (hff 0 (by omega)).2.2 0 (by omega)
        have hspot : spot = none := by
          have h00' : W.cell? ((Addr.add ⟨b, off, spot⟩ (0 * 5)).add 0) = some (.int .i64 (f 0).1) := h00
          simpa [Addr.add] using World.cell?_spot h00'
        subst hspot
        have hb : b < W.heap.size := by
          have h00' : W.cell? ((Addr.add ⟨b, off, none⟩ (0 * 5)).add 0) = some (.int .i64 (f 0).1) := h00
          simpa [Addr.add] using lt_of_cell h00'
        refine .inr ⟨b, off, rfl, hb, fun i j hi hj => ?_⟩
        have hi2 : i < len := by simpa using hi
        have e : ((List.range len).map f)[i]?.getD ver0 = f i := by simp [hi2]
        rw [e, ← (hff i (by omega)).2.2 j hj, Go.WideShapes.add_plain, Go.WideShapes.add_plain]
    · obtain ⟨i, hi, rfl⟩ := List.mem_map.1 hz
      exact (hff i (by have := List.mem_range.1 hi; omega)).1
    · rw [hy]
      simp only [Rows.uptoBulk]
      have h9 := sum_blk (f := f) (D := D) (n := len) (fun i hi => (hff i (by omega)).2.1)
      unfold vsbulk
      omega
set_option maxRecDepth 10000 in
theorem msg_blk {n : Nat} {cs : List Value} {y : DataW H × List MemPlace} (h : DataW.trod enc Tryz.prog W 0 (fun _ => true) true n 57 cs = some y) :
    ∃ (x : Msg) (a : Option Addr) (cap : Nat), cs = [.string x.fr, .string x.dst, .string x.kind, .string x.key, .int .i64 x.op, .int .i64 x.cf, .bool x.sl, .slice a x.L.length cap] ∧ MsgOk x ∧ VersIn W a x.L.length cap x.L ∧
      (∀ B, (∀ k ∈ y.1.weights Tryz.prog 57, k ≤ B) → x.L.length * 48 ≤ B) ∧ mbulk x ≤ Rows.uptoBulk y.1 := by
  obtain ⟨xs, k, hk, hxy, hcl, hxl, hf⟩ := DataW.trod_struct Tryz.underlying57 h
  have ec : Tryz.prog.cellsOf 57 = 8 := by kernel_rfl
  rw [ec] at hcl
  obtain ⟨v0, v1, v2, v3, v4, v5, v6, v7, rfl⟩ := list8 hcl
  obtain ⟨y0, y1, y2, y3, y4, y5, y6, y7, rfl⟩ := list8 hxl
  have cI : Tryz.prog.cellsOf 3 = 1 := by kernel_rfl
  have cX : Tryz.prog.cellsOf 9 = 1 := by kernel_rfl
  have cB : Tryz.prog.cellsOf 4 = 1 := by kernel_rfl
  have cL : Tryz.prog.cellsOf 53 = 1 := by kernel_rfl
  have g0 : DataW.trod enc Tryz.prog W 0 (fun _ => true) true k 9 ((([v0, v1, v2, v3, v4, v5, v6, v7] : List Value).drop 0).take (Tryz.prog.cellsOf 9)) = some y0 := hf 0 _ rfl
  have g1 : DataW.trod enc Tryz.prog W 0 (fun _ => true) true k 9 ((([v0, v1, v2, v3, v4, v5, v6, v7] : List Value).drop 1).take (Tryz.prog.cellsOf 9)) = some y1 := hf 1 _ rfl
  have g2 : DataW.trod enc Tryz.prog W 0 (fun _ => true) true k 9 ((([v0, v1, v2, v3, v4, v5, v6, v7] : List Value).drop 2).take (Tryz.prog.cellsOf 9)) = some y2 := hf 2 _ rfl
  have g3 : DataW.trod enc Tryz.prog W 0 (fun _ => true) true k 9 ((([v0, v1, v2, v3, v4, v5, v6, v7] : List Value).drop 3).take (Tryz.prog.cellsOf 9)) = some y3 := hf 3 _ rfl
  have g4 : DataW.trod enc Tryz.prog W 0 (fun _ => true) true k 3 ((([v0, v1, v2, v3, v4, v5, v6, v7] : List Value).drop 4).take (Tryz.prog.cellsOf 3)) = some y4 := hf 4 _ rfl
  have g5 : DataW.trod enc Tryz.prog W 0 (fun _ => true) true k 3 ((([v0, v1, v2, v3, v4, v5, v6, v7] : List Value).drop 5).take (Tryz.prog.cellsOf 3)) = some y5 := hf 5 _ rfl
  have g6 : DataW.trod enc Tryz.prog W 0 (fun _ => true) true k 4 ((([v0, v1, v2, v3, v4, v5, v6, v7] : List Value).drop 6).take (Tryz.prog.cellsOf 4)) = some y6 := hf 6 _ rfl
  have g7 : DataW.trod enc Tryz.prog W 0 (fun _ => true) true k 53 ((([v0, v1, v2, v3, v4, v5, v6, v7] : List Value).drop 7).take (Tryz.prog.cellsOf 53)) = some y7 := hf 7 _ rfl
  rw [cX] at g0 g1 g2 g3
  rw [cI] at g4 g5
  rw [cB] at g6
  rw [cL] at g7
  obtain ⟨s0, q0, e0, h0⟩ := DataW.trod_string Tryz.underlying9 (show DataW.trod enc Tryz.prog W 0 (fun _ => true) true k 9 [v0] = some y0 from g0)
  obtain ⟨s1, q1, e1, h1⟩ := DataW.trod_string Tryz.underlying9 (show DataW.trod enc Tryz.prog W 0 (fun _ => true) true k 9 [v1] = some y1 from g1)
  obtain ⟨s2, q2, e2, h2⟩ := DataW.trod_string Tryz.underlying9 (show DataW.trod enc Tryz.prog W 0 (fun _ => true) true k 9 [v2] = some y2 from g2)
  obtain ⟨s3, q3, e3, h3⟩ := DataW.trod_string Tryz.underlying9 (show DataW.trod enc Tryz.prog W 0 (fun _ => true) true k 9 [v3] = some y3 from g3)
  obtain ⟨n4, q4, _, w4⟩ := DataW.trod_int Tryz.underlying3 (show DataW.trod enc Tryz.prog W 0 (fun _ => true) true k 3 [v4] = some y4 from g4)
  obtain ⟨n5, q5, _, w5⟩ := DataW.trod_int Tryz.underlying3 (show DataW.trod enc Tryz.prog W 0 (fun _ => true) true k 3 [v5] = some y5 from g5)
  obtain ⟨b6, q6, _⟩ := DataW.trod_bool Tryz.underlying4 (show DataW.trod enc Tryz.prog W 0 (fun _ => true) true k 4 [v6] = some y6 from g6)
  obtain ⟨a, len, cap, L, q7, hL, hd, hbk⟩ := vers_blk (show DataW.trod enc Tryz.prog W 0 (fun _ => true) true k 53 [v7] = some y7 from g7)
  simp at q0 q1 q2 q3 q4 q5 q6
  subst q0 q1 q2 q3 q4 q5 q6 q7
  have hlen := hL.1
  subst hlen
  refine ⟨⟨s0, s1, s2, s3, n4, n5, b6, L⟩, a, cap, rfl, ⟨h0, h1, h2, h3, bounds_i64 w4, bounds_i64 w5, hL.2.2.2.2.2⟩, hL, fun B hB => ?_, ?_⟩
  · rcases hd with ⟨_, hd⟩ | ⟨es, sp, hd, he⟩
    · show L.length * 48 ≤ B
      omega
    · have h9 : (es.length + sp.length) * 48 ≤ B := by
        refine hB _ ?_
        rw [hxy]
        simp [DataW.weights, Tryz.underlying57, DataW.weightsEach, hd, Tryz.underlying53, bytes_ver]
      show L.length * 48 ≤ B
      have h8 : (es.length + sp.length) * 48 = es.length * 48 + sp.length * 48 := Nat.add_mul _ _ _
      omega
  · rw [hxy]
    unfold mbulk
    simp [Rows.uptoBulk, Rows.uptoBulkAll, e0, e1, e2, e3]
    omega
/-- what is known of a message that came in by value. -/
def MsgIn (W : World) (m : Msg) (a : Option Addr) (len cap : Nat) : Prop := MsgOk m ∧ VersIn W a len cap m.L
set_option maxRecDepth 10000 in
theorem open_message {base : Nat} {v : Value} {d : DataW H} {p : List MemPlace} (hv : Value.okWide Tryz.prog W .any base 57 v) (h : DataW.Trod enc Tryz.prog W 0 (fun _ => true) true 57 v d p) :
    ∃ fr dst kind key op cf sl a len cap L, v = .agg #[.string fr, .string dst, .string kind, .string key, .int .i64 op, .int .i64 cf, .bool sl, .slice a len cap] ∧ MsgIn W ⟨fr, dst, kind, key, op, cf, sl, L⟩ a len cap ∧ mbulk ⟨fr, dst, kind, key, op, cf, sl, L⟩ ≤ Rows.uptoBulk d := by
  obtain ⟨cs, rfl, hsz⟩ := Go.WideShapes.okWide_struct Tryz.underlying57 hv
  obtain ⟨fuel, hf⟩ := h
  obtain ⟨⟨fr, dst, kind, key, op, cf, sl, L⟩, a, cap, e, hok, hin, _, hb⟩ := msg_blk hf
  refine ⟨fr, dst, kind, key, op, cf, sl, a, L.length, cap, L, ?_, ⟨hok, hin⟩, hb⟩
  have e2 : cs.toList = [.string fr, .string dst, .string kind, .string key, .int .i64 op, .int .i64 cf, .bool sl, .slice a L.length cap] := by simpa [Value.cells] using e
  congr 1
  exact Array.toList_inj.1 e2
end
end Go.Proofs.YtabboioamdphmaaGreatDoor
/- Messages that come in, and their bulk. -/
namespace Go.Proofs.YtabboioamdphmaaGreatDoor
section
open Go.RowKit

variable {H : Type} {enc : TypeId × Value → H} {W : World}
/-- the letters of messages, at least. -/
def msgsbulk (l : List Msg) : Nat := (l.map mbulk).sum
theorem sum_blkm {f : Nat → Msg} {D : Nat → DataW H} : ∀ {n : Nat}, (∀ i, i < n → mbulk (f i) ≤ Rows.uptoBulk (D i)) → msgsbulk ((List.range n).map f) ≤ Rows.uptoBulkAll ((List.range n).map D) := by
  intro n
  have key : ∀ l : List Nat, (∀ i ∈ l, mbulk (f i) ≤ Rows.uptoBulk (D i)) → msgsbulk (l.map f) ≤ Rows.uptoBulkAll (l.map D) := by
    intro l
    induction l with
    | nil => intro _; simp [msgsbulk]
    | cons i l ih =>
      intro h
      have h1 := h i (List.mem_cons_self ..)
      have h2 := ih (fun k hk => h k (List.mem_cons_of_mem _ hk))
      unfold msgsbulk at h2 ⊢
      simp only [List.map_cons, List.sum_cons, Rows.uptoBulkAll]
      omega
  exact fun h => key _ (fun i hi => h i (List.mem_range.1 hi))
set_option maxRecDepth 10000 in
theorem open_msgs_blk {a : Option Addr} {len cap : Nat} {d : DataW H} {p : List MemPlace} (h : DataW.Trod enc Tryz.prog W 0 (fun _ => true) true 25 (.slice a len cap) d p) :
    ∃ L, MsgsIn W a len cap L ∧ msgsbulk L ≤ Rows.uptoBulk d := by
  obtain ⟨fuel, hf⟩ := h
  rcases Go.Deep.open_slice Tryz.underlying25 hf with ⟨hcs, hy⟩ | ⟨x, l, c, m, n, D, Pl, hcs, _, hl, hm, hmm, hy, hr⟩
  · simp [Value.cells] at hcs
    obtain ⟨rfl, rfl, rfl⟩ := hcs
    exact ⟨[], ⟨rfl, Nat.le_refl _, by simp [maxLen], fun _ => rfl, .inl rfl, fun i hi => by omega⟩, by simp [msgsbulk]⟩
  · simp [Value.cells] at hcs
    obtain ⟨rfl, rfl, rfl⟩ := hcs
    rw [if_pos rfl] at hmm
    subst hmm
    have ec : Tryz.prog.cellsOf 57 = 8 := by kernel_rfl
    rw [ec] at hr
    have each : ∀ i, i < m → ∃ z : Msg × Option Addr × Nat, MsgOk z.1 ∧ VersIn W z.2.1 z.1.L.length z.2.2 z.1.L ∧ mbulk z.1 ≤ Rows.uptoBulk (D i) ∧
        ∀ j, j < 8 → W.cell? ((x.add (i * 8)).add j) = ([.string z.1.fr, .string z.1.dst, .string z.1.kind, .string z.1.key, .int .i64 z.1.op, .int .i64 z.1.cf, .bool z.1.sl, .slice z.2.1 z.1.L.length z.2.2] : List Value)[j]? := fun i hi => by
      obtain ⟨cs', h3, h4⟩ := hr i hi
      obtain ⟨z, za, zc, e, hz, hv, _, hb⟩ := msg_blk h4
      obtain ⟨_, hlen, hcell⟩ := World.cells?_some h3
      exact ⟨(z, za, zc), hz, hv, hb, fun j hj => by rw [hcell j hj, e]⟩
    obtain ⟨f, hff⟩ := Go.Deep.choose_lt each
    have eg : ∀ i, i < len → ((List.range len).map fun i => (f i).1)[i]?.getD msg0 = (f i).1 := fun i hi => by simp [hi]
    refine ⟨(List.range len).map fun i => (f i).1, ⟨by simp, hl, hm, (fun e => by cases e), ?_, fun i hi => ?_⟩, ?_⟩
    · by_cases h0 : len = 0
      · left; subst h0; rfl
      · obtain ⟨b, off, spot⟩ := x
        have h00 := (hff 0 (by omega)).2.2.2 0 (by omega)
        have hspot : spot = none := by simpa [Addr.add] using World.cell?_spot h00
        subst hspot
        have hb : b < W.heap.size := by simpa [Addr.add] using lt_of_cell h00
        refine .inr ⟨b, off, rfl, hb, fun i hi => ?_⟩
        have hi2 : i < len := by simpa using hi
        rw [eg i hi2]
        obtain ⟨k1, k2, k3, k4⟩ := hff i (by omega)
        have c : ∀ j, j < 8 → W.cell? ⟨b, off + i * 8 + j, none⟩ = ([.string (f i).1.fr, .string (f i).1.dst, .string (f i).1.kind, .string (f i).1.key, .int .i64 (f i).1.op, .int .i64 (f i).1.cf, .bool (f i).1.sl, .slice (f i).2.1 (f i).1.L.length (f i).2.2] : List Value)[j]? := fun j hj => by
          rw [← k4 j hj, Go.WideShapes.add_plain, Go.WideShapes.add_plain]
        exact ⟨c 0 (by omega), c 1 (by omega), c 2 (by omega), c 3 (by omega), c 4 (by omega), c 5 (by omega), c 6 (by omega), _, _, c 7 (by omega), k2.2.1, k2.2.2.1, k2.2.2.2.1, k2.2.2.2.2.1⟩
    · rw [eg i hi]
      exact (hff i (by omega)).1
    · obtain ⟨rfl, rfl⟩ := Prod.mk.inj hy
      simp only [Rows.uptoBulk]
      have h9 := sum_blkm (f := fun i => (f i).1) (D := D) (n := len) (fun i hi => (hff i (by omega)).2.2.1)
      omega
end
end Go.Proofs.YtabboioamdphmaaGreatDoor
/- A configuration that comes in. -/
namespace Go.Proofs.YtabboioamdphmaaGreatDoor
open Go.RowKit Go.ChangeShapes Go.WideShapes

/-- What the walk is told of a configuration that came in. -/
structure CfgIn (w : World) (n k : Int) (a : Option Addr) (len cap : Nat) (L : List ByteArray) : Prop where
  n_ : -9223372036854775808 ≤ n ∧ n ≤ 9223372036854775807
  k_ : -9223372036854775808 ≤ k ∧ k ≤ 9223372036854775807
  t_ : TxsIn w a len cap L
set_option maxRecDepth 100000 in
theorem open_config {H : Type} {enc : TypeId × Value → H} {W : World} {base : Nat} {v : Value} {d : DataW H} {p : List MemPlace} (hv : Value.okWide Tryz.prog W .any base 24 v) (h : DataW.Trod enc Tryz.prog W 0 (fun _ => true) true 24 v d p) :
    ∃ n k a len cap L, v = .agg #[.int .i64 n, .int .i64 k, .slice a len cap] ∧ CfgIn W n k a len cap L := by
  obtain ⟨v0, v1, v2, y0, y1, y2, m, rfl, _, _, h0, h1, h2⟩ := Joins.open_agg3 Tryz.underlying24 (by kernel_rfl) (by kernel_rfl) hv h
  obtain ⟨n, e0, _, w0⟩ := DataW.trod_int Tryz.underlying3 h0
  obtain ⟨k, e1, _, w1⟩ := DataW.trod_int Tryz.underlying3 h1
  obtain ⟨a, len, cap, L, e2, hL⟩ := texts_of_trod h2
  simp at e0 e1
  subst e0 e1 e2
  exact ⟨n, k, a, len, cap, L, rfl, bounds_i64 w0, bounds_i64 w1, hL⟩
/-- What the walk is told of a tag that came in. -/
def TagIn (n m : Int) : Prop := (-9223372036854775808 ≤ n ∧ n ≤ 9223372036854775807) ∧ (-9223372036854775808 ≤ m ∧ m ≤ 9223372036854775807)
set_option maxRecDepth 100000 in
theorem open_tag {H : Type} {enc : TypeId × Value → H} {W : World} {base : Nat} {v : Value} {d : DataW H} {p : List MemPlace} (hv : Value.okWide Tryz.prog W .any base 44 v) (h : DataW.Trod enc Tryz.prog W 0 (fun _ => true) true 44 v d p) :
    ∃ n m, v = .agg #[.int .i64 n, .int .i64 m] ∧ TagIn n m := by
  obtain ⟨v0, v1, y0, y1, k, rfl, _, _, h0, h1⟩ := Joins.open_agg2 Tryz.underlying44 (by kernel_rfl) (by kernel_rfl) hv h
  obtain ⟨n, e0, _, w0⟩ := DataW.trod_int Tryz.underlying3 h0
  obtain ⟨m, e1, _, w1⟩ := DataW.trod_int Tryz.underlying3 h1
  simp at e0 e1
  subst e0 e1
  exact ⟨n, m, rfl, bounds_i64 w0, bounds_i64 w1⟩
end Go.Proofs.YtabboioamdphmaaGreatDoor
/- A bid that comes in. -/
namespace Go.Proofs.YtabboioamdphmaaGreatDoor
section
open Go.RowKit Go.ChangeShapes Go.WideShapes

variable {H : Type} {enc : TypeId × Value → H} {W : World}
/-- What the walk is told of a bid that came in. -/
structure BidIn (w : World) (who op cf n k : Int) (a : Option Addr) (len cap : Nat) (L : List ByteArray) (key text : ByteArray) : Prop where
  who_ : Int64 who
  op_ : Int64 op
  cf_ : Int64 cf
  c_ : CfgIn w n k a len cap L
  key_ : key.size ≤ maxLen
  text_ : text.size ≤ maxLen
theorem list7' {α : Type} {l : List α} (h : l.length = 7) : ∃ a b c d e f g, l = [a, b, c, d, e, f, g] := by
  match l, h with
  | [a, b, c, d, e, f, g], _ => exact ⟨a, b, c, d, e, f, g, rfl⟩
theorem list9' {α : Type} {l : List α} (h : l.length = 9) : ∃ a b c d e f g x y, l = [a, b, c, d, e, f, g, x, y] := by
  match l, h with
  | [a, b, c, d, e, f, g, x, y], _ => exact ⟨a, b, c, d, e, f, g, x, y, rfl⟩
set_option maxRecDepth 10000 in
theorem bid_trod {n : Nat} {cs : List Value} {y : DataW H × List MemPlace} (h : DataW.trod enc Tryz.prog W 0 (fun _ => true) true n 64 cs = some y) :
    ∃ pt who op cf n k a len cap L key text, cs = [.bool pt, .int .i64 who, .int .i64 op, .int .i64 cf, .int .i64 n, .int .i64 k, .slice a len cap, .string key, .string text] ∧ BidIn W who op cf n k a len cap L key text := by
  obtain ⟨xs, k, hk, hxy, hcl, hxl, hf⟩ := DataW.trod_struct Tryz.underlying64 h
  have ec : Tryz.prog.cellsOf 64 = 9 := by kernel_rfl
  rw [ec] at hcl
  obtain ⟨v0, v1, v2, v3, v4, v5, v6, v7, v8, rfl⟩ := list9' hcl
  obtain ⟨y0, y1, y2, y3, y4, y5, y6, rfl⟩ := list7' hxl
  have cI : Tryz.prog.cellsOf 3 = 1 := by kernel_rfl
  have cX : Tryz.prog.cellsOf 9 = 1 := by kernel_rfl
  have cB : Tryz.prog.cellsOf 4 = 1 := by kernel_rfl
  have cC : Tryz.prog.cellsOf 24 = 3 := by kernel_rfl
  have cL : Tryz.prog.cellsOf 22 = 1 := by kernel_rfl
  have g0 : DataW.trod enc Tryz.prog W 0 (fun _ => true) true k 4 ((([v0, v1, v2, v3, v4, v5, v6, v7, v8] : List Value).drop 0).take (Tryz.prog.cellsOf 4)) = some y0 := hf 0 _ rfl
  have g1 : DataW.trod enc Tryz.prog W 0 (fun _ => true) true k 3 ((([v0, v1, v2, v3, v4, v5, v6, v7, v8] : List Value).drop 1).take (Tryz.prog.cellsOf 3)) = some y1 := hf 1 _ rfl
  have g2 : DataW.trod enc Tryz.prog W 0 (fun _ => true) true k 3 ((([v0, v1, v2, v3, v4, v5, v6, v7, v8] : List Value).drop 2).take (Tryz.prog.cellsOf 3)) = some y2 := hf 2 _ rfl
  have g3 : DataW.trod enc Tryz.prog W 0 (fun _ => true) true k 3 ((([v0, v1, v2, v3, v4, v5, v6, v7, v8] : List Value).drop 3).take (Tryz.prog.cellsOf 3)) = some y3 := hf 3 _ rfl
  have g4 : DataW.trod enc Tryz.prog W 0 (fun _ => true) true k 24 ((([v0, v1, v2, v3, v4, v5, v6, v7, v8] : List Value).drop 4).take (Tryz.prog.cellsOf 24)) = some y4 := hf 4 _ rfl
  have g5 : DataW.trod enc Tryz.prog W 0 (fun _ => true) true k 9 ((([v0, v1, v2, v3, v4, v5, v6, v7, v8] : List Value).drop 7).take (Tryz.prog.cellsOf 9)) = some y5 := hf 5 _ rfl
  have g6 : DataW.trod enc Tryz.prog W 0 (fun _ => true) true k 9 ((([v0, v1, v2, v3, v4, v5, v6, v7, v8] : List Value).drop 8).take (Tryz.prog.cellsOf 9)) = some y6 := hf 6 _ rfl
  rw [cB] at g0
  rw [cI] at g1 g2 g3
  rw [cC] at g4
  rw [cX] at g5 g6
  have g4' : DataW.trod enc Tryz.prog W 0 (fun _ => true) true k 24 [v4, v5, v6] = some y4 := g4
  obtain ⟨xs2, k2, _, _, _, hxl2, hf2⟩ := DataW.trod_struct Tryz.underlying24 g4'
  obtain ⟨z0, z1, z2, rfl⟩ := list3 hxl2
  have e0 : DataW.trod enc Tryz.prog W 0 (fun _ => true) true k2 3 ((([v4, v5, v6] : List Value).drop 0).take (Tryz.prog.cellsOf 3)) = some z0 := hf2 0 _ rfl
  have e1 : DataW.trod enc Tryz.prog W 0 (fun _ => true) true k2 3 ((([v4, v5, v6] : List Value).drop 1).take (Tryz.prog.cellsOf 3)) = some z1 := hf2 1 _ rfl
  have e2 : DataW.trod enc Tryz.prog W 0 (fun _ => true) true k2 22 ((([v4, v5, v6] : List Value).drop 2).take (Tryz.prog.cellsOf 22)) = some z2 := hf2 2 _ rfl
  rw [cI] at e0 e1
  rw [cL] at e2
  obtain ⟨b0, q0, _⟩ := DataW.trod_bool Tryz.underlying4 (show DataW.trod enc Tryz.prog W 0 (fun _ => true) true k 4 [v0] = some y0 from g0)
  obtain ⟨n1, q1, _, w1⟩ := DataW.trod_int Tryz.underlying3 (show DataW.trod enc Tryz.prog W 0 (fun _ => true) true k 3 [v1] = some y1 from g1)
  obtain ⟨n2, q2, _, w2⟩ := DataW.trod_int Tryz.underlying3 (show DataW.trod enc Tryz.prog W 0 (fun _ => true) true k 3 [v2] = some y2 from g2)
  obtain ⟨n3, q3, _, w3⟩ := DataW.trod_int Tryz.underlying3 (show DataW.trod enc Tryz.prog W 0 (fun _ => true) true k 3 [v3] = some y3 from g3)
  obtain ⟨s5, q7, _, h5⟩ := DataW.trod_string Tryz.underlying9 (show DataW.trod enc Tryz.prog W 0 (fun _ => true) true k 9 [v7] = some y5 from g5)
  obtain ⟨s6, q8, _, h6⟩ := DataW.trod_string Tryz.underlying9 (show DataW.trod enc Tryz.prog W 0 (fun _ => true) true k 9 [v8] = some y6 from g6)
  obtain ⟨n4, q4, _, w4⟩ := DataW.trod_int Tryz.underlying3 (show DataW.trod enc Tryz.prog W 0 (fun _ => true) true k2 3 [v4] = some z0 from e0)
  obtain ⟨n5, q5, _, w5⟩ := DataW.trod_int Tryz.underlying3 (show DataW.trod enc Tryz.prog W 0 (fun _ => true) true k2 3 [v5] = some z1 from e1)
  obtain ⟨a, len, cap, L, q6, hL⟩ := texts_of_trod (show DataW.trod enc Tryz.prog W 0 (fun _ => true) true k2 22 [v6] = some z2 from e2)
  simp at q0 q1 q2 q3 q4 q5 q7 q8
  subst q0 q1 q2 q3 q4 q5 q6 q7 q8
  exact ⟨b0, n1, n2, n3, n4, n5, a, len, cap, L, s5, s6, rfl, bounds_i64 w1, bounds_i64 w2, bounds_i64 w3, ⟨bounds_i64 w4, bounds_i64 w5, hL⟩, h5, h6⟩
set_option maxRecDepth 100000 in
theorem open_bid {base : Nat} {v : Value} {d : DataW H} {p : List MemPlace} (hv : Value.okWide Tryz.prog W .any base 64 v) (h : DataW.Trod enc Tryz.prog W 0 (fun _ => true) true 64 v d p) :
    ∃ pt who op cf n k a len cap L key text, v = .agg #[.bool pt, .int .i64 who, .int .i64 op, .int .i64 cf, .int .i64 n, .int .i64 k, .slice a len cap, .string key, .string text] ∧ BidIn W who op cf n k a len cap L key text := by
  obtain ⟨cs, rfl, hsz⟩ := Go.WideShapes.okWide_struct Tryz.underlying64 hv
  obtain ⟨fuel, hf⟩ := h
  obtain ⟨pt, who, op, cf, n, k, a, len, cap, L, key, text, e, hin⟩ := bid_trod hf
  refine ⟨pt, who, op, cf, n, k, a, len, cap, L, key, text, ?_, hin⟩
  have e2 : cs.toList = [.bool pt, .int .i64 who, .int .i64 op, .int .i64 cf, .int .i64 n, .int .i64 k, .slice a len cap, .string key, .string text] := by simpa [Value.cells] using e
  congr 1
  exact Array.toList_inj.1 e2
end
end Go.Proofs.YtabboioamdphmaaGreatDoor
