/- The document's Unwire. Printed by gen_wrh.py. -/
import Derived.Test.YtgcnohejmofhkaaDoorWrG
namespace Go.Proofs.YtgcnohejmofhkaaDoor
section
open Go.RowKit

theorem decB_chain {t : ByteArray} {p1 p2 p3 p4 : Option (ByteArray × ByteArray)} {p5 p6 p7 p8 : Option (Nat × ByteArray)} (h1 : (some t).bind eyeT = p1) (h2 : (p1.map Prod.snd).bind eyeT = p2) (h3 : (p2.map Prod.snd).bind eyeT = p3) (h4 : (p3.map Prod.snd).bind eyeT = p4) (h5 : (p4.map Prod.snd).bind eyeN = p5) (h6 : (p5.map Prod.snd).bind eyeN = p6) (h7 : (p6.map Prod.snd).bind eyeN = p7) (h8 : (p7.map Prod.snd).bind eyeN = p8) :
    decB t = match (p8.map Prod.snd).bind (eyeL (rdv 0 p8)) with | some (L, s9) => if rdv 0 p7 < 2 ∧ s9.size = 0 then some ⟨rdv ⟨#[]⟩ p1, rdv ⟨#[]⟩ p2, rdv ⟨#[]⟩ p3, rdv ⟨#[]⟩ p4, (rdv 0 p5 : Nat), (rdv 0 p6 : Nat), decide (rdv 0 p7 = 1), L⟩ else none | none => none := by
  unfold decB
  have h1 : eyeT t = p1 := h1
  rw [h1]
  cases p1 with
  | none =>
    subst h2 h3 h4 h5 h6 h7 h8
    rfl
  | some q1 =>
  obtain ⟨v1, s1⟩ := q1
  dsimp only
  have h2 : eyeT s1 = p2 := h2
  rw [h2]
  cases p2 with
  | none =>
    subst h3 h4 h5 h6 h7 h8
    rfl
  | some q2 =>
  obtain ⟨v2, s2⟩ := q2
  dsimp only
  have h3 : eyeT s2 = p3 := h3
  rw [h3]
  cases p3 with
  | none =>
    subst h4 h5 h6 h7 h8
    rfl
  | some q3 =>
  obtain ⟨v3, s3⟩ := q3
  dsimp only
  have h4 : eyeT s3 = p4 := h4
  rw [h4]
  cases p4 with
  | none =>
    subst h5 h6 h7 h8
    rfl
  | some q4 =>
  obtain ⟨v4, s4⟩ := q4
  dsimp only
  have h5 : eyeN s4 = p5 := h5
  rw [h5]
  cases p5 with
  | none =>
    subst h6 h7 h8
    rfl
  | some q5 =>
  obtain ⟨v5, s5⟩ := q5
  dsimp only
  have h6 : eyeN s5 = p6 := h6
  rw [h6]
  cases p6 with
  | none =>
    subst h7 h8
    rfl
  | some q6 =>
  obtain ⟨v6, s6⟩ := q6
  dsimp only
  have h7 : eyeN s6 = p7 := h7
  rw [h7]
  cases p7 with
  | none =>
    subst h8
    rfl
  | some q7 =>
  obtain ⟨v7, s7⟩ := q7
  dsimp only
  by_cases hsl : v7 < 2
  · rw [if_pos hsl]
    have h8 : eyeN s7 = p8 := h8
    rw [h8]
    cases p8 with
    | none =>
      skip
      rfl
    | some q8 =>
    obtain ⟨v8, s8⟩ := q8
    dsimp only
    show _ = match (eyeL v8 s8) with | some (L, s9) => if v7 < 2 ∧ s9.size = 0 then some (⟨v1, v2, v3, v4, (v5 : Nat), (v6 : Nat), decide (v7 = 1), L⟩ : Msg) else none | none => none
    cases eyeL v8 s8 with
    | none => rfl
    | some q =>
      dsimp only
      by_cases h0 : q.2.size = 0
      · rw [if_pos h0, if_pos ⟨hsl, h0⟩]
      · rw [if_neg h0, if_neg (fun h => h0 h.2)]
  · rw [if_neg hsl]
    show _ = match (p8.map Prod.snd).bind (eyeL (rdv 0 p8)) with | some (L, s9) => if v7 < 2 ∧ s9.size = 0 then some (⟨v1, v2, v3, v4, (v5 : Nat), (v6 : Nat), decide (v7 = 1), L⟩ : Msg) else none | none => none
    cases (p8.map Prod.snd).bind (eyeL (rdv 0 p8)) with
    | none => rfl
    | some q => exact (if_neg (fun h => hsl h.1)).symm
def Fit (o : Option ByteArray) : Prop := ∀ s, o = some s → s.size ≤ 4000
theorem Fit.t {o : Option ByteArray} (h : Fit o) {p : Option (ByteArray × ByteArray)} (hp : o.bind eyeT = p) : Fit (p.map Prod.snd) := fun s hs => by
  cases o with
  | none => subst hp; cases hs
  | some q =>
    have hp : eyeT q = p := hp
    cases p with
    | none => cases hs
    | some z =>
      have h1 := h q rfl
      have h2 := (eyeT_size (t := z.1) (r := z.2) hp).1
      have h3 : z.2 = s := Option.some.inj hs
      rw [← h3]
      omega
theorem Fit.n {o : Option ByteArray} (h : Fit o) {p : Option (Nat × ByteArray)} (hp : o.bind eyeN = p) : Fit (p.map Prod.snd) := fun s hs => by
  cases o with
  | none => subst hp; cases hs
  | some q =>
    have hp : eyeN q = p := hp
    cases p with
    | none => cases hs
    | some z =>
      have h1 := h q rfl
      have h2 := (eyeN_size (n := z.1) (r := z.2) hp).1
      have h3 : z.2 = s := Option.some.inj hs
      rw [← h3]
      omega
theorem Fit.big {o : Option ByteArray} (h : Fit o) : ∀ s, o = some s → s.size ≤ 1000000 := fun s hs => by have := h s hs; omega
theorem rdv_lt {o : Option ByteArray} {p : Option (Nat × ByteArray)} (hp : o.bind eyeN = p) : rdv 0 p < 9223372036854775808 := by
  cases p with
  | none => simp [rdv]
  | some z =>
    cases o with
    | none => cases hp
    | some q => exact (eyeN_size (n := z.1) (r := z.2) (s := q) hp).2
/-- the document's number of an error. -/
def codeN : Option Nat → Nat
  | none => 0
  | some i => i + 1
/-- what Unwire hands back. -/
def UnwP (w w' : World) (r : Msg × Option Nat) (e : Ending) : Prop :=
  Below w.heap.size w w' ∧ ∃ v, e = .returned (.tuple #[.agg #[.string r.1.fr, .string r.1.dst, .string r.1.kind, .string r.1.key, .int .i64 r.1.op, .int .i64 r.1.cf, .bool r.1.sl, v], .int .i64 (codeN r.2 : Nat)]) ∧ OwnV w.heap.size w' v r.1.L
theorem unw_zero (w : World) : Below w.heap.size w (w.alloc (.cells zeroM 24)) ∧ (w.alloc (.cells zeroM 24)).heap[w.heap.size]? = some (.cells zeroM 24 (0, 0)) := ⟨(Below.refl _ _).alloc (Nat.le_refl _) _, heap_alloc_new _ _⟩
set_option maxRecDepth 100000 in
set_option maxHeartbeats 4000000 in
theorem unw_close {R : Ending → World → Prop} {WF : World} {rb : Nat} {a0 a1 a2 a3 a4 a5 a6 a7 : Value} {c : Int} {tm : Array Value} (h : WF.heap[rb]? = some (.cells #[a0, a1, a2, a3, a4, a5, a6, a7] 24 (0, 0))) (h2 : tm[2]?.getD undef = .pointer (some ⟨rb, 0, none⟩)) (h3 : tm[3]?.getD undef = .int .i64 c)
    (hR : R (.returned (.tuple #[.agg #[a0, a1, a2, a3, a4, a5, a6, a7], .int .i64 c])) WF) : bodyPost Tryd.prog Tryd.f15 R Exit.ret { tmps := tm, defers := [] } WF := by
  have y0 := cell_of_heap h 0
  have y1 := cell_of_heap h 1
  have y2 := cell_of_heap h 2
  have y3 := cell_of_heap h 3
  have y4 := cell_of_heap h 4
  have y5 := cell_of_heap h 5
  have y6 := cell_of_heap h 6
  have y7 := cell_of_heap h 7
  exact bodyPost_ret (v := .tuple #[.agg #[a0, a1, a2, a3, a4, a5, a6, a7], .int .i64 c]) (by simp [results, Tryd.results15, go_sem, h2, h3, y0, y1, y2, y3, y4, y5, y6, y7]) rfl hR
set_option maxRecDepth 100000 in
set_option maxHeartbeats 8000000 in
theorem unwire_long (w : World) (s : ByteArray) (hs : 4000 < s.size) :
    Calls Tryd.prog 15 #[.string s] w fun e w' => UnwP w w' (msg0, some 0) e := by
  have hsi : (4000 : Int) < s.size := by omega
  obtain ⟨hb, hm⟩ := unw_zero w
  unfold zeroM at hb hm
  obtain ⟨W2, hW2⟩ : ∃ W2, w.alloc (.cells #[.string ⟨#[]⟩, .string ⟨#[]⟩, .string ⟨#[]⟩, .string ⟨#[]⟩, .int .i64 0, .int .i64 0, .bool false, .slice none 0 0] 24) = W2 := ⟨_, rfl⟩
  rw [hW2] at hb hm
  have H := Lib.hid (And.intro hb hm)
  have x0 := cell_of_heap hm 0
  have x1 := cell_of_heap hm 1
  have x2 := cell_of_heap hm 2
  have x3 := cell_of_heap hm 3
  have x4 := cell_of_heap hm 4
  have x5 := cell_of_heap hm 5
  have x6 := cell_of_heap hm 6
  have x7 := cell_of_heap hm 7
  have z0 := frozen_of_heap hm 0
  have z1 := frozen_of_heap hm 1
  have z2 := frozen_of_heap hm 2
  have z3 := frozen_of_heap hm 3
  have z4 := frozen_of_heap hm 4
  have z5 := frozen_of_heap hm 5
  have z6 := frozen_of_heap hm 6
  have z7 := frozen_of_heap hm 7
  clear hb hm
  go_enter Tryd.func15, Tryd.ntmps15
  go_wp2
  obtain ⟨q1, q2⟩ := store8 H.out.2 (.string ⟨#[]⟩) (.string ⟨#[]⟩) (.string ⟨#[]⟩) (.string ⟨#[]⟩) (.int .i64 0) (.int .i64 0) (.bool false) (.slice none 0 0)
  exact unw_close q2 rfl rfl ⟨H.out.1.trans (q1.below H.out.1.size (fun k e => by omega)), _, rfl, OwnV.nil _ _⟩
set_option maxRecDepth 100000 in
set_option maxHeartbeats 8000000 in
theorem unwire_bad (w : World) (s x : ByteArray) (i : Nat) (hs : s.size ≤ 4000) (hO : ∀ W, Below w.heap.size w W → Calls Tryd.prog 30 #[.string s] W fun e W' => e = .returned (.tuple #[.string x, .int .i64 ((codeN (some i) : Nat) : Int)]) ∧ Below W.heap.size W W') :
    Calls Tryd.prog 15 #[.string s] w fun e w' => UnwP w w' (msg0, some i) e := by
  have hsi : ¬ (4000 : Int) < s.size := by omega
  obtain ⟨c, hc⟩ : ∃ c, codeN (some i) = c := ⟨_, rfl⟩
  have hc0 : 0 < c := by rw [← hc]; simp [codeN]
  have hci : (0 : Int) < c := by omega
  have hcP : ∀ (W : World) (v : Value), Below w.heap.size w W → v = .int .i64 (c : Int) → UnwP w W (msg0, some i) (.returned (.tuple #[.agg #[.string ⟨#[]⟩, .string ⟨#[]⟩, .string ⟨#[]⟩, .string ⟨#[]⟩, .int .i64 0, .int .i64 0, .bool false, .slice none 0 0], v])) := fun W v hb hv => by
    subst hv
    exact ⟨hb, _, by rw [hc]; rfl, OwnV.nil _ _⟩
  have HP := Lib.hid hcP
  rw [hc] at hO
  obtain ⟨hb, hm⟩ := unw_zero w
  unfold zeroM at hb hm
  obtain ⟨W2, hW2⟩ : ∃ W2, w.alloc (.cells #[.string ⟨#[]⟩, .string ⟨#[]⟩, .string ⟨#[]⟩, .string ⟨#[]⟩, .int .i64 0, .int .i64 0, .bool false, .slice none 0 0] 24) = W2 := ⟨_, rfl⟩
  rw [hW2] at hb hm
  have Ho := Lib.hid (hO W2 hb)
  have H := Lib.hid (And.intro hb hm)
  clear hb hm hO hcP hc
  go_enter Tryd.func15, Tryd.ntmps15
  go_wp2_with fail
  refine Ho.out.mono ?_
  rintro e W3 ⟨rfl, hb3⟩
  have hm3 := (hb3.block w.heap.size (Array.getElem?_eq_some_iff.1 H.out.2).1).trans H.out.2
  have hB3 : Below w.heap.size w W3 := H.out.1.trans (hb3.mono H.out.1.size)
  have H3 := Lib.hid (And.intro hB3 hm3)
  have x0 := cell_of_heap hm3 0
  have x1 := cell_of_heap hm3 1
  have x2 := cell_of_heap hm3 2
  have x3 := cell_of_heap hm3 3
  have x4 := cell_of_heap hm3 4
  have x5 := cell_of_heap hm3 5
  have x6 := cell_of_heap hm3 6
  have x7 := cell_of_heap hm3 7
  have z0 := frozen_of_heap hm3 0
  have z1 := frozen_of_heap hm3 1
  have z2 := frozen_of_heap hm3 2
  have z3 := frozen_of_heap hm3 3
  have z4 := frozen_of_heap hm3 4
  have z5 := frozen_of_heap hm3 5
  have z6 := frozen_of_heap hm3 6
  have z7 := frozen_of_heap hm3 7
  clear hb3 hm3 hB3
  go_wp2
  obtain ⟨q1, q2⟩ := store8 H3.out.2 (.string ⟨#[]⟩) (.string ⟨#[]⟩) (.string ⟨#[]⟩) (.string ⟨#[]⟩) (.int .i64 0) (.int .i64 0) (.bool false) (.slice none 0 0)
  exact unw_close q2 rfl rfl (HP.out _ _ (H3.out.1.trans (q1.below H3.out.1.size (fun k e => by omega))) rfl)
theorem eyeV_chain {s : ByteArray} {p1 p2 p3 p4 : Option (Nat × ByteArray)} {p5 : Option (ByteArray × ByteArray)} (h1 : eyeN s = p1) (h2 : (p1.map Prod.snd).bind eyeN = p2) (h3 : (p2.map Prod.snd).bind eyeN = p3) (h4 : (p3.map Prod.snd).bind eyeN = p4) (h5 : (p4.map Prod.snd).bind eyeT = p5) :
    eyeV s = (p5.map Prod.snd).map fun r => ((((rdv 0 p1 : Nat), (rdv 0 p2 : Nat), (rdv 0 p3 : Nat), (rdv 0 p4 : Nat), rdv ⟨#[]⟩ p5) : Ver), r) := by
  unfold eyeV
  have h1 : eyeN s = p1 := h1
  rw [h1]
  cases p1 with
  | none =>
    subst h2 h3 h4 h5
    rfl
  | some q1 =>
  obtain ⟨v1, s1⟩ := q1
  dsimp only
  have h2 : eyeN s1 = p2 := h2
  rw [h2]
  cases p2 with
  | none =>
    subst h3 h4 h5
    rfl
  | some q2 =>
  obtain ⟨v2, s2⟩ := q2
  dsimp only
  have h3 : eyeN s2 = p3 := h3
  rw [h3]
  cases p3 with
  | none =>
    subst h4 h5
    rfl
  | some q3 =>
  obtain ⟨v3, s3⟩ := q3
  dsimp only
  have h4 : eyeN s3 = p4 := h4
  rw [h4]
  cases p4 with
  | none =>
    subst h5
    rfl
  | some q4 =>
  obtain ⟨v4, s4⟩ := q4
  dsimp only
  have h5 : eyeT s4 = p5 := h5
  rw [h5]
  cases p5 with
  | none =>
    rfl
  | some q5 =>
  obtain ⟨v5, s5⟩ := q5
  dsimp only
  rfl
/-- the state of Unwire's loop. -/
def UlAt (w : World) (eb mb : Nat) (fr dst kind key : ByteArray) (op cf many : Nat) (o8 : Option ByteArray) (wr : World) (i : Nat) (o : Option ByteArray) (v : Value) (A : List Ver) : Prop :=
  RdAt wr eb o ∧ wr.heap[mb]? = some (.cells #[.string fr, .string dst, .string kind, .string key, .int .i64 (op : Int), .int .i64 (cf : Int), .bool false, v] 24 (0, 0)) ∧ OwnV w.heap.size wr v A ∧ Below w.heap.size w wr ∧ A.length = i ∧ (∀ s, o = some s → s.size + 40 * i ≤ 4000) ∧ wr.heap[w.heap.size]? = some (.cells #[.string ⟨#[]⟩, .string ⟨#[]⟩, .string ⟨#[]⟩, .string ⟨#[]⟩, .int .i64 0, .int .i64 0, .bool false, .slice none 0 0] 24 (0, 0)) ∧ o8.bind (eyeL many) = o.bind fun s => (eyeL (many - i) s).map fun p => (A ++ p.1, p.2)
theorem ul_next {many i : Nat} {s : ByteArray} {A : List Ver} (hi : i < many) {x : Ver} {o : Option ByteArray} (hV : eyeV s = o.map fun r => (x, r)) :
    ((some s).bind fun s => (eyeL (many - i) s).map fun p => (A ++ p.1, p.2)) = o.bind fun r => (eyeL (many - (i + 1)) r).map fun p => ((A ++ [x]) ++ p.1, p.2) := by
  show (eyeL (many - i) s).map _ = _
  rw [show many - i = (many - (i + 1)) + 1 by omega]
  simp only [eyeL, hV]
  cases o with
  | none => rfl
  | some r =>
    simp only [Option.map_some, Option.bind_some]
    cases eyeL (many - (i + 1)) r with
    | none => rfl
    | some q => simp
theorem ul_size {i : Nat} {s : ByteArray} (hs : s.size + 40 * i ≤ 4000) {x : Ver} {o : Option ByteArray} (hV : eyeV s = o.map fun r => (x, r)) : ∀ r, o = some r → r.size + 40 * (i + 1) ≤ 4000 := fun r hr => by
  subst hr
  have := eyeV_size (s := s) (r := r) (x := x) hV
  omega
set_option maxRecDepth 100000 in
set_option maxHeartbeats 16000000 in
theorem unwire_ok (w : World) (s t : ByteArray) (hs : s.size ≤ 4000) (ht : t.size ≤ 4000) (hO : ∀ W, Below w.heap.size w W → Calls Tryd.prog 30 #[.string s] W fun e W' => e = .returned (.tuple #[.string t, .int .i64 0]) ∧ Below W.heap.size W W') :
    Calls Tryd.prog 15 #[.string s] w fun e w' => UnwP w w' (decR (decB t)) e := by
  have hsi : ¬ (4000 : Int) < s.size := by omega
  obtain ⟨hb, hm⟩ := unw_zero w
  unfold zeroM at hb hm
  obtain ⟨W2, hW2⟩ : ∃ W2, w.alloc (.cells #[.string ⟨#[]⟩, .string ⟨#[]⟩, .string ⟨#[]⟩, .string ⟨#[]⟩, .int .i64 0, .int .i64 0, .bool false, .slice none 0 0] 24) = W2 := ⟨_, rfl⟩
  rw [hW2] at hb hm
  have Ho := Lib.hid (hO W2 hb)
  have H := Lib.hid (And.intro hb hm)
  clear hb hm hO
  go_enter Tryd.func15, Tryd.ntmps15
  go_wp2_with fail
  refine Ho.out.mono ?_
  rintro e W3 ⟨rfl, hb3⟩
  have hz3 := (hb3.block w.heap.size (Array.getElem?_eq_some_iff.1 H.out.2).1).trans H.out.2
  have hB3 : Below w.heap.size w W3 := H.out.1.trans (hb3.mono H.out.1.size)
  have hrb3 := (Array.getElem?_eq_some_iff.1 hz3).1
  clear hb3
  have hr0 : RdAt ((W3.alloc (.cells #[.string t, .bool false] 80)).alloc (.cells #[.string ⟨#[]⟩, .string ⟨#[]⟩, .string ⟨#[]⟩, .string ⟨#[]⟩, .int .i64 0, .int .i64 0, .bool false, .slice none 0 0] 24)) W3.heap.size (some t) := (Below.heap_alloc _ _ _ (by simp)).trans (heap_alloc_new W3 _)
  have hm0 : ((W3.alloc (.cells #[.string t, .bool false] 80)).alloc (.cells #[.string ⟨#[]⟩, .string ⟨#[]⟩, .string ⟨#[]⟩, .string ⟨#[]⟩, .int .i64 0, .int .i64 0, .bool false, .slice none 0 0] 24)).heap[W3.heap.size + 1]? = some (.cells #[.string ⟨#[]⟩, .string ⟨#[]⟩, .string ⟨#[]⟩, .string ⟨#[]⟩, .int .i64 0, .int .i64 0, .bool false, .slice none 0 0] 24 (0, 0)) := by
    rw [show W3.heap.size + 1 = (W3.alloc (.cells #[.string t, .bool false] 80)).heap.size by simp]
    exact heap_alloc_new _ _
  have hb0 : Below W3.heap.size W3 ((W3.alloc (.cells #[.string t, .bool false] 80)).alloc (.cells #[.string ⟨#[]⟩, .string ⟨#[]⟩, .string ⟨#[]⟩, .string ⟨#[]⟩, .int .i64 0, .int .i64 0, .bool false, .slice none 0 0] 24)) := ((Below.refl _ _).alloc (Nat.le_refl _) _).alloc (by simp) _
  have hz0 := (hb0.block _ hrb3).trans hz3
  have hB0 := hB3.trans (hb0.mono hB3.size)
  have hf0 : Fit (some t) := fun q hq => by cases hq; exact ht
  have Hy1 := Lib.hid (rtext_walk _ _ _ hr0 hf0.big)
  clear hb0 hr0
  go_wp2_with fail
  obtain ⟨eb, heb⟩ : ∃ eb, W3.heap.size = eb := ⟨_, rfl⟩
  have hbe : w.heap.size < eb := by omega
  obtain ⟨Wx0, hWx0⟩ : ∃ W, ((W3.alloc (.cells #[.string t, .bool false] 80)).alloc (.cells #[.string ⟨#[]⟩, .string ⟨#[]⟩, .string ⟨#[]⟩, .string ⟨#[]⟩, .int .i64 0, .int .i64 0, .bool false, .slice none 0 0] 24)) = W := ⟨_, rfl⟩
  rw [heb, hWx0] at Hy1 hm0 ⊢
  rw [hWx0] at hz0 hB0
  clear hWx0 hrb3 hz3 hB3
  obtain ⟨p1, hp1⟩ : ∃ p, (some t).bind eyeT = p := ⟨_, rfl⟩
  rw [hp1] at Hy1
  refine Hy1.out.mono ?_
  rintro e Y1 ⟨rfl, hry1, hk1⟩
  obtain ⟨v1, hv1⟩ : ∃ v, rdv ⟨#[]⟩ p1 = v := ⟨_, rfl⟩
  rw [hv1]
  have hf1 : Fit (p1.map Prod.snd) := hf0.t hp1
  have hmy1 := hk1.heap hm0 (fun e => by omega)
  have hzy1 := hk1.heap hz0 (fun e => by omega)
  have hBy1 : Below w.heap.size w Y1 := hB0.trans (hk1.below hB0.size (fun k e => by omega))
  have cx1 := cell_of_heap hmy1 0
  have zx1 := frozen_of_heap hmy1 0
  obtain ⟨Wx1, hWx1⟩ : ∃ W, Y1.setCell ⟨eb + 1, 0, none⟩ (.string v1) = W := ⟨_, rfl⟩
  have hst1 : KeptBut (fun b => b = eb + 1) Y1 Wx1 := by rw [← hWx1]; exact (KeptBut.refl (fun b => b = eb + 1) Y1).set1 (p := ⟨eb + 1, 0, none⟩) rfl _
  have hm1 : Wx1.heap[eb + 1]? = some (.cells #[.string v1, .string ⟨#[]⟩, .string ⟨#[]⟩, .string ⟨#[]⟩, .int .i64 0, .int .i64 0, .bool false, .slice none 0 0] 24 (0, 0)) := by rw [← hWx1]; exact (heap_setCell_same Y1 (eb + 1) 0 _ _ _ hmy1).trans (by simp)
  have hr1 : RdAt Wx1 eb (p1.map Prod.snd) := hry1.kept hst1 (fun e => by omega)
  have hz1 := hst1.heap hzy1 (fun e => by omega)
  have hB1 : Below w.heap.size w Wx1 := hBy1.trans (hst1.below hBy1.size (fun k e => by omega))
  have Hy2 := Lib.hid (rtext_walk Wx1 eb _ hr1 hf1.big)
  clear hk1 hmy1 hzy1 hBy1 hst1 hry1 hr1 hm0 hz0 hB0 Hy1
  go_wp2_with fail
  clear hWx1 cx1 zx1
  obtain ⟨p2, hp2⟩ : ∃ p, (p1.map Prod.snd).bind eyeT = p := ⟨_, rfl⟩
  rw [hp2] at Hy2
  refine Hy2.out.mono ?_
  rintro e Y2 ⟨rfl, hry2, hk2⟩
  obtain ⟨v2, hv2⟩ : ∃ v, rdv ⟨#[]⟩ p2 = v := ⟨_, rfl⟩
  rw [hv2]
  have hf2 : Fit (p2.map Prod.snd) := hf1.t hp2
  have hmy2 := hk2.heap hm1 (fun e => by omega)
  have hzy2 := hk2.heap hz1 (fun e => by omega)
  have hBy2 : Below w.heap.size w Y2 := hB1.trans (hk2.below hB1.size (fun k e => by omega))
  have cx2 := cell_of_heap hmy2 1
  have zx2 := frozen_of_heap hmy2 1
  obtain ⟨Wx2, hWx2⟩ : ∃ W, Y2.setCell ⟨eb + 1, 1, none⟩ (.string v2) = W := ⟨_, rfl⟩
  have hst2 : KeptBut (fun b => b = eb + 1) Y2 Wx2 := by rw [← hWx2]; exact (KeptBut.refl (fun b => b = eb + 1) Y2).set1 (p := ⟨eb + 1, 1, none⟩) rfl _
  have hm2 : Wx2.heap[eb + 1]? = some (.cells #[.string v1, .string v2, .string ⟨#[]⟩, .string ⟨#[]⟩, .int .i64 0, .int .i64 0, .bool false, .slice none 0 0] 24 (0, 0)) := by rw [← hWx2]; exact (heap_setCell_same Y2 (eb + 1) 1 _ _ _ hmy2).trans (by simp)
  have hr2 : RdAt Wx2 eb (p2.map Prod.snd) := hry2.kept hst2 (fun e => by omega)
  have hz2 := hst2.heap hzy2 (fun e => by omega)
  have hB2 : Below w.heap.size w Wx2 := hBy2.trans (hst2.below hBy2.size (fun k e => by omega))
  have Hy3 := Lib.hid (rtext_walk Wx2 eb _ hr2 hf2.big)
  clear hk2 hmy2 hzy2 hBy2 hst2 hry2 hr2 hm1 hz1 hB1 Hy2
  go_wp2_with fail
  clear hWx2 cx2 zx2
  obtain ⟨p3, hp3⟩ : ∃ p, (p2.map Prod.snd).bind eyeT = p := ⟨_, rfl⟩
  rw [hp3] at Hy3
  refine Hy3.out.mono ?_
  rintro e Y3 ⟨rfl, hry3, hk3⟩
  obtain ⟨v3, hv3⟩ : ∃ v, rdv ⟨#[]⟩ p3 = v := ⟨_, rfl⟩
  rw [hv3]
  have hf3 : Fit (p3.map Prod.snd) := hf2.t hp3
  have hmy3 := hk3.heap hm2 (fun e => by omega)
  have hzy3 := hk3.heap hz2 (fun e => by omega)
  have hBy3 : Below w.heap.size w Y3 := hB2.trans (hk3.below hB2.size (fun k e => by omega))
  have cx3 := cell_of_heap hmy3 2
  have zx3 := frozen_of_heap hmy3 2
  obtain ⟨Wx3, hWx3⟩ : ∃ W, Y3.setCell ⟨eb + 1, 2, none⟩ (.string v3) = W := ⟨_, rfl⟩
  have hst3 : KeptBut (fun b => b = eb + 1) Y3 Wx3 := by rw [← hWx3]; exact (KeptBut.refl (fun b => b = eb + 1) Y3).set1 (p := ⟨eb + 1, 2, none⟩) rfl _
  have hm3 : Wx3.heap[eb + 1]? = some (.cells #[.string v1, .string v2, .string v3, .string ⟨#[]⟩, .int .i64 0, .int .i64 0, .bool false, .slice none 0 0] 24 (0, 0)) := by rw [← hWx3]; exact (heap_setCell_same Y3 (eb + 1) 2 _ _ _ hmy3).trans (by simp)
  have hr3 : RdAt Wx3 eb (p3.map Prod.snd) := hry3.kept hst3 (fun e => by omega)
  have hz3 := hst3.heap hzy3 (fun e => by omega)
  have hB3 : Below w.heap.size w Wx3 := hBy3.trans (hst3.below hBy3.size (fun k e => by omega))
  have Hy4 := Lib.hid (rtext_walk Wx3 eb _ hr3 hf3.big)
  clear hk3 hmy3 hzy3 hBy3 hst3 hry3 hr3 hm2 hz2 hB2 Hy3
  go_wp2_with fail
  clear hWx3 cx3 zx3
  obtain ⟨p4, hp4⟩ : ∃ p, (p3.map Prod.snd).bind eyeT = p := ⟨_, rfl⟩
  rw [hp4] at Hy4
  refine Hy4.out.mono ?_
  rintro e Y4 ⟨rfl, hry4, hk4⟩
  obtain ⟨v4, hv4⟩ : ∃ v, rdv ⟨#[]⟩ p4 = v := ⟨_, rfl⟩
  rw [hv4]
  have hf4 : Fit (p4.map Prod.snd) := hf3.t hp4
  have hmy4 := hk4.heap hm3 (fun e => by omega)
  have hzy4 := hk4.heap hz3 (fun e => by omega)
  have hBy4 : Below w.heap.size w Y4 := hB3.trans (hk4.below hB3.size (fun k e => by omega))
  have cx4 := cell_of_heap hmy4 3
  have zx4 := frozen_of_heap hmy4 3
  obtain ⟨Wx4, hWx4⟩ : ∃ W, Y4.setCell ⟨eb + 1, 3, none⟩ (.string v4) = W := ⟨_, rfl⟩
  have hst4 : KeptBut (fun b => b = eb + 1) Y4 Wx4 := by rw [← hWx4]; exact (KeptBut.refl (fun b => b = eb + 1) Y4).set1 (p := ⟨eb + 1, 3, none⟩) rfl _
  have hm4 : Wx4.heap[eb + 1]? = some (.cells #[.string v1, .string v2, .string v3, .string v4, .int .i64 0, .int .i64 0, .bool false, .slice none 0 0] 24 (0, 0)) := by rw [← hWx4]; exact (heap_setCell_same Y4 (eb + 1) 3 _ _ _ hmy4).trans (by simp)
  have hr4 : RdAt Wx4 eb (p4.map Prod.snd) := hry4.kept hst4 (fun e => by omega)
  have hz4 := hst4.heap hzy4 (fun e => by omega)
  have hB4 : Below w.heap.size w Wx4 := hBy4.trans (hst4.below hBy4.size (fun k e => by omega))
  have Hy5 := Lib.hid (rnum_walk Wx4 eb _ hr4 hf4.big)
  clear hk4 hmy4 hzy4 hBy4 hst4 hry4 hr4 hm3 hz3 hB3 Hy4
  go_wp2_with fail
  clear hWx4 cx4 zx4
  obtain ⟨p5, hp5⟩ : ∃ p, (p4.map Prod.snd).bind eyeN = p := ⟨_, rfl⟩
  rw [hp5] at Hy5
  refine Hy5.out.mono ?_
  rintro e Y5 ⟨rfl, hry5, hk5⟩
  obtain ⟨v5, hv5⟩ : ∃ v, rdv (0 : Nat) p5 = v := ⟨_, rfl⟩
  rw [hv5]
  unfold intV
  have hf5 : Fit (p5.map Prod.snd) := hf4.n hp5
  have hmy5 := hk5.heap hm4 (fun e => by omega)
  have hzy5 := hk5.heap hz4 (fun e => by omega)
  have hBy5 : Below w.heap.size w Y5 := hB4.trans (hk5.below hB4.size (fun k e => by omega))
  have cx5 := cell_of_heap hmy5 4
  have zx5 := frozen_of_heap hmy5 4
  obtain ⟨Wx5, hWx5⟩ : ∃ W, Y5.setCell ⟨eb + 1, 4, none⟩ (.int .i64 (v5 : Int)) = W := ⟨_, rfl⟩
  have hst5 : KeptBut (fun b => b = eb + 1) Y5 Wx5 := by rw [← hWx5]; exact (KeptBut.refl (fun b => b = eb + 1) Y5).set1 (p := ⟨eb + 1, 4, none⟩) rfl _
  have hm5 : Wx5.heap[eb + 1]? = some (.cells #[.string v1, .string v2, .string v3, .string v4, .int .i64 (v5 : Int), .int .i64 0, .bool false, .slice none 0 0] 24 (0, 0)) := by rw [← hWx5]; exact (heap_setCell_same Y5 (eb + 1) 4 _ _ _ hmy5).trans (by simp)
  have hr5 : RdAt Wx5 eb (p5.map Prod.snd) := hry5.kept hst5 (fun e => by omega)
  have hz5 := hst5.heap hzy5 (fun e => by omega)
  have hB5 : Below w.heap.size w Wx5 := hBy5.trans (hst5.below hBy5.size (fun k e => by omega))
  have Hy6 := Lib.hid (rnum_walk Wx5 eb _ hr5 hf5.big)
  clear hk5 hmy5 hzy5 hBy5 hst5 hry5 hr5 hm4 hz4 hB4 Hy5
  go_wp2_with fail
  clear hWx5 cx5 zx5
  obtain ⟨p6, hp6⟩ : ∃ p, (p5.map Prod.snd).bind eyeN = p := ⟨_, rfl⟩
  rw [hp6] at Hy6
  refine Hy6.out.mono ?_
  rintro e Y6 ⟨rfl, hry6, hk6⟩
  obtain ⟨v6, hv6⟩ : ∃ v, rdv (0 : Nat) p6 = v := ⟨_, rfl⟩
  rw [hv6]
  unfold intV
  have hf6 : Fit (p6.map Prod.snd) := hf5.n hp6
  have hmy6 := hk6.heap hm5 (fun e => by omega)
  have hzy6 := hk6.heap hz5 (fun e => by omega)
  have hBy6 : Below w.heap.size w Y6 := hB5.trans (hk6.below hB5.size (fun k e => by omega))
  have cx6 := cell_of_heap hmy6 5
  have zx6 := frozen_of_heap hmy6 5
  obtain ⟨Wx6, hWx6⟩ : ∃ W, Y6.setCell ⟨eb + 1, 5, none⟩ (.int .i64 (v6 : Int)) = W := ⟨_, rfl⟩
  have hst6 : KeptBut (fun b => b = eb + 1) Y6 Wx6 := by rw [← hWx6]; exact (KeptBut.refl (fun b => b = eb + 1) Y6).set1 (p := ⟨eb + 1, 5, none⟩) rfl _
  have hm6 : Wx6.heap[eb + 1]? = some (.cells #[.string v1, .string v2, .string v3, .string v4, .int .i64 (v5 : Int), .int .i64 (v6 : Int), .bool false, .slice none 0 0] 24 (0, 0)) := by rw [← hWx6]; exact (heap_setCell_same Y6 (eb + 1) 5 _ _ _ hmy6).trans (by simp)
  have hr6 : RdAt Wx6 eb (p6.map Prod.snd) := hry6.kept hst6 (fun e => by omega)
  have hz6 := hst6.heap hzy6 (fun e => by omega)
  have hB6 : Below w.heap.size w Wx6 := hBy6.trans (hst6.below hBy6.size (fun k e => by omega))
  have Hy7 := Lib.hid (rnum_walk Wx6 eb _ hr6 hf6.big)
  clear hk6 hmy6 hzy6 hBy6 hst6 hry6 hr6 hm5 hz5 hB5 Hy6
  go_wp2_with fail
  clear hWx6 cx6 zx6
  obtain ⟨p7, hp7⟩ : ∃ p, (p6.map Prod.snd).bind eyeN = p := ⟨_, rfl⟩
  rw [hp7] at Hy7
  refine Hy7.out.mono ?_
  rintro e Y7 ⟨rfl, hry7, hk7⟩
  obtain ⟨v7, hv7⟩ : ∃ v, rdv (0 : Nat) p7 = v := ⟨_, rfl⟩
  rw [hv7]
  unfold intV
  have hf7 : Fit (p7.map Prod.snd) := hf6.n hp7
  have hmy7 := hk7.heap hm6 (fun e => by omega)
  have hzy7 := hk7.heap hz6 (fun e => by omega)
  have hBy7 : Below w.heap.size w Y7 := hB6.trans (hk7.below hB6.size (fun k e => by omega))
  have Hy8 := Lib.hid (rnum_walk Y7 eb _ hry7 hf7.big)
  have hm7 := hmy7
  have hz7 := hzy7
  have hB7 := hBy7
  clear hmy7 hzy7 hBy7 hk7 hry7 hm6 hz6 hB6 Hy7
  go_wp2_with fail
  obtain ⟨p8, hp8⟩ : ∃ p, (p7.map Prod.snd).bind eyeN = p := ⟨_, rfl⟩
  rw [hp8] at Hy8
  refine Hy8.out.mono ?_
  rintro e Y8 ⟨rfl, hry8, hk8⟩
  obtain ⟨v8, hv8⟩ : ∃ v, rdv (0 : Nat) p8 = v := ⟨_, rfl⟩
  rw [hv8]
  unfold intV
  have hf8 : Fit (p8.map Prod.snd) := hf7.n hp8
  have hmy8 := hk8.heap hm7 (fun e => by omega)
  have hzy8 := hk8.heap hz7 (fun e => by omega)
  have hBy8 : Below w.heap.size w Y8 := hB7.trans (hk8.below hB7.size (fun k e => by omega))
  have hvm : v8 < 9223372036854775808 := by rw [← hv8]; exact rdv_lt hp8
  have hmany : (v8 : Int) ≤ 9223372036854775807 := by omega
  have hdec := decB_chain hp1 hp2 hp3 hp4 hp5 hp6 hp7 hp8
  rw [hv1, hv2, hv3, hv4, hv5, hv6, hv7, hv8] at hdec
  obtain ⟨o8, ho8⟩ : ∃ o, p8.map Prod.snd = o := ⟨_, rfl⟩
  rw [ho8] at hdec hry8 hf8
  have Hdec := Lib.hid hdec
  have HI := Lib.hid (show UlAt w eb (eb + 1) v1 v2 v3 v4 v5 v6 v8 o8 Y8 0 o8 (.slice none 0 0) [] from ⟨hry8, hmy8, OwnV.nil _ _, hBy8, rfl, fun q hq => by have := hf8 q hq; omega, hzy8, by simp⟩)
  have Hbe := Lib.hid hbe
  clear hdec hp1 hp2 hp3 hp4 hp5 hp6 hp7 hp8 hv1 hv2 hv3 hv4 hv5 hv6 hv7 hv8 hf0 hf1 hf2 hf3 hf4 hf5 hf6 hf7 hf8 hk8 hry8 hmy8 hBy8 hzy8 hm7 hz7 hB7 ho8 Hy8 hvm hbe
  go_wp2
  go_loopw [10] (fun vi wr => ∃ (i : Nat), i ≤ v8 ∧ vi = .int .i64 i ∧ Hid (∃ o v A, UlAt w eb (eb + 1) v1 v2 v3 v4 v5 v6 v8 o8 wr i o v A)) (fun vi _ => v8 - (intOf vi).toNat)
  case atStart => exact ⟨0, by omega, rfl, Lib.hid ⟨_, _, _, HI.out⟩⟩
  case round =>
    obtain ⟨i, hi, rfl, Hr⟩ := hrel
    obtain ⟨o, v, A, hU⟩ := Hr.out
    have HU := Lib.hid hU
    obtain ⟨hr, hm, hO, hB, hAl, hsz, hz, hEq⟩ := hU
    clear Hr HI
    have hi2 : i < v8 ∨ i = v8 := by omega
    cases o with
    | none =>
      obtain ⟨q, hr⟩ := hr
      have d0 := cell_of_heap hr 0
      have d1 := cell_of_heap hr 1
      have hdc : decB t = none := by rw [Hdec.out, hEq]; rfl
      have x0 := cell_of_heap hz 0
      have z0 := frozen_of_heap hz 0
      have x1 := cell_of_heap hz 1
      have z1 := frozen_of_heap hz 1
      have x2 := cell_of_heap hz 2
      have z2 := frozen_of_heap hz 2
      have x3 := cell_of_heap hz 3
      have z3 := frozen_of_heap hz 3
      have x4 := cell_of_heap hz 4
      have z4 := frozen_of_heap hz 4
      have x5 := cell_of_heap hz 5
      have z5 := frozen_of_heap hz 5
      have x6 := cell_of_heap hz 6
      have z6 := frozen_of_heap hz 6
      have x7 := cell_of_heap hz 7
      have z7 := frozen_of_heap hz 7
      have HZ := Lib.hid (And.intro hz hB)
      clear hr hm hO hB hz hEq hAl hsz
      rcases hi2 with hilt | rfl
      all_goals
        try have hilt2 : (i : Int) < v8 := by omega
        go_wp2
        obtain ⟨q1, q2⟩ := store8 HZ.out.1 (.string ⟨#[]⟩) (.string ⟨#[]⟩) (.string ⟨#[]⟩) (.string ⟨#[]⟩) (.int .i64 0) (.int .i64 0) (.bool false) (.slice none 0 0)
        rw [hdc]
        exact unw_close q2 rfl rfl ⟨HZ.out.2.trans (q1.below HZ.out.2.size (fun k e => by omega)), _, rfl, OwnV.nil _ _⟩
    | some s9 =>
      have hr : wr.heap[eb]? = some (.cells #[.string s9, .bool false] 80 (0, 0)) := hr
      have d0 := cell_of_heap hr 0
      have d1 := cell_of_heap hr 1
      rcases hi2 with hilt | rfl
      · have hilt2 : (i : Int) < v8 := by omega
        obtain ⟨nb, hnb⟩ : ∃ nb, wr.heap.size = nb := ⟨_, rfl⟩
        obtain ⟨Wd, hWd⟩ : ∃ Wd, wr.alloc (.cells #[.int .i64 0, .int .i64 0, .int .i64 0, .int .i64 0, .string ⟨#[]⟩] 50) = Wd := ⟨_, rfl⟩
        have hbd : Below wr.heap.size wr Wd := by rw [← hWd]; exact (Below.refl _ _).alloc (Nat.le_refl _) _
        have hn0 : Wd.heap[nb]? = some (.cells #[.int .i64 0, .int .i64 0, .int .i64 0, .int .i64 0, .string ⟨#[]⟩] 50 (0, 0)) := by rw [← hWd, ← hnb]; exact heap_alloc_new _ _
        have hl1 := (Array.getElem?_eq_some_iff.1 hr).1
        have hl2 := (Array.getElem?_eq_some_iff.1 hm).1
        have hl3 := (Array.getElem?_eq_some_iff.1 hz).1
        have hrd : Wd.heap[eb]? = some (.cells #[.string s9, .bool false] 80 (0, 0)) := (hbd.block eb hl1).trans hr
        have hmd := (hbd.block (eb + 1) hl2).trans hm
        have hzd := (hbd.block w.heap.size hl3).trans hz
        have hOd : OwnV w.heap.size Wd v A := hO.below hbd (Nat.le_refl _)
        have hBd : Below w.heap.size w Wd := hB.trans (hbd.mono hB.size)
        have hg0 : Fit (some s9) := fun q hq => by cases hq; have := hsz s9 rfl; omega
        have hr0 : RdAt Wd eb (some s9) := hrd
        have K0 : KeptBut (fun b => b = eb ∨ b = nb) Wd Wd := KeptBut.refl _ _
        have hgl : ∀ g, v.ownBlock = some g → g < nb := fun g hg => by rw [← hnb]; exact (hO.lt g hg).2
        have HD := Lib.hid (And.intro hmd (And.intro hzd (And.intro hOd (And.intro hBd (And.intro hrd (And.intro hgl (And.intro hAl hsz)))))))
        have hbe := Hbe.out
        have hbn : w.heap.size ≤ nb := by rw [← hnb]; exact hB.size
        have hen : eb + 1 < nb := by omega
        have Hy1 := Lib.hid (rnum_walk Wd eb (some s9) hr0 hg0.big)
        rw [← hWd] at Hy1
        have HWd := Lib.hid hWd
        clear hWd hbd hl1 hl2 hl3 hrd hmd hzd hOd hBd hr0 hgl hr hm hO hB hAl hsz hz hEq
        go_wp2_with fail
        clear d0 d1
        obtain ⟨q1, hq1⟩ : ∃ q, (some s9).bind eyeN = q := ⟨_, rfl⟩
        rw [hq1] at Hy1
        refine Hy1.out.mono ?_
        rintro e Y1 ⟨rfl, hry1, hk1⟩
        rw [HWd.out] at hk1
        obtain ⟨u1, hu1⟩ : ∃ u, rdv (0 : Nat) q1 = u := ⟨_, rfl⟩
        rw [hu1]
        unfold intV
        have hg1 : Fit (q1.map Prod.snd) := hg0.n hq1
        have hny1 := hk1.heap hn0 (fun e => by omega)
        have cx1 := cell_of_heap hny1 0
        have zx1 := frozen_of_heap hny1 0
        obtain ⟨X1, hX1⟩ : ∃ W, Y1.setCell ⟨nb, 0, none⟩ (.int .i64 (u1 : Int)) = W := ⟨_, rfl⟩
        have hst1 : KeptBut (fun b => b = nb) Y1 X1 := by rw [← hX1]; exact (KeptBut.refl (fun b => b = nb) Y1).set1 (p := ⟨nb, 0, none⟩) rfl _
        have hn1 : X1.heap[nb]? = some (.cells #[.int .i64 (u1 : Int), .int .i64 0, .int .i64 0, .int .i64 0, .string ⟨#[]⟩] 50 (0, 0)) := by rw [← hX1]; exact (heap_setCell_same Y1 nb 0 _ _ _ hny1).trans (by simp)
        have hr1 : RdAt X1 eb (q1.map Prod.snd) := hry1.kept hst1 (fun e => by omega)
        have K1 : KeptBut (fun b => b = eb ∨ b = nb) Wd X1 := (K0.trans (hk1.mono fun k _ e => .inl e)).trans (hst1.mono fun k _ e => .inr e)
        have Hy2 := Lib.hid (rnum_walk X1 eb _ hr1 hg1.big)
        clear hk1 hny1 hst1 hry1 hr1 hn0 K0 Hy1
        go_wp2_with fail
        clear hX1 cx1 zx1
        obtain ⟨q2, hq2⟩ : ∃ q, (q1.map Prod.snd).bind eyeN = q := ⟨_, rfl⟩
        rw [hq2] at Hy2
        refine Hy2.out.mono ?_
        rintro e Y2 ⟨rfl, hry2, hk2⟩
        obtain ⟨u2, hu2⟩ : ∃ u, rdv (0 : Nat) q2 = u := ⟨_, rfl⟩
        rw [hu2]
        unfold intV
        have hg2 : Fit (q2.map Prod.snd) := hg1.n hq2
        have hny2 := hk2.heap hn1 (fun e => by omega)
        have cx2 := cell_of_heap hny2 1
        have zx2 := frozen_of_heap hny2 1
        obtain ⟨X2, hX2⟩ : ∃ W, Y2.setCell ⟨nb, 1, none⟩ (.int .i64 (u2 : Int)) = W := ⟨_, rfl⟩
        have hst2 : KeptBut (fun b => b = nb) Y2 X2 := by rw [← hX2]; exact (KeptBut.refl (fun b => b = nb) Y2).set1 (p := ⟨nb, 1, none⟩) rfl _
        have hn2 : X2.heap[nb]? = some (.cells #[.int .i64 (u1 : Int), .int .i64 (u2 : Int), .int .i64 0, .int .i64 0, .string ⟨#[]⟩] 50 (0, 0)) := by rw [← hX2]; exact (heap_setCell_same Y2 nb 1 _ _ _ hny2).trans (by simp)
        have hr2 : RdAt X2 eb (q2.map Prod.snd) := hry2.kept hst2 (fun e => by omega)
        have K2 : KeptBut (fun b => b = eb ∨ b = nb) Wd X2 := (K1.trans (hk2.mono fun k _ e => .inl e)).trans (hst2.mono fun k _ e => .inr e)
        have Hy3 := Lib.hid (rnum_walk X2 eb _ hr2 hg2.big)
        clear hk2 hny2 hst2 hry2 hr2 hn1 K1 Hy2
        go_wp2_with fail
        clear hX2 cx2 zx2
        obtain ⟨q3, hq3⟩ : ∃ q, (q2.map Prod.snd).bind eyeN = q := ⟨_, rfl⟩
        rw [hq3] at Hy3
        refine Hy3.out.mono ?_
        rintro e Y3 ⟨rfl, hry3, hk3⟩
        obtain ⟨u3, hu3⟩ : ∃ u, rdv (0 : Nat) q3 = u := ⟨_, rfl⟩
        rw [hu3]
        unfold intV
        have hg3 : Fit (q3.map Prod.snd) := hg2.n hq3
        have hny3 := hk3.heap hn2 (fun e => by omega)
        have cx3 := cell_of_heap hny3 2
        have zx3 := frozen_of_heap hny3 2
        obtain ⟨X3, hX3⟩ : ∃ W, Y3.setCell ⟨nb, 2, none⟩ (.int .i64 (u3 : Int)) = W := ⟨_, rfl⟩
        have hst3 : KeptBut (fun b => b = nb) Y3 X3 := by rw [← hX3]; exact (KeptBut.refl (fun b => b = nb) Y3).set1 (p := ⟨nb, 2, none⟩) rfl _
        have hn3 : X3.heap[nb]? = some (.cells #[.int .i64 (u1 : Int), .int .i64 (u2 : Int), .int .i64 (u3 : Int), .int .i64 0, .string ⟨#[]⟩] 50 (0, 0)) := by rw [← hX3]; exact (heap_setCell_same Y3 nb 2 _ _ _ hny3).trans (by simp)
        have hr3 : RdAt X3 eb (q3.map Prod.snd) := hry3.kept hst3 (fun e => by omega)
        have K3 : KeptBut (fun b => b = eb ∨ b = nb) Wd X3 := (K2.trans (hk3.mono fun k _ e => .inl e)).trans (hst3.mono fun k _ e => .inr e)
        have Hy4 := Lib.hid (rnum_walk X3 eb _ hr3 hg3.big)
        clear hk3 hny3 hst3 hry3 hr3 hn2 K2 Hy3
        go_wp2_with fail
        clear hX3 cx3 zx3
        obtain ⟨q4, hq4⟩ : ∃ q, (q3.map Prod.snd).bind eyeN = q := ⟨_, rfl⟩
        rw [hq4] at Hy4
        refine Hy4.out.mono ?_
        rintro e Y4 ⟨rfl, hry4, hk4⟩
        obtain ⟨u4, hu4⟩ : ∃ u, rdv (0 : Nat) q4 = u := ⟨_, rfl⟩
        rw [hu4]
        unfold intV
        have hg4 : Fit (q4.map Prod.snd) := hg3.n hq4
        have hny4 := hk4.heap hn3 (fun e => by omega)
        have cx4 := cell_of_heap hny4 3
        have zx4 := frozen_of_heap hny4 3
        obtain ⟨X4, hX4⟩ : ∃ W, Y4.setCell ⟨nb, 3, none⟩ (.int .i64 (u4 : Int)) = W := ⟨_, rfl⟩
        have hst4 : KeptBut (fun b => b = nb) Y4 X4 := by rw [← hX4]; exact (KeptBut.refl (fun b => b = nb) Y4).set1 (p := ⟨nb, 3, none⟩) rfl _
        have hn4 : X4.heap[nb]? = some (.cells #[.int .i64 (u1 : Int), .int .i64 (u2 : Int), .int .i64 (u3 : Int), .int .i64 (u4 : Int), .string ⟨#[]⟩] 50 (0, 0)) := by rw [← hX4]; exact (heap_setCell_same Y4 nb 3 _ _ _ hny4).trans (by simp)
        have hr4 : RdAt X4 eb (q4.map Prod.snd) := hry4.kept hst4 (fun e => by omega)
        have K4 : KeptBut (fun b => b = eb ∨ b = nb) Wd X4 := (K3.trans (hk4.mono fun k _ e => .inl e)).trans (hst4.mono fun k _ e => .inr e)
        have Hy5 := Lib.hid (rtext_walk X4 eb _ hr4 hg4.big)
        clear hk4 hny4 hst4 hry4 hr4 hn3 K3 Hy4
        go_wp2_with fail
        clear hX4 cx4 zx4
        obtain ⟨q5, hq5⟩ : ∃ q, (q4.map Prod.snd).bind eyeT = q := ⟨_, rfl⟩
        rw [hq5] at Hy5
        refine Hy5.out.mono ?_
        rintro e Y5 ⟨rfl, hry5, hk5⟩
        obtain ⟨u5, hu5⟩ : ∃ u, rdv ⟨#[]⟩ q5 = u := ⟨_, rfl⟩
        rw [hu5]
        have hg5 : Fit (q5.map Prod.snd) := hg4.t hq5
        have hny5 := hk5.heap hn4 (fun e => by omega)
        have cx5 := cell_of_heap hny5 4
        have zx5 := frozen_of_heap hny5 4
        obtain ⟨X5, hX5⟩ : ∃ W, Y5.setCell ⟨nb, 4, none⟩ (.string u5) = W := ⟨_, rfl⟩
        have hst5 : KeptBut (fun b => b = nb) Y5 X5 := by rw [← hX5]; exact (KeptBut.refl (fun b => b = nb) Y5).set1 (p := ⟨nb, 4, none⟩) rfl _
        have hn5 : X5.heap[nb]? = some (.cells #[.int .i64 (u1 : Int), .int .i64 (u2 : Int), .int .i64 (u3 : Int), .int .i64 (u4 : Int), .string u5] 50 (0, 0)) := by rw [← hX5]; exact (heap_setCell_same Y5 nb 4 _ _ _ hny5).trans (by simp)
        have hr5 : RdAt X5 eb (q5.map Prod.snd) := hry5.kept hst5 (fun e => by omega)
        have K5 : KeptBut (fun b => b = eb ∨ b = nb) Wd X5 := (K4.trans (hk5.mono fun k _ e => .inl e)).trans (hst5.mono fun k _ e => .inr e)
        have hV := eyeV_chain hq1 hq2 hq3 hq4 hq5
        rw [hu1, hu2, hu3, hu4, hu5] at hV
        obtain ⟨hmd, hzd, hOd, hBd, hrd, hgl, hAl, hsz⟩ := HD.out
        have hmX := K5.heap hmd (fun e => by rcases e with e | e <;> omega)
        have hzX := K5.heap hzd (fun e => by rcases e with e | e <;> omega)
        have hBX : Below w.heap.size w X5 := hBd.trans (K5.below hBd.size (fun k e => by rcases e with e | e <;> omega))
        have hOX : OwnV w.heap.size X5 v A := hOd.heap (fun g hg => K5.block g (hOd.lt g hg).2 (fun e => by
          rcases e with e | e
          · exact ownV_ne hOd hrd (by decide) (by rw [hg, e])
          · have := hgl g hg
            omega))
        obtain ⟨W22, hW22⟩ : ∃ W22, X5.alloc (.cells #[.int .i64 (u1 : Int), .int .i64 (u2 : Int), .int .i64 (u3 : Int), .int .i64 (u4 : Int), .string u5] 50) = W22 := ⟨_, rfl⟩
        have hbl : Below X5.heap.size X5 W22 := by rw [← hW22]; exact (Below.refl _ _).alloc (Nat.le_refl _) _
        have hone : OneV W22 X5.heap.size (((u1 : Int), (u2 : Int), (u3 : Int), (u4 : Int), u5) : Ver) := by rw [← hW22]; exact OneV.new X5 ((u1 : Int), (u2 : Int), (u3 : Int), (u4 : Int), u5)
        have hl1 := hr5.lt
        have hl2 := (Array.getElem?_eq_some_iff.1 hmX).1
        have hl3 := (Array.getElem?_eq_some_iff.1 hzX).1
        have hKl : KeptBut (fun b => X5.heap.size ≤ b) X5 W22 := KeptBut.of_below hbl (fun _ _ h => h)
        have hm22 := hKl.heap hmX (fun e => by omega)
        have hz22 := hKl.heap hzX (fun e => by omega)
        have hr22 : RdAt W22 eb (q5.map Prod.snd) := hr5.kept hKl (fun e => by omega)
        have hO22 : OwnV w.heap.size W22 v A := hOX.below hbl (Nat.le_refl _)
        have hB22 : Below w.heap.size w W22 := hBX.trans (hbl.mono hBX.size)
        have hiA : A.length + [(((u1 : Int), (u2 : Int), (u3 : Int), (u4 : Int), u5) : Ver)].length ≤ 1000000 := by have := hsz s9 rfl; simp; omega
        have hnx := HU.out.2.2.2.2.2.2.2.trans (ul_next hilt hV)
        have hnz := ul_size (hsz s9 rfl) hV
        have HA := Lib.hid (And.intro hO22 (And.intro hone.read (And.intro hiA (And.intro hB22.size (And.intro hm22 (And.intro hz22 (And.intro hr22 (And.intro hB22 (And.intro hnx (And.intro hnz (And.intro hAl (And.intro hbe hen))))))))))))
        rw [← hW22] at HA
        have o0 := cell_of_heap hn5 0
        have o1 := cell_of_heap hn5 1
        have o2 := cell_of_heap hn5 2
        have o3 := cell_of_heap hn5 3
        have o4 := cell_of_heap hn5 4
        have o7 := cell_of_heap hmX 7
        clear HU HWd Hy5 hV hmd hzd hOd hBd hrd hgl hAl hsz hzX hmX hBX hOX hbl hone hl1 hl2 hl3 hKl hm22 hz22 hr22 hO22 hB22 hiA hnx hnz hq1 hq2 hq3 hq4 hq5 hu1 hu2 hu3 hu4 hu5 hg0 hg1 hg2 hg3 hg4 hg5 hk5 hny5 hst5 hry5 hr5 hn5 hn4 K4 K5 hbe hen hbn hW22 HD
        go_wp2_with (at_builtin; refine append_vers 84 86 rfl rfl w.heap.size _ A _ (some ⟨X5.heap.size, 0, none⟩) 1 1 [(((u1 : Int), (u2 : Int), (u3 : Int), (u4 : Int), u5) : Ver)] rfl rfl HA.out.1 rfl HA.out.2.2.1 (fun e => by cases e) HA.out.2.1 HA.out.2.2.2.1 ?_)
        intro v' w' f1 f2 _ _
        obtain ⟨nl, hnl⟩ : ∃ nl, (A ++ [(((u1 : Int), (u2 : Int), (u3 : Int), (u4 : Int), u5) : Ver)]).length = nl := ⟨_, rfl⟩
        obtain ⟨a', cap', hv', _, _, _, _⟩ := f1.read
        rw [hnl] at hv'
        subst hv'
        obtain ⟨hO22, _, _, hsz22, hm22, hz22, hr22, hB22, hnx, hnz, hAl, hbe, hen⟩ := HA.out
        have hll := hr22.lt
        have hl2 := (Array.getElem?_eq_some_iff.1 hm22).1
        have hl3 := (Array.getElem?_eq_some_iff.1 hz22).1
        have hmw := (f2.block (eb + 1) hl2 (ownV_ne hO22 hm22 (by decide)).symm).trans hm22
        have hzw := (f2.block w.heap.size hl3 (ownV_ne hO22 hz22 (by decide)).symm).trans hz22
        have hrw : RdAt w' eb (q5.map Prod.snd) := by
          cases hqq : q5.map Prod.snd with
          | none =>
            rw [hqq] at hr22
            obtain ⟨sq, hsq⟩ := hr22
            exact ⟨sq, (f2.block eb hll (ownV_ne hO22 hsq (by decide)).symm).trans hsq⟩
          | some sq =>
            rw [hqq] at hr22
            exact (f2.block eb hll (ownV_ne hO22 hr22 (by decide)).symm).trans hr22
        have hBw : Below w.heap.size w w' := hB22.grown f2 hsz22 (fun j e => (hO22.lt j e).1)
        obtain ⟨W24, hW24⟩ : ∃ W24, w'.setCell ⟨eb + 1, 7, none⟩ (.slice a' nl cap') = W24 := ⟨_, rfl⟩
        have hk24 : KeptBut (fun b => b = eb + 1) w' W24 := by rw [← hW24]; exact (KeptBut.refl (fun b => b = eb + 1) w').set1 (p := ⟨eb + 1, 7, none⟩) rfl _
        have hm24 : W24.heap[eb + 1]? = some (.cells #[.string v1, .string v2, .string v3, .string v4, .int .i64 (v5 : Int), .int .i64 (v6 : Int), .bool false, .slice a' nl cap'] 24 (0, 0)) := by rw [← hW24]; exact (heap_setCell_same w' (eb + 1) 7 _ _ _ hmw).trans (by simp)
        have hO24 : OwnV w.heap.size W24 (.slice a' nl cap') (A ++ [(((u1 : Int), (u2 : Int), (u3 : Int), (u4 : Int), u5) : Ver)]) := f1.heap (fun g hg => hk24.block g (f1.lt g hg).2 (fun e => ownV_ne f1 hmw (by decide) (by rw [hg, e])))
        have HN := Lib.hid (show UlAt w eb (eb + 1) v1 v2 v3 v4 v5 v6 v8 o8 W24 (i + 1) (q5.map Prod.snd) _ _ from ⟨hrw.kept hk24 (fun e => by omega), hm24, hO24, hBw.trans (hk24.below hBw.size (fun k e => by omega)), by simp [hAl], hnz, hk24.heap hzw (fun e => by omega), hnx⟩)
        have r7 := cell_of_heap hmw 7
        have y7 := frozen_of_heap hmw 7
        clear hnl hO22 hsz22 hm22 hz22 hr22 hB22 hnx hnz hAl hbe hen hll hl2 hl3 hmw hzw hrw hBw hk24 hm24 hO24 f1 f2 HA
        go_wp2
        go_roundw
        case rel => exact ⟨i + 1, by omega, by go_num, Lib.hid ⟨_, _, _, HN.out⟩⟩
        case measure => simp [intOf]; omega
      · have hfin : o8.bind (eyeL i) = some (A, s9) := by rw [hEq, Nat.sub_self]; simp [eyeL]
        have hdc := Hdec.out
        rw [hfin] at hdc
        dsimp only at hdc
        obtain ⟨be, hbe⟩ : ∃ be, s9.toList.isEmpty = be := ⟨_, rfl⟩
        have hbs : be = decide (s9.size = 0) := by rw [← hbe]; exact toList_empty s9
        obtain ⟨sa, scp, rfl, _, _, _, _⟩ := hO.read
        have HZ := Lib.hid (And.intro hz (And.intro hB (And.intro hO Hbe.out)))
        have hsc : be = false ∨ (be = true ∧ ¬ v7 < 2) ∨ (be = true ∧ v7 < 2) := by
          cases be
          · exact .inl rfl
          · by_cases h2 : v7 < 2
            · exact .inr (.inr ⟨rfl, h2⟩)
            · exact .inr (.inl ⟨rfl, h2⟩)
        rcases hsc with rfl | ⟨rfl, h2⟩ | ⟨rfl, h2⟩
        · have hne : ¬ s9.size = 0 := fun e => by rw [decide_eq_true e] at hbs; cases hbs
          rw [if_neg (fun h => hne h.2)] at hdc

          have x0 := cell_of_heap hz 0
          have z0 := frozen_of_heap hz 0
          have x1 := cell_of_heap hz 1
          have z1 := frozen_of_heap hz 1
          have x2 := cell_of_heap hz 2
          have z2 := frozen_of_heap hz 2
          have x3 := cell_of_heap hz 3
          have z3 := frozen_of_heap hz 3
          have x4 := cell_of_heap hz 4
          have z4 := frozen_of_heap hz 4
          have x5 := cell_of_heap hz 5
          have z5 := frozen_of_heap hz 5
          have x6 := cell_of_heap hz 6
          have z6 := frozen_of_heap hz 6
          have x7 := cell_of_heap hz 7
          have z7 := frozen_of_heap hz 7
          clear hr hm hO hB hz hEq hAl hsz hbs hne hfin
          go_wp2
          obtain ⟨q1, q2⟩ := store8 HZ.out.1 (.string ⟨#[]⟩) (.string ⟨#[]⟩) (.string ⟨#[]⟩) (.string ⟨#[]⟩) (.int .i64 0) (.int .i64 0) (.bool false) (.slice none 0 0)
          rw [hdc]
          exact unw_close q2 rfl rfl ⟨HZ.out.2.1.trans (q1.below HZ.out.2.1.size (fun k e => by omega)), _, rfl, OwnV.nil _ _⟩
        · rw [if_neg (fun h => h2 h.1)] at hdc
          have h2i : (1 : Int) < v7 := by omega
          have h2d : decide ((1 : Int) < v7) = true := decide_eq_true h2i
          have x0 := cell_of_heap hz 0
          have z0 := frozen_of_heap hz 0
          have x1 := cell_of_heap hz 1
          have z1 := frozen_of_heap hz 1
          have x2 := cell_of_heap hz 2
          have z2 := frozen_of_heap hz 2
          have x3 := cell_of_heap hz 3
          have z3 := frozen_of_heap hz 3
          have x4 := cell_of_heap hz 4
          have z4 := frozen_of_heap hz 4
          have x5 := cell_of_heap hz 5
          have z5 := frozen_of_heap hz 5
          have x6 := cell_of_heap hz 6
          have z6 := frozen_of_heap hz 6
          have x7 := cell_of_heap hz 7
          have z7 := frozen_of_heap hz 7
          clear hr hm hO hB hz hEq hAl hsz hbs hfin h2
          go_wp2
          obtain ⟨q1, q2⟩ := store8 HZ.out.1 (.string ⟨#[]⟩) (.string ⟨#[]⟩) (.string ⟨#[]⟩) (.string ⟨#[]⟩) (.int .i64 0) (.int .i64 0) (.bool false) (.slice none 0 0)
          rw [hdc]
          exact unw_close q2 rfl rfl ⟨HZ.out.2.1.trans (q1.below HZ.out.2.1.size (fun k e => by omega)), _, rfl, OwnV.nil _ _⟩
        · have hne : s9.size = 0 := of_decide_eq_true hbs.symm
          rw [if_pos ⟨h2, hne⟩] at hdc
          have h2i : ¬ (1 : Int) < v7 := by omega
          have h2d : decide ((1 : Int) < v7) = false := decide_eq_false h2i
          obtain ⟨bs, hbv⟩ : ∃ bs, decide (v7 = 1) = bs := ⟨_, rfl⟩
          rw [hbv] at hdc
          have hbw : ((v7 : Int) == 1) = bs := by
            rw [← hbv, Bool.eq_iff_iff]
            simp
            omega
          have hbe2 := Hbe.out
          obtain ⟨W1, hW1⟩ : ∃ W1, wr.setCell ⟨eb + 1, 6, none⟩ (.bool bs) = W1 := ⟨_, rfl⟩
          have hk1 : KeptBut (fun b => b = eb + 1) wr W1 := by rw [← hW1]; exact (KeptBut.refl (fun b => b = eb + 1) wr).set1 (p := ⟨eb + 1, 6, none⟩) rfl _
          have hm1 : W1.heap[eb + 1]? = some (.cells #[.string v1, .string v2, .string v3, .string v4, .int .i64 (v5 : Int), .int .i64 (v6 : Int), .bool bs, .slice sa A.length scp] 24 (0, 0)) := by rw [← hW1]; exact (heap_setCell_same wr (eb + 1) 6 _ _ _ hm).trans (by simp)
          have hz1 := hk1.heap hz (fun e => by omega)
          have hB1 : Below w.heap.size w W1 := hB.trans (hk1.below hB.size (fun k e => by omega))
          have hO1 : OwnV w.heap.size W1 (.slice sa A.length scp) A := hO.heap (fun g hg => hk1.block g (hO.lt g hg).2 (fun e => ownV_ne hO hm (by decide) (by rw [hg, e])))
          have HF := Lib.hid (And.intro hz1 (And.intro hB1 hO1))
          have m6 := cell_of_heap hm 6
          have n6 := frozen_of_heap hm 6
          have y0 := cell_of_heap hm1 0
          have y1 := cell_of_heap hm1 1
          have y2 := cell_of_heap hm1 2
          have y3 := cell_of_heap hm1 3
          have y4 := cell_of_heap hm1 4
          have y5 := cell_of_heap hm1 5
          have y6 := cell_of_heap hm1 6
          have y7 := cell_of_heap hm1 7
          have x0 := cell_of_heap hz1 0
          have z0 := frozen_of_heap hz1 0
          have x1 := cell_of_heap hz1 1
          have z1 := frozen_of_heap hz1 1
          have x2 := cell_of_heap hz1 2
          have z2 := frozen_of_heap hz1 2
          have x3 := cell_of_heap hz1 3
          have z3 := frozen_of_heap hz1 3
          have x4 := cell_of_heap hz1 4
          have z4 := frozen_of_heap hz1 4
          have x5 := cell_of_heap hz1 5
          have z5 := frozen_of_heap hz1 5
          have x6 := cell_of_heap hz1 6
          have z6 := frozen_of_heap hz1 6
          have x7 := cell_of_heap hz1 7
          have z7 := frozen_of_heap hz1 7
          clear hr hm hO hB hz hEq hAl hsz hbs hfin h2 hne hbv hk1 hm1 hz1 hB1 hO1 hbe2
          go_wp2
          obtain ⟨q1, q2⟩ := store8 HF.out.1 (.string v1) (.string v2) (.string v3) (.string v4) (.int .i64 (v5 : Int)) (.int .i64 (v6 : Int)) (.bool bs) (.slice sa A.length scp)
          try rw [hdc]
          exact unw_close q2 rfl rfl ⟨HF.out.2.1.trans (q1.below HF.out.2.1.size (fun k e => by omega)), _, rfl, HF.out.2.2.heap (fun g hg => q1.block g (HF.out.2.2.lt g hg).2 (fun e => ownV_ne HF.out.2.2 HF.out.1 (by decide) (by rw [hg, e])))⟩
end
end Go.Proofs.YtgcnohejmofhkaaDoor
