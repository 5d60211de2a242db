/- The walk of slices.Insert of versions in the middle. -/
import Derived.Test.YthdicfcgkbepdaaGreatDoorVerB
import Derived.Test.YthdicfcgkbepdaaGreatDoorHld
import Derived.Laws.CopyRow
import Derived.Lib.AppendZerosOnto
import Derived.Lib.Overlaps
import Derived.StillTailTactics
import Derived.IntWalk
import Derived.Outline
namespace Go.Proofs.YthdicfcgkbepdaaGreatDoor
open Go.RowKit Go.Extern

/-- copy of structs of m cells, from a row that is read into a row of the call's own. -/
theorem run_copy_rowN {P : Program} (m : Nat) (w : World) (dT sT ty elem : TypeId) (g o dLen dCap : Nat) (a : Addr) (sLen sCap : Nat) (cur : Array Value) (t : TypeId) (cs : List Value)
    (hu : P.underlying dT = some (.slice elem)) (hs : (P.info? elem).map (·.size) = some m)
    (hg : w.heap[g]? = some (.cells cur t (0, 0))) (hn : cs.length = Nat.min sLen dLen * m)
    (hsrc : ∀ j v, cs[j]? = some v → w.cell? (a.add j) = some v) (hfit : o + cs.length ≤ cur.size) (h1 : ∀ v ∈ cs, v.oneCell' = true) :
    (Builtin.copy_ #[dT, sT] ty #[.slice (some ⟨g, o, none⟩) dLen dCap, .slice (some a) sLen sCap]).run P w =
      .ok (goInt (Nat.min sLen dLen)) (w.setRow g (cur.toList.take o ++ cs ++ cur.toList.drop (o + cs.length)).toArray) := by
  have hl := run_loadCells_list (P := P) w a cs hsrc
  have hst := run_storeCells_at P g o t cs 0 cur w hg (by simpa using hfit) h1
  cases hq : P.info? elem with
  | none => simp [hq] at hs
  | some i =>
    have hi : i.size = m := by simpa [hq] using hs
    simp [Builtin.copy_, run_underlying hu, Builtin.lenOf, Builtin.firstCells, sizeOf, typeInfo, hq, hi, ← hn, hl, hst]
theorem wpList_copyN {P : Program} {ops : Array Oper} {rest : List Oper} {o : Oper} {a : Act} {Q : Exit → Act → World → Prop} {w : World} (m : Nat) (d s : Nat) (dT sT elem : TypeId) (hgd : o.guard = none)
    (ho : o.op = .call { callee := .builtin .copy, args := #[.tmp d, .tmp s], argTypes := #[dT, sT] }) (g od dLen dCap : Nat) (ad : Addr) (sLen sCap : Nat) (cur : Array Value) (t : TypeId) (cs : List Value)
    (hu : P.underlying dT = some (.slice elem)) (hz : (P.info? elem).map (·.size) = some m)
    (hd : a.eval (.tmp d) = .slice (some ⟨g, od, none⟩) dLen dCap) (hs : a.eval (.tmp s) = .slice (some ad) sLen sCap)
    (hg : w.heap[g]? = some (.cells cur t (0, 0))) (hn : cs.length = Nat.min sLen dLen * m)
    (hsrc : ∀ j v, cs[j]? = some v → w.cell? (ad.add j) = some v) (hfit : od + cs.length ≤ cur.size) (h1 : ∀ v ∈ cs, v.oneCell' = true)
    (h : wpList P ops Q rest (a.put o.dst (goInt (Nat.min sLen dLen))) (w.setRow g (cur.toList.take od ++ cs ++ cur.toList.drop (od + cs.length)).toArray)) :
    wpList P ops Q (o :: rest) a w := by
  refine wpList_plain hgd fun K hK => ?_
  have hr := run_copy_rowN (P := P) m w dT sT o.type elem g od dLen dCap ad sLen sCap cur t cs hu hz hg hn hsrc hfit h1
  unfold Oper.wp execOp
  simp only [ho, resolve, invoke, builtin, Sem.run_bind, Sem.run_pure, Result.andThen_ok, List.map_toArray, List.map_cons, List.map_nil, hs, hd, hr]
  exact hK _ _ h
theorem wpList_append_run {P : Program} {ops : Array Oper} {rest : List Oper} {o : Oper} {a : Act} {Q : Exit → Act → World → Prop} {w : World} (s x : Nat) (t1 t2 : TypeId) (hgd : o.guard = none)
    (ho : o.op = .call { callee := .builtin .append, args := #[.tmp s, .tmp x], argTypes := #[t1, t2] }) (vs vx v' : Value) (w' : World) (hs : a.eval (.tmp s) = vs) (hx : a.eval (.tmp x) = vx)
    (hr : (Builtin.append_ #[t1, t2] o.type #[vs, vx]).run P w = .ok v' w') (h : wpList P ops Q rest (a.put o.dst v') w') :
    wpList P ops Q (o :: rest) a w := by
  refine wpList_plain hgd fun K hK => ?_
  unfold Oper.wp execOp
  simp only [ho, resolve, invoke, builtin, Sem.run_bind, Sem.run_pure, Result.andThen_ok, List.map_toArray, List.map_cons, List.map_nil, hs, hx, hr]
  exact hK _ _ h
theorem setRow_grown (w : World) (g : Nat) (cs : Array Value) : w.grownBy (w.setRow g cs) (some g) :=
  ⟨rfl, rfl, rfl, by simp [World.setRow], fun k _ hk => setRow_other w g k _ (fun e => hk (by rw [e]))⟩
theorem drew_grown (w : World) (r : Option Nat) : w.grownBy w.drew r := ⟨rfl, rfl, rfl, Nat.le_refl _, fun _ _ _ => rfl⟩
/-- the list with x put in at place i. -/
def insAt (L : List Ver) (i : Nat) (x : Ver) : List Ver := L.take i ++ [x] ++ L.drop i
theorem insAt_length (L : List Ver) {i : Nat} (hi : i ≤ L.length) (x : Ver) : (insAt L i x).length = L.length + 1 := by
  unfold insAt; simp; omega
theorem vrV_take (L : List Ver) (i : Nat) : vrV (L.take i) = (vrV L).take (i * 5) := by
  by_cases h : i ≤ L.length
  · have e := vrV_append (L.take i) (L.drop i)
    rw [List.take_append_drop] at e
    have hl : (vrV (L.take i)).length = i * 5 := by rw [vrV_length, List.length_take]; omega
    rw [e, ← hl, List.take_left]
  · rw [List.take_of_length_le (by omega), List.take_of_length_le (by rw [vrV_length]; omega)]
theorem encVr_length (x : Ver) : (encVr x).length = 5 := rfl
theorem insA {C0 : List Value} {L : List Ver} {i : Nat} {x : Ver} (hC : C0.take (L.length * 5) = vrV L) (hi : i < L.length) (hl : (L.length + 1) * 5 ≤ C0.length) :
    let C1 := C0.take ((i + 1) * 5) ++ vrV (L.drop i) ++ C0.drop ((i + 1) * 5 + (vrV (L.drop i)).length)
    let C2 := C1.take (i * 5) ++ encVr x ++ C1.drop (i * 5 + (encVr x).length)
    C1.length = C0.length ∧ C2.length = C0.length ∧ C2.take ((L.length + 1) * 5) = vrV (insAt L i x) := by
  intro C1 C2
  have hd : (vrV (L.drop i)).length = (L.length - i) * 5 := by rw [vrV_length, List.length_drop]
  have h1 : C1.length = C0.length := by
    show (C0.take ((i + 1) * 5) ++ vrV (L.drop i) ++ C0.drop ((i + 1) * 5 + (vrV (L.drop i)).length)).length = _
    simp only [List.length_append, List.length_take, List.length_drop, hd]
    omega
  have h2 : C1.take (i * 5) = vrV (L.take i) := by
    show (C0.take ((i + 1) * 5) ++ vrV (L.drop i) ++ _).take (i * 5) = _
    rw [List.append_assoc, List.take_append_of_le_length (by simp; omega), List.take_take, Nat.min_eq_left (by omega), vrV_take, ← hC, List.take_take, Nat.min_eq_left (by omega)]
  have h3 : C1.drop (i * 5 + (encVr x).length) = vrV (L.drop i) ++ C0.drop ((i + 1) * 5 + (vrV (L.drop i)).length) := by
    show (C0.take ((i + 1) * 5) ++ vrV (L.drop i) ++ _).drop (i * 5 + 5) = _
    have e : i * 5 + 5 = (C0.take ((i + 1) * 5)).length := by simp; omega
    rw [List.append_assoc, e, List.drop_left]
  have hC2 : C2 = vrV (insAt L i x) ++ C0.drop ((i + 1) * 5 + (vrV (L.drop i)).length) := by
    show C1.take (i * 5) ++ encVr x ++ C1.drop (i * 5 + (encVr x).length) = _
    rw [h2, h3]
    unfold insAt
    rw [vrV_append, vrV_append]
    simp [vrV]
  have hlen : (vrV (insAt L i x)).length = (L.length + 1) * 5 := by rw [vrV_length, insAt_length L (Nat.le_of_lt hi)]
  refine ⟨h1, ?_, ?_⟩
  · rw [hC2, List.length_append, hlen, List.length_drop, hd]; omega
  · rw [hC2, ← hlen, List.take_left]
theorem insB {Z : List Value} {L : List Ver} {i : Nat} {x : Ver} (hi : i < L.length) (hl : (L.length + 1 - i) * 5 ≤ Z.length) :
    let C0 := vrV (L.take i) ++ Z
    let C1 := C0.take (i * 5) ++ encVr x ++ C0.drop (i * 5 + (encVr x).length)
    let C2 := C1.take ((i + 1) * 5) ++ vrV (L.drop i) ++ C1.drop ((i + 1) * 5 + (vrV (L.drop i)).length)
    C1.length = C0.length ∧ C2.length = C0.length ∧ C2.take ((L.length + 1) * 5) = vrV (insAt L i x) := by
  intro C0 C1 C2
  have hd : (vrV (L.drop i)).length = (L.length - i) * 5 := by rw [vrV_length, List.length_drop]
  have ht : (vrV (L.take i)).length = i * 5 := by rw [vrV_length, List.length_take]; omega
  have h0 : C0.length = i * 5 + Z.length := by show (vrV (L.take i) ++ Z).length = _; rw [List.length_append, ht]
  have hC1 : C1 = vrV (L.take i) ++ encVr x ++ Z.drop 5 := by
    show (vrV (L.take i) ++ Z).take (i * 5) ++ encVr x ++ (vrV (L.take i) ++ Z).drop (i * 5 + 5) = _
    rw [← ht, List.take_left, List.drop_append]
    congr 1
    rw [List.drop_of_length_le (by omega), List.nil_append]
    congr 1
    omega
  have h1 : C1.length = C0.length := by
    rw [hC1, h0]
    simp only [List.length_append, List.length_drop, ht, encVr_length]
    omega
  have e : (i + 1) * 5 = (vrV (L.take i) ++ encVr x).length := by rw [List.length_append, ht, encVr_length]; omega
  have hC2 : C2 = vrV (insAt L i x) ++ C1.drop ((i + 1) * 5 + (vrV (L.drop i)).length) := by
    show C1.take ((i + 1) * 5) ++ vrV (L.drop i) ++ C1.drop _ = _
    have h2 : C1.take ((i + 1) * 5) = vrV (L.take i) ++ encVr x := by rw [hC1, e, List.take_left]
    rw [h2]
    unfold insAt
    rw [vrV_append, vrV_append]
    simp [vrV]
  have hlen : (vrV (insAt L i x)).length = (L.length + 1) * 5 := by rw [vrV_length, insAt_length L (Nat.le_of_lt hi)]
  refine ⟨h1, ?_, ?_⟩
  · rw [hC2, List.length_append, hlen, List.length_drop, hd, h1, h0]; omega
  · rw [hC2, ← hlen, List.take_left]
theorem size_version : (Tryz.prog.info? 49).map (·.size) = some 5 := by kernel_rfl
/-- the cells of the versions from i on. -/
theorem cells_from {w : World} {g : Nat} {cur : Array Value} {L : List Ver} (hg : w.heap[g]? = some (.cells cur 49 (0, 0))) (ht : cur.toList.take (L.length * 5) = vrV L) (i : Nat) (j : Nat) (u : Value) (hu : (vrV (L.drop i))[j]? = some u) : w.cell? ((⟨g, i * 5, none⟩ : Addr).add j) = some u := by
  rw [Go.WideShapes.add_plain]
  have hi : i ≤ L.length := by
    rcases Nat.lt_or_ge L.length i with h | h
    · rw [List.drop_of_length_le (by omega)] at hu; cases hu
    · exact h
  have hj := (List.getElem?_eq_some_iff.1 hu).1
  rw [vrV_length, List.length_drop] at hj
  have e := vrV_append (L.take i) (L.drop i)
  rw [List.take_append_drop] at e
  have ht5 : (vrV (L.take i)).length = i * 5 := by rw [vrV_length, List.length_take]; omega
  have h1 : (vrV L)[i * 5 + j]? = some u := by
    rw [e, List.getElem?_append_right (by omega), ht5]
    simpa using hu
  rw [← ht, List.getElem?_take, if_pos (by omega)] at h1
  simp only [World.cell?, hg]
  simpa using h1
theorem OneV.cells {w : World} {gx : Nat} {x : Ver} (h : OneV w gx x) (j : Nat) (u : Value) (hu : (encVr x)[j]? = some u) : w.cell? ((⟨gx, 0, none⟩ : Addr).add j) = some u := by
  rw [Go.WideShapes.add_plain, Nat.zero_add]
  unfold OneV at h
  simp only [World.cell?, h]
  simpa using hu
theorem encVr_one (x : Ver) : ∀ v ∈ encVr x, v.oneCell' = true := fun v hv => vrV_one [x] v (by simpa [vrV] using hv)
/-- there is room: the rest is moved by one. -/
theorem ins_room {B : Nat} {w : World} {g cap : Nat} {cur : Array Value} {L : List Ver} {i : Nat} {x : Ver} (hB : B ≤ g) (hg : w.heap[g]? = some (.cells cur 49 (0, 0))) (hc : L.length + 1 ≤ cap) (hm : cap ≤ maxLen) (hcs : cur.size = cap * 5) (ht : cur.toList.take (L.length * 5) = vrV L) (hi : i < L.length) :
    OwnV B (w.setRow g ((cur.toList.take ((i + 1) * 5) ++ vrV (L.drop i) ++ cur.toList.drop ((i + 1) * 5 + (vrV (L.drop i)).length)).take (i * 5) ++ encVr x ++ (cur.toList.take ((i + 1) * 5) ++ vrV (L.drop i) ++ cur.toList.drop ((i + 1) * 5 + (vrV (L.drop i)).length)).drop (i * 5 + (encVr x).length)).toArray) (.slice (some ⟨g, 0, none⟩) (L.length + 1) cap) (insAt L i x) := by
  have h9 : (L.length + 1) * 5 ≤ cur.toList.length := by
    have e9 : cur.toList.length = cap * 5 := by rw [Array.length_toList]; exact hcs
    rw [e9]
    exact Nat.mul_le_mul_right _ hc
  obtain ⟨h1, h2, h3⟩ := insA (x := x) ht hi h9
  rw [Array.length_toList] at h1 h2
  have hl := insAt_length L (Nat.le_of_lt hi) x
  unfold OwnV
  rw [hl]
  refine ⟨by rw [vrV_length, hl], .inr ⟨g, cap, _, rfl, hB, setRow_heap w g cur _ _ _ hg, hc, hm, ?_, ?_⟩⟩
  · rw [List.size_toArray]; exact h2.trans hcs
  · exact h3
set_option maxRecDepth 100000 in
set_option maxHeartbeats 4000000 in
theorem insert_room (B : Nat) (g cap : Nat) (cur : Array Value) (L : List Ver) (i gx : Nat) (x : Ver) (w : World) (hB : B ≤ g) (hg : w.heap[g]? = some (.cells cur 49 (0, 0))) (hc : L.length + 1 ≤ cap) (hm : cap ≤ maxLen) (hcs : cur.size = cap * 5) (ht : cur.toList.take (L.length * 5) = vrV L)
    (hi : i < L.length) (hl : L.length ≤ 1000) (hx : OneV w gx x) (hne : gx ≠ g) :
    Calls Tryz.prog 45 #[.slice (some ⟨g, 0, none⟩) L.length cap, .int .i64 i, .slice (some ⟨gx, 0, none⟩) 1 1] w fun e w' => InsOut B w w' (.slice (some ⟨g, 0, none⟩) L.length cap) (insAt L i x) e := by
  have hR := ins_room (x := x) hB hg hc hm hcs ht hi
  have hov : ∀ o l c, (callFunc 64 #[.slice (some ⟨gx, 0, none⟩) 1 1, .slice (some ⟨g, o, none⟩) l c]).run Tryz.prog w = .ok (.value (.bool false)) w := fun o l c => by
    rw [@run_callFunc_extern Tryz.prog 64 _ (SlicesOverlaps.overlaps #[57, 57] #[4]) Tryz.func64 (by kernel_rfl) (by kernel_rfl) (by kernel_rfl) (by kernel_rfl)]
    have hxx : w.heap[gx]? = some (.cells (encVr x).toArray 49 (0, 0)) := hx
    rw [Lib.run_overlaps_apart w 57 4 49 Tryz.underlying57 5 (fun _ => by kernel_rfl) ⟨gx, 0, none⟩ ⟨g, o, none⟩ 1 1 l c hne 49 49 5 (cap * 5) (by simp [World.shape?, hxx, encVr]) (by simp [World.shape?, hg, hcs]) (by omega) (by simp [World.frozen?, hxx]) (by simp [World.frozen?, hxx])]
    rfl
  have hc1 := fun (j : Nat) (u : Value) (hu : (vrV (L.drop i))[j]? = some u) => cells_from hg ht i j u hu
  have hd : (vrV (L.drop i)).length = (L.length - i) * 5 := by rw [vrV_length, List.length_drop]
  have hgne : ∀ cs : Array Value, (w.drew.setRow g cs).heap[gx]? = w.heap[gx]? := fun cs => setRow_other w.drew g gx cs hne
  have Hgne := Lib.hid (And.intro hgne (And.intro hx hcs))
  have Hd := Lib.hid (And.intro hd (And.intro hc1 hg))
  have HR := Lib.hid hR
  obtain ⟨n, hn⟩ : ∃ n, L.length = n := ⟨_, rfl⟩
  rw [hn] at Hd HR hc hi hl ⊢
  have Hn := Lib.hid hn
  have hin : (i : Int) ≤ n := by omega
  have hin2 : ((i : Int) == (n : Int)) = false := beq_eq_false_iff_ne.2 (by omega)
  have hin3 : (i == n) = false := beq_eq_false_iff_ne.2 (by omega)
  have hcn : ¬ (cap : Int) < n + 1 := by omega
  have hcn2 : decide (cap < n + 1) = false := decide_eq_false (by omega)
  have hcn3 : (n : Int) + 1 ≤ cap := by omega
  have hin4 : (i : Int) + 1 ≤ n + 1 := by omega
  have hin5 : (i : Int) ≤ n + 1 := by omega
  have hm9 : cap ≤ 9223372036854775807 := hm
  have hce1 : ¬ cap = i + 1 := by omega
  have hce2 : ¬ cap = i := by omega
  clear hR hc1 hd hg ht hcs hx hgne hn hB
  go_enter Tryz.func45, Tryz.ntmps45
  go_wp2
  have hw1 : IntKind.i64.wrap ((i : Int) + 1) = (i : Int) + 1 := IntWalk.i64_in _ (by omega)
  have hw2 : (0 : Int) ≤ (i : Int) + 1 := by omega
  have hw3 : ((i : Int) + 1).toNat = i + 1 := by omega
  refine wp_region_still_tail 8 (by kernel_rfl) (by kernel_rfl) ?_
  simp only [List.take_succ_cons, List.take_zero, List.drop_succ_cons, List.drop_zero]
  repeat still_step
  refine wpStill_nil ?_
  change wpList _ _ _ _ _ w.drew
  have hmin : Nat.min (n + 1 - i) (n + 1 - (i + 1)) = n - i := by
    show min _ _ = _
    omega
  refine wpList_copyN 5 73 76 57 57 49 rfl rfl g ((i + 1) * 5) (n + 1 - (i + 1)) (cap - (i + 1)) ⟨g, i * 5, none⟩ (n + 1 - i) (cap - i) cur 49 (vrV (L.drop i)) Tryz.underlying57 size_version ?_ ?_ Hd.out.2.2 (by rw [hmin]; exact Hd.out.1) (fun j u hu => Hd.out.2.1 j u hu) (by have h1 := Hd.out.1; have h2 := Hgne.out.2.2; omega) (vrV_one _) ?_
  · simp [Act.eval]
  · simp [Act.eval]
  · have hC1 := setRow_heap w.drew g cur (cur.toList.take ((i + 1) * 5) ++ vrV (L.drop i) ++ cur.toList.drop ((i + 1) * 5 + (vrV (L.drop i)).length)).toArray 49 (0, 0) Hd.out.2.2
    have hx1 : OneV (w.drew.setRow g (cur.toList.take ((i + 1) * 5) ++ vrV (L.drop i) ++ cur.toList.drop ((i + 1) * 5 + (vrV (L.drop i)).length)).toArray) gx x := (Hgne.out.1 _).trans Hgne.out.2.1
    have hsz : (cur.toList.take ((i + 1) * 5) ++ vrV (L.drop i) ++ cur.toList.drop ((i + 1) * 5 + (vrV (L.drop i)).length)).toArray.size = cap * 5 := by
      have h1 := Hgne.out.2.2
      have h2 := Hd.out.1
      simp only [List.size_toArray, List.length_append, List.length_take, List.length_drop, Array.length_toList]
      omega
    have hHR := HR.out
    obtain ⟨C1, hC1e⟩ : ∃ C1, cur.toList.take ((i + 1) * 5) ++ vrV (L.drop i) ++ cur.toList.drop ((i + 1) * 5 + (vrV (L.drop i)).length) = C1 := ⟨_, rfl⟩
    rw [hC1e] at hC1 hx1 hsz hHR ⊢
    have HC1 := Lib.hid (And.intro hC1 (And.intro hx1 hsz))
    have Hcur := Lib.hid Hd.out.2.2
    have HRR := Lib.hid hHR
    obtain ⟨W1, hW1⟩ : ∃ W1, w.drew.setRow g C1.toArray = W1 := ⟨_, rfl⟩
    have HW1 := Lib.hid hW1
    rw [hW1] at HC1 ⊢
    clear hC1 hx1 hsz hHR hC1e hW1 HR Hd hov
    have hmin2 : Nat.min 1 (n + 1 - i) = 1 := by
      show min _ _ = _
      omega
    have Hmin2 := Lib.hid hmin2
    clear hmin hmin2
    have hcp := run_copy_rowN (P := Tryz.prog) 5 W1 57 57 3 49 g (i * 5) (n + 1 - i) (cap - i) ⟨gx, 0, none⟩ 1 1 C1.toArray 49 (encVr x) Tryz.underlying57 size_version HC1.out.1 (by rw [Hmin2.out]; rfl) (fun j u hu => HC1.out.2.1.cells j u hu) (by have h1 := HC1.out.2.2; have h2 := encVr_length x; omega) (encVr_one x)
    obtain ⟨W2, hW2⟩ : ∃ W2, W1.setRow g (C1.toArray.toList.take (i * 5) ++ encVr x ++ C1.toArray.toList.drop (i * 5 + (encVr x).length)).toArray = W2 := ⟨_, rfl⟩
    have HW2 := Lib.hid hW2
    rw [Hmin2.out, hW2] at hcp
    clear hW2
    go_wp2
    go_ret
    rw [← HW2.out]
    refine ⟨_, rfl, HRR.out.heap (fun g' hg' => ?_), ?_, .inl rfl⟩
    · obtain rfl : g = g' := by simpa [Value.ownBlock] using hg'
      have h1 := HC1.out.1
      rw [setRow_heap W1 g _ _ _ _ h1, setRow_heap w g _ _ _ _ Hcur.out]
    · rw [← HW1.out]
      exact ⟨rfl, rfl, rfl, by simp [World.setRow], fun k _ hk => (setRow_other _ g k _ (fun e => hk (by rw [e]; rfl))).trans (setRow_other w.drew g k _ (fun e => hk (by rw [e]; rfl)))⟩
set_option maxRecDepth 100000 in
set_option maxHeartbeats 4000000 in
theorem insert_grow (B : Nat) (g : Nat) (cur : Array Value) (L : List Ver) (i gx : Nat) (x : Ver) (w : World) (hB : B ≤ w.heap.size) (hg : w.heap[g]? = some (.cells cur 49 (0, 0))) (ht : cur.toList.take (L.length * 5) = vrV L)
    (hi : i < L.length) (hl : L.length ≤ 1000) (hx : OneV w gx x) :
    Calls Tryz.prog 45 #[.slice (some ⟨g, 0, none⟩) L.length L.length, .int .i64 i, .slice (some ⟨gx, 0, none⟩) 1 1] w fun e w' => InsOut B w w' (.slice (some ⟨g, 0, none⟩) L.length L.length) (insAt L i x) e := by
  obtain ⟨inf, hi0, hz0, hz1, hz2⟩ := info_parts info_version
  have hglt : g < w.heap.size := (Array.getElem?_eq_some_iff.1 hg).1
  have hxlt : gx < w.heap.size := hx.lt
  have hlen5 : (vrV (L.take i)).length = i * 5 := by rw [vrV_length, List.length_take]; omega
  have hold : (Builtin.firstCells inf.size i (.slice (some ⟨g, 0, none⟩) i L.length)).run Tryz.prog w.drew = .ok (vrV (L.take i)).toArray w.drew :=
    run_firstCells_some w.drew inf.size i ⟨g, 0, none⟩ i L.length (vrV (L.take i)) (by rw [hz1]; exact hlen5) (fun j v hj => by
      have hj2 := (List.getElem?_eq_some_iff.1 hj).1
      rw [hlen5] at hj2
      have e := vrV_append (L.take i) (L.drop i)
      rw [List.take_append_drop] at e
      have h1 : (vrV L)[j]? = some v := by rw [e, List.getElem?_append_left (by omega)]; exact hj
      rw [← ht, List.getElem?_take, if_pos (by omega)] at h1
      rw [Go.WideShapes.add_plain, Nat.zero_add]
      simp only [World.cell?, World.drew, hg]
      simpa using h1)
  have hap0 := fun ty => Lib.run_append_grow_zeros (P := Tryz.prog) w 57 3 ty 49 inf _ .i64 .i64 Tryz.underlying57 Tryz.underlying3 hi0 hz0 (some ⟨g, 0, none⟩) i L.length (vrV (L.take i)) hold (L.length + 1 - i) (by omega) (by omega) (by omega) (by omega) (by rw [hz2]; omega) (growslice_fits (by omega) (by rw [hz2]; omega))
  have hge := grownCap_ge w (i + (L.length + 1 - i)) L.length 49
  have hcm := grownCap_le_maxLen w (i + (L.length + 1 - i)) L.length 49 (by unfold maxLen; omega)
  have hkk : i + (L.length + 1 - i) = L.length + 1 := by omega
  rw [hkk] at hap0 hge hcm
  obtain ⟨c', hc'⟩ : ∃ c', grownCap w (L.length + 1) L.length 49 = c' := ⟨_, rfl⟩
  rw [hc'] at hap0 hge hcm
  obtain ⟨Z, hZ⟩ : ∃ Z : Array Value, Builtin.zeroCells (Value.agg #[.int .i64 0, .int .i64 0, .int .i64 0, .int .i64 0, .string ⟨#[]⟩]).cells (L.length + 1 - i) ++ Builtin.zeroCells (Value.agg #[.int .i64 0, .int .i64 0, .int .i64 0, .int .i64 0, .string ⟨#[]⟩]).cells (c' - (L.length + 1)) = Z := ⟨_, rfl⟩
  have hZl : Z.toList.length = (c' - i) * 5 := by
    rw [← hZ, Array.length_toList, Array.size_append, size_zeroCells, size_zeroCells]
    show (L.length + 1 - i) * 5 + (c' - (L.length + 1)) * 5 = _
    omega
  have hall : ∀ A : Array Value, A ++ Builtin.zeroCells (Value.agg #[.int .i64 0, .int .i64 0, .int .i64 0, .int .i64 0, .string ⟨#[]⟩]).cells (L.length + 1 - i) ++ Builtin.zeroCells (Value.agg #[.int .i64 0, .int .i64 0, .int .i64 0, .int .i64 0, .string ⟨#[]⟩]).cells (c' - (L.length + 1)) = A ++ Z := fun A => by rw [Array.append_assoc, hZ]
  rw [hall] at hap0
  have hint : ((L.length + 1 - i : Nat) : Int) = (L.length : Int) + 1 - i := by omega
  rw [hint] at hap0
  have hIB := insB (x := x) (Z := Z.toList) hi (by rw [hZl]; exact Nat.mul_le_mul_right _ (by omega))
  have hd : (vrV (L.drop i)).length = (L.length - i) * 5 := by rw [vrV_length, List.length_drop]
  have hia := insAt_length L (Nat.le_of_lt hi) x
  have hgc := fun (j : Nat) (u : Value) (hu : (vrV (L.drop i))[j]? = some u) => cells_from hg ht i j u hu
  obtain ⟨C0, hC0⟩ : ∃ C0, vrV (L.take i) ++ Z.toList = C0 := ⟨_, rfl⟩
  have hC0a : (vrV (L.take i)).toArray ++ Z = C0.toArray := by rw [← hC0]; apply Array.ext'; simp
  have hC0l : C0.length = c' * 5 := by
    rw [← hC0, List.length_append, hlen5, hZl]
    omega
  rw [hC0a] at hap0
  simp only [hC0] at hIB
  obtain ⟨C1, hC1⟩ : ∃ C1, C0.take (i * 5) ++ encVr x ++ C0.drop (i * 5 + (encVr x).length) = C1 := ⟨_, rfl⟩
  simp only [hC1] at hIB
  obtain ⟨C2, hC2⟩ : ∃ C2, C1.take ((i + 1) * 5) ++ vrV (L.drop i) ++ C1.drop ((i + 1) * 5 + (vrV (L.drop i)).length) = C2 := ⟨_, rfl⟩
  simp only [hC2] at hIB
  obtain ⟨W1, hW1⟩ : ∃ W1, w.drew.alloc (.cells C0.toArray 49) = W1 := ⟨_, rfl⟩
  rw [hW1] at hap0
  have hg1 : W1.heap[w.heap.size]? = some (.cells C0.toArray 49 (0, 0)) := by rw [← hW1]; exact heap_alloc_new w.drew _
  have hold1 : ∀ k, k < w.heap.size → W1.heap[k]? = w.heap[k]? := fun k hk => by rw [← hW1]; exact heap_alloc_old w.drew _ hk
  have hw1 : W1.os = w.os ∧ W1.tape = w.tape ∧ W1.output = w.output ∧ W1.heap.size = w.heap.size + 1 := by rw [← hW1]; exact ⟨rfl, rfl, rfl, by simp⟩
  obtain ⟨G, hG⟩ : ∃ G, w.heap.size = G := ⟨_, rfl⟩
  rw [hG] at hap0 hg1 hold1 hglt hxlt hB
  have hcp1 := run_copy_rowN (P := Tryz.prog) 5 W1 57 57 3 49 G (i * 5) (L.length + 1 - i) (c' - i) ⟨gx, 0, none⟩ 1 1 C0.toArray 49 (encVr x) Tryz.underlying57 size_version hg1 (by
      have h9 : Nat.min 1 (L.length + 1 - i) = 1 := by show min _ _ = _; omega
      rw [h9]; rfl) (fun j u hu => (World.cell?_of_block (a := (⟨gx, 0, none⟩ : Addr).add j) (by rw [Go.WideShapes.add_plain]; exact hold1 gx hxlt)).trans (hx.cells j u hu)) (by rw [encVr_length, List.size_toArray, hC0l]; omega) (encVr_one x)
  have hmin1 : Nat.min 1 (L.length + 1 - i) = 1 := by show min _ _ = _; omega
  rw [hmin1] at hcp1
  rw [hC1] at hcp1
  obtain ⟨W2, hW2⟩ : ∃ W2, W1.setRow G C1.toArray = W2 := ⟨_, rfl⟩
  rw [hW2] at hcp1
  have hg2 : W2.heap[G]? = some (.cells C1.toArray 49 (0, 0)) := by rw [← hW2]; exact setRow_heap W1 G _ _ _ _ hg1
  have hold2 : ∀ k, k < G → W2.heap[k]? = w.heap[k]? := fun k hk => by rw [← hW2]; exact (setRow_other W1 G k _ (by omega)).trans (hold1 k hk)
  have hw2 : W2.os = w.os ∧ W2.tape = w.tape ∧ W2.output = w.output ∧ W2.heap.size = G + 1 := by rw [← hW2]; exact ⟨hw1.1, hw1.2.1, hw1.2.2.1, by rw [← hG, ← hw1.2.2.2]; simp [World.setRow]⟩
  have hsrc : ∀ j u, (vrV (L.drop i))[j]? = some u → W2.drew.cell? ((⟨g, i * 5, none⟩ : Addr).add j) = some u := fun j u hu => (World.cell?_of_block (a := (⟨g, i * 5, none⟩ : Addr).add j) (by rw [Go.WideShapes.add_plain]; exact hold2 g hglt)).trans (hgc j u hu)
  have HA := Lib.hid (And.intro hg2 (And.intro hold2 (And.intro hw2 (And.intro hsrc (And.intro hd (And.intro hC2 (And.intro hIB (And.intro hC0l (And.intro hia (And.intro hG hB))))))))))
  have hmin2 : Nat.min (L.length - i) (L.length + 1 - (i + 1)) = L.length - i := by show min _ _ = _; omega
  have Hmin2 := Lib.hid hmin2
  clear hg2 hold2 hw2 hsrc hd hC2 hIB hC0l hia hG hB hmin2 hg1 hold1 hw1 hgc hg ht hx hW1 hW2 hC0a hint hall hZ hZl hold hlen5 hC0 hC1 hc' hkk hmin1 hglt hxlt hi0 hz0 hz1 hz2
  obtain ⟨n, hn⟩ : ∃ n, L.length = n := ⟨_, rfl⟩
  rw [hn] at HA hap0 hcp1 hge hi hl Hmin2 ⊢
  have Hn := Lib.hid hn
  have hin : (i : Int) ≤ n := by omega
  have hin2 : ((i : Int) == (n : Int)) = false := beq_eq_false_iff_ne.2 (by omega)
  have hin3 : (i == n) = false := beq_eq_false_iff_ne.2 (by omega)
  have hcn : (n : Int) < n + 1 := by omega
  have hcn2 : decide (n < n + 1) = true := decide_eq_true (by omega)
  have hin4 : (i : Int) + 1 ≤ n + 1 := by omega
  have hin5 : (i : Int) ≤ n + 1 := by omega
  have hcm9 : c' ≤ 9223372036854775807 := hcm
  have hce1 : ¬ c' = i + 1 := by omega
  have hce2 : ¬ c' = i := by omega
  have hce3 : ¬ n = i := by omega
  have Hap := Lib.hid hap0
  clear hn hcm hap0
  go_enter Tryz.func45, Tryz.ntmps45
  go_wp2_with (at_builtin; refine wpList_append_run 34 39 57 3 rfl rfl _ _ _ _ rfl rfl (Hap.out _) ?_)
  go_wp2
  clear hcp1
  have hwa : IntKind.i64.wrap ((i : Int) + 1) = (i : Int) + 1 := IntWalk.i64_in _ (by omega)
  have hwb : (0 : Int) ≤ (i : Int) + 1 := by omega
  have hwc : ((i : Int) + 1).toNat = i + 1 := by omega
  refine wp_region_still_tail 8 (by kernel_rfl) (by kernel_rfl) ?_
  simp only [List.take_succ_cons, List.take_zero, List.drop_succ_cons, List.drop_zero]
  repeat still_step
  refine wpStill_nil ?_
  change wpList _ _ _ _ _ W2.drew
  refine wpList_copyN 5 50 53 57 57 49 rfl rfl G ((i + 1) * 5) (n + 1 - (i + 1)) (c' - (i + 1)) ⟨g, i * 5, none⟩ (n - i) (n - i) C1.toArray 49 (vrV (L.drop i)) Tryz.underlying57 size_version ?_ ?_ HA.out.1 (by rw [Hmin2.out]; exact HA.out.2.2.2.2.1) HA.out.2.2.2.1 (by
      have h1 := HA.out.2.2.2.2.1
      have h2 := HA.out.2.2.2.2.2.2.1.1
      have h3 := HA.out.2.2.2.2.2.2.2.1
      rw [List.size_toArray]
      omega) (vrV_one _) ?_
  · simp [Act.eval]
  · simp [Act.eval]
  · rw [HA.out.2.2.2.2.2.1]
    have hfin := setRow_heap W2.drew G _ C2.toArray _ _ HA.out.1
    have hoth := fun k (hk : k < G) => (setRow_other W2.drew G k C2.toArray (by omega)).trans (HA.out.2.1 k hk)
    have hrest : (W2.drew.setRow G C2.toArray).os = w.os ∧ (W2.drew.setRow G C2.toArray).tape = w.tape ∧ (W2.drew.setRow G C2.toArray).output = w.output ∧ (W2.drew.setRow G C2.toArray).heap.size = G + 1 := ⟨HA.out.2.2.1.1, HA.out.2.2.1.2.1, HA.out.2.2.1.2.2.1, by rw [← HA.out.2.2.1.2.2.2]; simp [World.setRow]⟩
    obtain ⟨W3, hW3⟩ : ∃ W3, W2.drew.setRow G C2.toArray = W3 := ⟨_, rfl⟩
    rw [hW3] at hfin hoth hrest ⊢
    have HF := Lib.hid (And.intro hfin (And.intro hoth hrest))
    clear hfin hoth hrest hW3
    go_wp2
    go_ret
    obtain ⟨k1, k2, k3⟩ := HA.out.2.2.2.2.2.2.1
    have hC0l := HA.out.2.2.2.2.2.2.2.1
    have hia := HA.out.2.2.2.2.2.2.2.2.1
    have hG := HA.out.2.2.2.2.2.2.2.2.2.1
    have hBB := HA.out.2.2.2.2.2.2.2.2.2.2
    refine ⟨_, rfl, ?_, ⟨HF.out.2.2.1, HF.out.2.2.2.1, HF.out.2.2.2.2.1, by rw [HF.out.2.2.2.2.2, hG]; omega, fun k hk _ => HF.out.2.1 k (by omega)⟩, .inr ⟨G, rfl, by omega⟩⟩
    unfold OwnV
    rw [hia]
    refine ⟨by rw [vrV_length, hia], .inr ⟨G, c', C2.toArray, rfl, hBB, HF.out.1, hge, hcm9, ?_, ?_⟩⟩
    · rw [List.size_toArray]; omega
    · exact k3
/-- slices.Insert of one version, at any place. -/
theorem insert_walk (B : Nat) (v : Value) (L : List Ver) (i gx : Nat) (x : Ver) (w : World) (hown : OwnV B w v L) (hi : i ≤ L.length) (hl : L.length ≤ 1000) (hx : OneV w gx x) (hne : v.ownBlock ≠ some gx) (hB : B ≤ w.heap.size) :
    Calls Tryz.prog 45 #[v, .int .i64 i, .slice (some ⟨gx, 0, none⟩) 1 1] w fun e w' => InsOut B w w' v (insAt L i x) e := by
  by_cases he : i = L.length
  · subst he
    have e : insAt L L.length x = L ++ [x] := by unfold insAt; simp
    rw [e]
    exact insert_end B v L gx x w hown hl hx hB
  · have hlt : i < L.length := by omega
    rcases hown.2 with ⟨_, h0⟩ | ⟨g, cap, cur, rfl, hb, hg, hc, hm, hcs, ht⟩
    · omega
    · have hne2 : gx ≠ g := fun e => hne (by rw [e]; rfl)
      by_cases hr : L.length + 1 ≤ cap
      · exact insert_room B g cap cur L i gx x w hb hg hr hm hcs ht hlt hl hx hne2
      · have hce : cap = L.length := by omega
        subst hce
        exact insert_grow B g cur L i gx x w hB hg ht hlt hl hx
end Go.Proofs.YthdicfcgkbepdaaGreatDoor
