/- The walk of slices.Insert of versions in the middle. -/
import Derived.Test.YtolbdcmoblcakaaGreatDoorKRepairAll03
import Derived.Test.YtolbdcmoblcakaaGreatDoorKRepairAll05
import Derived.Laws.CopyRow
import Derived.Lib.AppendZerosOnto
import Derived.Lib.Overlaps
import Derived.StillTailTactics
import Derived.IntWalk
import Derived.Outline
import Derived.Test.YtolbdcmoblcakaaGreatDoorKRepairAll09
import Derived.Deep.QuietTactic
import Derived.BigQuiet
import Derived.Deep.RegionHeld3
namespace Go.Proofs.YtolbdcmoblcakaaGreatDoor
open Go.RowKit Go.Extern

/-- copy of structs of m cells, from a row that is read into a row of the call's own. -/
theorem run_copy_rowN {P : Program} (m : Nat) (w : World) (dT sT ty elem : TypeId) (g o dLen dCap : Nat) (a : Addr) (sLen sCap : Nat) (cur : Array Value) (t : TypeId) (cs : List Value)
    (hu : P.underlying dT = some (.slice elem)) (hs : (P.info? elem).map (·.size) = some m)
    (hg : w.heap[g]? = some (.cells cur t (0, 0))) (hn : cs.length = Nat.min sLen dLen * m)
    (hsrc : ∀ j v, cs[j]? = some v → w.cell? (a.add j) = some v) (hfit : o + cs.length ≤ cur.size) (h1 : ∀ v ∈ cs, v.oneCell' = true) :
    (Builtin.copy_ #[dT, sT] ty #[.slice (some ⟨g, o, none⟩) dLen dCap, .slice (some a) sLen sCap]).run P w =
      .ok (goInt (Nat.min sLen dLen)) (w.setRow g (cur.toList.take o ++ cs ++ cur.toList.drop (o + cs.length)).toArray) := by
  have hl := run_loadCells_list (P := P) w a cs hsrc
  have hst := run_storeCells_at P g o t cs 0 cur w hg (by simpa using hfit) h1
  cases hq : P.info? elem with
  | none => simp [hq] at hs
  | some i =>
    have hi : i.size = m := by simpa [hq] using hs
    simp [Builtin.copy_, run_underlying hu, Builtin.lenOf, Builtin.firstCells, sizeOf, typeInfo, hq, hi, ← hn, hl, hst]
theorem wpList_copyN {P : Program} {ops : Array Oper} {rest : List Oper} {o : Oper} {a : Act} {Q : Exit → Act → World → Prop} {w : World} (m : Nat) (d s : Nat) (dT sT elem : TypeId) (hgd : o.guard = none)
    (ho : o.op = .call { callee := .builtin .copy, args := #[.tmp d, .tmp s], argTypes := #[dT, sT] }) (g od dLen dCap : Nat) (ad : Addr) (sLen sCap : Nat) (cur : Array Value) (t : TypeId) (cs : List Value)
    (hu : P.underlying dT = some (.slice elem)) (hz : (P.info? elem).map (·.size) = some m)
    (hd : a.eval (.tmp d) = .slice (some ⟨g, od, none⟩) dLen dCap) (hs : a.eval (.tmp s) = .slice (some ad) sLen sCap)
    (hg : w.heap[g]? = some (.cells cur t (0, 0))) (hn : cs.length = Nat.min sLen dLen * m)
    (hsrc : ∀ j v, cs[j]? = some v → w.cell? (ad.add j) = some v) (hfit : od + cs.length ≤ cur.size) (h1 : ∀ v ∈ cs, v.oneCell' = true)
    (h : wpList P ops Q rest (a.put o.dst (goInt (Nat.min sLen dLen))) (w.setRow g (cur.toList.take od ++ cs ++ cur.toList.drop (od + cs.length)).toArray)) :
    wpList P ops Q (o :: rest) a w := by
  refine wpList_plain hgd fun K hK => ?_
  have hr := run_copy_rowN (P := P) m w dT sT o.type elem g od dLen dCap ad sLen sCap cur t cs hu hz hg hn hsrc hfit h1
  unfold Oper.wp execOp
  simp only [ho, resolve, invoke, builtin, Sem.run_bind, Sem.run_pure, Result.andThen_ok, List.map_toArray, List.map_cons, List.map_nil, hs, hd, hr]
  exact hK _ _ h
theorem wpList_append_run {P : Program} {ops : Array Oper} {rest : List Oper} {o : Oper} {a : Act} {Q : Exit → Act → World → Prop} {w : World} (s x : Nat) (t1 t2 : TypeId) (hgd : o.guard = none)
    (ho : o.op = .call { callee := .builtin .append, args := #[.tmp s, .tmp x], argTypes := #[t1, t2] }) (vs vx v' : Value) (w' : World) (hs : a.eval (.tmp s) = vs) (hx : a.eval (.tmp x) = vx)
    (hr : (Builtin.append_ #[t1, t2] o.type #[vs, vx]).run P w = .ok v' w') (h : wpList P ops Q rest (a.put o.dst v') w') :
    wpList P ops Q (o :: rest) a w := by
  refine wpList_plain hgd fun K hK => ?_
  unfold Oper.wp execOp
  simp only [ho, resolve, invoke, builtin, Sem.run_bind, Sem.run_pure, Result.andThen_ok, List.map_toArray, List.map_cons, List.map_nil, hs, hx, hr]
  exact hK _ _ h
theorem setRow_grown (w : World) (g : Nat) (cs : Array Value) : w.grownBy (w.setRow g cs) (some g) :=
  ⟨rfl, rfl, rfl, by simp [World.setRow], fun k _ hk => setRow_other w g k _ (fun e => hk (by rw [e]))⟩
theorem drew_grown (w : World) (r : Option Nat) : w.grownBy w.drew r := ⟨rfl, rfl, rfl, Nat.le_refl _, fun _ _ _ => rfl⟩
/-- the list with x put in at place i. -/
def insAt (L : List Ver) (i : Nat) (x : Ver) : List Ver := L.take i ++ [x] ++ L.drop i
theorem insAt_length (L : List Ver) {i : Nat} (hi : i ≤ L.length) (x : Ver) : (insAt L i x).length = L.length + 1 := by
  unfold insAt; simp; omega
theorem vrV_take (L : List Ver) (i : Nat) : vrV (L.take i) = (vrV L).take (i * 5) := by
  by_cases h : i ≤ L.length
  · have e := vrV_append (L.take i) (L.drop i)
    rw [List.take_append_drop] at e
    have hl : (vrV (L.take i)).length = i * 5 := by rw [vrV_length, List.length_take]; omega
    rw [e, ← hl, List.take_left]
  · rw [List.take_of_length_le (by omega), List.take_of_length_le (by rw [vrV_length]; omega)]
theorem encVr_length (x : Ver) : (encVr x).length = 5 := rfl
theorem insA {C0 : List Value} {L : List Ver} {i : Nat} {x : Ver} (hC : C0.take (L.length * 5) = vrV L) (hi : i < L.length) (hl : (L.length + 1) * 5 ≤ C0.length) :
    let C1 := C0.take ((i + 1) * 5) ++ vrV (L.drop i) ++ C0.drop ((i + 1) * 5 + (vrV (L.drop i)).length)
    let C2 := C1.take (i * 5) ++ encVr x ++ C1.drop (i * 5 + (encVr x).length)
    C1.length = C0.length ∧ C2.length = C0.length ∧ C2.take ((L.length + 1) * 5) = vrV (insAt L i x) := by
  intro C1 C2
  have hd : (vrV (L.drop i)).length = (L.length - i) * 5 := by rw [vrV_length, List.length_drop]
  have h1 : C1.length = C0.length := by
    show (C0.take ((i + 1) * 5) ++ vrV (L.drop i) ++ C0.drop ((i + 1) * 5 + (vrV (L.drop i)).length)).length = _
    simp only [List.length_append, List.length_take, List.length_drop, hd]
    omega
  have h2 : C1.take (i * 5) = vrV (L.take i) := by
    show (C0.take ((i + 1) * 5) ++ vrV (L.drop i) ++ _).take (i * 5) = _
    rw [List.append_assoc, List.take_append_of_le_length (by simp; omega), List.take_take, Nat.min_eq_left (by omega), vrV_take, ← hC, List.take_take, Nat.min_eq_left (by omega)]
  have h3 : C1.drop (i * 5 + (encVr x).length) = vrV (L.drop i) ++ C0.drop ((i + 1) * 5 + (vrV (L.drop i)).length) := by
    show (C0.take ((i + 1) * 5) ++ vrV (L.drop i) ++ _).drop (i * 5 + 5) = _
    have e : i * 5 + 5 = (C0.take ((i + 1) * 5)).length := by simp; omega
    rw [List.append_assoc, e, List.drop_left]
  have hC2 : C2 = vrV (insAt L i x) ++ C0.drop ((i + 1) * 5 + (vrV (L.drop i)).length) := by
    show C1.take (i * 5) ++ encVr x ++ C1.drop (i * 5 + (encVr x).length) = _
    rw [h2, h3]
    unfold insAt
    rw [vrV_append, vrV_append]
    simp [vrV]
  have hlen : (vrV (insAt L i x)).length = (L.length + 1) * 5 := by rw [vrV_length, insAt_length L (Nat.le_of_lt hi)]
  refine ⟨h1, ?_, ?_⟩
  · rw [hC2, List.length_append, hlen, List.length_drop, hd]; omega
  · rw [hC2, ← hlen, List.take_left]
theorem insB {Z : List Value} {L : List Ver} {i : Nat} {x : Ver} (hi : i < L.length) (hl : (L.length + 1 - i) * 5 ≤ Z.length) :
    let C0 := vrV (L.take i) ++ Z
    let C1 := C0.take (i * 5) ++ encVr x ++ C0.drop (i * 5 + (encVr x).length)
    let C2 := C1.take ((i + 1) * 5) ++ vrV (L.drop i) ++ C1.drop ((i + 1) * 5 + (vrV (L.drop i)).length)
    C1.length = C0.length ∧ C2.length = C0.length ∧ C2.take ((L.length + 1) * 5) = vrV (insAt L i x) := by
  intro C0 C1 C2
  have hd : (vrV (L.drop i)).length = (L.length - i) * 5 := by rw [vrV_length, List.length_drop]
  have ht : (vrV (L.take i)).length = i * 5 := by rw [vrV_length, List.length_take]; omega
  have h0 : C0.length = i * 5 + Z.length := by show (vrV (L.take i) ++ Z).length = _; rw [List.length_append, ht]
  have hC1 : C1 = vrV (L.take i) ++ encVr x ++ Z.drop 5 := by
    show (vrV (L.take i) ++ Z).take (i * 5) ++ encVr x ++ (vrV (L.take i) ++ Z).drop (i * 5 + 5) = _
    rw [← ht, List.take_left, List.drop_append]
    congr 1
    rw [List.drop_of_length_le (by omega), List.nil_append]
    congr 1
    omega
  have h1 : C1.length = C0.length := by
    rw [hC1, h0]
    simp only [List.length_append, List.length_drop, ht, encVr_length]
    omega
  have e : (i + 1) * 5 = (vrV (L.take i) ++ encVr x).length := by rw [List.length_append, ht, encVr_length]; omega
  have hC2 : C2 = vrV (insAt L i x) ++ C1.drop ((i + 1) * 5 + (vrV (L.drop i)).length) := by
    show C1.take ((i + 1) * 5) ++ vrV (L.drop i) ++ C1.drop _ = _
    have h2 : C1.take ((i + 1) * 5) = vrV (L.take i) ++ encVr x := by rw [hC1, e, List.take_left]
    rw [h2]
    unfold insAt
    rw [vrV_append, vrV_append]
    simp [vrV]
  have hlen : (vrV (insAt L i x)).length = (L.length + 1) * 5 := by rw [vrV_length, insAt_length L (Nat.le_of_lt hi)]
  refine ⟨h1, ?_, ?_⟩
  · rw [hC2, List.length_append, hlen, List.length_drop, hd, h1, h0]; omega
  · rw [hC2, ← hlen, List.take_left]
theorem size_version : (Tryz.prog.info? 58).map (·.size) = some 5 := by kernel_rfl
/-- the cells of the versions from i on. -/
theorem cells_from {w : World} {g : Nat} {cur : Array Value} {L : List Ver} (hg : w.heap[g]? = some (.cells cur 58 (0, 0))) (ht : cur.toList.take (L.length * 5) = vrV L) (i : Nat) (j : Nat) (u : Value) (hu : (vrV (L.drop i))[j]? = some u) : w.cell? ((⟨g, i * 5, none⟩ : Addr).add j) = some u := by
  rw [Go.WideShapes.add_plain]
  have hi : i ≤ L.length := by
    rcases Nat.lt_or_ge L.length i with h | h
    · rw [List.drop_of_length_le (by omega)] at hu; cases hu
    · exact h
  have hj := (List.getElem?_eq_some_iff.1 hu).1
  rw [vrV_length, List.length_drop] at hj
  have e := vrV_append (L.take i) (L.drop i)
  rw [List.take_append_drop] at e
  have ht5 : (vrV (L.take i)).length = i * 5 := by rw [vrV_length, List.length_take]; omega
  have h1 : (vrV L)[i * 5 + j]? = some u := by
    rw [e, List.getElem?_append_right (by omega), ht5]
    simpa using hu
  rw [← ht, List.getElem?_take, if_pos (by omega)] at h1
  simp only [World.cell?, hg]
  simpa using h1
theorem OneV.cells {w : World} {gx : Nat} {x : Ver} (h : OneV w gx x) (j : Nat) (u : Value) (hu : (encVr x)[j]? = some u) : w.cell? ((⟨gx, 0, none⟩ : Addr).add j) = some u := by
  rw [Go.WideShapes.add_plain, Nat.zero_add]
  unfold OneV at h
  simp only [World.cell?, h]
  simpa using hu
theorem encVr_one (x : Ver) : ∀ v ∈ encVr x, v.oneCell' = true := fun v hv => vrV_one [x] v (by simpa [vrV] using hv)
/-- there is room: the rest is moved by one. -/
theorem ins_room {B : Nat} {w : World} {g cap : Nat} {cur : Array Value} {L : List Ver} {i : Nat} {x : Ver} (hB : B ≤ g) (hg : w.heap[g]? = some (.cells cur 58 (0, 0))) (hc : L.length + 1 ≤ cap) (hm : cap ≤ maxLen) (hcs : cur.size = cap * 5) (ht : cur.toList.take (L.length * 5) = vrV L) (hi : i < L.length) :
    OwnV B (w.setRow g ((cur.toList.take ((i + 1) * 5) ++ vrV (L.drop i) ++ cur.toList.drop ((i + 1) * 5 + (vrV (L.drop i)).length)).take (i * 5) ++ encVr x ++ (cur.toList.take ((i + 1) * 5) ++ vrV (L.drop i) ++ cur.toList.drop ((i + 1) * 5 + (vrV (L.drop i)).length)).drop (i * 5 + (encVr x).length)).toArray) (.slice (some ⟨g, 0, none⟩) (L.length + 1) cap) (insAt L i x) := by
  have h9 : (L.length + 1) * 5 ≤ cur.toList.length := by
    have e9 : cur.toList.length = cap * 5 := by rw [Array.length_toList]; exact hcs
    rw [e9]
    exact Nat.mul_le_mul_right _ hc
  obtain ⟨h1, h2, h3⟩ := insA (x := x) ht hi h9
  rw [Array.length_toList] at h1 h2
  have hl := insAt_length L (Nat.le_of_lt hi) x
  unfold OwnV
  rw [hl]
  refine ⟨by rw [vrV_length, hl], .inr ⟨g, cap, _, rfl, hB, setRow_heap w g cur _ _ _ hg, hc, hm, ?_, ?_⟩⟩
  · rw [List.size_toArray]; exact h2.trans hcs
  · exact h3
set_option maxRecDepth 100000 in
set_option maxHeartbeats 4000000 in
theorem insert_room (B : Nat) (g cap : Nat) (cur : Array Value) (L : List Ver) (i gx : Nat) (x : Ver) (w : World) (hB : B ≤ g) (hg : w.heap[g]? = some (.cells cur 58 (0, 0))) (hc : L.length + 1 ≤ cap) (hm : cap ≤ maxLen) (hcs : cur.size = cap * 5) (ht : cur.toList.take (L.length * 5) = vrV L)
    (hi : i < L.length) (hl : L.length ≤ 1000) (hx : OneV w gx x) (hne : gx ≠ g) :
    Calls Tryz.prog 43 #[.slice (some ⟨g, 0, none⟩) L.length cap, .int .i64 i, .slice (some ⟨gx, 0, none⟩) 1 1] w fun e w' => InsOut B w w' (.slice (some ⟨g, 0, none⟩) L.length cap) (insAt L i x) e := by
  have hR := ins_room (x := x) hB hg hc hm hcs ht hi
  have hov : ∀ o l c, (callFunc 62 #[.slice (some ⟨gx, 0, none⟩) 1 1, .slice (some ⟨g, o, none⟩) l c]).run Tryz.prog w = .ok (.value (.bool false)) w := fun o l c => by
    rw [@run_callFunc_extern Tryz.prog 62 _ (SlicesOverlaps.overlaps #[46, 46] #[4]) Tryz.func62 (by kernel_rfl) (by kernel_rfl) (by kernel_rfl) (by kernel_rfl)]
    have hxx : w.heap[gx]? = some (.cells (encVr x).toArray 58 (0, 0)) := hx
    rw [Lib.run_overlaps_apart w 46 4 58 Tryz.underlying46 5 (fun _ => by kernel_rfl) ⟨gx, 0, none⟩ ⟨g, o, none⟩ 1 1 l c hne 58 58 5 (cap * 5) (by simp [World.shape?, hxx, encVr]) (by simp [World.shape?, hg, hcs]) (by omega) (by simp [World.frozen?, hxx]) (by simp [World.frozen?, hxx])]
    rfl
  have hc1 := fun (j : Nat) (u : Value) (hu : (vrV (L.drop i))[j]? = some u) => cells_from hg ht i j u hu
  have hd : (vrV (L.drop i)).length = (L.length - i) * 5 := by rw [vrV_length, List.length_drop]
  have hgne : ∀ cs : Array Value, (w.drew.setRow g cs).heap[gx]? = w.heap[gx]? := fun cs => setRow_other w.drew g gx cs hne
  have Hgne := Lib.hid (And.intro hgne (And.intro hx hcs))
  have Hd := Lib.hid (And.intro hd (And.intro hc1 hg))
  have HR := Lib.hid hR
  obtain ⟨n, hn⟩ : ∃ n, L.length = n := ⟨_, rfl⟩
  rw [hn] at Hd HR hc hi hl ⊢
  have Hn := Lib.hid hn
  have hin : (i : Int) ≤ n := by omega
  have hin2 : ((i : Int) == (n : Int)) = false := beq_eq_false_iff_ne.2 (by omega)
  have hin3 : (i == n) = false := beq_eq_false_iff_ne.2 (by omega)
  have hcn : ¬ (cap : Int) < n + 1 := by omega
  have hcn2 : decide (cap < n + 1) = false := decide_eq_false (by omega)
  have hcn3 : (n : Int) + 1 ≤ cap := by omega
  have hin4 : (i : Int) + 1 ≤ n + 1 := by omega
  have hin5 : (i : Int) ≤ n + 1 := by omega
  have hm9 : cap ≤ 9223372036854775807 := hm
  have hce1 : ¬ cap = i + 1 := by omega
  have hce2 : ¬ cap = i := by omega
  clear hR hc1 hd hg ht hcs hx hgne hn hB
  go_enter Tryz.func43, Tryz.ntmps43
  go_wp2
  have hw1 : IntKind.i64.wrap ((i : Int) + 1) = (i : Int) + 1 := IntWalk.i64_in _ (by omega)
  have hw2 : (0 : Int) ≤ (i : Int) + 1 := by omega
  have hw3 : ((i : Int) + 1).toNat = i + 1 := by omega
  refine wp_region_still_tail 8 (by kernel_rfl) (by kernel_rfl) ?_
  simp only [List.take_succ_cons, List.take_zero, List.drop_succ_cons, List.drop_zero]
  repeat still_step
  refine wpStill_nil ?_
  change wpList _ _ _ _ _ w.drew
  have hmin : Nat.min (n + 1 - i) (n + 1 - (i + 1)) = n - i := by
    show min _ _ = _
    omega
  refine wpList_copyN 5 73 76 46 46 58 rfl rfl g ((i + 1) * 5) (n + 1 - (i + 1)) (cap - (i + 1)) ⟨g, i * 5, none⟩ (n + 1 - i) (cap - i) cur 58 (vrV (L.drop i)) Tryz.underlying46 size_version ?_ ?_ Hd.out.2.2 (by rw [hmin]; exact Hd.out.1) (fun j u hu => Hd.out.2.1 j u hu) (by have h1 := Hd.out.1; have h2 := Hgne.out.2.2; omega) (vrV_one _) ?_
  · simp [Act.eval]
  · simp [Act.eval]
  · have hC1 := setRow_heap w.drew g cur (cur.toList.take ((i + 1) * 5) ++ vrV (L.drop i) ++ cur.toList.drop ((i + 1) * 5 + (vrV (L.drop i)).length)).toArray 58 (0, 0) Hd.out.2.2
    have hx1 : OneV (w.drew.setRow g (cur.toList.take ((i + 1) * 5) ++ vrV (L.drop i) ++ cur.toList.drop ((i + 1) * 5 + (vrV (L.drop i)).length)).toArray) gx x := (Hgne.out.1 _).trans Hgne.out.2.1
    have hsz : (cur.toList.take ((i + 1) * 5) ++ vrV (L.drop i) ++ cur.toList.drop ((i + 1) * 5 + (vrV (L.drop i)).length)).toArray.size = cap * 5 := by
      have h1 := Hgne.out.2.2
      have h2 := Hd.out.1
      simp only [List.size_toArray, List.length_append, List.length_take, List.length_drop, Array.length_toList]
      omega
    have hHR := HR.out
    obtain ⟨C1, hC1e⟩ : ∃ C1, cur.toList.take ((i + 1) * 5) ++ vrV (L.drop i) ++ cur.toList.drop ((i + 1) * 5 + (vrV (L.drop i)).length) = C1 := ⟨_, rfl⟩
    rw [hC1e] at hC1 hx1 hsz hHR ⊢
    have HC1 := Lib.hid (And.intro hC1 (And.intro hx1 hsz))
    have Hcur := Lib.hid Hd.out.2.2
    have HRR := Lib.hid hHR
    obtain ⟨W1, hW1⟩ : ∃ W1, w.drew.setRow g C1.toArray = W1 := ⟨_, rfl⟩
    have HW1 := Lib.hid hW1
    rw [hW1] at HC1 ⊢
    clear hC1 hx1 hsz hHR hC1e hW1 HR Hd hov
    have hmin2 : Nat.min 1 (n + 1 - i) = 1 := by
      show min _ _ = _
      omega
    have Hmin2 := Lib.hid hmin2
    clear hmin hmin2
    have hcp := run_copy_rowN (P := Tryz.prog) 5 W1 46 46 3 58 g (i * 5) (n + 1 - i) (cap - i) ⟨gx, 0, none⟩ 1 1 C1.toArray 58 (encVr x) Tryz.underlying46 size_version HC1.out.1 (by rw [Hmin2.out]; rfl) (fun j u hu => HC1.out.2.1.cells j u hu) (by have h1 := HC1.out.2.2; have h2 := encVr_length x; omega) (encVr_one x)
    obtain ⟨W2, hW2⟩ : ∃ W2, W1.setRow g (C1.toArray.toList.take (i * 5) ++ encVr x ++ C1.toArray.toList.drop (i * 5 + (encVr x).length)).toArray = W2 := ⟨_, rfl⟩
    have HW2 := Lib.hid hW2
    rw [Hmin2.out, hW2] at hcp
    clear hW2
    go_wp2
    go_ret
    rw [← HW2.out]
    refine ⟨_, rfl, HRR.out.heap (fun g' hg' => ?_), ?_, .inl rfl⟩
    · obtain rfl : g = g' := by simpa [Value.ownBlock] using hg'
      have h1 := HC1.out.1
      rw [setRow_heap W1 g _ _ _ _ h1, setRow_heap w g _ _ _ _ Hcur.out]
    · rw [← HW1.out]
      exact ⟨rfl, rfl, rfl, by simp [World.setRow], fun k _ hk => (setRow_other _ g k _ (fun e => hk (by rw [e]; rfl))).trans (setRow_other w.drew g k _ (fun e => hk (by rw [e]; rfl)))⟩
set_option maxRecDepth 100000 in
set_option maxHeartbeats 4000000 in
theorem insert_grow (B : Nat) (g : Nat) (cur : Array Value) (L : List Ver) (i gx : Nat) (x : Ver) (w : World) (hB : B ≤ w.heap.size) (hg : w.heap[g]? = some (.cells cur 58 (0, 0))) (ht : cur.toList.take (L.length * 5) = vrV L)
    (hi : i < L.length) (hl : L.length ≤ 1000) (hx : OneV w gx x) :
    Calls Tryz.prog 43 #[.slice (some ⟨g, 0, none⟩) L.length L.length, .int .i64 i, .slice (some ⟨gx, 0, none⟩) 1 1] w fun e w' => InsOut B w w' (.slice (some ⟨g, 0, none⟩) L.length L.length) (insAt L i x) e := by
  obtain ⟨inf, hi0, hz0, hz1, hz2⟩ := info_parts info_version
  have hglt : g < w.heap.size := (Array.getElem?_eq_some_iff.1 hg).1
  have hxlt : gx < w.heap.size := hx.lt
  have hlen5 : (vrV (L.take i)).length = i * 5 := by rw [vrV_length, List.length_take]; omega
  have hold : (Builtin.firstCells inf.size i (.slice (some ⟨g, 0, none⟩) i L.length)).run Tryz.prog w.drew = .ok (vrV (L.take i)).toArray w.drew :=
    run_firstCells_some w.drew inf.size i ⟨g, 0, none⟩ i L.length (vrV (L.take i)) (by rw [hz1]; exact hlen5) (fun j v hj => by
      have hj2 := (List.getElem?_eq_some_iff.1 hj).1
      rw [hlen5] at hj2
      have e := vrV_append (L.take i) (L.drop i)
      rw [List.take_append_drop] at e
      have h1 : (vrV L)[j]? = some v := by rw [e, List.getElem?_append_left (by omega)]; exact hj
      rw [← ht, List.getElem?_take, if_pos (by omega)] at h1
      rw [Go.WideShapes.add_plain, Nat.zero_add]
      simp only [World.cell?, World.drew, hg]
      simpa using h1)
  have hap0 := fun ty => Lib.run_append_grow_zeros (P := Tryz.prog) w 46 3 ty 58 inf _ .i64 .i64 Tryz.underlying46 Tryz.underlying3 hi0 hz0 (some ⟨g, 0, none⟩) i L.length (vrV (L.take i)) hold (L.length + 1 - i) (by omega) (by omega) (by omega) (by omega) (by rw [hz2]; omega) (growslice_fits (by omega) (by rw [hz2]; omega))
  have hge := grownCap_ge w (i + (L.length + 1 - i)) L.length 58
  have hcm := grownCap_le_maxLen w (i + (L.length + 1 - i)) L.length 58 (by unfold maxLen; omega)
  have hkk : i + (L.length + 1 - i) = L.length + 1 := by omega
  rw [hkk] at hap0 hge hcm
  obtain ⟨c', hc'⟩ : ∃ c', grownCap w (L.length + 1) L.length 58 = c' := ⟨_, rfl⟩
  rw [hc'] at hap0 hge hcm
  obtain ⟨Z, hZ⟩ : ∃ Z : Array Value, Builtin.zeroCells (Value.agg #[.int .i64 0, .int .i64 0, .int .i64 0, .int .i64 0, .string ⟨#[]⟩]).cells (L.length + 1 - i) ++ Builtin.zeroCells (Value.agg #[.int .i64 0, .int .i64 0, .int .i64 0, .int .i64 0, .string ⟨#[]⟩]).cells (c' - (L.length + 1)) = Z := ⟨_, rfl⟩
  have hZl : Z.toList.length = (c' - i) * 5 := by
    rw [← hZ, Array.length_toList, Array.size_append, size_zeroCells, size_zeroCells]
    show (L.length + 1 - i) * 5 + (c' - (L.length + 1)) * 5 = _
    omega
  have hall : ∀ A : Array Value, A ++ Builtin.zeroCells (Value.agg #[.int .i64 0, .int .i64 0, .int .i64 0, .int .i64 0, .string ⟨#[]⟩]).cells (L.length + 1 - i) ++ Builtin.zeroCells (Value.agg #[.int .i64 0, .int .i64 0, .int .i64 0, .int .i64 0, .string ⟨#[]⟩]).cells (c' - (L.length + 1)) = A ++ Z := fun A => by rw [Array.append_assoc, hZ]
  rw [hall] at hap0
  have hint : ((L.length + 1 - i : Nat) : Int) = (L.length : Int) + 1 - i := by omega
  rw [hint] at hap0
  have hIB := insB (x := x) (Z := Z.toList) hi (by rw [hZl]; exact Nat.mul_le_mul_right _ (by omega))
  have hd : (vrV (L.drop i)).length = (L.length - i) * 5 := by rw [vrV_length, List.length_drop]
  have hia := insAt_length L (Nat.le_of_lt hi) x
  have hgc := fun (j : Nat) (u : Value) (hu : (vrV (L.drop i))[j]? = some u) => cells_from hg ht i j u hu
  obtain ⟨C0, hC0⟩ : ∃ C0, vrV (L.take i) ++ Z.toList = C0 := ⟨_, rfl⟩
  have hC0a : (vrV (L.take i)).toArray ++ Z = C0.toArray := by rw [← hC0]; apply Array.ext'; simp
  have hC0l : C0.length = c' * 5 := by
    rw [← hC0, List.length_append, hlen5, hZl]
    omega
  rw [hC0a] at hap0
  simp only [hC0] at hIB
  obtain ⟨C1, hC1⟩ : ∃ C1, C0.take (i * 5) ++ encVr x ++ C0.drop (i * 5 + (encVr x).length) = C1 := ⟨_, rfl⟩
  simp only [hC1] at hIB
  obtain ⟨C2, hC2⟩ : ∃ C2, C1.take ((i + 1) * 5) ++ vrV (L.drop i) ++ C1.drop ((i + 1) * 5 + (vrV (L.drop i)).length) = C2 := ⟨_, rfl⟩
  simp only [hC2] at hIB
  obtain ⟨W1, hW1⟩ : ∃ W1, w.drew.alloc (.cells C0.toArray 58) = W1 := ⟨_, rfl⟩
  rw [hW1] at hap0
  have hg1 : W1.heap[w.heap.size]? = some (.cells C0.toArray 58 (0, 0)) := by rw [← hW1]; exact heap_alloc_new w.drew _
  have hold1 : ∀ k, k < w.heap.size → W1.heap[k]? = w.heap[k]? := fun k hk => by rw [← hW1]; exact heap_alloc_old w.drew _ hk
  have hw1 : W1.os = w.os ∧ W1.tape = w.tape ∧ W1.output = w.output ∧ W1.heap.size = w.heap.size + 1 := by rw [← hW1]; exact ⟨rfl, rfl, rfl, by simp⟩
  obtain ⟨G, hG⟩ : ∃ G, w.heap.size = G := ⟨_, rfl⟩
  rw [hG] at hap0 hg1 hold1 hglt hxlt hB
  have hcp1 := run_copy_rowN (P := Tryz.prog) 5 W1 46 46 3 58 G (i * 5) (L.length + 1 - i) (c' - i) ⟨gx, 0, none⟩ 1 1 C0.toArray 58 (encVr x) Tryz.underlying46 size_version hg1 (by
      have h9 : Nat.min 1 (L.length + 1 - i) = 1 := by show min _ _ = _; omega
      rw [h9]; rfl) (fun j u hu => (World.cell?_of_block (a := (⟨gx, 0, none⟩ : Addr).add j) (by rw [Go.WideShapes.add_plain]; exact hold1 gx hxlt)).trans (hx.cells j u hu)) (by rw [encVr_length, List.size_toArray, hC0l]; omega) (encVr_one x)
  have hmin1 : Nat.min 1 (L.length + 1 - i) = 1 := by show min _ _ = _; omega
  rw [hmin1] at hcp1
  rw [hC1] at hcp1
  obtain ⟨W2, hW2⟩ : ∃ W2, W1.setRow G C1.toArray = W2 := ⟨_, rfl⟩
  rw [hW2] at hcp1
  have hg2 : W2.heap[G]? = some (.cells C1.toArray 58 (0, 0)) := by rw [← hW2]; exact setRow_heap W1 G _ _ _ _ hg1
  have hold2 : ∀ k, k < G → W2.heap[k]? = w.heap[k]? := fun k hk => by rw [← hW2]; exact (setRow_other W1 G k _ (by omega)).trans (hold1 k hk)
  have hw2 : W2.os = w.os ∧ W2.tape = w.tape ∧ W2.output = w.output ∧ W2.heap.size = G + 1 := by rw [← hW2]; exact ⟨hw1.1, hw1.2.1, hw1.2.2.1, by rw [← hG, ← hw1.2.2.2]; simp [World.setRow]⟩
  have hsrc : ∀ j u, (vrV (L.drop i))[j]? = some u → W2.drew.cell? ((⟨g, i * 5, none⟩ : Addr).add j) = some u := fun j u hu => (World.cell?_of_block (a := (⟨g, i * 5, none⟩ : Addr).add j) (by rw [Go.WideShapes.add_plain]; exact hold2 g hglt)).trans (hgc j u hu)
  have HA := Lib.hid (And.intro hg2 (And.intro hold2 (And.intro hw2 (And.intro hsrc (And.intro hd (And.intro hC2 (And.intro hIB (And.intro hC0l (And.intro hia (And.intro hG hB))))))))))
  have hmin2 : Nat.min (L.length - i) (L.length + 1 - (i + 1)) = L.length - i := by show min _ _ = _; omega
  have Hmin2 := Lib.hid hmin2
  clear hg2 hold2 hw2 hsrc hd hC2 hIB hC0l hia hG hB hmin2 hg1 hold1 hw1 hgc hg ht hx hW1 hW2 hC0a hint hall hZ hZl hold hlen5 hC0 hC1 hc' hkk hmin1 hglt hxlt hi0 hz0 hz1 hz2
  obtain ⟨n, hn⟩ : ∃ n, L.length = n := ⟨_, rfl⟩
  rw [hn] at HA hap0 hcp1 hge hi hl Hmin2 ⊢
  have Hn := Lib.hid hn
  have hin : (i : Int) ≤ n := by omega
  have hin2 : ((i : Int) == (n : Int)) = false := beq_eq_false_iff_ne.2 (by omega)
  have hin3 : (i == n) = false := beq_eq_false_iff_ne.2 (by omega)
  have hcn : (n : Int) < n + 1 := by omega
  have hcn2 : decide (n < n + 1) = true := decide_eq_true (by omega)
  have hin4 : (i : Int) + 1 ≤ n + 1 := by omega
  have hin5 : (i : Int) ≤ n + 1 := by omega
  have hcm9 : c' ≤ 9223372036854775807 := hcm
  have hce1 : ¬ c' = i + 1 := by omega
  have hce2 : ¬ c' = i := by omega
  have hce3 : ¬ n = i := by omega
  have Hap := Lib.hid hap0
  clear hn hcm hap0
  go_enter Tryz.func43, Tryz.ntmps43
  go_wp2_with (at_builtin; refine wpList_append_run 34 39 46 3 rfl rfl _ _ _ _ rfl rfl (Hap.out _) ?_)
  go_wp2
  clear hcp1
  have hwa : IntKind.i64.wrap ((i : Int) + 1) = (i : Int) + 1 := IntWalk.i64_in _ (by omega)
  have hwb : (0 : Int) ≤ (i : Int) + 1 := by omega
  have hwc : ((i : Int) + 1).toNat = i + 1 := by omega
  refine wp_region_still_tail 8 (by kernel_rfl) (by kernel_rfl) ?_
  simp only [List.take_succ_cons, List.take_zero, List.drop_succ_cons, List.drop_zero]
  repeat still_step
  refine wpStill_nil ?_
  change wpList _ _ _ _ _ W2.drew
  refine wpList_copyN 5 50 53 46 46 58 rfl rfl G ((i + 1) * 5) (n + 1 - (i + 1)) (c' - (i + 1)) ⟨g, i * 5, none⟩ (n - i) (n - i) C1.toArray 58 (vrV (L.drop i)) Tryz.underlying46 size_version ?_ ?_ HA.out.1 (by rw [Hmin2.out]; exact HA.out.2.2.2.2.1) HA.out.2.2.2.1 (by
      have h1 := HA.out.2.2.2.2.1
      have h2 := HA.out.2.2.2.2.2.2.1.1
      have h3 := HA.out.2.2.2.2.2.2.2.1
      rw [List.size_toArray]
      omega) (vrV_one _) ?_
  · simp [Act.eval]
  · simp [Act.eval]
  · rw [HA.out.2.2.2.2.2.1]
    have hfin := setRow_heap W2.drew G _ C2.toArray _ _ HA.out.1
    have hoth := fun k (hk : k < G) => (setRow_other W2.drew G k C2.toArray (by omega)).trans (HA.out.2.1 k hk)
    have hrest : (W2.drew.setRow G C2.toArray).os = w.os ∧ (W2.drew.setRow G C2.toArray).tape = w.tape ∧ (W2.drew.setRow G C2.toArray).output = w.output ∧ (W2.drew.setRow G C2.toArray).heap.size = G + 1 := ⟨HA.out.2.2.1.1, HA.out.2.2.1.2.1, HA.out.2.2.1.2.2.1, by rw [← HA.out.2.2.1.2.2.2]; simp [World.setRow]⟩
    obtain ⟨W3, hW3⟩ : ∃ W3, W2.drew.setRow G C2.toArray = W3 := ⟨_, rfl⟩
    rw [hW3] at hfin hoth hrest ⊢
    have HF := Lib.hid (And.intro hfin (And.intro hoth hrest))
    clear hfin hoth hrest hW3
    go_wp2
    go_ret
    obtain ⟨k1, k2, k3⟩ := HA.out.2.2.2.2.2.2.1
    have hC0l := HA.out.2.2.2.2.2.2.2.1
    have hia := HA.out.2.2.2.2.2.2.2.2.1
    have hG := HA.out.2.2.2.2.2.2.2.2.2.1
    have hBB := HA.out.2.2.2.2.2.2.2.2.2.2
    refine ⟨_, rfl, ?_, ⟨HF.out.2.2.1, HF.out.2.2.2.1, HF.out.2.2.2.2.1, by rw [HF.out.2.2.2.2.2, hG]; omega, fun k hk _ => HF.out.2.1 k (by omega)⟩, .inr ⟨G, rfl, by omega⟩⟩
    unfold OwnV
    rw [hia]
    refine ⟨by rw [vrV_length, hia], .inr ⟨G, c', C2.toArray, rfl, hBB, HF.out.1, hge, hcm9, ?_, ?_⟩⟩
    · rw [List.size_toArray]; omega
    · exact k3
/-- slices.Insert of one version, at any place. -/
theorem insert_walk (B : Nat) (v : Value) (L : List Ver) (i gx : Nat) (x : Ver) (w : World) (hown : OwnV B w v L) (hi : i ≤ L.length) (hl : L.length ≤ 1000) (hx : OneV w gx x) (hne : v.ownBlock ≠ some gx) (hB : B ≤ w.heap.size) :
    Calls Tryz.prog 43 #[v, .int .i64 i, .slice (some ⟨gx, 0, none⟩) 1 1] w fun e w' => InsOut B w w' v (insAt L i x) e := by
  by_cases he : i = L.length
  · subst he
    have e : insAt L L.length x = L ++ [x] := by unfold insAt; simp
    rw [e]
    exact insert_end B v L gx x w hown hl hx hB
  · have hlt : i < L.length := by omega
    rcases hown.2 with ⟨_, h0⟩ | ⟨g, cap, cur, rfl, hb, hg, hc, hm, hcs, ht⟩
    · omega
    · have hne2 : gx ≠ g := fun e => hne (by rw [e]; rfl)
      by_cases hr : L.length + 1 ≤ cap
      · exact insert_room B g cap cur L i gx x w hb hg hr hm hcs ht hlt hl hx hne2
      · have hce : cap = L.length := by omega
        subst hce
        exact insert_grow B g cur L i gx x w hB hg ht hlt hl hx
end Go.Proofs.YtolbdcmoblcakaaGreatDoor
/- A hold's Seal, Wipe, Trim. -/
namespace Go.Proofs.YtolbdcmoblcakaaGreatDoor
section
open Go.RowKit Go.Maps

theorem HoldAt.restrict {F : Nat → Prop} {w : World} {hb : Nat} {sd : Bool} {C : ByteArray → List Ver} {ks : List ByteArray} {S : ByteArray → Value} (h : HoldAt F w hb sd C ks S) : HoldAt (fun b => F b ∧ b < w.heap.size) w hb sd C ks S :=
  ⟨⟨h.hF, h.hlt⟩, h.hlt, h.c1, h.f0, h.f1, h.map.imp id (fun ⟨bm, D, h1, h2, h3, h4, h5⟩ => ⟨bm, D, h1, ⟨h2, h4.lt⟩, h3, h4, h5⟩), h.row, fun k g e => ⟨⟨(h.rowF k g e).1, h.rowLt e⟩, (h.rowF k g e).2⟩, h.apart, h.nodup, h.mem, h.no, h.kz⟩
theorem KeptBut.set {F : Nat → Prop} {w : World} {b o : Nat} {v : Value} (hb : F b) : KeptBut F w (w.setCell ⟨b, o, none⟩ v) :=
  ⟨rfl, rfl, rfl, by simp [World.setCell], fun k _ h2 => Below.heap_setCell _ _ _ _ (fun e => h2 (by rw [e]; exact hb))⟩
/-- what a store into the hold's own two cells leaves of its map and its rows. -/
theorem HoldAt.rows_set {F : Nat → Prop} {w : World} {hb : Nat} {sd : Bool} {C : ByteArray → List Ver} {ks : List ByteArray} {S : ByteArray → Value} (h : HoldAt F w hb sd C ks S) (o : Nat) (v : Value) (k : ByteArray) : OwnV 0 (w.setCell ⟨hb, o, none⟩ v) (S k) (C k) :=
  (h.row k).heap (fun g hg => Below.heap_setCell _ _ _ _ (fun e => (h.rowF k g hg).2 e))
theorem HoldAt.seal_ {F : Nat → Prop} {w : World} {hb : Nat} {sd : Bool} {C : ByteArray → List Ver} {ks : List ByteArray} {S : ByteArray → Value} (h : HoldAt F w hb sd C ks S) (b : Bool) :
    HoldAt F (w.setCell ⟨hb, 1, none⟩ (.bool b)) hb b C ks S := by
  have c0 : ∀ m, w.cell? ⟨hb, 0, none⟩ = some m → (w.setCell ⟨hb, 1, none⟩ (.bool b)).cell? ⟨hb, 0, none⟩ = some m := fun m hm => by rw [World.cell?_setCell_other _ _ _ _ (by simp)]; exact hm
  refine ⟨h.hF, by simpa [World.setCell] using h.hlt, World.cell?_setCell_same _ _ _ h.c1, by rw [World.frozen?_setCell]; exact h.f0, by rw [World.frozen?_setCell]; exact h.f1, ?_, h.rows_set 1 _, h.rowF, h.apart, h.nodup, h.mem, h.no, h.kz⟩
  rcases h.map with ⟨h1, h2⟩ | ⟨bm, D, h1, h2, h3, h4, h5⟩
  · exact .inl ⟨c0 _ h1, h2⟩
  · refine .inr ⟨bm, D, c0 _ h1, h2, h3, ?_, h5⟩
    exact h4.setCell (Ne.symm (a := hb) (b := bm) (fun e => h3 e.symm)) _
theorem HoldAt.wiped {F : Nat → Prop} {w : World} {hb : Nat} {sd : Bool} {C : ByteArray → List Ver} {ks : List ByteArray} {S : ByteArray → Value} (h : HoldAt F w hb sd C ks S) :
    HoldAt F ((w.setCell ⟨hb, 0, none⟩ (.map none)).setCell ⟨hb, 1, none⟩ (.bool false)) hb false (fun _ => []) [] (fun _ => .slice none 0 0) := by
  have hm : ∃ m, w.cell? ⟨hb, 0, none⟩ = some m := by
    rcases h.map with ⟨h1, _⟩ | ⟨bm, D, h1, _⟩ <;> exact ⟨_, h1⟩
  obtain ⟨m, hm⟩ := hm
  have c1 : (w.setCell ⟨hb, 0, none⟩ (.map none)).cell? ⟨hb, 1, none⟩ = some (.bool sd) := by rw [World.cell?_setCell_other _ _ _ _ (by simp)]; exact h.c1
  refine HoldAt.empty h.hF ?_ (World.cell?_setCell_same _ _ _ c1) ?_ ?_
  · rw [World.cell?_setCell_other _ _ _ _ (by simp)]; exact World.cell?_setCell_same _ _ _ hm
  · rw [World.frozen?_setCell, World.frozen?_setCell]; exact h.f0
  · rw [World.frozen?_setCell, World.frozen?_setCell]; exact h.f1
/-- keys but one. -/
def dropK (ks : List ByteArray) (key : ByteArray) : List ByteArray := ks.filter fun k => decide (k ≠ key)
theorem mem_dropK {ks : List ByteArray} {key k : ByteArray} : k ∈ dropK ks key ↔ k ∈ ks ∧ k ≠ key := by
  unfold dropK; rw [List.mem_filter, decide_eq_true_eq]
theorem dropK_length : ∀ {ks : List ByteArray} {key : ByteArray}, ks.Nodup → (dropK ks key).length + (if key ∈ ks then 1 else 0) = ks.length
  | [], _, _ => by simp [dropK]
  | x :: r, key, h => by
    obtain ⟨h1, h2⟩ := List.nodup_cons.1 h
    have ih := dropK_length (key := key) h2
    by_cases e : x = key
    · subst e
      have e1 : dropK (x :: r) x = dropK r x := by unfold dropK; rw [List.filter_cons, if_neg (by simp)]
      rw [if_neg h1] at ih
      rw [e1, if_pos (List.mem_cons_self ..), List.length_cons]
      omega
    · have e1 : dropK (x :: r) key = x :: dropK r key := by unfold dropK; rw [List.filter_cons, if_pos (by simpa using e)]
      rw [e1, List.length_cons, List.length_cons]
      by_cases hm : key ∈ r
      · rw [if_pos hm] at ih
        rw [if_pos (List.mem_cons_of_mem _ hm)]
        omega
      · rw [if_neg hm] at ih
        rw [if_neg (by
          intro h9
          rcases List.mem_cons.1 h9 with h9 | h9
          · exact e h9.symm
          · exact hm h9)]
        omega
theorem HoldAt.del {F : Nat → Prop} {w w3 : World} {hb : Nat} {sd : Bool} {C : ByteArray → List Ver} {ks : List ByteArray} {S : ByteArray → Value} {bm : Nat} {D : DataW Value} {key : ByteArray}
    (h : HoldAt F w hb sd C ks S) (hm : MapAt F w hb ks S bm D) (hown : w3.ownsMap Tryz.prog 9 Rv bm ks.length (D.del (litS key))) (hg3 : w.grownBy w3 (some bm)) :
    HoldAt F w3 hb sd (updC C key []) (dropK ks key) (updS S key (.slice none 0 0)) ∧ KeptBut F w w3 := by
  obtain ⟨m0, mF, mne, mo, mat, mhas, mrow, msz⟩ := hm
  have hk3 : KeptBut F w w3 := KeptBut.of_grown hg3 (fun k hk => by cases hk; exact mF)
  have heap : ∀ k, k < w.heap.size → k ≠ bm → w3.heap[k]? = w.heap[k]? := fun k hk hne => hg3.block k hk (fun e => hne (Option.some.inj e))
  have hhb : w3.heap[hb]? = w.heap[hb]? := heap hb h.hlt (fun e => mne e.symm)
  have ec : ∀ j, w3.cell? ⟨hb, j, none⟩ = w.cell? ⟨hb, j, none⟩ := fun j => World.cell?_of_block (a := ⟨hb, j, none⟩) hhb
  have ef : ∀ j, w3.frozen? ⟨hb, j, none⟩ = w.frozen? ⟨hb, j, none⟩ := fun j => World.frozen?_of_block (a := ⟨hb, j, none⟩) hhb
  have hS : ∀ k g, (updS S key (.slice none 0 0) k).ownBlock = some g → k ≠ key ∧ (S k).ownBlock = some g := fun k g hg => by
    unfold updS at hg
    split at hg
    · cases hg
    · exact ⟨by assumption, hg⟩
  have hsz := size_del (k := litS key) (mo.tidy keyedS)
  rw [mhas key, msz] at hsz
  have hdl := dropK_length (key := key) h.nodup
  have hsz2 : Maps.size (D.del (litS key)) = (dropK ks key).length := by
    by_cases e : key ∈ ks
    · simp [e] at hsz hdl; omega
    · simp [e] at hsz hdl; omega
  refine ⟨⟨h.hF, Nat.lt_of_lt_of_le h.hlt hk3.size, (ec 1).trans h.c1, (ef 0).trans h.f0, (ef 1).trans h.f1, .inr ⟨bm, D.del (litS key), (ec 0).trans m0, mF, mne, ?_, ?_, ?_, fun k g hg => mrow k g (hS k g hg).2, hsz2⟩, ?_, fun k g hg => h.rowF k g (hS k g hg).2, ?_, ?_, ?_, ?_, ?_⟩, hk3⟩
  · have h1 := ownsMap_tight hown
    rw [hsz2] at h1
    exact h1
  · intro k
    unfold updS
    by_cases e : k = key
    · rw [if_pos e, e, atKey_del_same]
    · rw [if_neg e, atKey_del_other (fun e2 => e (litS_inj e2)), mat k]
  · intro k
    by_cases e : k = key
    · rw [e, has_del_same]
      exact (decide_eq_false (fun h9 => (mem_dropK.1 h9).2 rfl)).symm
    · rw [has_del_other (fun e2 => e (litS_inj e2)), mhas k, decide_eq_decide, mem_dropK]
      exact ⟨fun h9 => ⟨h9, e⟩, fun h9 => h9.1⟩
  · intro k
    unfold updS updC
    by_cases e : k = key
    · rw [if_pos e, if_pos e]; exact OwnV.nil _ _
    · rw [if_neg e, if_neg e]
      exact (h.row k).heap (fun g hg => heap g (h.rowLt hg) (mrow k g hg))
  · intro k k' g hkk hg hg'
    exact h.apart k k' g hkk (hS k g hg).2 (hS k' g hg').2
  · exact h.nodup.filter _
  · intro k
    rw [mem_dropK]
    unfold updC
    by_cases e : k = key
    · rw [if_pos e]; exact ⟨fun h9 => absurd e h9.2, fun h9 => absurd rfl h9⟩
    · rw [if_neg e, ← h.mem k]; exact ⟨fun h9 => h9.1, fun h9 => ⟨h9, e⟩⟩
  · intro k hk
    unfold updS
    by_cases e : k = key
    · rw [if_pos e]
    · rw [if_neg e]
      exact h.no k (fun h9 => hk (mem_dropK.2 ⟨h9, e⟩))
  · intro k hk
    exact h.kz k (mem_dropK.1 hk).1
/-- how many go, and what is left. -/
def goneN (n : Nat) (keep : Int) : Nat := ((n : Int) - keep).toNat
def TrimPost (F : Nat → Prop) (w w' : World) (E : Nat → Addr) (hb : Nat) (sd : Bool) (C : ByteArray → List Ver) (ks : List ByteArray) (S : ByteArray → Value) (key : ByteArray) (keep : Int) (e : Ending) : Prop :=
  KeptBut F w w' ∧
  ((keep < 0 ∧ e = .returned (.tuple #[.int .i64 0, errV (E 1)]) ∧ HoldAt F w' hb sd C ks S) ∨
   (0 ≤ keep ∧ e = .returned (.tuple #[.int .i64 (goneN (C key).length keep : Nat), .nilIface]) ∧ ∃ ks' S', HoldAt (fun b => F b ∨ w.heap.size ≤ b) w' hb sd (updC C key ((C key).drop (goneN (C key).length keep))) ks' S'))
theorem updC_same (C : ByteArray → List Ver) (key : ByteArray) {L : List Ver} (h : C key = L) : updC C key L = C := by
  funext k
  unfold updC
  split
  · rename_i e; rw [e, h]
  · rfl
theorem VrR.from {n₀ : Nat} {w : World} {b off : Nat} {M : List Ver} (h : ∀ i j, i < M.length → j < 5 → w.cell? ⟨b, off + i * 5 + j, none⟩ = (encVr (M[i]?.getD ver0))[j]?) (hb : b < n₀) (g : Nat) : VrR n₀ w (some ⟨b, off + g * 5, none⟩) (M.drop g) := by
  refine .inr ⟨b, off + g * 5, rfl, hb, fun i j hi hj => ?_⟩
  rw [List.length_drop] at hi
  have h1 := h (g + i) j (by omega) hj
  rw [List.getElem?_drop, ← h1]
  congr 2
  omega
/-- a row is cut ahead and put back. -/
theorem trim_keep {F : Nat → Prop} {w : World} {hb : Nat} {sd : Bool} {C : ByteArray → List Ver} {ks : List ByteArray} {S : ByteArray → Value} {bm : Nat} {D : DataW Value} {key : ByteArray} {M : List Ver} (h : HoldAt F w hb sd C ks S) (hm : MapAt F w hb ks S bm D) (hk : key.size ≤ maxLen) (hkl : ks.length ≤ 1000) (hM : M ≠ [])
    (w7 : World) (v' : Value) (hb7 : Below w.heap.size w w7) (hv7 : OwnV w.heap.size w7 v' M) :
    ∃ w8, (Instr.mapUpdate 66 (.map (some bm)) (.string key) v').run Tryz.prog w7 = .ok () w8 ∧ w7.cell? ⟨hb, 0, none⟩ = some (.map (some bm)) ∧ w8.cell? ⟨hb, 0, none⟩ = some (.map (some bm)) ∧
      Hid (KeptBut F w w8 ∧ ∃ ks' S', HoldAt (fun b => F b ∨ w.heap.size ≤ b) w8 hb sd (updC C key M) ks' S') := by
  have hown7 := hm.2.2.2.1.kept (row := none) ⟨hb7.os, hb7.tape, hb7.output, hb7.size, fun k hk _ => hb7.block k hk⟩ (by simp)
  obtain ⟨w8, hrun, hown8, hg8⟩ := hown7.update keyedS Tryz.underlying66 (by unfold maxLen; omega) (keyS hk) (d := .held v') (ps := []) rfl
  obtain ⟨hp1, hp2⟩ := HoldAt.put h hm (w2 := w7) ⟨hb7.os, hb7.tape, hb7.output, hb7.size, fun k hk _ => hb7.block k hk⟩ (hv7.lower (Nat.zero_le _)) hM (by
    cases e : v'.ownBlock with
    | none =>
      exfalso
      rcases hv7.2 with ⟨_, h0⟩ | ⟨g, cap, cur, rfl, _⟩
      · exact hM (List.length_eq_zero_iff.1 h0)
      · cases e
    | some g => exact .inr ⟨g, rfl, (hv7.lt g e).1⟩) hown8 hg8 hk
  have hm7 := (hb7.cell (p := ⟨hb, 0, none⟩) h.hlt).trans hm.1
  exact ⟨w8, hrun, hm7, hg8.cell hm7 (fun e => hm.2.2.1 (Option.some.inj e).symm), Lib.hid ⟨hp2, _, _, hp1⟩⟩
end
end Go.Proofs.YtolbdcmoblcakaaGreatDoor
