/- What a look at holds tells: own ints, rows of pointers; plain. -/
import Derived.Test.YtolbdcmoblcakaaGreatDoorKRepairMends26
import Derived.Test.YtolbdcmoblcakaaGreatDoorKRepairMends32
import Derived.Test.YtolbdcmoblcakaaGreatDoorKRepairMends06
import Derived.Test.YtolbdcmoblcakaaGreatDoorKRepairMends03
import Derived.Lib.SmallJoins
namespace Go.Proofs.YtolbdcmoblcakaaGreatDoor
section
open Go.RowKit Go.BigFrame

/-- ints of the call's own. -/
abbrev OwnZ (B : Nat) (w : World) (v : Value) (l : List Nat) : Prop := Own1 3 B w v (l.map fun n : Nat => Value.int .i64 (n : Int))
theorem info_int : (Tryz.prog.info? 3).map (fun i => (i.zero, i.size, i.bytes)) = some (some (.int .i64 0), 1, 8) := by kernel_rfl
theorem append_int {ops : Array Oper} {rest : List Oper} {o : Oper} {a : Act} {Q : Exit → Act → World → Prop} {w0 : World} (s x : Nat) (hgd : o.guard = none)
    (ho : o.op = .call { callee := .builtin .append, args := #[.tmp s, .tmp x], argTypes := #[33, 33] }) (B : Nat) (v : Value) (l : List Nat) (p : Nat)
    (hs : a.eval (.tmp s) = v) (hx : a.eval (.tmp x) = .slice (some ⟨w0.heap.size, 0, none⟩) 1 1) (hown : OwnZ B w0 v l) (hl : (l.length + 1) * 8 ≤ 140737488355328) (hB : B ≤ w0.heap.size)
    (h : ∀ v' w', OwnZ B w' v' (l ++ [p]) → (w0.alloc (.cells #[.int .i64 (p : Int)] 3)).grownBy w' v.ownBlock → (v'.ownBlock = v.ownBlock ∨ v'.ownBlock = some (w0.heap.size + 1)) → wpList Tryz.prog ops Q rest (a.put o.dst v') w') :
    wpList Tryz.prog ops Q (o :: rest) a (w0.alloc (.cells #[.int .i64 (p : Int)] 3)) := by
  refine append_one 33 3 (.int .i64 0) 8 Tryz.underlying33 info_int rfl s x hgd ho B v _ _ rfl hs hx hown (by simpa using hl) (by simp [maxLen]; omega) hB ?_
  intro v' w' h1 h2 h3
  exact h v' w' (by unfold OwnZ; rw [List.map_append]; exact h1) h2 h3
theorem OwnZ.read {B : Nat} {w : World} {v : Value} {l : List Nat} (h : OwnZ B w v l) : ∃ a cap, v = .slice a l.length cap ∧ l.length ≤ cap ∧ cap ≤ maxLen ∧ (∀ x, a = some x → B ≤ x.block ∧ x.block < w.heap.size) ∧ IntsL w a (l.map fun n : Nat => (n : Int)) := by
  rcases h.shape with ⟨rfl, hl⟩ | ⟨g, cap, rfl, hB, hg, hc, hm, _, hcell⟩
  · have : l = [] := by simpa using hl
    subst this
    exact ⟨none, 0, rfl, by simp, by simp [maxLen], (fun x e => by cases e), .inl rfl⟩
  · refine ⟨_, cap, by simp, by simpa using hc, hm, (fun x e => by obtain rfl := Option.some.inj e; exact ⟨hB, hg⟩), .inr ⟨g, 0, rfl, fun j hj => ?_⟩⟩
    rw [Nat.zero_add, hcell j (by simpa using hj)]
    have hj2 : j < l.length := by simpa using hj
    simp [hj2]
theorem IntsL.below {A B : World} (h : Below A.heap.size A B) {a : Option Addr} {l : List Int} : IntsL A a l → IntsL B a l
  | .inl e => .inl e
  | .inr ⟨b, off, e, hc⟩ => .inr ⟨b, off, e, fun j hj => (h.cell (p := ⟨b, off + j, none⟩) (lt_of_cell (hc j hj))).trans (hc j hj)⟩
/-- a row of pointers is read. -/
def PtrR (w : World) (a : Option Addr) (ps : List (Option Addr)) : Prop := ps = [] ∨ ∃ b off, a = some ⟨b, off, none⟩ ∧ b < w.heap.size ∧ ∀ j, j < ps.length → w.cell? ⟨b, off + j, none⟩ = some (.pointer (ps[j]?.getD none))
theorem PtrR.below {A B : World} (h : Below A.heap.size A B) {a : Option Addr} {ps : List (Option Addr)} : PtrR A a ps → PtrR B a ps
  | .inl e => .inl e
  | .inr ⟨b, off, e, hb, hc⟩ => .inr ⟨b, off, e, Nat.lt_of_lt_of_le hb h.size, fun j hj => (h.cell (p := ⟨b, off + j, none⟩) hb).trans (hc j hj)⟩
theorem own_ptrs {E : TypeId} {B : Nat} {w : World} {v : Value} {ps : List (Option Addr)} (h : Own1 E B w v (ps.map Value.pointer)) : ∃ a cap, v = .slice a ps.length cap ∧ ps.length ≤ cap ∧ cap ≤ maxLen ∧ PtrR w a ps := by
  rcases h.shape with ⟨rfl, hl⟩ | ⟨g, cap, rfl, hB, hg, hc, hm, _, hcell⟩
  · have : ps = [] := by simpa using hl
    subst this
    exact ⟨none, 0, rfl, by simp, by simp [maxLen], .inl rfl⟩
  · refine ⟨_, cap, by simp, by simpa using hc, hm, .inr ⟨g, 0, rfl, hg, fun j hj => ?_⟩⟩
    rw [Nat.zero_add, hcell j (by simpa using hj)]
    simp [hj]
theorem ptrsH_at {sl : List Slot} {j : Nat} {s : Slot} (h : sl[j]? = some s) : (ptrsH sl)[j]?.getD none = s.map fun x => (⟨x.1, 0, none⟩ : Addr) := by
  unfold ptrsH; rw [List.getElem?_map, h]; rfl
theorem ptrsM_at {sl : List Slot} {j : Nat} {s : Slot} (h : sl[j]? = some s) : (ptrsM sl)[j]?.getD none = s.map fun x => (⟨x.2.1, 0, none⟩ : Addr) := by
  unfold ptrsM; rw [List.getElem?_map, h]; rfl
theorem toldC_length (key : ByteArray) (cs : List (Option (List Kp))) : (toldC key cs).length = cs.length := by simp [toldC]
theorem toldC_at {key : ByteArray} {cs : List (Option (List Kp))} {j : Nat} {c : Option (List Kp)} (h : cs[j]? = some c) : (toldC key cs)[j]?.getD [] = conT key c := by
  unfold toldC; rw [List.getElem?_map, h]; rfl
theorem consH_length (sl : List Slot) : (consH sl).length = sl.length := by simp [consH]
theorem consM_length (sl : List Slot) : (consM sl).length = sl.length := by simp [consM]
theorem consH_is {sl : List Slot} {j : Nat} {s : Slot} (h : sl[j]? = some s) : (consH sl)[j]? = some (s.map fun x => x.2.2.1) := by
  unfold consH; rw [List.getElem?_map, h]; rfl
theorem consM_is {sl : List Slot} {j : Nat} {s : Slot} (h : sl[j]? = some s) : (consM sl)[j]? = some (s.map fun x => x.2.2.2) := by
  unfold consM; rw [List.getElem?_map, h]; rfl
theorem tot_le {ls : List (List Ver)} {m : Nat} (h : ∀ l ∈ ls, l.length ≤ m) : totV ls ≤ ls.length * m := by
  induction ls with
  | nil => simp [totV]
  | cons a r ih =>
    have h1 := ih (fun l hl => h l (List.mem_cons_of_mem _ hl))
    have h2 := h a (List.mem_cons_self ..)
    unfold totV at *
    rw [List.map_cons, List.sum_cons, List.length_cons, Nat.add_mul]
    omega
theorem told_tot {Z : Nat → Prop} {w : World} {sl : List Slot} (h : RackAt Z w sl) (key : ByteArray) : totV (toldC key (consH sl)) ≤ sl.length * 60 := by
  refine Nat.le_trans (tot_le (m := 60) fun l hl => ?_) (by rw [toldC_length, consH_length]; exact Nat.le_refl _)
  unfold toldC consH at hl
  rw [List.map_map, List.mem_map] at hl
  obtain ⟨s, hs, rfl⟩ := hl
  obtain ⟨j, hj, rfl⟩ := List.getElem_of_mem hs
  cases e : sl[j] with
  | none => simp [conT]
  | some x =>
    obtain ⟨hb, mb, l1, l2⟩ := x
    have h9 : sl[j]? = some (some (hb, mb, l1, l2)) := by rw [List.getElem?_eq_getElem hj, e]
    have := (h.hold h9).1.2
    have h2 := getL_le l1 key
    show (getL l1 key).length ≤ 60
    omega
theorem told_totM {Z : Nat → Prop} {w : World} {sl : List Slot} (h : RackAt Z w sl) (key : ByteArray) : totV (toldC key (consM sl)) ≤ sl.length * 60 := by
  refine Nat.le_trans (tot_le (m := 60) fun l hl => ?_) (by rw [toldC_length, consM_length]; exact Nat.le_refl _)
  unfold toldC consM at hl
  rw [List.map_map, List.mem_map] at hl
  obtain ⟨s, hs, rfl⟩ := hl
  obtain ⟨j, hj, rfl⟩ := List.getElem_of_mem hs
  cases e : sl[j] with
  | none => simp [conT]
  | some x =>
    obtain ⟨hb, mb, l1, l2⟩ := x
    have h9 : sl[j]? = some (some (hb, mb, l1, l2)) := by rw [List.getElem?_eq_getElem hj, e]
    have := (h.model h9).1.2
    have h2 := getL_le l2 key
    show (getL l2 key).length ≤ 60
    omega
theorem take_snocL {α : Type} (ls : List α) (d : α) (i : Nat) (h : i < ls.length) : ls.take (i + 1) = ls.take i ++ [ls[i]?.getD d] := by
  rw [List.take_succ_eq_append_getElem h, List.getElem?_eq_getElem h]; rfl
theorem mustL_length (n k : Nat) (t : Int × Int) (s : ByteArray) : (mustL n k t s).length = n := by simp [mustL, encL_length]
theorem mustL_at {n k : Nat} {t : Int × Int} {s : ByteArray} {i : Nat} (hi : i < n) : (mustL n k t s)[i]?.getD ver0 = (t.1, t.2, (s.size : Int), ((encL n k s)[i]?.getD (0, ⟨#[]⟩)).1, ((encL n k s)[i]?.getD (0, ⟨#[]⟩)).2) := by
  unfold mustL
  rw [List.getElem?_map, List.getElem?_eq_getElem (by rw [encL_length]; exact hi)]
  rfl
/-- who lacks it, of the first i. -/
def lackI (must : List Ver) (told : List (List Ver)) (i : Nat) : List Nat := (List.range i).filter fun i => !inV (must[i]?.getD ver0) (told[i]?.getD [])
theorem lackI_all (must : List Ver) (told : List (List Ver)) : lackI must told must.length = lackL must told := rfl
theorem lackI_snoc (must : List Ver) (told : List (List Ver)) (i : Nat) : lackI must told (i + 1) = lackI must told i ++ (if inV (must[i]?.getD ver0) (told[i]?.getD []) = true then [] else [i]) := by
  unfold lackI
  rw [List.range_succ, List.filter_append]
  congr 1
  cases h : inV (must[i]?.getD ver0) (told[i]?.getD []) <;> simp [h]
theorem lackI_le (must : List Ver) (told : List (List Ver)) (i : Nat) : (lackI must told i).length ≤ i := by
  unfold lackI
  exact Nat.le_trans (List.length_filter_le _ _) (by simp)
theorem lackL_lt {must : List Ver} {told : List (List Ver)} : ∀ i ∈ lackL must told, i < must.length := fun i hi => by
  unfold lackL at hi
  simpa using (List.mem_filter.1 hi).1
/-- what the best of what was told is. -/
def bestOf (n k : Nat) (told : List (List Ver)) : (Int × Int) × ByteArray × Bool := bestAns k (bestG k (groupsL n k told.flatten))
theorem best_size {n k : Nat} {told : List (List Ver)} {t : Int × Int} {s : ByteArray} (h : bestOf n k told = (t, s, true)) : s.size ≤ 1000 := by
  unfold bestOf at h
  cases e : bestG k (groupsL n k told.flatten) with
  | none => rw [e] at h; simp [bestAns] at h
  | some g =>
    rw [e] at h
    simp only [bestAns, Prod.mk.injEq] at h
    have h2 := (best_good e).1.2
    rw [← h.2.1]
    rw [textOf_size]
    omega
theorem best_no {n k : Nat} {told : List (List Ver)} {t : Int × Int} {s : ByteArray} (h : bestOf n k told = (t, s, false)) : t = (0, 0) ∧ s = ⟨#[]⟩ := by
  unfold bestOf at h
  cases e : bestG k (groupsL n k told.flatten) with
  | none =>
    rw [e] at h
    simp only [bestAns, Prod.mk.injEq] at h
    exact ⟨by rw [← h.1], h.2.1.symm⟩
  | some g => rw [e] at h; simp [bestAns] at h
/-- what a look answers. -/
def LookPost (w w' : World) (E : Nat → Addr) (n k : Int) (L : List ByteArray) (len : Nat) (told : List (List Ver)) (e : Ending) : Prop := Below w.heap.size w w' ∧
  ∃ vm vl v, e = .returned (.tuple #[vm, vl, v]) ∧
    (((configF n k L).1 ≠ 0 ∧ vm = .slice none 0 0 ∧ vl = .slice none 0 0 ∧ ((∃ x, v = errV x) ∨ ∃ m, v = faultV m) ∧ FltV w' E (configF n k L) v) ∨
     ((configF n k L).1 = 0 ∧ (len : Int) ≠ n ∧ vm = .slice none 0 0 ∧ vl = .slice none 0 0 ∧ v = errV (E 2)) ∨
     ((configF n k L).1 = 0 ∧ (len : Int) = n ∧ v = .nilIface ∧
       (((bestOf n.toNat k.toNat told).2.2 = false ∧ vm = .slice none 0 0 ∧ vl = .slice none 0 0) ∨
        ∃ t s, bestOf n.toNat k.toNat told = (t, s, true) ∧ OwnV w.heap.size w' vm (mustL n.toNat k.toNat t s) ∧ OwnZ w.heap.size w' vl (lackL (mustL n.toNat k.toNat t s) told))))
end
end Go.Proofs.YtolbdcmoblcakaaGreatDoor
/- Walks: slices.Index, slices.Contains of versions. -/
namespace Go.Proofs.YtolbdcmoblcakaaGreatDoor
section
open Go.RowKit Go.Maps Go.BigFrame

set_option maxRecDepth 100000 in
set_option maxHeartbeats 8000000 in
theorem idxv_walk (n₀ : Nat) (a : Option Addr) (len cap : Nat) (L : List Ver) (x : Ver) (w : World) (hlen : L.length = len) (hl : len ≤ maxLen) (hI : VrR n₀ w a L) (hn : n₀ ≤ w.heap.size) :
    Calls Tryz.prog 73 #[.slice a len cap, verV x] w fun e w' => (∃ r : Int, e = .returned (.int .i64 r) ∧ (0 ≤ r ↔ x ∈ L)) ∧ Below w.heap.size w w' := by
  obtain ⟨x1, x2, x3, x4, x5⟩ := x
  have hm9 : len ≤ 9223372036854775807 := hl
  obtain ⟨W1, hW1⟩ : ∃ W1, w.alloc (.cells #[.int .i64 x1, .int .i64 x2, .int .i64 x3, .int .i64 x4, .string x5] 58) = W1 := ⟨_, rfl⟩
  obtain ⟨xb, hxb⟩ : ∃ xb, w.heap.size = xb := ⟨_, rfl⟩
  have hB1 : Below w.heap.size w W1 := by rw [← hW1]; exact (Below.refl _ w).alloc (Nat.le_refl _) _
  have c0 : W1.cell? ⟨xb, 0, none⟩ = some (.int .i64 x1) := by rw [← hW1, ← hxb]; simp
  have c1 : W1.cell? ⟨xb, 1, none⟩ = some (.int .i64 x2) := by rw [← hW1, ← hxb]; simp
  have c2 : W1.cell? ⟨xb, 2, none⟩ = some (.int .i64 x3) := by rw [← hW1, ← hxb]; simp
  have c3 : W1.cell? ⟨xb, 3, none⟩ = some (.int .i64 x4) := by rw [← hW1, ← hxb]; simp
  have c4 : W1.cell? ⟨xb, 4, none⟩ = some (.string x5) := by rw [← hW1, ← hxb]; simp
  have HI := Lib.hid (And.intro ((hI.mono hn).below hB1) (And.intro hlen (And.intro hB1 (And.intro c0 (And.intro c1 (And.intro c2 (And.intro c3 c4)))))))
  unfold verV
  dsimp only
  clear hI hn hlen hl hB1 c0 c1 c2 c3 c4
  go_enter Tryz.func73, Tryz.ntmps73
  go_wp2_with fail
  go_loopw [8] (fun vi wr => ∃ k : Nat, k ≤ len ∧ vi = .int .i64 k ∧ Hid ((∀ j, j < k → (L[j]?.getD ver0) ≠ (x1, x2, x3, x4, x5)) ∧ ∃ q, wr = W1.drewN q)) (fun i _ => len - (intOf i).toNat)
  case atStart => exact ⟨0, by omega, rfl, Lib.hid ⟨fun j hj => by omega, 0, rfl⟩⟩
  case round =>
    obtain ⟨k, hk, rfl, H⟩ := hrel
    have hbw : Below W1.heap.size W1 wr := by
      obtain ⟨_, q, rfl⟩ := H.out
      exact ⟨rfl, rfl, rfl, Nat.le_refl _, fun _ _ => rfl⟩
    have Hbw := Lib.hid (HI.out.2.2.1.trans (hbw.mono HI.out.2.2.1.size))
    have hk2 : k < len ∨ k = len := by omega
    rcases hk2 with hlt | rfl
    · have hlt2 : (k : Int) < len := by omega
      have hcc : ∀ {p : Addr} {v}, W1.cell? p = some v → wr.cell? p = some v := fun {p v} h => by
        obtain ⟨_, q, rfl⟩ := H.out
        exact h
      have p0 := hcc HI.out.2.2.2.1
      have p1 := hcc HI.out.2.2.2.2.1
      have p2 := hcc HI.out.2.2.2.2.2.1
      have p3 := hcc HI.out.2.2.2.2.2.2.1
      have p4 := hcc HI.out.2.2.2.2.2.2.2
      rcases HI.out.1 with he | ⟨bb, ob, rfl, _, h2⟩
      · exfalso
        have := HI.out.2.1
        rw [he] at this; simp at this; omega
      obtain ⟨q0, q1, q2, q3, q4⟩ := VrR.at5 h2 (i := k) (by have := HI.out.2.1; omega)
      have q0 := hcc q0
      have q1 := hcc q1
      have q2 := hcc q2
      have q3 := hcc q3
      have q4 := hcc q4
      obtain ⟨⟨y1, y2, y3, y4, y5⟩, hy⟩ : ∃ y, L[k]?.getD ver0 = y := ⟨_, rfl⟩
      rw [hy] at q0 q1 q2 q3 q4
      dsimp only at q0 q1 q2 q3 q4
      have Hy := Lib.hid hy
      clear hy hbw h2 hcc
      have hcs : (x1 = y1 ∧ x2 = y2 ∧ x3 = y3 ∧ x4 = y4 ∧ x5 = y5) ∨ x1 ≠ y1 ∨ (x1 = y1 ∧ x2 ≠ y2) ∨ (x1 = y1 ∧ x2 = y2 ∧ x3 ≠ y3) ∨ (x1 = y1 ∧ x2 = y2 ∧ x3 = y3 ∧ x4 ≠ y4) ∨ (x1 = y1 ∧ x2 = y2 ∧ x3 = y3 ∧ x4 = y4 ∧ x5 ≠ y5) := by
        by_cases e1 : x1 = y1
        · by_cases e2 : x2 = y2
          · by_cases e3 : x3 = y3
            · by_cases e4 : x4 = y4
              · by_cases e5 : x5 = y5
                · exact .inl ⟨e1, e2, e3, e4, e5⟩
                · exact .inr (.inr (.inr (.inr (.inr ⟨e1, e2, e3, e4, e5⟩))))
              · exact .inr (.inr (.inr (.inr (.inl ⟨e1, e2, e3, e4⟩))))
            · exact .inr (.inr (.inr (.inl ⟨e1, e2, e3⟩)))
          · exact .inr (.inr (.inl ⟨e1, e2⟩))
        · exact .inr (.inl e1)
      rcases hcs with ⟨e1, e2, e3, e4, e5⟩ | hne
      · have hmem : ((x1, x2, x3, x4, x5) : Ver) ∈ L := by
          have hkl : k < L.length := by rw [HI.out.2.1]; exact hlt
          have h9 := Hy.out
          rw [List.getElem?_eq_getElem hkl] at h9
          rw [e1, e2, e3, e4, e5, ← h9]
          exact List.getElem_mem hkl
        have Hm := Lib.hid hmem
        clear hmem
        subst e1 e2 e3 e4 e5
        go_wp2
        go_quiet (fail)
        go_wp2
        go_ret
        exact ⟨⟨_, rfl, ⟨fun _ => Hm.out, fun _ => by omega⟩⟩, Hbw.out.trans ⟨rfl, rfl, rfl, Nat.le_refl _, fun _ _ => rfl⟩⟩
      · have hno : (L[k]?.getD ver0) ≠ (x1, x2, x3, x4, x5) := by
          rw [Hy.out]
          intro h9
          simp only [Prod.mk.injEq] at h9
          obtain ⟨rfl, rfl, rfl, rfl, rfl⟩ := h9
          simp at hne
        have HN : Hid (∀ j, j < k + 1 → (L[j]?.getD ver0) ≠ (x1, x2, x3, x4, x5)) := Lib.hid fun j hj => by
          by_cases e : j = k
          · rw [e]; exact hno
          · exact H.out.1 j (by omega)
        clear hno Hy
        have hne2 : (x1 == y1) = false ∨ (x1 = y1 ∧ (x2 == y2) = false) ∨ (x1 = y1 ∧ x2 = y2 ∧ (x3 == y3) = false) ∨ (x1 = y1 ∧ x2 = y2 ∧ x3 = y3 ∧ (x4 == y4) = false) ∨ (x1 = y1 ∧ x2 = y2 ∧ x3 = y3 ∧ x4 = y4 ∧ (x5.toList == y5.toList) = false) := by
          rcases hne with h9 | ⟨h1, h9⟩ | ⟨h1, h2, h9⟩ | ⟨h1, h2, h3, h9⟩ | ⟨h1, h2, h3, h4, h9⟩
          · exact .inl (beq_eq_false_iff_ne.2 h9)
          · exact .inr (.inl ⟨h1, beq_eq_false_iff_ne.2 h9⟩)
          · exact .inr (.inr (.inl ⟨h1, h2, beq_eq_false_iff_ne.2 h9⟩))
          · exact .inr (.inr (.inr (.inl ⟨h1, h2, h3, beq_eq_false_iff_ne.2 h9⟩)))
          · exact .inr (.inr (.inr (.inr ⟨h1, h2, h3, h4, txt_neW h9⟩)))
        clear hne
        rcases hne2 with h9 | ⟨rfl, h9⟩ | ⟨rfl, rfl, h9⟩ | ⟨rfl, rfl, rfl, h9⟩ | ⟨rfl, rfl, rfl, rfl, h9⟩
        all_goals
          go_wp2
          go_quiet (fail)
          go_wp2
          go_roundw
          case rel => exact ⟨k + 1, by omega, by go_num, Lib.hid ⟨HN.out, by
            obtain ⟨_, q, hq⟩ := H.out
            exact ⟨q + nq, by rw [hq, World.drewN_drewN]⟩⟩⟩
          case measure => simp [intOf]; omega
    · have hnm : ((x1, x2, x3, x4, x5) : Ver) ∉ L := fun hm => by
        obtain ⟨j, hj, e⟩ := List.getElem_of_mem hm
        have h9 := H.out.1 j (by rw [← HI.out.2.1]; exact hj)
        rw [List.getElem?_eq_getElem hj] at h9
        exact h9 e
      have Hn := Lib.hid hnm
      clear hnm
      go_wp2
      go_ret
      exact ⟨⟨_, rfl, ⟨fun h => by omega, fun h => absurd h Hn.out⟩⟩, Hbw.out⟩
set_option maxRecDepth 100000 in
theorem contv_walk (n₀ : Nat) (a : Option Addr) (len cap : Nat) (L : List Ver) (x : Ver) (r : Bool) (w : World) (hlen : L.length = len) (hl : len ≤ maxLen) (hI : VrR n₀ w a L) (hn : n₀ ≤ w.heap.size) (hr : r = true ↔ x ∈ L) :
    Calls Tryz.prog 47 #[.slice a len cap, verV x] w fun e w' => e = .returned (.bool r) ∧ Below w.heap.size w w' := by
  obtain ⟨W1, hW1⟩ : ∃ W1, w.alloc (.cells #[.int .i64 x.1, .int .i64 x.2.1, .int .i64 x.2.2.1, .int .i64 x.2.2.2.1, .string x.2.2.2.2] 58) = W1 := ⟨_, rfl⟩
  obtain ⟨xb, hxb⟩ : ∃ xb, w.heap.size = xb := ⟨_, rfl⟩
  have hB1 : Below w.heap.size w W1 := by rw [← hW1]; exact (Below.refl _ w).alloc (Nat.le_refl _) _
  have c0 : W1.cell? ⟨xb, 0, none⟩ = some (.int .i64 x.1) := by rw [← hW1, ← hxb]; simp
  have c1 : W1.cell? ⟨xb, 1, none⟩ = some (.int .i64 x.2.1) := by rw [← hW1, ← hxb]; simp
  have c2 : W1.cell? ⟨xb, 2, none⟩ = some (.int .i64 x.2.2.1) := by rw [← hW1, ← hxb]; simp
  have c3 : W1.cell? ⟨xb, 3, none⟩ = some (.int .i64 x.2.2.2.1) := by rw [← hW1, ← hxb]; simp
  have c4 : W1.cell? ⟨xb, 4, none⟩ = some (.string x.2.2.2.2) := by rw [← hW1, ← hxb]; simp
  have Hi := Lib.hid (And.intro hB1 (idxv_walk n₀ a len cap L x W1 hlen hl (hI.below (hB1.mono hn)) (Nat.le_trans hn hB1.size)))
  have Hr := Lib.hid hr
  unfold verV at Hi ⊢
  clear hlen hl hI hr hn hB1
  cases r with
  | true =>
    go_enter Tryz.func47, Tryz.ntmps47
    go_wp2_with fail
    refine Hi.out.2.mono ?_
    rintro e w' ⟨⟨i, rfl, hi⟩, hb⟩
    have h1 : 0 ≤ i := hi.2 (Hr.out.1 (by first | rfl | trivial))
    have HB := Lib.hid (Hi.out.1.trans (hb.mono Hi.out.1.size))
    clear hi hb
    go_wp2
    go_ret
    exact ⟨by simp, HB.out⟩
  | false =>
    go_enter Tryz.func47, Tryz.ntmps47
    go_wp2_with fail
    refine Hi.out.2.mono ?_
    rintro e w' ⟨⟨i, rfl, hi⟩, hb⟩
    have h1 : ¬ 0 ≤ i := fun h => (by have h9 := Hr.out.2 (hi.1 h); cases h9)
    have HB := Lib.hid (Hi.out.1.trans (hb.mono Hi.out.1.size))
    clear hi hb
    go_wp2
    go_ret
    exact ⟨by simp; omega, HB.out⟩
end
end Go.Proofs.YtolbdcmoblcakaaGreatDoor
/- A configuration that comes in. -/
namespace Go.Proofs.YtolbdcmoblcakaaGreatDoor
open Go.RowKit Go.ChangeShapes Go.WideShapes

/-- What the walk is told of a configuration that came in. -/
structure CfgIn (w : World) (n k : Int) (a : Option Addr) (len cap : Nat) (L : List ByteArray) : Prop where
  n_ : -9223372036854775808 ≤ n ∧ n ≤ 9223372036854775807
  k_ : -9223372036854775808 ≤ k ∧ k ≤ 9223372036854775807
  t_ : TxsIn w a len cap L
set_option maxRecDepth 100000 in
theorem open_config {H : Type} {enc : TypeId × Value → H} {W : World} {base : Nat} {v : Value} {d : DataW H} {p : List MemPlace} (hv : Value.okWide Tryz.prog W .any base 24 v) (h : DataW.Trod enc Tryz.prog W 0 (fun _ => true) true 24 v d p) :
    ∃ n k a len cap L, v = .agg #[.int .i64 n, .int .i64 k, .slice a len cap] ∧ CfgIn W n k a len cap L := by
  obtain ⟨v0, v1, v2, y0, y1, y2, m, rfl, _, _, h0, h1, h2⟩ := Joins.open_agg3 Tryz.underlying24 (by kernel_rfl) (by kernel_rfl) hv h
  obtain ⟨n, e0, _, w0⟩ := DataW.trod_int Tryz.underlying3 h0
  obtain ⟨k, e1, _, w1⟩ := DataW.trod_int Tryz.underlying3 h1
  obtain ⟨a, len, cap, L, e2, hL⟩ := texts_of_trod h2
  simp at e0 e1
  subst e0 e1 e2
  exact ⟨n, k, a, len, cap, L, rfl, bounds_i64 w0, bounds_i64 w1, hL⟩
/-- What the walk is told of a tag that came in. -/
def TagIn (n m : Int) : Prop := (-9223372036854775808 ≤ n ∧ n ≤ 9223372036854775807) ∧ (-9223372036854775808 ≤ m ∧ m ≤ 9223372036854775807)
set_option maxRecDepth 100000 in
theorem open_tag {H : Type} {enc : TypeId × Value → H} {W : World} {base : Nat} {v : Value} {d : DataW H} {p : List MemPlace} (hv : Value.okWide Tryz.prog W .any base 54 v) (h : DataW.Trod enc Tryz.prog W 0 (fun _ => true) true 54 v d p) :
    ∃ n m, v = .agg #[.int .i64 n, .int .i64 m] ∧ TagIn n m := by
  obtain ⟨v0, v1, y0, y1, k, rfl, _, _, h0, h1⟩ := Joins.open_agg2 Tryz.underlying54 (by kernel_rfl) (by kernel_rfl) hv h
  obtain ⟨n, e0, _, w0⟩ := DataW.trod_int Tryz.underlying3 h0
  obtain ⟨m, e1, _, w1⟩ := DataW.trod_int Tryz.underlying3 h1
  simp at e0 e1
  subst e0 e1
  exact ⟨n, m, rfl, bounds_i64 w0, bounds_i64 w1⟩
end Go.Proofs.YtolbdcmoblcakaaGreatDoor
