/- What a look at holds tells: own ints, rows of pointers; plain. -/
import Derived.Test.YtolbdcmoblcakaaGreatDoorKRepairAll26
import Derived.Test.YtolbdcmoblcakaaGreatDoorKRepairAll32
import Derived.Test.YtolbdcmoblcakaaGreatDoorKRepairAll06
import Derived.Test.YtolbdcmoblcakaaGreatDoorKRepairAll03
import Derived.Lib.SmallJoins
namespace Go.Proofs.YtolbdcmoblcakaaGreatDoor
section
open Go.RowKit Go.BigFrame

/-- ints of the call's own. -/
abbrev OwnZ (B : Nat) (w : World) (v : Value) (l : List Nat) : Prop := Own1 3 B w v (l.map fun n : Nat => Value.int .i64 (n : Int))
theorem info_int : (Tryz.prog.info? 3).map (fun i => (i.zero, i.size, i.bytes)) = some (some (.int .i64 0), 1, 8) := by kernel_rfl
theorem append_int {ops : Array Oper} {rest : List Oper} {o : Oper} {a : Act} {Q : Exit → Act → World → Prop} {w0 : World} (s x : Nat) (hgd : o.guard = none)
    (ho : o.op = .call { callee := .builtin .append, args := #[.tmp s, .tmp x], argTypes := #[33, 33] }) (B : Nat) (v : Value) (l : List Nat) (p : Nat)
    (hs : a.eval (.tmp s) = v) (hx : a.eval (.tmp x) = .slice (some ⟨w0.heap.size, 0, none⟩) 1 1) (hown : OwnZ B w0 v l) (hl : (l.length + 1) * 8 ≤ 140737488355328) (hB : B ≤ w0.heap.size)
    (h : ∀ v' w', OwnZ B w' v' (l ++ [p]) → (w0.alloc (.cells #[.int .i64 (p : Int)] 3)).grownBy w' v.ownBlock → (v'.ownBlock = v.ownBlock ∨ v'.ownBlock = some (w0.heap.size + 1)) → wpList Tryz.prog ops Q rest (a.put o.dst v') w') :
    wpList Tryz.prog ops Q (o :: rest) a (w0.alloc (.cells #[.int .i64 (p : Int)] 3)) := by
  refine append_one 33 3 (.int .i64 0) 8 Tryz.underlying33 info_int rfl s x hgd ho B v _ _ rfl hs hx hown (by simpa using hl) (by simp [maxLen]; omega) hB ?_
  intro v' w' h1 h2 h3
  exact h v' w' (by unfold OwnZ; rw [List.map_append]; exact h1) h2 h3
theorem OwnZ.read {B : Nat} {w : World} {v : Value} {l : List Nat} (h : OwnZ B w v l) : ∃ a cap, v = .slice a l.length cap ∧ l.length ≤ cap ∧ cap ≤ maxLen ∧ (∀ x, a = some x → B ≤ x.block ∧ x.block < w.heap.size) ∧ IntsL w a (l.map fun n : Nat => (n : Int)) := by
  rcases h.shape with ⟨rfl, hl⟩ | ⟨g, cap, rfl, hB, hg, hc, hm, _, hcell⟩
  · have : l = [] := by simpa using hl
    subst this
    exact ⟨none, 0, rfl, by simp, by simp [maxLen], (fun x e => by cases e), .inl rfl⟩
  · refine ⟨_, cap, by simp, by simpa using hc, hm, (fun x e => by obtain rfl := Option.some.inj e; exact ⟨hB, hg⟩), .inr ⟨g, 0, rfl, fun j hj => ?_⟩⟩
    rw [Nat.zero_add, hcell j (by simpa using hj)]
    have hj2 : j < l.length := by simpa using hj
    simp [hj2]
theorem IntsL.below {A B : World} (h : Below A.heap.size A B) {a : Option Addr} {l : List Int} : IntsL A a l → IntsL B a l
  | .inl e => .inl e
  | .inr ⟨b, off, e, hc⟩ => .inr ⟨b, off, e, fun j hj => (h.cell (p := ⟨b, off + j, none⟩) (lt_of_cell (hc j hj))).trans (hc j hj)⟩
/-- a row of pointers is read. -/
def PtrR (w : World) (a : Option Addr) (ps : List (Option Addr)) : Prop := ps = [] ∨ ∃ b off, a = some ⟨b, off, none⟩ ∧ b < w.heap.size ∧ ∀ j, j < ps.length → w.cell? ⟨b, off + j, none⟩ = some (.pointer (ps[j]?.getD none))
theorem PtrR.below {A B : World} (h : Below A.heap.size A B) {a : Option Addr} {ps : List (Option Addr)} : PtrR A a ps → PtrR B a ps
  | .inl e => .inl e
  | .inr ⟨b, off, e, hb, hc⟩ => .inr ⟨b, off, e, Nat.lt_of_lt_of_le hb h.size, fun j hj => (h.cell (p := ⟨b, off + j, none⟩) hb).trans (hc j hj)⟩
theorem own_ptrs {E : TypeId} {B : Nat} {w : World} {v : Value} {ps : List (Option Addr)} (h : Own1 E B w v (ps.map Value.pointer)) : ∃ a cap, v = .slice a ps.length cap ∧ ps.length ≤ cap ∧ cap ≤ maxLen ∧ PtrR w a ps := by
  rcases h.shape with ⟨rfl, hl⟩ | ⟨g, cap, rfl, hB, hg, hc, hm, _, hcell⟩
  · have : ps = [] := by simpa using hl
    subst this
    exact ⟨none, 0, rfl, by simp, by simp [maxLen], .inl rfl⟩
  · refine ⟨_, cap, by simp, by simpa using hc, hm, .inr ⟨g, 0, rfl, hg, fun j hj => ?_⟩⟩
    rw [Nat.zero_add, hcell j (by simpa using hj)]
    simp [hj]
theorem ptrsH_at {sl : List Slot} {j : Nat} {s : Slot} (h : sl[j]? = some s) : (ptrsH sl)[j]?.getD none = s.map fun x => (⟨x.1, 0, none⟩ : Addr) := by
  unfold ptrsH; rw [List.getElem?_map, h]; rfl
theorem ptrsM_at {sl : List Slot} {j : Nat} {s : Slot} (h : sl[j]? = some s) : (ptrsM sl)[j]?.getD none = s.map fun x => (⟨x.2.1, 0, none⟩ : Addr) := by
  unfold ptrsM; rw [List.getElem?_map, h]; rfl
theorem toldC_length (key : ByteArray) (cs : List (Option (List Kp))) : (toldC key cs).length = cs.length := by simp [toldC]
theorem toldC_at {key : ByteArray} {cs : List (Option (List Kp))} {j : Nat} {c : Option (List Kp)} (h : cs[j]? = some c) : (toldC key cs)[j]?.getD [] = conT key c := by
  unfold toldC; rw [List.getElem?_map, h]; rfl
theorem consH_length (sl : List Slot) : (consH sl).length = sl.length := by simp [consH]
theorem consM_length (sl : List Slot) : (consM sl).length = sl.length := by simp [consM]
theorem consH_is {sl : List Slot} {j : Nat} {s : Slot} (h : sl[j]? = some s) : (consH sl)[j]? = some (s.map fun x => x.2.2.1) := by
  unfold consH; rw [List.getElem?_map, h]; rfl
theorem consM_is {sl : List Slot} {j : Nat} {s : Slot} (h : sl[j]? = some s) : (consM sl)[j]? = some (s.map fun x => x.2.2.2) := by
  unfold consM; rw [List.getElem?_map, h]; rfl
theorem tot_le {ls : List (List Ver)} {m : Nat} (h : ∀ l ∈ ls, l.length ≤ m) : totV ls ≤ ls.length * m := by
  induction ls with
  | nil => simp [totV]
  | cons a r ih =>
    have h1 := ih (fun l hl => h l (List.mem_cons_of_mem _ hl))
    have h2 := h a (List.mem_cons_self ..)
    unfold totV at *
    rw [List.map_cons, List.sum_cons, List.length_cons, Nat.add_mul]
    omega
theorem told_tot {Z : Nat → Prop} {w : World} {sl : List Slot} (h : RackAt Z w sl) (key : ByteArray) : totV (toldC key (consH sl)) ≤ sl.length * 60 := by
  refine Nat.le_trans (tot_le (m := 60) fun l hl => ?_) (by rw [toldC_length, consH_length]; exact Nat.le_refl _)
  unfold toldC consH at hl
  rw [List.map_map, List.mem_map] at hl
  obtain ⟨s, hs, rfl⟩ := hl
  obtain ⟨j, hj, rfl⟩ := List.getElem_of_mem hs
  cases e : sl[j] with
  | none => simp [conT]
  | some x =>
    obtain ⟨hb, mb, l1, l2⟩ := x
    have h9 : sl[j]? = some (some (hb, mb, l1, l2)) := by rw [List.getElem?_eq_getElem hj, e]
    have := (h.hold h9).1.2
    have h2 := getL_le l1 key
    show (getL l1 key).length ≤ 60
    omega
theorem told_totM {Z : Nat → Prop} {w : World} {sl : List Slot} (h : RackAt Z w sl) (key : ByteArray) : totV (toldC key (consM sl)) ≤ sl.length * 60 := by
  refine Nat.le_trans (tot_le (m := 60) fun l hl => ?_) (by rw [toldC_length, consM_length]; exact Nat.le_refl _)
  unfold toldC consM at hl
  rw [List.map_map, List.mem_map] at hl
  obtain ⟨s, hs, rfl⟩ := hl
  obtain ⟨j, hj, rfl⟩ := List.getElem_of_mem hs
  cases e : sl[j] with
  | none => simp [conT]
  | some x =>
    obtain ⟨hb, mb, l1, l2⟩ := x
    have h9 : sl[j]? = some (some (hb, mb, l1, l2)) := by rw [List.getElem?_eq_getElem hj, e]
    have := (h.model h9).1.2
    have h2 := getL_le l2 key
    show (getL l2 key).length ≤ 60
    omega
theorem take_snocL {α : Type} (ls : List α) (d : α) (i : Nat) (h : i < ls.length) : ls.take (i + 1) = ls.take i ++ [ls[i]?.getD d] := by
  rw [List.take_succ_eq_append_getElem h, List.getElem?_eq_getElem h]; rfl
theorem mustL_length (n k : Nat) (t : Int × Int) (s : ByteArray) : (mustL n k t s).length = n := by simp [mustL, encL_length]
theorem mustL_at {n k : Nat} {t : Int × Int} {s : ByteArray} {i : Nat} (hi : i < n) : (mustL n k t s)[i]?.getD ver0 = (t.1, t.2, (s.size : Int), ((encL n k s)[i]?.getD (0, ⟨#[]⟩)).1, ((encL n k s)[i]?.getD (0, ⟨#[]⟩)).2) := by
  unfold mustL
  rw [List.getElem?_map, List.getElem?_eq_getElem (by rw [encL_length]; exact hi)]
  rfl
/-- who lacks it, of the first i. -/
def lackI (must : List Ver) (told : List (List Ver)) (i : Nat) : List Nat := (List.range i).filter fun i => !inV (must[i]?.getD ver0) (told[i]?.getD [])
theorem lackI_all (must : List Ver) (told : List (List Ver)) : lackI must told must.length = lackL must told := rfl
theorem lackI_snoc (must : List Ver) (told : List (List Ver)) (i : Nat) : lackI must told (i + 1) = lackI must told i ++ (if inV (must[i]?.getD ver0) (told[i]?.getD []) = true then [] else [i]) := by
  unfold lackI
  rw [List.range_succ, List.filter_append]
  congr 1
  cases h : inV (must[i]?.getD ver0) (told[i]?.getD []) <;> simp [h]
theorem lackI_le (must : List Ver) (told : List (List Ver)) (i : Nat) : (lackI must told i).length ≤ i := by
  unfold lackI
  exact Nat.le_trans (List.length_filter_le _ _) (by simp)
theorem lackL_lt {must : List Ver} {told : List (List Ver)} : ∀ i ∈ lackL must told, i < must.length := fun i hi => by
  unfold lackL at hi
  simpa using (List.mem_filter.1 hi).1
/-- what the best of what was told is. -/
def bestOf (n k : Nat) (told : List (List Ver)) : (Int × Int) × ByteArray × Bool := bestAns k (bestG k (groupsL n k told.flatten))
theorem best_size {n k : Nat} {told : List (List Ver)} {t : Int × Int} {s : ByteArray} (h : bestOf n k told = (t, s, true)) : s.size ≤ 1000 := by
  unfold bestOf at h
  cases e : bestG k (groupsL n k told.flatten) with
  | none => rw [e] at h; simp [bestAns] at h
  | some g =>
    rw [e] at h
    simp only [bestAns, Prod.mk.injEq] at h
    have h2 := (best_good e).1.2
    rw [← h.2.1]
    rw [textOf_size]
    omega
theorem best_no {n k : Nat} {told : List (List Ver)} {t : Int × Int} {s : ByteArray} (h : bestOf n k told = (t, s, false)) : t = (0, 0) ∧ s = ⟨#[]⟩ := by
  unfold bestOf at h
  cases e : bestG k (groupsL n k told.flatten) with
  | none =>
    rw [e] at h
    simp only [bestAns, Prod.mk.injEq] at h
    exact ⟨by rw [← h.1], h.2.1.symm⟩
  | some g => rw [e] at h; simp [bestAns] at h
/-- what a look answers. -/
def LookPost (w w' : World) (E : Nat → Addr) (n k : Int) (L : List ByteArray) (len : Nat) (told : List (List Ver)) (e : Ending) : Prop := Below w.heap.size w w' ∧
  ∃ vm vl v, e = .returned (.tuple #[vm, vl, v]) ∧
    (((configF n k L).1 ≠ 0 ∧ vm = .slice none 0 0 ∧ vl = .slice none 0 0 ∧ ((∃ x, v = errV x) ∨ ∃ m, v = faultV m) ∧ FltV w' E (configF n k L) v) ∨
     ((configF n k L).1 = 0 ∧ (len : Int) ≠ n ∧ vm = .slice none 0 0 ∧ vl = .slice none 0 0 ∧ v = errV (E 2)) ∨
     ((configF n k L).1 = 0 ∧ (len : Int) = n ∧ v = .nilIface ∧
       (((bestOf n.toNat k.toNat told).2.2 = false ∧ vm = .slice none 0 0 ∧ vl = .slice none 0 0) ∨
        ∃ t s, bestOf n.toNat k.toNat told = (t, s, true) ∧ OwnV w.heap.size w' vm (mustL n.toNat k.toNat t s) ∧ OwnZ w.heap.size w' vl (lackL (mustL n.toNat k.toNat t s) told))))
end
end Go.Proofs.YtolbdcmoblcakaaGreatDoor
/- Racks of holds alone (printed out of Rck). -/
namespace Go.Proofs.YtolbdcmoblcakaaGreatDoor.HO
section
open Go.RowKit Go.BigFrame

/-- a hold at hb, of blocks of P; what is new is of P. -/
def Two (P : Nat → Prop) (w : World) (hb _mb : Nat) (s1 : Bool) (l1 : List Kp) (_s2 : Bool) (_l2 : List Kp) : Prop :=
  ∃ (F : Nat → Prop) (ks : List ByteArray) (S : ByteArray → Value), HoldAt F w hb s1 (getL l1) ks S ∧ (∀ b, F b → P b ∧ b < w.heap.size) ∧ (∀ b, w.heap.size ≤ b → P b)
theorem Two.mono {P Q : Nat → Prop} {w : World} {hb mb : Nat} {s1 s2 : Bool} {l1 l2 : List Kp} (h : Two P w hb mb s1 l1 s2 l2) (hPQ : ∀ b, P b → Q b) : Two Q w hb mb s1 l1 s2 l2 := by
  obtain ⟨F, ks, S, h1, h4, hB⟩ := h
  exact ⟨F, ks, S, h1, fun b hb => ⟨hPQ b (h4 b hb).1, (h4 b hb).2⟩, fun b hb => hPQ b (hB b hb)⟩
theorem two_hput {P : Nat → Prop} {w : World} {hb mb : Nat} {sd s2 : Bool} {l l2 : List Kp} (h : Two P w hb mb sd l s2 l2) (hf : Fine l) (E : Nat → Addr) (hE : ErrHx w E) (key : ByteArray) (x1 x2 x3 x4 : Int) (x5 : ByteArray) (hk : key.size ≤ maxLen) :
    Calls Tryz.prog 25 #[.pointer (some ⟨hb, 0, none⟩), .string key, .agg #[.int .i64 x1, .int .i64 x2, .int .i64 x3, .int .i64 x4, .string x5]] w fun e w' => (∃ v, e = .returned v ∧ errOf E (putM (errM sd l key (x1, x2, x3, x4, x5))) v) ∧ Two P w' hb mb sd (afterP sd l key (x1, x2, x3, x4, x5)) s2 l2 ∧ KeptBut P w w' := by
  obtain ⟨F, ks, S, h1, h4, hB⟩ := h
  have ht := h1.tot
  have done : ∀ {w' : World} {F' : Nat → Prop} {ks' S' l'}, KeptBut F w w' → (∀ b, F' b → F b ∨ w.heap.size ≤ b) → HoldAt F' w' hb sd (getL l') ks' S' → Two P w' hb mb sd l' s2 l2 ∧ KeptBut P w w' := fun {w' F' ks' S' l'} hk hF hh => ⟨⟨_, ks', S', hh.restrict, fun b hf => ⟨by
    rcases hF b hf.1 with h9 | h9
    · exact (h4 b h9).1
    · exact hB b h9, hf.2⟩, fun b hb => hB b (Nat.le_trans hk.size hb)⟩, hk.mono (fun k _ hf => (h4 k hf).1)⟩
  refine (hput_any F w hb sd (getL l) ks S key x1 x2 x3 x4 x5 E h1 hE hk (by rw [ht]; have := hf.2; omega) (hf.1.get key)).mono fun e w' hp => ?_
  obtain ⟨hkp, hc⟩ := hp
  have hs := err_same (sd := sd) (key := key) (x := (x1, x2, x3, x4, x5)) hf.1 ht
  unfold afterP putM
  rcases hc with ⟨i, hpe, he, hh⟩ | ⟨hpe, hhv, he, hh⟩ | ⟨hpe, hhv, he, S', hh⟩
  · rcases hs with ⟨j, h6, h7, h8⟩ | ⟨h6, _⟩ | ⟨h6, _⟩
    · rw [hpe] at h6
      obtain rfl := Option.some.inj h6
      rw [h7, if_neg (by omega), if_neg (by omega)]
      exact ⟨⟨_, he, .inr ⟨i, by omega, by omega, rfl⟩⟩, done hkp (fun b hb => .inl hb) hh⟩
    · rw [hpe] at h6; cases h6
    · rw [hpe] at h6; cases h6
  · rcases hs with ⟨j, h6, _⟩ | ⟨_, _, h7⟩ | ⟨_, h7, _⟩
    · rw [hpe] at h6; cases h6
    · rw [h7, if_pos (by omega), if_neg (by omega)]
      exact ⟨⟨_, he, .inl ⟨rfl, rfl⟩⟩, done hkp (fun b hb => .inl hb) hh⟩
    · rw [hhv] at h7; cases h7
  · rcases hs with ⟨j, h6, _⟩ | ⟨_, h7, _⟩ | ⟨_, _, h7, _⟩
    · rw [hpe] at h6; cases h6
    · rw [hhv] at h7; cases h7
    · rw [h7, if_neg (by omega), if_pos rfl]
      rw [← getL_ins hf.1] at hh
      exact ⟨⟨_, he, .inl ⟨rfl, rfl⟩⟩, done hkp (fun b hb => hb) hh⟩
/-- a rack; no block of Z is one of its. -/
structure RackAt (Z : Nat → Prop) (w : World) (sl : List Slot) : Prop where
  hZ : ∀ b, Z b → b < w.heap.size
  ex : ∃ B : Nat → Nat → Prop, (∀ i b, B i b → b < w.heap.size ∧ ¬ Z b) ∧ (∀ i j b, i ≠ j → B i b → ¬ B j b) ∧
    ∀ i hb mb l1 l2, sl[i]? = some (some (hb, mb, l1, l2)) → Two (fun b => B i b ∨ w.heap.size ≤ b) w hb mb false l1 false l2 ∧ Fine l1 ∧ Fine l2
theorem RackAt.nil {Z : Nat → Prop} {w : World} (h : ∀ b, Z b → b < w.heap.size) : RackAt Z w [] := ⟨h, fun _ _ => False, fun _ _ h => h.elim, fun _ _ _ _ h => h.elim, fun i hb mb l1 l2 h => by simp at h⟩
theorem RackAt.lessZ {Z Z' : Nat → Prop} {w : World} {sl : List Slot} (h : RackAt Z w sl) (hz : ∀ b, Z' b → Z b) : RackAt Z' w sl := by
  obtain ⟨h1, B, h2, h3, h4⟩ := h
  exact ⟨fun b hb => h1 b (hz b hb), B, fun i b hb => ⟨(h2 i b hb).1, fun e => (h2 i b hb).2 (hz b e)⟩, h3, h4⟩
theorem Two.kept {P K : Nat → Prop} {w w' : World} {hb mb : Nat} {s1 s2 : Bool} {l1 l2 : List Kp} (h : Two P w hb mb s1 l1 s2 l2) (hk : KeptBut K w w') (hK : ∀ b, b < w.heap.size → P b → ¬ K b) : Two (fun b => (P b ∧ b < w.heap.size) ∨ w'.heap.size ≤ b) w' hb mb s1 l1 s2 l2 := by
  obtain ⟨F, ks, S, h1, h4, hB⟩ := h
  exact ⟨F, ks, S, h1.kept hk (fun b hb hf => hK b hb (h4 b hf).1), fun b hb => ⟨.inl (h4 b hb), Nat.lt_of_lt_of_le (h4 b hb).2 hk.size⟩, fun b hb => .inr hb⟩
/-- blocks of Z turn, and new ones come: all new ones are of Z from now on. -/
theorem RackAt.turn {Z K : Nat → Prop} {w w' : World} {sl : List Slot} (h : RackAt Z w sl) (hk : KeptBut K w w') (hK : ∀ b, b < w.heap.size → K b → Z b) : RackAt (fun b => Z b ∨ (w.heap.size ≤ b ∧ b < w'.heap.size)) w' sl := by
  obtain ⟨h1, B, h2, h3, h4⟩ := h
  refine ⟨fun b hb => ?_, B, fun i b hb => ⟨Nat.lt_of_lt_of_le (h2 i b hb).1 hk.size, ?_⟩, h3, fun i hb mb l1 l2 hi => ?_⟩
  · rcases hb with hb | hb
    · exact Nat.lt_of_lt_of_le (h1 b hb) hk.size
    · exact hb.2
  · rintro (h9 | h9)
    · exact (h2 i b hb).2 h9
    · have := (h2 i b hb).1; omega
  · obtain ⟨t1, t2⟩ := h4 i hb mb l1 l2 hi
    refine ⟨(t1.kept hk (fun b hb hp hkb => ?_)).mono (fun b hp => ?_), t2⟩
    · rcases hp with hp | hp
      · exact (h2 i b hp).2 (hK b hb hkb)
      · omega
    · rcases hp with ⟨hp | hp, hlt⟩ | hp
      · exact .inl hp
      · omega
      · exact .inr hp
theorem RackAt.below {Z : Nat → Prop} {w w' : World} {sl : List Slot} (h : RackAt Z w sl) {n : Nat} (hk : Below n w w') (hn : w.heap.size ≤ n) : RackAt (fun b => Z b ∨ (w.heap.size ≤ b ∧ b < w'.heap.size)) w' sl :=
  h.turn (KeptBut.of_below (F := fun b => n ≤ b) hk (fun _ _ h => h)) (fun b hb h9 => by omega)
theorem RackAt.below' {Z : Nat → Prop} {w w' : World} {sl : List Slot} (h : RackAt Z w sl) {n : Nat} (hk : Below n w w') (hn : w.heap.size ≤ n) : RackAt Z w' sl := (h.below hk hn).lessZ fun _ h => .inl h
/-- an act on one pair. -/
theorem RackAt.act {Z : Nat → Prop} {w : World} {sl : List Slot} (h : RackAt Z w sl) {i hb mb : Nat} {l1 l2 : List Kp} (hi : sl[i]? = some (some (hb, mb, l1, l2))) :
    Fine l1 ∧ Fine l2 ∧ ∃ P : Nat → Prop, Two P w hb mb false l1 false l2 ∧ (∀ b, P b → ¬ Z b) ∧ ∀ w' l1' l2', Two P w' hb mb false l1' false l2' → KeptBut P w w' → Fine l1' → Fine l2' → RackAt Z w' (sl.set i (some (hb, mb, l1', l2'))) := by
  obtain ⟨h1, B, h2, h3, h4⟩ := h
  obtain ⟨t1, t2, t3⟩ := h4 i hb mb l1 l2 hi
  refine ⟨t2, t3, _, t1, fun b hp hz => ?_, fun w' l1' l2' ht hk f1 f2 => ?_⟩
  · rcases hp with hp | hp
    · exact (h2 i b hp).2 hz
    · have := h1 b hz; omega
  · refine ⟨fun b hb => Nat.lt_of_lt_of_le (h1 b hb) hk.size, fun j b => if j = i then (B i b ∨ w.heap.size ≤ b) ∧ b < w'.heap.size else B j b, fun j b hb => ?_, fun j k b hne hj => ?_, fun j hb' mb' m1 m2 hj => ?_⟩
    · by_cases e : j = i
      · simp only [e, if_true] at hb
        refine ⟨hb.2, fun hz => ?_⟩
        rcases hb.1 with hp | hp
        · exact (h2 i b hp).2 hz
        · have := h1 b hz; omega
      · simp only [e, if_false] at hb
        exact ⟨Nat.lt_of_lt_of_le (h2 j b hb).1 hk.size, (h2 j b hb).2⟩
    · by_cases e : j = i
      · have e2 : ¬ k = i := fun h9 => hne (by rw [e, h9])
        simp only [e, if_true] at hj
        simp only [e2, if_false]
        intro hkb
        rcases hj.1 with hp | hp
        · exact h3 i k b (fun h9 => e2 h9.symm) hp hkb
        · have := (h2 k b hkb).1; omega
      · simp only [e, if_false] at hj
        by_cases e2 : k = i
        · simp only [e2, if_true]
          rintro ⟨hp | hp, _⟩
          · exact h3 i j b (fun h9 => e h9.symm) hp hj
          · have := (h2 j b hj).1; omega
        · simp only [e2, if_false]
          exact h3 j k b hne hj
    · by_cases e : j = i
      · subst e
        have hlt : j < sl.length := by
          rcases Nat.lt_or_ge j sl.length with h9 | h9
          · exact h9
          · rw [List.getElem?_eq_none h9] at hi; cases hi
        rw [List.getElem?_set_self hlt] at hj
        simp only [Option.some.injEq, Prod.mk.injEq] at hj
        obtain ⟨rfl, rfl, rfl, rfl⟩ := hj
        simp only [if_true]
        refine ⟨?_, f1, f2⟩
        obtain ⟨F, ks, S, q1, q4, qB⟩ := ht
        exact ⟨F, ks, S, q1, fun b hb => ⟨.inl (q4 b hb), (q4 b hb).2⟩, fun b hb => .inr hb⟩
      · rw [List.getElem?_set_ne (fun h9 => e h9.symm)] at hj
        obtain ⟨u1, u2⟩ := h4 j hb' mb' m1 m2 hj
        simp only [e, if_false]
        refine ⟨(u1.kept hk (fun b hb hp hkb => ?_)).mono (fun b hp => ?_), u2⟩
        · rcases hp with hp | hp
          · rcases hkb with h9 | h9
            · exact h3 j i b e hp h9
            · omega
          · omega
        · rcases hp with ⟨hp | hp, hlt⟩ | hp
          · exact .inl hp
          · omega
          · exact .inr hp
theorem RackAt.pushNone {Z : Nat → Prop} {w : World} {sl : List Slot} (h : RackAt Z w sl) : RackAt Z w (sl ++ [none]) := by
  obtain ⟨h1, B, h2, h3, h4⟩ := h
  refine ⟨h1, B, h2, h3, fun i hb mb l1 l2 hi => h4 i hb mb l1 l2 ?_⟩
  rcases Nat.lt_or_ge i sl.length with h9 | h9
  · rwa [List.getElem?_append_left h9] at hi
  · rw [List.getElem?_append_right h9] at hi
    rcases Nat.eq_zero_or_pos (i - sl.length) with h8 | h8
    · rw [h8] at hi; simp at hi
    · rw [List.getElem?_eq_none (by simp; omega)] at hi; cases hi
/-- a pair more, both of which are new and empty. -/
theorem RackAt.push {Z : Nat → Prop} {w w' : World} {sl : List Slot} {hb mb : Nat} (h : RackAt Z w sl) (hk : Below w.heap.size w w') (ht : Two (fun b => w.heap.size ≤ b) w' hb mb false [] false []) : RackAt Z w' (sl ++ [some (hb, mb, [], [])]) := by
  obtain ⟨h1, B, h2, h3, h4⟩ := h
  refine ⟨fun b hb => Nat.lt_of_lt_of_le (h1 b hb) hk.size, fun j b => if j = sl.length then w.heap.size ≤ b ∧ b < w'.heap.size else if j < sl.length then B j b else False, fun j b hb => ?_, fun j k b hne hj hkb => ?_, fun j hb' mb' m1 m2 hj => ?_⟩
  · by_cases e : j = sl.length
    · simp only [e, if_true] at hb
      exact ⟨hb.2, fun hz => by have := h1 b hz; omega⟩
    · simp only [e, if_false] at hb
      split at hb
      · exact ⟨Nat.lt_of_lt_of_le (h2 j b hb).1 hk.size, (h2 j b hb).2⟩
      · exact hb.elim
  · by_cases e : j = sl.length
    · have e2 : ¬ k = sl.length := fun h9 => hne (by rw [e, h9])
      simp only [e, if_true] at hj
      simp only [e2, if_false] at hkb
      split at hkb
      · have := (h2 k b hkb).1; omega
      · exact hkb
    · simp only [e, if_false] at hj
      split at hj
      · by_cases e2 : k = sl.length
        · simp only [e2, if_true] at hkb
          have := (h2 j b hj).1; omega
        · simp only [e2, if_false] at hkb
          split at hkb
          · exact h3 j k b hne hj hkb
          · exact hkb
      · exact hj
  · rcases Nat.lt_or_ge j sl.length with h9 | h9
    · rw [List.getElem?_append_left h9] at hj
      obtain ⟨u1, u2⟩ := h4 j hb' mb' m1 m2 hj
      have e : ¬ j = sl.length := by omega
      simp only [e, if_false, h9, if_true]
      refine ⟨((u1.kept (KeptBut.of_below (F := fun b => w.heap.size ≤ b) hk (fun _ _ h => h)) (fun b hb hp hkb => ?_))).mono (fun b hp => ?_), u2⟩
      · omega
      · rcases hp with ⟨hp | hp, hlt⟩ | hp
        · exact .inl hp
        · omega
        · exact .inr hp
    · rw [List.getElem?_append_right h9] at hj
      have h8 : j = sl.length := by
        rcases Nat.eq_zero_or_pos (j - sl.length) with h8 | h8
        · omega
        · rw [List.getElem?_eq_none (by simp; omega)] at hj; cases hj
      subst h8
      simp at hj
      obtain ⟨rfl, rfl, rfl, rfl⟩ := hj
      simp only [if_true]
      refine ⟨?_, Fine.nil, Fine.nil⟩
      obtain ⟨F, ks, S, q1, q4, qB⟩ := ht
      exact ⟨F, ks, S, q1, fun b hb => ⟨.inl (q4 b hb), (q4 b hb).2⟩, fun b hb => .inr hb⟩
/-- a hold, just made. -/
theorem two_new {w' : World} {n hb : Nat} (hh : w'.heap[hb]? = some (.cells #[.map none, .bool false] 68 (0, 0))) (h1 : n ≤ hb) (hn : n ≤ w'.heap.size) : Two (fun b => n ≤ b) w' hb hb false [] false [] := by
  have c0 : w'.cell? ⟨hb, 0, none⟩ = some (.map none) := cell_of_heap hh 0
  have c1 : w'.cell? ⟨hb, 1, none⟩ = some (.bool false) := cell_of_heap hh 1
  refine ⟨fun b => b = hb, [], fun _ => .slice none 0 0, ?_, fun b e => ?_, fun b e => by omega⟩
  · rw [getL_nil]
    exact HoldAt.empty rfl c0 c1 (frozen_of_heap hh 0) (frozen_of_heap hh 1)
  · subst e; exact ⟨h1, lt_of_cell c0⟩
theorem RackAt.hold {Z : Nat → Prop} {w : World} {sl : List Slot} (h : RackAt Z w sl) {i hb mb : Nat} {l1 l2 : List Kp} (hi : sl[i]? = some (some (hb, mb, l1, l2))) : Fine l1 ∧ ∃ F ks S, HoldAt F w hb false (getL l1) ks S := by
  obtain ⟨f1, _, P, ⟨F, ks, S, h1, _⟩, _⟩ := h.act hi
  exact ⟨f1, F, ks, S, h1⟩
theorem told_tot {Z : Nat → Prop} {w : World} {sl : List Slot} (h : RackAt Z w sl) (key : ByteArray) : totV (toldC key (consH sl)) ≤ sl.length * 60 := by
  refine Nat.le_trans (tot_le (m := 60) fun l hl => ?_) (by rw [toldC_length, consH_length]; exact Nat.le_refl _)
  unfold toldC consH at hl
  rw [List.map_map, List.mem_map] at hl
  obtain ⟨s, hs, rfl⟩ := hl
  obtain ⟨j, hj, rfl⟩ := List.getElem_of_mem hs
  cases e : sl[j] with
  | none => simp [conT]
  | some x =>
    obtain ⟨hb, mb, l1, l2⟩ := x
    have h9 : sl[j]? = some (some (hb, mb, l1, l2)) := by rw [List.getElem?_eq_getElem hj, e]
    have := (h.hold h9).1.2
    have h2 := getL_le l1 key
    show (getL l1 key).length ≤ 60
    omega
theorem RackAt.appendH {n : Nat} {w0 w' : World} {va va' vb : Value} {o : Obj} {sl : List Slot} {us : List Value} {E : TypeId} (h : RackAt (Zof n va vb) w0 sl) (hg : (w0.alloc o).grownBy w' va.ownBlock) (hv : va'.ownBlock = va.ownBlock ∨ va'.ownBlock = some (w0.heap.size + 1)) (ho : Own1 E n w' va' us) : RackAt (Zof n va' vb) w' sl := by
  have h1 := h.turn (KeptBut.of_below (F := fun b => w0.heap.size ≤ b) ((Below.refl w0.heap.size w0).alloc (Nat.le_refl _) o) (fun _ _ h => h)) (fun b hb h9 => by omega)
  have h2 := h1.turn (KeptBut.of_grown (F := fun b => va.ownBlock = some b) hg (fun k e => e)) (fun b _ e => .inl (.inr (.inl e)))
  have hs := hg.size
  have hs0 : (w0.alloc o).heap.size = w0.heap.size + 1 := by simp
  refine h2.lessZ fun b hb => ?_
  rcases hb with hb | hb | hb
  · exact .inl (.inl (.inl hb))
  · rcases hv with e | e
    · rw [e] at hb; exact .inl (.inl (.inr (.inl hb)))
    · rw [e] at hb
      obtain rfl := Option.some.inj hb
      have h9 := (ho.lt _ e).2
      exact .inr ⟨by omega, h9⟩
  · exact .inl (.inl (.inr (.inr hb)))
end
end Go.Proofs.YtolbdcmoblcakaaGreatDoor.HO
/- Walks: slices.Index, slices.Contains of versions. -/
namespace Go.Proofs.YtolbdcmoblcakaaGreatDoor
section
open Go.RowKit Go.Maps Go.BigFrame

set_option maxRecDepth 100000 in
set_option maxHeartbeats 8000000 in
theorem idxv_walk (n₀ : Nat) (a : Option Addr) (len cap : Nat) (L : List Ver) (x : Ver) (w : World) (hlen : L.length = len) (hl : len ≤ maxLen) (hI : VrR n₀ w a L) (hn : n₀ ≤ w.heap.size) :
    Calls Tryz.prog 73 #[.slice a len cap, verV x] w fun e w' => (∃ r : Int, e = .returned (.int .i64 r) ∧ (0 ≤ r ↔ x ∈ L)) ∧ Below w.heap.size w w' := by
  obtain ⟨x1, x2, x3, x4, x5⟩ := x
  have hm9 : len ≤ 9223372036854775807 := hl
  obtain ⟨W1, hW1⟩ : ∃ W1, w.alloc (.cells #[.int .i64 x1, .int .i64 x2, .int .i64 x3, .int .i64 x4, .string x5] 58) = W1 := ⟨_, rfl⟩
  obtain ⟨xb, hxb⟩ : ∃ xb, w.heap.size = xb := ⟨_, rfl⟩
  have hB1 : Below w.heap.size w W1 := by rw [← hW1]; exact (Below.refl _ w).alloc (Nat.le_refl _) _
  have c0 : W1.cell? ⟨xb, 0, none⟩ = some (.int .i64 x1) := by rw [← hW1, ← hxb]; simp
  have c1 : W1.cell? ⟨xb, 1, none⟩ = some (.int .i64 x2) := by rw [← hW1, ← hxb]; simp
  have c2 : W1.cell? ⟨xb, 2, none⟩ = some (.int .i64 x3) := by rw [← hW1, ← hxb]; simp
  have c3 : W1.cell? ⟨xb, 3, none⟩ = some (.int .i64 x4) := by rw [← hW1, ← hxb]; simp
  have c4 : W1.cell? ⟨xb, 4, none⟩ = some (.string x5) := by rw [← hW1, ← hxb]; simp
  have HI := Lib.hid (And.intro ((hI.mono hn).below hB1) (And.intro hlen (And.intro hB1 (And.intro c0 (And.intro c1 (And.intro c2 (And.intro c3 c4)))))))
  unfold verV
  dsimp only
  clear hI hn hlen hl hB1 c0 c1 c2 c3 c4
  go_enter Tryz.func73, Tryz.ntmps73
  go_wp2_with fail
  go_loopw [8] (fun vi wr => ∃ k : Nat, k ≤ len ∧ vi = .int .i64 k ∧ Hid ((∀ j, j < k → (L[j]?.getD ver0) ≠ (x1, x2, x3, x4, x5)) ∧ ∃ q, wr = W1.drewN q)) (fun i _ => len - (intOf i).toNat)
  case atStart => exact ⟨0, by omega, rfl, Lib.hid ⟨fun j hj => by omega, 0, rfl⟩⟩
  case round =>
    obtain ⟨k, hk, rfl, H⟩ := hrel
    have hbw : Below W1.heap.size W1 wr := by
      obtain ⟨_, q, rfl⟩ := H.out
      exact ⟨rfl, rfl, rfl, Nat.le_refl _, fun _ _ => rfl⟩
    have Hbw := Lib.hid (HI.out.2.2.1.trans (hbw.mono HI.out.2.2.1.size))
    have hk2 : k < len ∨ k = len := by omega
    rcases hk2 with hlt | rfl
    · have hlt2 : (k : Int) < len := by omega
      have hcc : ∀ {p : Addr} {v}, W1.cell? p = some v → wr.cell? p = some v := fun {p v} h => by
        obtain ⟨_, q, rfl⟩ := H.out
        exact h
      have p0 := hcc HI.out.2.2.2.1
      have p1 := hcc HI.out.2.2.2.2.1
      have p2 := hcc HI.out.2.2.2.2.2.1
      have p3 := hcc HI.out.2.2.2.2.2.2.1
      have p4 := hcc HI.out.2.2.2.2.2.2.2
      rcases HI.out.1 with he | ⟨bb, ob, rfl, _, h2⟩
      · exfalso
        have := HI.out.2.1
        rw [he] at this; simp at this; omega
      obtain ⟨q0, q1, q2, q3, q4⟩ := VrR.at5 h2 (i := k) (by have := HI.out.2.1; omega)
      have q0 := hcc q0
      have q1 := hcc q1
      have q2 := hcc q2
      have q3 := hcc q3
      have q4 := hcc q4
      obtain ⟨⟨y1, y2, y3, y4, y5⟩, hy⟩ : ∃ y, L[k]?.getD ver0 = y := ⟨_, rfl⟩
      rw [hy] at q0 q1 q2 q3 q4
      dsimp only at q0 q1 q2 q3 q4
      have Hy := Lib.hid hy
      clear hy hbw h2 hcc
      have hcs : (x1 = y1 ∧ x2 = y2 ∧ x3 = y3 ∧ x4 = y4 ∧ x5 = y5) ∨ x1 ≠ y1 ∨ (x1 = y1 ∧ x2 ≠ y2) ∨ (x1 = y1 ∧ x2 = y2 ∧ x3 ≠ y3) ∨ (x1 = y1 ∧ x2 = y2 ∧ x3 = y3 ∧ x4 ≠ y4) ∨ (x1 = y1 ∧ x2 = y2 ∧ x3 = y3 ∧ x4 = y4 ∧ x5 ≠ y5) := by
        by_cases e1 : x1 = y1
        · by_cases e2 : x2 = y2
          · by_cases e3 : x3 = y3
            · by_cases e4 : x4 = y4
              · by_cases e5 : x5 = y5
                · exact .inl ⟨e1, e2, e3, e4, e5⟩
                · exact .inr (.inr (.inr (.inr (.inr ⟨e1, e2, e3, e4, e5⟩))))
              · exact .inr (.inr (.inr (.inr (.inl ⟨e1, e2, e3, e4⟩))))
            · exact .inr (.inr (.inr (.inl ⟨e1, e2, e3⟩)))
          · exact .inr (.inr (.inl ⟨e1, e2⟩))
        · exact .inr (.inl e1)
      rcases hcs with ⟨e1, e2, e3, e4, e5⟩ | hne
      · have hmem : ((x1, x2, x3, x4, x5) : Ver) ∈ L := by
          have hkl : k < L.length := by rw [HI.out.2.1]; exact hlt
          have h9 := Hy.out
          rw [List.getElem?_eq_getElem hkl] at h9
          rw [e1, e2, e3, e4, e5, ← h9]
          exact List.getElem_mem hkl
        have Hm := Lib.hid hmem
        clear hmem
        subst e1 e2 e3 e4 e5
        go_wp2
        go_quiet (fail)
        go_wp2
        go_ret
        exact ⟨⟨_, rfl, ⟨fun _ => Hm.out, fun _ => by omega⟩⟩, Hbw.out.trans ⟨rfl, rfl, rfl, Nat.le_refl _, fun _ _ => rfl⟩⟩
      · have hno : (L[k]?.getD ver0) ≠ (x1, x2, x3, x4, x5) := by
          rw [Hy.out]
          intro h9
          simp only [Prod.mk.injEq] at h9
          obtain ⟨rfl, rfl, rfl, rfl, rfl⟩ := h9
          simp at hne
        have HN : Hid (∀ j, j < k + 1 → (L[j]?.getD ver0) ≠ (x1, x2, x3, x4, x5)) := Lib.hid fun j hj => by
          by_cases e : j = k
          · rw [e]; exact hno
          · exact H.out.1 j (by omega)
        clear hno Hy
        have hne2 : (x1 == y1) = false ∨ (x1 = y1 ∧ (x2 == y2) = false) ∨ (x1 = y1 ∧ x2 = y2 ∧ (x3 == y3) = false) ∨ (x1 = y1 ∧ x2 = y2 ∧ x3 = y3 ∧ (x4 == y4) = false) ∨ (x1 = y1 ∧ x2 = y2 ∧ x3 = y3 ∧ x4 = y4 ∧ (x5.toList == y5.toList) = false) := by
          rcases hne with h9 | ⟨h1, h9⟩ | ⟨h1, h2, h9⟩ | ⟨h1, h2, h3, h9⟩ | ⟨h1, h2, h3, h4, h9⟩
          · exact .inl (beq_eq_false_iff_ne.2 h9)
          · exact .inr (.inl ⟨h1, beq_eq_false_iff_ne.2 h9⟩)
          · exact .inr (.inr (.inl ⟨h1, h2, beq_eq_false_iff_ne.2 h9⟩))
          · exact .inr (.inr (.inr (.inl ⟨h1, h2, h3, beq_eq_false_iff_ne.2 h9⟩)))
          · exact .inr (.inr (.inr (.inr ⟨h1, h2, h3, h4, txt_neW h9⟩)))
        clear hne
        rcases hne2 with h9 | ⟨rfl, h9⟩ | ⟨rfl, rfl, h9⟩ | ⟨rfl, rfl, rfl, h9⟩ | ⟨rfl, rfl, rfl, rfl, h9⟩
        all_goals
          go_wp2
          go_quiet (fail)
          go_wp2
          go_roundw
          case rel => exact ⟨k + 1, by omega, by go_num, Lib.hid ⟨HN.out, by
            obtain ⟨_, q, hq⟩ := H.out
            exact ⟨q + nq, by rw [hq, World.drewN_drewN]⟩⟩⟩
          case measure => simp [intOf]; omega
    · have hnm : ((x1, x2, x3, x4, x5) : Ver) ∉ L := fun hm => by
        obtain ⟨j, hj, e⟩ := List.getElem_of_mem hm
        have h9 := H.out.1 j (by rw [← HI.out.2.1]; exact hj)
        rw [List.getElem?_eq_getElem hj] at h9
        exact h9 e
      have Hn := Lib.hid hnm
      clear hnm
      go_wp2
      go_ret
      exact ⟨⟨_, rfl, ⟨fun h => by omega, fun h => absurd h Hn.out⟩⟩, Hbw.out⟩
set_option maxRecDepth 100000 in
theorem contv_walk (n₀ : Nat) (a : Option Addr) (len cap : Nat) (L : List Ver) (x : Ver) (r : Bool) (w : World) (hlen : L.length = len) (hl : len ≤ maxLen) (hI : VrR n₀ w a L) (hn : n₀ ≤ w.heap.size) (hr : r = true ↔ x ∈ L) :
    Calls Tryz.prog 47 #[.slice a len cap, verV x] w fun e w' => e = .returned (.bool r) ∧ Below w.heap.size w w' := by
  obtain ⟨W1, hW1⟩ : ∃ W1, w.alloc (.cells #[.int .i64 x.1, .int .i64 x.2.1, .int .i64 x.2.2.1, .int .i64 x.2.2.2.1, .string x.2.2.2.2] 58) = W1 := ⟨_, rfl⟩
  obtain ⟨xb, hxb⟩ : ∃ xb, w.heap.size = xb := ⟨_, rfl⟩
  have hB1 : Below w.heap.size w W1 := by rw [← hW1]; exact (Below.refl _ w).alloc (Nat.le_refl _) _
  have c0 : W1.cell? ⟨xb, 0, none⟩ = some (.int .i64 x.1) := by rw [← hW1, ← hxb]; simp
  have c1 : W1.cell? ⟨xb, 1, none⟩ = some (.int .i64 x.2.1) := by rw [← hW1, ← hxb]; simp
  have c2 : W1.cell? ⟨xb, 2, none⟩ = some (.int .i64 x.2.2.1) := by rw [← hW1, ← hxb]; simp
  have c3 : W1.cell? ⟨xb, 3, none⟩ = some (.int .i64 x.2.2.2.1) := by rw [← hW1, ← hxb]; simp
  have c4 : W1.cell? ⟨xb, 4, none⟩ = some (.string x.2.2.2.2) := by rw [← hW1, ← hxb]; simp
  have Hi := Lib.hid (And.intro hB1 (idxv_walk n₀ a len cap L x W1 hlen hl (hI.below (hB1.mono hn)) (Nat.le_trans hn hB1.size)))
  have Hr := Lib.hid hr
  unfold verV at Hi ⊢
  clear hlen hl hI hr hn hB1
  cases r with
  | true =>
    go_enter Tryz.func47, Tryz.ntmps47
    go_wp2_with fail
    refine Hi.out.2.mono ?_
    rintro e w' ⟨⟨i, rfl, hi⟩, hb⟩
    have h1 : 0 ≤ i := hi.2 (Hr.out.1 (by first | rfl | trivial))
    have HB := Lib.hid (Hi.out.1.trans (hb.mono Hi.out.1.size))
    clear hi hb
    go_wp2
    go_ret
    exact ⟨by simp, HB.out⟩
  | false =>
    go_enter Tryz.func47, Tryz.ntmps47
    go_wp2_with fail
    refine Hi.out.2.mono ?_
    rintro e w' ⟨⟨i, rfl, hi⟩, hb⟩
    have h1 : ¬ 0 ≤ i := fun h => (by have h9 := Hr.out.2 (hi.1 h); cases h9)
    have HB := Lib.hid (Hi.out.1.trans (hb.mono Hi.out.1.size))
    clear hi hb
    go_wp2
    go_ret
    exact ⟨by simp; omega, HB.out⟩
end
end Go.Proofs.YtolbdcmoblcakaaGreatDoor
/- A configuration that comes in. -/
namespace Go.Proofs.YtolbdcmoblcakaaGreatDoor
open Go.RowKit Go.ChangeShapes Go.WideShapes

/-- What the walk is told of a configuration that came in. -/
structure CfgIn (w : World) (n k : Int) (a : Option Addr) (len cap : Nat) (L : List ByteArray) : Prop where
  n_ : -9223372036854775808 ≤ n ∧ n ≤ 9223372036854775807
  k_ : -9223372036854775808 ≤ k ∧ k ≤ 9223372036854775807
  t_ : TxsIn w a len cap L
set_option maxRecDepth 100000 in
theorem open_config {H : Type} {enc : TypeId × Value → H} {W : World} {base : Nat} {v : Value} {d : DataW H} {p : List MemPlace} (hv : Value.okWide Tryz.prog W .any base 24 v) (h : DataW.Trod enc Tryz.prog W 0 (fun _ => true) true 24 v d p) :
    ∃ n k a len cap L, v = .agg #[.int .i64 n, .int .i64 k, .slice a len cap] ∧ CfgIn W n k a len cap L := by
  obtain ⟨v0, v1, v2, y0, y1, y2, m, rfl, _, _, h0, h1, h2⟩ := Joins.open_agg3 Tryz.underlying24 (by kernel_rfl) (by kernel_rfl) hv h
  obtain ⟨n, e0, _, w0⟩ := DataW.trod_int Tryz.underlying3 h0
  obtain ⟨k, e1, _, w1⟩ := DataW.trod_int Tryz.underlying3 h1
  obtain ⟨a, len, cap, L, e2, hL⟩ := texts_of_trod h2
  simp at e0 e1
  subst e0 e1 e2
  exact ⟨n, k, a, len, cap, L, rfl, bounds_i64 w0, bounds_i64 w1, hL⟩
/-- What the walk is told of a tag that came in. -/
def TagIn (n m : Int) : Prop := (-9223372036854775808 ≤ n ∧ n ≤ 9223372036854775807) ∧ (-9223372036854775808 ≤ m ∧ m ≤ 9223372036854775807)
set_option maxRecDepth 100000 in
theorem open_tag {H : Type} {enc : TypeId × Value → H} {W : World} {base : Nat} {v : Value} {d : DataW H} {p : List MemPlace} (hv : Value.okWide Tryz.prog W .any base 54 v) (h : DataW.Trod enc Tryz.prog W 0 (fun _ => true) true 54 v d p) :
    ∃ n m, v = .agg #[.int .i64 n, .int .i64 m] ∧ TagIn n m := by
  obtain ⟨v0, v1, y0, y1, k, rfl, _, _, h0, h1⟩ := Joins.open_agg2 Tryz.underlying54 (by kernel_rfl) (by kernel_rfl) hv h
  obtain ⟨n, e0, _, w0⟩ := DataW.trod_int Tryz.underlying3 h0
  obtain ⟨m, e1, _, w1⟩ := DataW.trod_int Tryz.underlying3 h1
  simp at e0 e1
  subst e0 e1
  exact ⟨n, m, rfl, bounds_i64 w0, bounds_i64 w1⟩
end Go.Proofs.YtolbdcmoblcakaaGreatDoor
