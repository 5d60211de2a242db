/- The pen: numbers and texts as bytes. -/
import Derived.Test.YtgcnohejmofhkaaDoorWrP
import Derived.Test.YtgcnohejmofhkaaDoorVerB
import Derived.Lib.AppendStr
import Derived.Laws.Rows
import Derived.Deep.AppendLies
import Derived.Deep.RegionLaw
import Derived.Deep.RegionHeld
namespace Go.Proofs.YtgcnohejmofhkaaDoor
section
open Go.RowKit

/-- a pen lies at pb: its bytes, and what is bad. -/
def PenAt (B : Nat) (w : World) (pb : Nat) (l : List Nat) (bad : Value) : Prop := B ≤ pb ∧ ∃ v, w.heap[pb]? = some (.cells #[v, bad] 54 (0, 0)) ∧ OwnB B w v l
theorem own_heap {E : TypeId} {B : Nat} {w : World} {v : Value} {us : List Value} (h : Own1 E B w v us) {g : Nat} (hg : v.ownBlock = some g) : ∃ cs, w.heap[g]? = some (.cells cs E (0, 0)) := by
  rcases h.2 with ⟨rfl, _⟩ | ⟨g', cap, cur, rfl, hb, hgg, _⟩
  · cases hg
  · have e : g' = g := by simpa [Value.ownBlock] using hg
    subst e
    exact ⟨_, hgg⟩
theorem PenAt.ne {B : Nat} {w : World} {pb : Nat} {v bad : Value} {l : List Nat} (h1 : w.heap[pb]? = some (.cells #[v, bad] 54 (0, 0))) {u : Value} (h2 : OwnB B w u l) : u.ownBlock ≠ some pb := fun e => by
  obtain ⟨cs, h3⟩ := own_heap h2 e
  rw [h1] at h3
  simp at h3
theorem cell_of_heap {w : World} {b : Nat} {cs : Array Value} {t : TypeId} {fz : Nat × Nat} (h : w.heap[b]? = some (.cells cs t fz)) (i : Nat) : w.cell? ⟨b, i, none⟩ = cs[i]? := by
  simp [World.cell?, h]
theorem frozen_of_heap {w : World} {b : Nat} {cs : Array Value} {t : TypeId} (h : w.heap[b]? = some (.cells cs t (0, 0))) (i : Nat) : w.frozen? ⟨b, i, none⟩ = false := by
  simp [World.frozen?, h]
theorem PenAt.parts {B : Nat} {w : World} {pb : Nat} {l : List Nat} {bad : Value} (h : PenAt B w pb l bad) : ∃ v, w.cell? ⟨pb, 0, none⟩ = some v ∧ w.cell? ⟨pb, 1, none⟩ = some bad ∧ w.frozen? ⟨pb, 0, none⟩ = false ∧ w.frozen? ⟨pb, 1, none⟩ = false ∧ w.heap[pb]? = some (.cells #[v, bad] 54 (0, 0)) ∧ OwnB B w v l := by
  obtain ⟨_, v, hg, ho⟩ := h
  exact ⟨v, cell_of_heap hg 0, cell_of_heap hg 1, frozen_of_heap hg 0, frozen_of_heap hg 1, hg, ho⟩
theorem PenAt.lt {B : Nat} {w : World} {pb : Nat} {l : List Nat} {bad : Value} (h : PenAt B w pb l bad) : pb < w.heap.size := by
  obtain ⟨_, v, hg, ho⟩ := h
  exact (Array.getElem?_eq_some_iff.1 hg).1
theorem PenAt.below {B n : Nat} {w w' : World} {pb : Nat} {l : List Nat} {bad : Value} (h : PenAt B w pb l bad) (hb : Below n w w') (hn : w.heap.size ≤ n) : PenAt B w' pb l bad := by
  have hl := h.lt
  obtain ⟨h1, v, hg, ho⟩ := h
  exact ⟨h1, v, (hb.block pb (by omega)).trans hg, Own1.below ho hb hn⟩
/-- the bad one is set. -/
theorem PenAt.mark {B : Nat} {w : World} {pb : Nat} {l : List Nat} {bad : Value} (h : PenAt B w pb l bad) (e : Value) : PenAt B (w.setCell ⟨pb, 1, none⟩ e) pb l e ∧ Below B w (w.setCell ⟨pb, 1, none⟩ e) := by
  obtain ⟨h1, v, hg, ho⟩ := h
  refine ⟨⟨h1, v, (heap_setCell_same w pb 1 _ _ e hg).trans (by simp), ?_⟩, (Below.refl _ _).setCell h1 _⟩
  have hne := PenAt.ne hg ho
  refine ⟨ho.1, ?_⟩
  rcases ho.2 with h2 | ⟨g, cap, cur, rfl, hb, hgg, h3⟩
  · exact .inl h2
  · refine .inr ⟨g, cap, cur, rfl, hb, (Below.heap_setCell _ _ _ _ (fun e => hne (by simp [Value.ownBlock]; exact e))).trans hgg, h3⟩
/-- its bytes are set: what has grown out of them. -/
theorem PenAt.grow {B : Nat} {w w' : World} {pb : Nat} {l l' : List Nat} {v v' bad : Value} (hB : B ≤ pb) (hg : w.heap[pb]? = some (.cells #[v, bad] 54 (0, 0))) (ho : OwnB B w v l) (hk : w.grownBy w' v.ownBlock) (hw : B ≤ w.heap.size) (ho' : OwnB B w' v' l') : PenAt B (w'.setCell ⟨pb, 0, none⟩ v') pb l' bad ∧ Below B w (w'.setCell ⟨pb, 0, none⟩ v') := by
  have hne := PenAt.ne hg ho
  have hlt := (Array.getElem?_eq_some_iff.1 hg).1
  have hg' : w'.heap[pb]? = some (.cells #[v, bad] 54 (0, 0)) := (hk.block pb hlt (fun e => hne e.symm)).trans hg
  have hb : Below B w w' := (Below.refl _ _).grown hk hw (fun j e => (ho.lt j e).1)
  have hne' := PenAt.ne hg' ho'
  refine ⟨⟨hB, v', (heap_setCell_same w' pb 0 _ _ v' hg').trans (by simp), ?_⟩, hb.setCell hB _⟩
  refine ⟨ho'.1, ?_⟩
  rcases ho'.2 with h2 | ⟨g, cap, cur, rfl, hbb, hgg, h3⟩
  · exact .inl h2
  · exact .inr ⟨g, cap, cur, rfl, hbb, (Below.heap_setCell _ _ _ _ (fun e => hne' (by simp [Value.ownBlock]; exact e))).trans hgg, h3⟩
/-- append(s, c) of a byte, in a region that draws. -/
theorem step_append_byte {ops : Array Oper} {o : Oper} {a : Act} {K : Act → World → Prop} {Q : Exit → Act → World → Prop} {E : Prop} {w : World} (s x : Nat) (hgd : o.guard = none)
    (ho : o.op = .call { callee := .builtin .append, args := #[.tmp s, .tmp x], argTypes := #[52, 52] }) (B : Nat) (v : Value) (l : List Nat) (c : Nat) (nb : Nat)
    (hs : a.eval (.tmp s) = v) (hx : a.eval (.tmp x) = .slice (some ⟨nb, 0, none⟩) 1 1) (hn : w.cell? ⟨nb, 0, none⟩ = some (.int .u8 (c : Int))) (hown : OwnB B w v l) (hl : l.length + 1 ≤ 140737488355328) (hB : B ≤ w.heap.size)
    (h : ∀ v' w', OwnB B w' v' (l ++ [c]) → w.grownBy w' v.ownBlock → K (a.put o.dst v') w') :
    if Region.wanted o (yielded ops a.tmps) = true then Oper.wp Tryd.prog o a w K Q else E := by
  obtain ⟨i, hi, hz0, hz1, hz2⟩ := info_parts info_uint8
  refine step_append_lies w hgd (.tmp s) (.tmp x) 52 ho B 5 i _ 1 1 Tryd.underlying52 hi hz0 hz1 hz2 rfl (by decide) v (l.map fun n : Nat => Value.int .u8 (n : Int)).length _ hs hown ⟨nb, 0, none⟩ 1 1 [.int .u8 (c : Int)] hx rfl (fun j u hj => ?_) (by simp [Value.oneCell']) (by decide) (by simp [maxLen]; omega) (by simpa using hl) hB _ rfl ?_
  · match j, hj with
    | 0, hj =>
      simp at hj
      subst hj
      simpa [Addr.add] using hn
  · intro g cap w' h1 h2 _ _
    refine h _ w' ?_ h2
    unfold OwnB Own1
    rw [List.map_append, List.length_append]
    exact h1
/-- byte k (from the highest) of a number. -/
def nbyte (n : Int) (k : Nat) : Nat := (n / 2 ^ (8 * k) % 256).toNat
/-- eight bytes of a number, as they are written. -/
def nbytes (n : Int) : List Nat := [nbyte n 7, nbyte n 6, nbyte n 5, nbyte n 4, nbyte n 3, nbyte n 2, nbyte n 1, nbyte n 0]
def badV (eb : Value) (b : Bool) : Value := if b then eb else .nilIface
def neg (zs : List Int) : Bool := zs.any fun n => decide (n < 0)
/-- nothing but the pen and bytes has turned. -/
structure PenK (B pb : Nat) (w w' : World) : Prop where
  below : Below B w w'
  block : ∀ b, b < w.heap.size → b ≠ pb → (∀ cs, w.heap[b]? ≠ some (.cells cs 5 (0, 0))) → w'.heap[b]? = w.heap[b]?
theorem PenK.refl (B pb : Nat) (w : World) : PenK B pb w w := ⟨Below.refl _ _, fun _ _ _ _ => rfl⟩
theorem PenK.trans {B pb : Nat} {a b c : World} (h : PenK B pb a b) (k : PenK B pb b c) : PenK B pb a c :=
  ⟨h.below.trans k.below, fun i hi h1 h2 => by
    have e := h.block i hi h1 h2
    exact (k.block i (Nat.lt_of_lt_of_le hi h.below.size) h1 (fun cs => by rw [e]; exact h2 cs)).trans e⟩
theorem PenK.alloc {B pb : Nat} {w : World} (hB : B ≤ w.heap.size) (o : Obj) : PenK B pb w (w.alloc o) := ⟨(Below.refl _ _).alloc hB _, fun _ hb _ _ => Below.heap_alloc _ _ _ hb⟩
theorem PenK.drew {B pb : Nat} {w : World} : PenK B pb w w.drew := ⟨(Below.refl _ _).drew, fun _ _ _ _ => rfl⟩
theorem PenK.of_below {B pb : Nat} {w w' : World} (h : Below w.heap.size w w') (hB : B ≤ w.heap.size) : PenK B pb w w' := ⟨h.mono hB, fun b hb _ _ => h.block b hb⟩
theorem PenK.set {B pb : Nat} {w : World} (hB : B ≤ pb) (i : Nat) (v : Value) : PenK B pb w (w.setCell ⟨pb, i, none⟩ v) := ⟨(Below.refl _ _).setCell hB _, fun _ _ h1 _ => Below.heap_setCell _ _ _ _ h1⟩
theorem PenK.grown {B pb : Nat} {w w' : World} {v : Value} {l : List Nat} (ho : OwnB B w v l) (hk : w.grownBy w' v.ownBlock) (hw : B ≤ w.heap.size) : PenK B pb w w' :=
  ⟨(Below.refl _ _).grown hk hw (fun j e => (ho.lt j e).1), fun _ hb _ h2 => hk.block _ hb (fun e => by
    obtain ⟨cs, h3⟩ := own_heap ho e.symm
    exact h2 cs h3)⟩
theorem PenK.heap {B pb : Nat} {w w' : World} (h : PenK B pb w w') {b : Nat} {cs : Array Value} {t : TypeId} {fz : Nat × Nat} (hb : w.heap[b]? = some (.cells cs t fz)) (h1 : b ≠ pb) (h2 : t ≠ 5) : w'.heap[b]? = some (.cells cs t fz) :=
  (h.block b (Array.getElem?_eq_some_iff.1 hb).1 h1 (fun cs' e => by rw [hb] at e; simp at e; exact h2 e.2.1)).trans hb
def intsV (zs : List Int) : Array Value := (zs.map fun n => Value.int .i64 n).toArray
theorem shr_run (n : Int) (k : Nat) (hk : k < 8) (W : World) : (Op.shift BinOp.shr IntKind.i64 n IntKind.i64 (IntKind.i64.wrap (8 * (7 - (k : Int))))).run Tryd.prog W = .ok (.int .i64 (n / 2 ^ (8 * (7 - k)))) W := by
  have e : IntKind.i64.wrap (8 * (7 - (k : Int))) = ((8 * (7 - k) : Nat) : Int) := by rw [IntWalk.i64_in _ (by omega)]; omega
  rw [e]
  simp
  congr 2
theorem byte_wrap (n : Int) (k : Nat) : IntKind.u8.wrap (n / 2 ^ (8 * (7 - k))) = ((nbyte n (7 - k) : Nat) : Int) := by
  unfold nbyte
  rw [IntKind.wrap_u8, Int.toNat_of_nonneg (Int.emod_nonneg _ (by decide))]
theorem nbytes_flat (zs : List Int) : (zs.flatMap nbytes).length = zs.length * 8 := by
  induction zs with
  | nil => rfl
  | cons z r ih => rw [List.flatMap_cons, List.length_append, ih, List.length_cons]; show 8 + _ = _; omega
theorem nbytes_take (n : Int) (k : Nat) (hk : k < 8) : (nbytes n).take (k + 1) = (nbytes n).take k ++ [nbyte n (7 - k)] := by
  match k, hk with
  | 0, _ => rfl
  | 1, _ => rfl
  | 2, _ => rfl
  | 3, _ => rfl
  | 4, _ => rfl
  | 5, _ => rfl
  | 6, _ => rfl
  | 7, _ => rfl
set_option maxRecDepth 100000 in
set_option maxHeartbeats 8000000 in
theorem numbers_walk (B : Nat) (w : World) (pb : Nat) (l : List Nat) (bd : Bool) (eb : Addr) (zb len cap : Nat) (zs : List Int) (h : PenAt B w pb l (badV (errV eb) bd)) (hB : B ≤ w.heap.size) (he : w.cell? ⟨2, 0, none⟩ = some (errV eb)) (hgb : 2 < B)
    (hz : zs.length = len) (hlen : len ≤ 1000000) (hll : l.length + len * 8 ≤ 10000000000) (hI : w.heap[zb]? = some (.cells (intsV zs) 3 (0, 0))) (hzp : zb ≠ pb) :
    Calls Tryd.prog 17 #[.pointer (some ⟨pb, 0, none⟩), .slice (some ⟨zb, 0, none⟩) len cap] w fun e w' => e = .returned (.tuple #[]) ∧ PenAt B w' pb (l ++ zs.flatMap nbytes) (badV (errV eb) (bd || neg zs)) ∧ PenK B pb w w' := by
  have hlen9 : (len : Int) ≤ 9223372036854775807 := by omega
  have H := Lib.hid (And.intro h (And.intro hB (And.intro he (And.intro hgb (And.intro hz (And.intro hll (And.intro hI hzp)))))))
  clear h hB he hgb hz hll hI hzp
  go_enter Tryd.func17, Tryd.ntmps17
  go_wp2
  go_loopw [9] (fun vi wr => ∃ (i : Nat), i ≤ len ∧ vi = .int .i64 i ∧ Hid (PenAt B wr pb (l ++ (zs.take i).flatMap nbytes) (badV (errV eb) (bd || neg (zs.take i))) ∧ PenK B pb w wr)) (fun vi _ => len - (intOf vi).toNat)
  case atStart => exact ⟨0, by omega, rfl, Lib.hid ⟨by simpa [neg] using H.out.1, PenK.refl _ _ _⟩⟩
  case round =>
    obtain ⟨i, hi, rfl, Hr⟩ := hrel
    have hi2 : i < len ∨ i = len := by omega
    rcases hi2 with hilt | rfl
    · have hilt2 : (i : Int) < len := by omega
      have hc : wr.cell? ⟨zb, i, none⟩ = some (.int .i64 (zs[i]?.getD 0)) := by
        rw [cell_of_heap (Hr.out.2.heap H.out.2.2.2.2.2.2.1 H.out.2.2.2.2.2.2.2 (by decide)) i]
        have hil : i < zs.length := by rw [H.out.2.2.2.2.1]; exact hilt
        simp [intsV, hil]
      obtain ⟨n, hn⟩ : ∃ n, zs[i]?.getD 0 = n := ⟨_, rfl⟩
      rw [hn] at hc
      have he' : wr.cell? ⟨2, 0, none⟩ = some (errV eb) := (Hr.out.2.below.cell H.out.2.2.2.1).trans H.out.2.2.1
      obtain ⟨v, p0, p1, z0, z1, pg, po⟩ := Hr.out.1.parts
      have hstep : (zs.take (i + 1)).flatMap nbytes = (zs.take i).flatMap nbytes ++ nbytes n ∧ neg (zs.take (i + 1)) = (neg (zs.take i) || decide (n < 0)) := by
        have hil : i < zs.length := by rw [H.out.2.2.2.2.1]; exact hilt
        have e : zs.take (i + 1) = zs.take i ++ [n] := by rw [List.take_succ_eq_append_getElem hil, ← hn, List.getElem?_eq_getElem hil]; rfl
        rw [e]
        exact ⟨by simp, by simp [neg]⟩
      obtain ⟨D, hD⟩ : ∃ D, l ++ (zs.take i).flatMap nbytes = D := ⟨_, rfl⟩
      have hDl : D.length ≤ 10000000000 := by
        rw [← hD, List.length_append, nbytes_flat]
        have h1 := H.out.2.2.2.2.2.1
        have h2 : (zs.take i).length ≤ i := List.length_take_le i zs
        omega
      obtain ⟨bd1, hbd1⟩ : ∃ b, (bd || neg (zs.take i)) = b := ⟨_, rfl⟩
      have hcs : (n < 0 ∧ bd1 = false) ∨ (¬ n < 0) ∨ (n < 0 ∧ bd1 = true) := by
        by_cases e : n < 0
        · cases bd1
          · exact .inl ⟨e, rfl⟩
          · exact .inr (.inr ⟨e, rfl⟩)
        · exact .inr (.inl e)
      have HD := Lib.hid (And.intro hD (And.intro hbd1 (And.intro hstep hDl)))
      have Hpk := Lib.hid Hr.out.2
      have hP := Hr.out.1
      rw [hD, hbd1] at hP
      rw [hbd1] at p1
      clear hstep hD hDl hbd1 hn pg po Hr
      rcases hcs with ⟨hneg, rfl⟩ | hpos | ⟨hneg, rfl⟩
      · obtain ⟨hM1, hM2⟩ := hP.mark (errV eb)
        have HM := Lib.hid (And.intro hM1 (PenK.set (w := wr) hP.1 1 (errV eb)))
        clear hM1 hM2 hP
        unfold badV at p1
        rw [if_neg (by decide)] at p1
        go_wp2
        obtain ⟨wm, hwm⟩ : ∃ wm, wr.setCell ⟨pb, 1, none⟩ (errV eb) = wm := ⟨_, rfl⟩
        rw [hwm] at HM ⊢
        go_loopw [6] (fun vj wi => ∃ (k : Nat), k ≤ 8 ∧ vj = .int .i64 (7 - k) ∧ Hid (PenAt B wi pb (D ++ (nbytes n).take k) (errV eb) ∧ PenK B pb wm wi)) (fun vj _ => (intOf vj + 1).toNat)
        case atStart => exact ⟨0, by omega, rfl, Lib.hid ⟨by simpa using HM.out.1, PenK.refl _ _ _⟩⟩
        case round =>
          obtain ⟨k, hk, rfl, Hk⟩ := hrel
          have hk2 : k < 8 ∨ k = 8 := by omega
          rcases hk2 with hklt | rfl
          · have hk7 : (0 : Int) ≤ 7 - k := by omega
            have hk8 : (0 : Int) ≤ 8 * (7 - k) := by omega
            obtain ⟨v, p0, p1, z0, z1, pg, po⟩ := Hk.out.1.parts
            have hshr := shr_run n k hklt
            have hbw := byte_wrap n k
            have hx := World.new_ne wr ⟨pb, 0, none⟩ p0
            have hBw : B ≤ wr.drew.heap.size := Nat.le_trans H.out.2.1 (Hpk.out.trans (HM.out.2.trans Hk.out.2)).below.size
            have hDk : (D ++ (nbytes n).take k).length + 1 ≤ 140737488355328 := by have h1 := HD.out.2.2.2; have h2 := List.length_take_le k (nbytes n); have h3 : (nbytes n).length = 8 := rfl; simp; omega
            have po' : OwnB B (wr.alloc (.cells #[.int .u8 (nbyte n (7 - k) : Nat)] 5)).drew v (D ++ (nbytes n).take k) := Own1.alloc po _
            have pg' : (wr.alloc (.cells #[.int .u8 (nbyte n (7 - k) : Nat)] 5)).drew.heap[pb]? = some (.cells #[v, errV eb] 54 (0, 0)) := (Below.heap_alloc _ _ _ (Array.getElem?_eq_some_iff.1 pg).1).trans pg
            have c0a : (wr.alloc (.cells #[.int .u8 (nbyte n (7 - k) : Nat)] 5)).cell? ⟨pb, 0, none⟩ = some v := cell_of_heap pg' 0
            have hBw' : B ≤ (wr.alloc (.cells #[.int .u8 (nbyte n (7 - k) : Nat)] 5)).drew.heap.size := Nat.le_trans hBw (by simp)
            have HX := Lib.hid (And.intro pg' (And.intro po' (And.intro hDk hBw')))
            clear pg po po' pg' hDk hBw hBw'
            go_wp2
            go_region_law ((refine step_append_byte 34 40 (by rfl) (by rfl) B v _ (nbyte n (7 - k)) wr.heap.size (by rfl) (by rfl) (by simp) HX.out.2.1 HX.out.2.2.1 HX.out.2.2.2 ?_; intro v' w' k1 k2; have HK := Lib.hid (And.intro k1 k2); have kg : w'.heap[pb]? = some (.cells #[v, errV eb] 54 (0, 0)) := (k2.block pb (Array.getElem?_eq_some_iff.1 HX.out.1).1 (fun e => PenAt.ne HX.out.1 HX.out.2.1 e.symm)).trans HX.out.1; have kc := cell_of_heap kg 0; have kz := frozen_of_heap kg 0; obtain ⟨m9, hm9⟩ : ∃ m, ((D ++ (nbytes n).take k) ++ [nbyte n (7 - k)]).length = m := ⟨_, rfl⟩; obtain ⟨a9, c9, hv9, _⟩ := k1.row; rw [hm9] at hv9; subst hv9; clear hm9 k1 k2 kg))
            all_goals
              have hPB : B ≤ pb := Hk.out.1.1
              obtain ⟨q1, q2⟩ := PenAt.grow hPB HX.out.1 HX.out.2.1 HK.out.2 HX.out.2.2.2 HK.out.1
              have hBr : B ≤ wr.heap.size := Nat.le_trans H.out.2.1 (Hpk.out.trans (HM.out.2.trans Hk.out.2)).below.size
              have HR := Lib.hid (And.intro q1 ((((Hk.out.2.trans (PenK.alloc hBr _)).trans PenK.drew).trans (PenK.grown HX.out.2.1 HK.out.2 HX.out.2.2.2)).trans (PenK.set hPB 0 (.slice a9 m9 c9))))
              clear q1 q2 kc kz c0a hshr hbw hx HX HK p0 p1 z0 z1
              go_wp2
              go_roundw
              case rel => exact ⟨k + 1, by omega, by go_num, Lib.hid ⟨by
                have e : (nbytes n).take (k + 1) = (nbytes n).take k ++ [nbyte n (7 - k)] := nbytes_take n k hklt
                rw [e, ← List.append_assoc]
                exact HR.out.1, HR.out.2⟩⟩
              case measure => simp [intOf]; omega
          · have HN : Hid (PenAt B wr pb (l ++ (zs.take (i + 1)).flatMap nbytes) (badV (errV eb) (bd || neg (zs.take (i + 1)))) ∧ PenK B pb w wr) := Lib.hid ⟨by
              rw [HD.out.2.2.1.1, ← List.append_assoc, HD.out.1, HD.out.2.2.1.2, ← Bool.or_assoc, HD.out.2.1]
              rw [decide_eq_true hneg]
              exact Hk.out.1, Hpk.out.trans (HM.out.2.trans Hk.out.2)⟩
            go_wp2
            go_roundw
            case rel => exact ⟨i + 1, by omega, by go_num, HN⟩
            case measure => simp [intOf]; omega
      · have HM := Lib.hid (And.intro hP (PenK.refl B pb wr))
        clear hP
        obtain ⟨bv, hbv⟩ : ∃ bv, badV (errV eb) bd1 = bv := ⟨_, rfl⟩
        rw [hbv] at p1 HM
        have hnn : decide (n < 0) = false := decide_eq_false hpos
        go_wp2
        obtain ⟨wm, hwm⟩ : ∃ wm, wr = wm := ⟨_, rfl⟩
        rw [hwm] at HM Hpk ⊢
        go_loopw [6] (fun vj wi => ∃ (k : Nat), k ≤ 8 ∧ vj = .int .i64 (7 - k) ∧ Hid (PenAt B wi pb (D ++ (nbytes n).take k) bv ∧ PenK B pb wm wi)) (fun vj _ => (intOf vj + 1).toNat)
        case atStart => exact ⟨0, by omega, rfl, Lib.hid ⟨by simpa using HM.out.1, PenK.refl _ _ _⟩⟩
        case round =>
          obtain ⟨k, hk, rfl, Hk⟩ := hrel
          have hk2 : k < 8 ∨ k = 8 := by omega
          rcases hk2 with hklt | rfl
          · have hk7 : (0 : Int) ≤ 7 - k := by omega
            have hk8 : (0 : Int) ≤ 8 * (7 - k) := by omega
            obtain ⟨v, p0, p1, z0, z1, pg, po⟩ := Hk.out.1.parts
            have hshr := shr_run n k hklt
            have hbw := byte_wrap n k
            have hx := World.new_ne wr ⟨pb, 0, none⟩ p0
            have hBw : B ≤ wr.drew.heap.size := Nat.le_trans H.out.2.1 (Hpk.out.trans (HM.out.2.trans Hk.out.2)).below.size
            have hDk : (D ++ (nbytes n).take k).length + 1 ≤ 140737488355328 := by have h1 := HD.out.2.2.2; have h2 := List.length_take_le k (nbytes n); have h3 : (nbytes n).length = 8 := rfl; simp; omega
            have po' : OwnB B (wr.alloc (.cells #[.int .u8 (nbyte n (7 - k) : Nat)] 5)).drew v (D ++ (nbytes n).take k) := Own1.alloc po _
            have pg' : (wr.alloc (.cells #[.int .u8 (nbyte n (7 - k) : Nat)] 5)).drew.heap[pb]? = some (.cells #[v, bv] 54 (0, 0)) := (Below.heap_alloc _ _ _ (Array.getElem?_eq_some_iff.1 pg).1).trans pg
            have c0a : (wr.alloc (.cells #[.int .u8 (nbyte n (7 - k) : Nat)] 5)).cell? ⟨pb, 0, none⟩ = some v := cell_of_heap pg' 0
            have hBw' : B ≤ (wr.alloc (.cells #[.int .u8 (nbyte n (7 - k) : Nat)] 5)).drew.heap.size := Nat.le_trans hBw (by simp)
            have HX := Lib.hid (And.intro pg' (And.intro po' (And.intro hDk hBw')))
            clear pg po po' pg' hDk hBw hBw'
            go_wp2
            go_region_law ((refine step_append_byte 34 40 (by rfl) (by rfl) B v _ (nbyte n (7 - k)) wr.heap.size (by rfl) (by rfl) (by simp) HX.out.2.1 HX.out.2.2.1 HX.out.2.2.2 ?_; intro v' w' k1 k2; have HK := Lib.hid (And.intro k1 k2); have kg : w'.heap[pb]? = some (.cells #[v, bv] 54 (0, 0)) := (k2.block pb (Array.getElem?_eq_some_iff.1 HX.out.1).1 (fun e => PenAt.ne HX.out.1 HX.out.2.1 e.symm)).trans HX.out.1; have kc := cell_of_heap kg 0; have kz := frozen_of_heap kg 0; obtain ⟨m9, hm9⟩ : ∃ m, ((D ++ (nbytes n).take k) ++ [nbyte n (7 - k)]).length = m := ⟨_, rfl⟩; obtain ⟨a9, c9, hv9, _⟩ := k1.row; rw [hm9] at hv9; subst hv9; clear hm9 k1 k2 kg))
            all_goals
              have hPB : B ≤ pb := Hk.out.1.1
              obtain ⟨q1, q2⟩ := PenAt.grow hPB HX.out.1 HX.out.2.1 HK.out.2 HX.out.2.2.2 HK.out.1
              have hBr : B ≤ wr.heap.size := Nat.le_trans H.out.2.1 (Hpk.out.trans (HM.out.2.trans Hk.out.2)).below.size
              have HR := Lib.hid (And.intro q1 ((((Hk.out.2.trans (PenK.alloc hBr _)).trans PenK.drew).trans (PenK.grown HX.out.2.1 HK.out.2 HX.out.2.2.2)).trans (PenK.set hPB 0 (.slice a9 m9 c9))))
              clear q1 q2 kc kz c0a hshr hbw hx HX HK p0 p1 z0 z1
              go_wp2
              go_roundw
              case rel => exact ⟨k + 1, by omega, by go_num, Lib.hid ⟨by
                have e : (nbytes n).take (k + 1) = (nbytes n).take k ++ [nbyte n (7 - k)] := nbytes_take n k hklt
                rw [e, ← List.append_assoc]
                exact HR.out.1, HR.out.2⟩⟩
              case measure => simp [intOf]; omega
          · have HN : Hid (PenAt B wr pb (l ++ (zs.take (i + 1)).flatMap nbytes) (badV (errV eb) (bd || neg (zs.take (i + 1)))) ∧ PenK B pb w wr) := Lib.hid ⟨by
              rw [HD.out.2.2.1.1, ← List.append_assoc, HD.out.1, HD.out.2.2.1.2, ← Bool.or_assoc, HD.out.2.1]
              rw [hnn, Bool.or_false, hbv]
              exact Hk.out.1, Hpk.out.trans (HM.out.2.trans Hk.out.2)⟩
            go_wp2
            go_roundw
            case rel => exact ⟨i + 1, by omega, by go_num, HN⟩
            case measure => simp [intOf]; omega
      · have HM := Lib.hid (And.intro hP (PenK.refl B pb wr))
        clear hP
        unfold badV at p1 HM
        rw [if_pos rfl] at p1 HM
        go_wp2
        obtain ⟨wm, hwm⟩ : ∃ wm, wr = wm := ⟨_, rfl⟩
        rw [hwm] at HM Hpk ⊢
        go_loopw [6] (fun vj wi => ∃ (k : Nat), k ≤ 8 ∧ vj = .int .i64 (7 - k) ∧ Hid (PenAt B wi pb (D ++ (nbytes n).take k) (errV eb) ∧ PenK B pb wm wi)) (fun vj _ => (intOf vj + 1).toNat)
        case atStart => exact ⟨0, by omega, rfl, Lib.hid ⟨by simpa using HM.out.1, PenK.refl _ _ _⟩⟩
        case round =>
          obtain ⟨k, hk, rfl, Hk⟩ := hrel
          have hk2 : k < 8 ∨ k = 8 := by omega
          rcases hk2 with hklt | rfl
          · have hk7 : (0 : Int) ≤ 7 - k := by omega
            have hk8 : (0 : Int) ≤ 8 * (7 - k) := by omega
            obtain ⟨v, p0, p1, z0, z1, pg, po⟩ := Hk.out.1.parts
            have hshr := shr_run n k hklt
            have hbw := byte_wrap n k
            have hx := World.new_ne wr ⟨pb, 0, none⟩ p0
            have hBw : B ≤ wr.drew.heap.size := Nat.le_trans H.out.2.1 (Hpk.out.trans (HM.out.2.trans Hk.out.2)).below.size
            have hDk : (D ++ (nbytes n).take k).length + 1 ≤ 140737488355328 := by have h1 := HD.out.2.2.2; have h2 := List.length_take_le k (nbytes n); have h3 : (nbytes n).length = 8 := rfl; simp; omega
            have po' : OwnB B (wr.alloc (.cells #[.int .u8 (nbyte n (7 - k) : Nat)] 5)).drew v (D ++ (nbytes n).take k) := Own1.alloc po _
            have pg' : (wr.alloc (.cells #[.int .u8 (nbyte n (7 - k) : Nat)] 5)).drew.heap[pb]? = some (.cells #[v, errV eb] 54 (0, 0)) := (Below.heap_alloc _ _ _ (Array.getElem?_eq_some_iff.1 pg).1).trans pg
            have c0a : (wr.alloc (.cells #[.int .u8 (nbyte n (7 - k) : Nat)] 5)).cell? ⟨pb, 0, none⟩ = some v := cell_of_heap pg' 0
            have hBw' : B ≤ (wr.alloc (.cells #[.int .u8 (nbyte n (7 - k) : Nat)] 5)).drew.heap.size := Nat.le_trans hBw (by simp)
            have HX := Lib.hid (And.intro pg' (And.intro po' (And.intro hDk hBw')))
            clear pg po po' pg' hDk hBw hBw'
            go_wp2
            go_region_law ((refine step_append_byte 34 40 (by rfl) (by rfl) B v _ (nbyte n (7 - k)) wr.heap.size (by rfl) (by rfl) (by simp) HX.out.2.1 HX.out.2.2.1 HX.out.2.2.2 ?_; intro v' w' k1 k2; have HK := Lib.hid (And.intro k1 k2); have kg : w'.heap[pb]? = some (.cells #[v, errV eb] 54 (0, 0)) := (k2.block pb (Array.getElem?_eq_some_iff.1 HX.out.1).1 (fun e => PenAt.ne HX.out.1 HX.out.2.1 e.symm)).trans HX.out.1; have kc := cell_of_heap kg 0; have kz := frozen_of_heap kg 0; obtain ⟨m9, hm9⟩ : ∃ m, ((D ++ (nbytes n).take k) ++ [nbyte n (7 - k)]).length = m := ⟨_, rfl⟩; obtain ⟨a9, c9, hv9, _⟩ := k1.row; rw [hm9] at hv9; subst hv9; clear hm9 k1 k2 kg))
            all_goals
              have hPB : B ≤ pb := Hk.out.1.1
              obtain ⟨q1, q2⟩ := PenAt.grow hPB HX.out.1 HX.out.2.1 HK.out.2 HX.out.2.2.2 HK.out.1
              have hBr : B ≤ wr.heap.size := Nat.le_trans H.out.2.1 (Hpk.out.trans (HM.out.2.trans Hk.out.2)).below.size
              have HR := Lib.hid (And.intro q1 ((((Hk.out.2.trans (PenK.alloc hBr _)).trans PenK.drew).trans (PenK.grown HX.out.2.1 HK.out.2 HX.out.2.2.2)).trans (PenK.set hPB 0 (.slice a9 m9 c9))))
              clear q1 q2 kc kz c0a hshr hbw hx HX HK p0 p1 z0 z1
              go_wp2
              go_roundw
              case rel => exact ⟨k + 1, by omega, by go_num, Lib.hid ⟨by
                have e : (nbytes n).take (k + 1) = (nbytes n).take k ++ [nbyte n (7 - k)] := nbytes_take n k hklt
                rw [e, ← List.append_assoc]
                exact HR.out.1, HR.out.2⟩⟩
              case measure => simp [intOf]; omega
          · have HN : Hid (PenAt B wr pb (l ++ (zs.take (i + 1)).flatMap nbytes) (badV (errV eb) (bd || neg (zs.take (i + 1)))) ∧ PenK B pb w wr) := Lib.hid ⟨by
              rw [HD.out.2.2.1.1, ← List.append_assoc, HD.out.1, HD.out.2.2.1.2, ← Bool.or_assoc, HD.out.2.1]
              rw [decide_eq_true hneg]
              exact Hk.out.1, Hpk.out.trans (HM.out.2.trans Hk.out.2)⟩
            go_wp2
            go_roundw
            case rel => exact ⟨i + 1, by omega, by go_num, HN⟩
            case measure => simp [intOf]; omega
    · go_wp2
      go_end0
      have h1 := Hr.out.1
      rw [← H.out.2.2.2.2.1, List.take_length] at h1
      exact ⟨rfl, h1, Hr.out.2⟩
end
end Go.Proofs.YtgcnohejmofhkaaDoor
