/- Plain laws: the document's rank (rows kept one by one), and Spread is Lagrange's. -/
import Derived.Test.YtolbdcmoblcakaaGreatDoorKRepairAll15
import Derived.Test.YtolbdcmoblcakaaGreatDoorKRepairAll04
import Derived.Test.YtolbdcmoblcakaaGreatDoorKRepairAll01
import Derived.Deep.QuietTactic
import Derived.BigQuiet
import Derived.Deep.RegionWith
import Derived.Deep.RegionHeld
namespace Go.Proofs.YtolbdcmoblcakaaGreatDoor
namespace Mx

/-- the rows kept of the first i: q of them, their leads L. -/
structure Kept (K M : Nat → Nat → Nat) (q i c : Nat) (L : Nat → Nat) : Prop where
  by_ : ByM K
  ech : Ech K q c L
  tri : ∀ k k', k < k' → k' < q → K k' (L k) = 0
  ker : ∀ v, By v → (Ker K q c v ↔ Ker M i c v)
/-- row i, the first k of the kept rows taken off. -/
structure Off (K M : Nat → Nat → Nat) (q i c : Nat) (L : Nat → Nat) (r : Nat → Nat) (k : Nat) : Prop where
  by_ : By r
  dot : ∀ v, By v → Ker K q c v → Mx.dot r v c = Mx.dot (M i) v c
  zero : ∀ k', k' < k → r (L k') = 0
theorem Kept.start {K : Nat → Nat → Nat} (hK : ByM K) (M : Nat → Nat → Nat) (c : Nat) (L : Nat → Nat) : Kept K M 0 0 c L :=
  ⟨hK, ⟨fun _ h => by omega, fun _ h => by omega, fun _ h => by omega, fun _ _ h => by omega⟩, fun _ _ _ h => by omega, fun v _ => ⟨fun _ i hi => by omega, fun _ i hi => by omega⟩⟩
theorem Off.start {K M : Nat → Nat → Nat} {q i c : Nat} {L : Nat → Nat} (hM : ByM M) : Off K M q i c L (M i) 0 := ⟨hM i, fun _ _ _ => rfl, fun _ h => by omega⟩
theorem Off.step {K M : Nat → Nat → Nat} {q i c : Nat} {L : Nat → Nat} {r : Nat → Nat} {k : Nat} (hk : Kept K M q i c L) (h : Off K M q i c L r k) (hkq : k < q) :
    Off K M q i c L (fun j => r j ^^^ Gf.mul (Gf.mul (r (L k)) (Gf.inv (K k (L k)))) (K k j)) (k + 1) := by
  have hx : Gf.mul (r (L k)) (Gf.inv (K k (L k))) < 256 := Gf.mul_lt _ (h.by_ _)
  have hne := hk.ech.ne k hkq
  have hxe : Gf.mul (Gf.mul (r (L k)) (Gf.inv (K k (L k)))) (K k (L k)) = r (L k) := by
    rw [Gf.mul_assoc _ (h.by_ _) (Gf.inv_lt (hk.by_ k _)) (hk.by_ k _), Gf.inv_mul (hk.by_ k _) hne, Gf.mul_one _ (h.by_ _)]
  generalize Gf.mul (r (L k)) (Gf.inv (K k (L k))) = x at hx hxe
  have hf : (fun j => r j ^^^ Gf.mul x (K k j)) = fun j => r j ^^^ Gf.mul (K k j) x := by funext j; rw [Gf.mul_comm hx (hk.by_ k j)]
  refine ⟨fun j => Gf.xor_lt (h.by_ j) (Gf.mul_lt _ hx), fun v hv hK => ?_, fun k' hk' => ?_⟩
  · rw [hf, dot_add h.by_ (hk.by_ k) hv hx, hK k hkq, Gf.zero_mul, Nat.xor_zero]
    exact h.dot v hv hK
  · show r (L k') ^^^ Gf.mul x (K k (L k')) = 0
    by_cases e : k' = k
    · rw [e, hxe, Nat.xor_self]
    · have hlt : k' < k := by omega
      rw [h.zero k' hlt, hk.tri k' k hlt hkq, Gf.mul_zero]; rfl
theorem ker_succ {M : Nat → Nat → Nat} {n c : Nat} {v : Nat → Nat} : Ker M (n + 1) c v ↔ Ker M n c v ∧ dot (M n) v c = 0 :=
  ⟨fun h => ⟨fun i hi => h i (by omega), h n (by omega)⟩, fun h i hi => by
    by_cases e : i = n
    · rw [e]; exact h.2
    · exact h.1 i (by omega)⟩
def putR (K : Nat → Nat → Nat) (q : Nat) (r : Nat → Nat) : Nat → Nat → Nat := fun i => if i = q then r else K i
theorem putR_old {K : Nat → Nat → Nat} {q : Nat} {r : Nat → Nat} {i : Nat} (h : i < q) : putR K q r i = K i := by unfold putR; rw [if_neg (by omega)]
theorem putR_new {K : Nat → Nat → Nat} {q : Nat} {r : Nat → Nat} : putR K q r q = r := by unfold putR; rw [if_pos rfl]
/-- the row is not 0: it is kept. -/
theorem Kept.keep {K M : Nat → Nat → Nat} {q i c l : Nat} {L : Nat → Nat} {r : Nat → Nat} (hk : Kept K M q i c L) (h : Off K M q i c L r q) (hl : l < c) (hne : r l ≠ 0) (hz : ∀ j, j < l → r j = 0) :
    Kept (putR K q r) M (q + 1) (i + 1) c (upd L q l) := by
  have l1 : ∀ k, k < q → upd L q l k = L k := fun k hkq => by unfold upd; rw [if_neg (by omega)]
  have lq : upd L q l q = l := by unfold upd; rw [if_pos rfl]
  have hd : ∀ k, k < q → L k ≠ l := fun k hkq e => hne (by rw [← e]; exact h.zero k hkq)
  refine ⟨fun a => ?_, ⟨?_, ?_, ?_, ?_⟩, ?_, ?_⟩
  · unfold putR; split
    · exact h.by_
    · exact hk.by_ a
  · intro k hkq
    by_cases e : k = q
    · rw [e, lq]; exact hl
    · rw [l1 k (by omega)]; exact hk.ech.lt k (by omega)
  · intro k hkq
    by_cases e : k = q
    · rw [e, lq, putR_new]; exact hne
    · rw [l1 k (by omega), putR_old (by omega)]; exact hk.ech.ne k (by omega)
  · intro k hkq j hj
    by_cases e : k = q
    · rw [e, lq] at hj; rw [e, putR_new]; exact hz j hj
    · rw [l1 k (by omega)] at hj; rw [putR_old (by omega)]; exact hk.ech.zero k (by omega) j hj
  · intro a b ha hb e
    by_cases ea : a = q
    · by_cases eb : b = q
      · omega
      · rw [ea, lq, l1 b (by omega)] at e; exact absurd e.symm (hd b (by omega))
    · by_cases eb : b = q
      · rw [eb, lq, l1 a (by omega)] at e; exact absurd e (hd a (by omega))
      · rw [l1 a (by omega), l1 b (by omega)] at e; exact hk.ech.inj a b (by omega) (by omega) e
  · intro a b hab hb
    rw [l1 a (by omega)]
    by_cases eb : b = q
    · rw [eb, putR_new]; exact h.zero a (by omega)
    · rw [putR_old (by omega)]; exact hk.tri a b hab (by omega)
  · intro v hv
    rw [ker_succ, ker_succ, putR_new]
    have e1 : Ker (putR K q r) q c v ↔ Ker K q c v := ⟨fun hK a ha => by have := hK a ha; rwa [putR_old ha] at this, fun hK a ha => by rw [putR_old ha]; exact hK a ha⟩
    rw [e1]
    constructor
    · intro ⟨h1, h2⟩
      exact ⟨(hk.ker v hv).1 h1, by rw [← h.dot v hv h1]; exact h2⟩
    · intro ⟨h1, h2⟩
      have h1' := (hk.ker v hv).2 h1
      exact ⟨h1', by rw [h.dot v hv h1']; exact h2⟩
/-- the row is 0: it is left out. -/
theorem Kept.drop {K M : Nat → Nat → Nat} {q i c : Nat} {L : Nat → Nat} {r : Nat → Nat} (hk : Kept K M q i c L) (h : Off K M q i c L r q) (hz : ∀ j, j < c → r j = 0) : Kept K M q (i + 1) c L :=
  ⟨hk.by_, hk.ech, hk.tri, fun v hv => by
    rw [ker_succ]
    constructor
    · intro h1
      refine ⟨(hk.ker v hv).1 h1, ?_⟩
      rw [← h.dot v hv h1, dot_congr (r' := fun _ => 0) (v' := v) hz (fun _ _ => rfl), dot_zeroL]
    · exact fun h1 => (hk.ker v hv).2 h1.1⟩
/-- Gauss and Jordan tell the document's rank. -/
theorem rank_same {K M G : Nat → Nat → Nat} {q n c done : Nat} {L L' : Nat → Nat} (hk : Kept K M q n c L) (hG : ByM G) (h : RR G n c done L') (hker : ∀ v, By v → (Ker G n c v ↔ Ker M n c v)) : done = q :=
  h.ech.same hk.ech hG hk.by_ (fun v hv => h.ker.trans ((hker v hv).trans (hk.ker v hv).symm))

/-! ### Spread -/
theorem bas_lt (xs : List Nat) (i x : Nat) : bas xs i x < 256 := basN_lt _ _ _ _ _
theorem range_at {k i : Nat} (h : i < k) : (List.range k)[i]?.getD 0 = i := by simp [h]
theorem range_bytes {k : Nat} (hk : k ≤ 256) : Bytes (List.range k) := fun x hx => by have := List.mem_range.1 hx; omega
theorem range_unlike (k : Nat) : Unlike (List.range k) := fun i j hi hj hne => by
  simp only [List.length_range] at hi hj
  rw [range_at hi, range_at hj]; exact hne
/-- powers: row i has those of element i. -/
def vanderM : Nat → Nat → Nat := fun i l => Gf.pow (i % 256) l
theorem by_vander : ByM vanderM := fun i l => Gf.pow_lt (Nat.mod_lt _ (by decide)) l
theorem spread_is {x : Nat → Nat → Nat} {k : Nat} (hk : k ≤ 200) (h : Inv vanderM x k) {i j : Nat} (hi : i < 256) (hj : j < k) : mulM vanderM x k i j = bas (List.range k) j i := by
  have hx := range_bytes (k := k) (by omega)
  have hu := range_unlike k
  obtain ⟨ys, hys⟩ : ∃ ys, ys = (List.range k).map (unit j) := ⟨_, rfl⟩
  have hb : Bytes ys := fun y hy => by
    rw [hys] at hy
    obtain ⟨a, _, rfl⟩ := List.mem_map.1 hy
    exact by_unit j a
  have hya : ∀ a, a < k → ys[a]?.getD 0 = unit j a := fun a ha => by rw [hys]; simp [ha]
  have hlen : (List.range k).length = k := List.length_range
  have e1 : ∀ z, z < 256 → lagT (List.range k) ys z j = bas (List.range k) j z := fun z hz => by
    rw [lagT_bas hx hb hu hz (by rw [hlen]; exact hj), hya j hj]
    unfold unit; rw [if_pos rfl, Gf.one_mul (bas_lt _ j z)]
  rw [← e1 i hi]
  have hcol : By (fun l => x l j) := fun l => h.by_ l j
  have e : (fun z => dot (fun l => Gf.pow z l) (fun l => x l j) k) i = (fun z => lagT (List.range k) ys z j) i := by
    refine poly_ext (xs := List.range k) (f := fun z => dot (fun l => Gf.pow z l) (fun l => x l j) k) (g := fun z => lagT (List.range k) ys z j) hx hu ?_ ?_ ?_ hi
    · refine ⟨(List.range k).map (fun l => x l j), by simp, fun y hy => ?_, fun z hz => horner_dot hcol hz k⟩
      obtain ⟨a, _, rfl⟩ := List.mem_map.1 hy
      exact hcol a
    · exact lagT_poly hx hb (by rw [hlen]; exact hj)
    · intro a ha
      rw [hlen] at ha
      have h1 := h.right a j ha hj
      rw [lagT_at hx hb hu (by rw [hlen]; exact hj) (by rw [hlen]; exact ha), hya a ha, range_at ha]
      have e2 : dot (fun l => Gf.pow a l) (fun l => x l j) k = mulM vanderM x k a j := by
        unfold mulM vanderM; rw [Nat.mod_eq_of_lt (show a < 256 by omega)]
      rw [e2, h1]
      unfold unit
      by_cases e : a = j
      · rw [if_pos e, if_pos e.symm]
      · rw [if_neg e, if_neg (Ne.symm e)]
  have e2 : mulM vanderM x k i j = dot (fun l => Gf.pow i l) (fun l => x l j) k := by
    unfold mulM vanderM; rw [Nat.mod_eq_of_lt hi]
  rw [e2]; exact e
/-- any k rows of the spread turn nothing but 0 to 0. -/
theorem spread_any {x : Nat → Nat → Nat} {k : Nat} (hk : k ≤ 200) (h : Inv vanderM x k) {pick : Nat → Nat} (hp : ∀ i, i < k → pick i < 256) (hd : ∀ i j, i < k → j < k → pick i = pick j → i = j)
    {v : Nat → Nat} (hv : By v) (h0 : Ker (fun i => mulM vanderM x k (pick i)) k k v) : ∀ j, j < k → v j = 0 := by
  have hu : By (fun l => dot (x l) v k) := fun l => dot_lt (h.by_ l) k
  have hz := vander hk hp hd hu (fun i hi => by
    have := h0 i hi
    show dot (fun l => Gf.pow (pick i) l) (fun l => dot (x l) v k) k = 0
    have e : (fun l => Gf.pow (pick i) l) = vanderM (pick i) := by unfold vanderM; rw [Nat.mod_eq_of_lt (hp i hi)]
    rw [e, ← dot_mul (by_vander _) h.by_ hv]
    exact this)
  intro j hj
  rw [← h.app by_vander hv hj, dot_congr (r' := vanderM j) (v' := fun _ => 0) (fun _ _ => rfl) hz]
  have : ∀ c, dot (vanderM j) (fun _ => 0) c = 0 := by
    intro c
    induction c with
    | zero => rfl
    | succ c ih => show dot _ _ c ^^^ Gf.mul _ 0 = 0; rw [ih, Gf.mul_zero]; rfl
  exact this k
end Mx
end Go.Proofs.YtolbdcmoblcakaaGreatDoor
/- Rows of one's own that are written in place: the walks of matrix.scale and matrix.add. -/
namespace Go.Proofs.YtolbdcmoblcakaaGreatDoor
open Go.RowKit

/-- block b alone turns. -/
structure OnlyB (b : Nat) (w w' : World) : Prop where
  os : w'.os = w.os
  tape : w'.tape = w.tape
  output : w'.output = w.output
  size : w'.heap.size = w.heap.size
  block : ∀ k, k ≠ b → w'.heap[k]? = w.heap[k]?
theorem OnlyB.refl (b : Nat) (w : World) : OnlyB b w w := ⟨rfl, rfl, rfl, rfl, fun _ _ => rfl⟩
theorem OnlyB.trans {b : Nat} {u v w : World} (h : OnlyB b u v) (h' : OnlyB b v w) : OnlyB b u w :=
  ⟨h'.os.trans h.os, h'.tape.trans h.tape, h'.output.trans h.output, h'.size.trans h.size, fun k hk => (h'.block k hk).trans (h.block k hk)⟩
theorem OnlyB.drewN (b : Nat) (w : World) (n : Nat) : OnlyB b w (w.drewN n) := ⟨rfl, rfl, rfl, rfl, fun _ _ => rfl⟩
theorem OnlyB.setCell (b o : Nat) (w : World) (v : Value) : OnlyB b w (w.setCell ⟨b, o, none⟩ v) :=
  ⟨rfl, rfl, rfl, by simp [World.setCell], fun k hk => Below.heap_setCell _ _ _ _ hk⟩
theorem OnlyB.cell {b : Nat} {w w' : World} (h : OnlyB b w w') {p : Addr} (hp : p.block ≠ b) : w'.cell? p = w.cell? p := by
  unfold World.cell?; rw [h.block _ hp]
theorem OnlyB.frozen {b : Nat} {w w' : World} (h : OnlyB b w w') {p : Addr} (hp : p.block ≠ b) : w'.frozen? p = w.frozen? p := by
  unfold World.frozen?; rw [h.block _ hp]
theorem OnlyB.below {n b : Nat} {w w' : World} (h : OnlyB b w w') (hb : n ≤ b) : Below n w w' :=
  ⟨h.os, h.tape, h.output, Nat.le_of_eq h.size.symm, fun k hk => h.block k (by omega)⟩

/-- block b holds the bytes f j, j < C; they may be written. -/
structure RowV (w : World) (b C : Nat) (f : Nat → Nat) : Prop where
  cell : ∀ j, j < C → w.cell? ⟨b, j, none⟩ = some (.int .u8 (f j : Nat))
  free : ∀ j, j < C → w.frozen? ⟨b, j, none⟩ = false
theorem RowV.other {b d C : Nat} {w w' : World} {f : Nat → Nat} (h : OnlyB b w w') (hd : d ≠ b) (hr : RowV w d C f) : RowV w' d C f :=
  ⟨fun j hj => (h.cell (p := ⟨d, j, none⟩) hd).trans (hr.cell j hj), fun j hj => (h.frozen (p := ⟨d, j, none⟩) hd).trans (hr.free j hj)⟩
theorem RowV.congr {b C : Nat} {w : World} {f g : Nat → Nat} (h : ∀ j, j < C → f j = g j) (hr : RowV w b C f) : RowV w b C g :=
  ⟨fun j hj => by rw [← h j hj]; exact hr.cell j hj, hr.free⟩
theorem RowV.set {b C k x : Nat} {w : World} {f : Nat → Nat} (hk : k < C) (hr : RowV w b C f) : RowV (w.setCell ⟨b, k, none⟩ (.int .u8 (x : Nat))) b C (Mx.upd f k x) := by
  refine ⟨fun j hj => ?_, fun j hj => by rw [World.frozen?_setCell]; exact hr.free j hj⟩
  unfold Mx.upd
  by_cases e : j = k
  · subst e; rw [World.cell?_setCell_same _ _ _ (hr.cell j hj), if_pos rfl]
  · have hne : (⟨b, k, none⟩ : Addr) ≠ ⟨b, j, none⟩ := by
      intro he
      exact e (Addr.mk.inj he).2.1.symm
    rw [World.cell?_setCell_other _ _ _ _ hne, if_neg e]; exact hr.cell j hj
theorem RowV.drewN {b C : Nat} {w : World} {f : Nat → Nat} (n : Nat) (hr : RowV w b C f) : RowV (w.drewN n) b C f := ⟨hr.cell, hr.free⟩

/-- the first k turned. -/
def firstK (k : Nat) (g f : Nat → Nat) : Nat → Nat := fun j => if j < k then g j else f j

set_option maxRecDepth 100000 in
set_option maxHeartbeats 1000000 in
theorem scale_walk (b C cap x : Nat) (f : Nat → Nat) (w : World) (hf : Mx.By f) (hx : x < 256) (hC : C ≤ maxLen) (hr : RowV w b C f) :
    Calls Tryz.prog 126 #[.slice (some ⟨b, 0, none⟩) C cap, .int .u8 x] w fun e w' => e = .returned (.tuple #[]) ∧ OnlyB b w w' ∧ RowV w' b C (fun j => Gf.mul (f j) x) := by
  have hm : C ≤ 9223372036854775807 := hC
  go_enter Tryz.func126, Tryz.ntmps126
  go_wp2
  go_loopw [7] (fun vi wr => ∃ k : Nat, k ≤ C ∧ vi = .int .i64 k ∧ Hid (OnlyB b w wr) ∧ Hid (RowV wr b C (firstK k (fun j => Gf.mul (f j) x) f))) (fun i _ => C - (intOf i).toNat)
  case atStart => exact ⟨0, by omega, rfl, Lib.hid (OnlyB.refl _ _), Lib.hid (hr.congr fun j _ => by unfold firstK; rw [if_neg (by omega)])⟩
  case round =>
    obtain ⟨k, hk, rfl, Ho, Hr⟩ := hrel
    have hk2 : k < C ∨ k = C := by omega
    rcases hk2 with hlt | rfl
    · have hlt2 : (k : Int) < C := by omega
      have hcell : wr.cell? ⟨b, k, none⟩ = some (.int .u8 (f k : Nat)) := by
        have := Hr.out.cell k hlt
        unfold firstK at this; rwa [if_neg (by omega)] at this
      have hfr := Hr.out.free k hlt
      have hw := fun W => mul_walk (f k) x W (hf k) hx
      have Hw := Lib.hid hw; clear hw
      obtain ⟨c, hc⟩ : ∃ c, f k = c := ⟨_, rfl⟩
      obtain ⟨y, hy⟩ : ∃ y, Gf.mul (f k) x = y := ⟨_, rfl⟩
      rw [hc] at hcell
      rw [hy, hc] at Hw
      have Hy := Lib.hid hy; clear hy hc
      have hy2 : y < 256 := by rw [← Hy.out]; exact Gf.mul_lt _ (hf k)
      go_wp2_with fail
      refine (Hw.out _).mono ?_
      rintro e w' ⟨rfl, rfl⟩
      go_wp2
      go_round
      case rel =>
        refine ⟨k + 1, by omega, by go_num, Lib.hid (Ho.out.trans (OnlyB.setCell _ _ _ _)), Lib.hid ((Hr.out.set (x := y) hlt).congr fun j hj => ?_)⟩
        unfold Mx.upd firstK
        by_cases e : j = k
        · subst e; rw [if_pos rfl, if_pos (by omega)]; exact Hy.out.symm
        · rw [if_neg e]
          by_cases e2 : j < k
          · rw [if_pos e2, if_pos (by omega)]
          · rw [if_neg e2, if_neg (by omega)]
      case measure => simp [intOf]; omega
    · go_wp2
      go_end0
      exact ⟨rfl, Ho.out, Hr.out.congr fun j hj => by unfold firstK; rw [if_pos hj]⟩
set_option maxRecDepth 100000 in
set_option maxHeartbeats 2000000 in
theorem add_walk_rows (b d C cap cap' x : Nat) (f g : Nat → Nat) (w : World) (hf : Mx.By f) (hg : Mx.By g) (hx : x < 256) (hC : C ≤ maxLen) (hbd : d ≠ b) (hr : RowV w b C f) (hs : RowV w d C g) :
    Calls Tryz.prog 127 #[.slice (some ⟨b, 0, none⟩) C cap, .slice (some ⟨d, 0, none⟩) C cap', .int .u8 x] w fun e w' => e = .returned (.tuple #[]) ∧ OnlyB b w w' ∧ RowV w' b C (fun j => f j ^^^ Gf.mul (g j) x) := by
  have hm : C ≤ 9223372036854775807 := hC
  go_enter Tryz.func127, Tryz.ntmps127
  go_wp2
  go_loopw [9] (fun vi wr => ∃ k : Nat, k ≤ C ∧ vi = .int .i64 k ∧ Hid (OnlyB b w wr) ∧ Hid (RowV wr b C (firstK k (fun j => f j ^^^ Gf.mul (g j) x) f))) (fun i _ => C - (intOf i).toNat)
  case atStart => exact ⟨0, by omega, rfl, Lib.hid (OnlyB.refl _ _), Lib.hid (hr.congr fun j _ => by unfold firstK; rw [if_neg (by omega)])⟩
  case round =>
    obtain ⟨k, hk, rfl, Ho, Hr⟩ := hrel
    have hk2 : k < C ∨ k = C := by omega
    rcases hk2 with hlt | rfl
    · have hlt2 : (k : Int) < C := by omega
      have hcell : wr.cell? ⟨b, k, none⟩ = some (.int .u8 (f k : Nat)) := by
        have := Hr.out.cell k hlt
        unfold firstK at this; rwa [if_neg (by omega)] at this
      have hcell2 : wr.cell? ⟨d, k, none⟩ = some (.int .u8 (g k : Nat)) := (Ho.out.cell (p := ⟨d, k, none⟩) hbd).trans (hs.cell k hlt)
      have hfr := Hr.out.free k hlt
      have hw := fun W => mul_walk (g k) x W (hg k) hx
      have Hw := Lib.hid hw; clear hw
      have hc1 := hf k
      obtain ⟨c, hc⟩ : ∃ c, f k = c := ⟨_, rfl⟩
      obtain ⟨c2, hc2⟩ : ∃ c, g k = c := ⟨_, rfl⟩
      obtain ⟨y, hy⟩ : ∃ y, Gf.mul (g k) x = y := ⟨_, rfl⟩
      have hy2 : y < 256 := by rw [← hy]; exact Gf.mul_lt _ (hg k)
      have hz : bits .xor .u8 (c : Int) (y : Int) = ((f k ^^^ Gf.mul (g k) x : Nat) : Int) := by
        rw [u8_xor_nat _ _ (by omega) hy2, hc, hy]
      rw [hc] at hcell hc1
      rw [hc2] at hcell2
      rw [hy, hc2] at Hw
      have Hz := Lib.hid hz; clear hz hy hc hc2
      go_wp2
      go_region_with (first | (go_at_call 104; refine (Hw.out _).mono ?_; rintro e w' ⟨rfl, rfl⟩))
      all_goals
        go_wp2
        go_round
        case rel =>
          refine ⟨k + 1, by omega, by go_num, Lib.hid ((Ho.out.trans (OnlyB.setCell _ _ _ _)).trans (OnlyB.drewN _ _ 1)), Lib.hid (RowV.drewN 1 ?_)⟩
          rw [Hz.out]
          refine (Hr.out.set (x := f k ^^^ Gf.mul (g k) x) hlt).congr fun j hj => ?_
          unfold Mx.upd firstK
          by_cases e : j = k
          · subst e; rw [if_pos rfl, if_pos (by omega)]
          · rw [if_neg e]
            by_cases e2 : j < k
            · rw [if_pos e2, if_pos (by omega)]
            · rw [if_neg e2, if_neg (by omega)]
        case measure => simp [intOf]; omega
    · go_wp2
      go_end0
      exact ⟨rfl, Ho.out, Hr.out.congr fun j hj => by unfold firstK; rw [if_pos hj]⟩
end Go.Proofs.YtolbdcmoblcakaaGreatDoor
/- The walks of matrix.reduced's search: slices.IndexFunc and its function. -/
namespace Go.Proofs.YtolbdcmoblcakaaGreatDoor
open Go.RowKit

set_option maxRecDepth 100000 in
theorem pred_walk (b C cap c x : Nat) (box : Addr) (w : World) (hc : c < C) (hC : C ≤ maxLen) (hb : w.cell? box = some (.int .i64 c)) (hr : w.cell? ⟨b, c, none⟩ = some (.int .u8 (x : Nat))) :
    Calls Tryz.prog 124 #[.slice (some ⟨b, 0, none⟩) C cap, .pointer (some box)] w fun e w' => e = .returned (.bool (decide (x ≠ 0))) ∧ w = w' := by
  have hm : C ≤ 9223372036854775807 := hC
  have hlt : (c : Int) < C := by omega
  by_cases hx : x = 0
  · subst hx
    go_enter Tryz.func124, Tryz.ntmps124
    go_wp2
    go_ret
    exact ⟨rfl, rfl⟩
  · have hx0 : ((x : Int) == 0) = false := by simp; omega
    go_enter Tryz.func124, Tryz.ntmps124
    go_wp2
    go_ret
    exact ⟨by simp [hx], rfl⟩
set_option maxRecDepth 100000 in
set_option maxHeartbeats 1000000 in
theorem find_walk (g off m cap C c : Nat) (bs caps f : Nat → Nat) (box : Addr) (w : World) (hm : m ≤ maxLen) (hc : c < C) (hC : C ≤ maxLen) (hb : w.cell? box = some (.int .i64 c))
    (hh : ∀ j, j < m → w.cell? ⟨g, off + j, none⟩ = some (.slice (some ⟨bs j, 0, none⟩) C (caps j))) (hr : ∀ j, j < m → w.cell? ⟨bs j, c, none⟩ = some (.int .u8 (f j : Nat))) :
    Calls Tryz.prog 123 #[.slice (some ⟨g, off, none⟩) m cap, .func (.func 124) #[] #[.pointer (some box)]] w
      fun e w' => (((∀ j, j < m → f j = 0) ∧ e = .returned (.int .i64 (-1))) ∨ ∃ k, k < m ∧ f k ≠ 0 ∧ e = .returned (.int .i64 (k : Nat))) ∧ w = w' := by
  have hm' : m ≤ 9223372036854775807 := hm
  have Hh := Lib.hid hh; clear hh
  have Hr := Lib.hid hr; clear hr
  go_enter Tryz.func123, Tryz.ntmps123
  go_wp2
  go_loop [8] (fun vi => ∃ k : Nat, k ≤ m ∧ vi = .int .i64 k ∧ ∀ j, j < k → f j = 0) (fun i => m - (intOf i).toNat)
  case atStart => exact ⟨0, by omega, rfl, fun j hj => by omega⟩
  case round =>
    obtain ⟨k, hk, rfl, hz⟩ := hrel
    have Hz := Lib.hid hz; clear hz
    have hk2 : k < m ∨ k = m := by omega
    rcases hk2 with hlt | rfl
    · have hlt2 : (k : Int) < m := by omega
      have h1 := Hh.out k hlt
      have Hp := Lib.hid (pred_walk (bs k) C (caps k) c (f k) box w hc hC hb (Hr.out k hlt))
      by_cases hx : f k = 0
      · have e1 : decide (f k ≠ 0) = false := by simp [hx]
        rw [e1] at Hp
        go_wp2_with (go_at_call 124; refine Hp.out.mono ?_; rintro e w' ⟨rfl, rfl⟩)
        go_round
        case rel => exact ⟨k + 1, by omega, by go_num, fun j hj => by
          by_cases e : j = k
          · rw [e, hx]
          · exact Hz.out j (by omega)⟩
        case measure => simp [intOf]; omega
      · have e1 : decide (f k ≠ 0) = true := by simp [hx]
        rw [e1] at Hp
        go_wp2_with (go_at_call 124; refine Hp.out.mono ?_; rintro e w' ⟨rfl, rfl⟩)
        go_ret
        exact ⟨.inr ⟨k, hlt, hx, rfl⟩, rfl⟩
    · go_wp2
      go_ret
      exact ⟨.inl ⟨Hz.out, rfl⟩, rfl⟩
end Go.Proofs.YtolbdcmoblcakaaGreatDoor
