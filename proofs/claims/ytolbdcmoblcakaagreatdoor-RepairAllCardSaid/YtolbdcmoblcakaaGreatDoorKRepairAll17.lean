/- The walk of matrix.reduced. -/
import Derived.Test.YtolbdcmoblcakaaGreatDoorKRepairAll16
import Derived.Test.YtolbdcmoblcakaaGreatDoorKRepairAll04
import Derived.StillTailTactics
import Derived.Test.YtolbdcmoblcakaaGreatDoorKRepairAll01
import Derived.Deep.Matrix
namespace Go.Proofs.YtolbdcmoblcakaaGreatDoor
open Go.RowKit

/-- a matrix of one's own: its rows' heads in block g, row i in block bs i; all from B on. -/
structure MatV (B : Nat) (w : World) (g n C : Nat) (bs caps : Nat → Nat) (M : Nat → Nat → Nat) : Prop where
  head : ∀ i, i < n → w.cell? ⟨g, i, none⟩ = some (.slice (some ⟨bs i, 0, none⟩) C (caps i))
  free : ∀ i, i < n → w.frozen? ⟨g, i, none⟩ = false
  row : ∀ i, i < n → RowV w (bs i) C (M i)
  inj : ∀ i j, i < n → j < n → bs i = bs j → i = j
  off : ∀ i, i < n → bs i ≠ g
  low : ∀ i, i < n → B ≤ bs i
  lowg : B ≤ g
  cap : ∀ i, i < n → C ≤ caps i ∧ caps i ≤ maxLen
theorem MatV.keep {B : Nat} {w w' : World} {g n C : Nat} {bs caps : Nat → Nat} {M : Nat → Nat → Nat} (h : MatV B w g n C bs caps M) (hk : ∀ b, (b = g ∨ ∃ i, i < n ∧ b = bs i) → w'.heap[b]? = w.heap[b]?) : MatV B w' g n C bs caps M := by
  have hc : ∀ p : Addr, (p.block = g ∨ ∃ i, i < n ∧ p.block = bs i) → w'.cell? p = w.cell? p := fun p hp => by unfold World.cell?; rw [hk _ hp]
  have hf : ∀ p : Addr, (p.block = g ∨ ∃ i, i < n ∧ p.block = bs i) → w'.frozen? p = w.frozen? p := fun p hp => by unfold World.frozen?; rw [hk _ hp]
  exact ⟨fun i hi => (hc _ (.inl rfl)).trans (h.head i hi), fun i hi => (hf _ (.inl rfl)).trans (h.free i hi), fun i hi => ⟨fun j hj => (hc _ (.inr ⟨i, hi, rfl⟩)).trans ((h.row i hi).cell j hj), fun j hj => (hf _ (.inr ⟨i, hi, rfl⟩)).trans ((h.row i hi).free j hj)⟩, h.inj, h.off, h.low, h.lowg, h.cap⟩
theorem MatV.lt {B : Nat} {w : World} {g n C : Nat} {bs caps : Nat → Nat} {M : Nat → Nat → Nat} (h : MatV B w g n C bs caps M) (hn : 0 < n) (hC : 0 < C) : ∀ b, (b = g ∨ ∃ i, i < n ∧ b = bs i) → b < w.heap.size := by
  intro b hb
  have key : ∀ {b v}, w.cell? ⟨b, 0, none⟩ = some v → b < w.heap.size := fun {b v} h => by
    rcases Nat.lt_or_ge b w.heap.size with h1 | h1
    · exact h1
    · simp [World.cell?, Array.getElem?_eq_none h1] at h
  rcases hb with rfl | ⟨i, hi, rfl⟩
  · exact key (h.head 0 hn)
  · exact key ((h.row i hi).cell 0 hC)
theorem heap_alloc_lt {w : World} {b : Nat} (o : Obj) (h : b < w.heap.size) : (w.alloc o).heap[b]? = w.heap[b]? := by
  show (w.heap.push o)[b]? = _
  rw [Array.getElem?_push]
  rw [if_neg (by omega)]
theorem heap_set_ne {w : World} {b o x : Nat} (v : Value) (h : b ≠ x) : (w.setCell ⟨x, o, none⟩ v).heap[b]? = w.heap[b]? := Below.heap_setCell _ _ _ _ h
def swp (f : Nat → Nat) (a b : Nat) : Nat → Nat := fun i => if i = a then f b else if i = b then f a else f i
theorem MatV.swap {B : Nat} {w : World} {g n C : Nat} {bs caps : Nat → Nat} {M : Nat → Nat → Nat} (h : MatV B w g n C bs caps M) {a b : Nat} (ha : a < n) (hb : b < n) :
    MatV B ((w.setCell ⟨g, a, none⟩ (.slice (some ⟨bs b, 0, none⟩) C (caps b))).setCell ⟨g, b, none⟩ (.slice (some ⟨bs a, 0, none⟩) C (caps a))) g n C (swp bs a b) (swp caps a b) (Mx.swapR M a b) := by
  have hne : ∀ x y : Nat, x ≠ y → (⟨g, x, none⟩ : Addr) ≠ ⟨g, y, none⟩ := fun x y hxy he => hxy (Addr.mk.inj he).2.1
  have sel : ∀ i, i < n → ∃ k, k < n ∧ swp bs a b i = bs k ∧ swp caps a b i = caps k ∧ Mx.swapR M a b i = M k ∧ ((i = a ∧ k = b) ∨ (i ≠ a ∧ i = b ∧ k = a) ∨ (i ≠ a ∧ i ≠ b ∧ k = i)) := fun i hi => by
    unfold swp Mx.swapR
    by_cases e : i = a
    · exact ⟨b, hb, by rw [if_pos e], by rw [if_pos e], by rw [if_pos e], .inl ⟨e, rfl⟩⟩
    · by_cases e2 : i = b
      · exact ⟨a, ha, by rw [if_neg e, if_pos e2], by rw [if_neg e, if_pos e2], by rw [if_neg e, if_pos e2], .inr (.inl ⟨e, e2, rfl⟩)⟩
      · exact ⟨i, hi, by rw [if_neg e, if_neg e2], by rw [if_neg e, if_neg e2], by rw [if_neg e, if_neg e2], .inr (.inr ⟨e, e2, rfl⟩)⟩
  have hblk : ∀ x, x ≠ g → ((w.setCell ⟨g, a, none⟩ (.slice (some ⟨bs b, 0, none⟩) C (caps b))).setCell ⟨g, b, none⟩ (.slice (some ⟨bs a, 0, none⟩) C (caps a))).heap[x]? = w.heap[x]? := fun x hx =>
    (heap_set_ne _ hx).trans (heap_set_ne _ hx)
  have hA : (w.setCell ⟨g, a, none⟩ (.slice (some ⟨bs b, 0, none⟩) C (caps b))).cell? ⟨g, b, none⟩ ≠ none := by
    by_cases e : a = b
    · subst e; rw [World.cell?_setCell_same _ _ _ (h.head a ha)]; exact Option.some_ne_none _
    · rw [World.cell?_setCell_other _ _ _ _ (hne a b e), h.head b hb]; exact Option.some_ne_none _
  refine ⟨fun i hi => ?_, fun i hi => ?_, fun i hi => ?_, fun i j hi hj e => ?_, fun i hi => ?_, fun i hi => ?_, h.lowg, fun i hi => ?_⟩
  · obtain ⟨k, hk, e1, e2, _, hc⟩ := sel i hi
    rw [e1, e2]
    by_cases eb : i = b
    · obtain ⟨u, hu⟩ := Option.ne_none_iff_exists'.1 hA
      rw [eb, World.cell?_setCell_same _ _ _ hu]
      rcases hc with ⟨x1, x2⟩ | ⟨_, _, x2⟩ | ⟨_, x1, _⟩
      · rw [x2, ← x1, ← eb]
      · rw [x2]
      · exact absurd eb x1
    · rw [World.cell?_setCell_other _ _ _ _ (hne b i (Ne.symm eb))]
      rcases hc with ⟨x1, x2⟩ | ⟨_, x1, _⟩ | ⟨x1, _, x2⟩
      · rw [x1, World.cell?_setCell_same _ _ _ (h.head a ha), x2]
      · exact absurd x1 eb
      · rw [World.cell?_setCell_other _ _ _ _ (hne a i (Ne.symm x1)), h.head i hi, x2]
  · rw [World.frozen?_setCell, World.frozen?_setCell]; exact h.free i hi
  · obtain ⟨k, hk, e1, _, e3, _⟩ := sel i hi
    rw [e1, e3]
    have hb2 := hblk (bs k) (h.off k hk)
    exact ⟨fun j hj => by have := (h.row k hk).cell j hj; unfold World.cell? at this ⊢; rw [hb2]; exact this, fun j hj => by have := (h.row k hk).free j hj; unfold World.frozen? at this ⊢; rw [hb2]; exact this⟩
  · obtain ⟨k, hk, e1, _, _, hc⟩ := sel i hi
    obtain ⟨l, hl, e2, _, _, hd⟩ := sel j hj
    rw [e1, e2] at e
    have := h.inj k l hk hl e
    omega
  · obtain ⟨k, hk, e1, _⟩ := sel i hi
    rw [e1]; exact h.off k hk
  · obtain ⟨k, hk, e1, _⟩ := sel i hi
    rw [e1]; exact h.low k hk
  · obtain ⟨k, hk, _, e2, _⟩ := sel i hi
    rw [e2]; exact h.cap k hk
theorem MatV.put {B : Nat} {w w' : World} {g n C : Nat} {bs caps : Nat → Nat} {M : Nat → Nat → Nat} (h : MatV B w g n C bs caps M) {d : Nat} {f : Nat → Nat} (hd : d < n) (ho : OnlyB (bs d) w w') (hr : RowV w' (bs d) C f) : MatV B w' g n C bs caps (Mx.putR M d f) := by
  have hg : bs d ≠ g := h.off d hd
  refine ⟨fun i hi => (ho.cell (p := ⟨g, i, none⟩) (Ne.symm hg)).trans (h.head i hi), fun i hi => (ho.frozen (p := ⟨g, i, none⟩) (Ne.symm hg)).trans (h.free i hi), fun i hi => ?_, h.inj, h.off, h.low, h.lowg, h.cap⟩
  unfold Mx.putR
  by_cases e : i = d
  · rw [if_pos e, e]; exact hr
  · rw [if_neg e]; exact (h.row i hi).other ho (fun e2 => e (h.inj i d hi hd e2))
theorem MatV.congrM {B : Nat} {w : World} {g n C : Nat} {bs caps : Nat → Nat} {M M' : Nat → Nat → Nat} (h : MatV B w g n C bs caps M) (he : ∀ i, i < n → M i = M' i) : MatV B w g n C bs caps M' :=
  ⟨h.head, h.free, fun i hi => by rw [← he i hi]; exact h.row i hi, h.inj, h.off, h.low, h.lowg, h.cap⟩
def addUp (M : Nat → Nat → Nat) (d c i : Nat) : Nat → Nat → Nat := fun r => if r < i ∧ r ≠ d then fun j => M r j ^^^ Gf.mul (M d j) (M r c) else M r
/-- the loop over the rows. -/
structure InnS (B : Nat) (w0 w : World) (g n C box c : Nat) (bs caps : Nat → Nat) (M : Nat → Nat → Nat) : Prop where
  bel : Below B w0 w
  mat : MatV B w g n C bs caps M
  boxc : w.cell? ⟨box, 0, none⟩ = some (.int .i64 c)
  boxf : w.frozen? ⟨box, 0, none⟩ = false
theorem same_below' (B : Nat) {w : World} (q : Nat) : Below B w (w.drewN q) := ⟨rfl, rfl, rfl, Nat.le_refl _, fun _ _ => rfl⟩
def boxOf (v : Value) (w : World) : Nat := match v with
  | .pointer (some p) => match w.cell? p with
    | some (.int _ n) => n.toNat
    | _ => 0
  | _ => 0
/-- what stands at the head of the loop over the columns. -/
structure RedS (B : Nat) (w0 w : World) (g n C cols : Nat) (M0 : Nat → Nat → Nat) (box c done : Nat) (L : Nat → Nat) (bs caps : Nat → Nat) (M : Nat → Nat → Nat) : Prop where
  bel : Below B w0 w
  mat : MatV B w g n C bs caps M
  by_ : Mx.ByM M
  rr : Mx.RR M n c done L
  ker : ∀ d v, Mx.By v → (Mx.Ker M n d v ↔ Mx.Ker M0 n d v)
  col : c ≤ cols
  boxc : w.cell? ⟨box, 0, none⟩ = some (.int .i64 c)
  boxf : w.frozen? ⟨box, 0, none⟩ = false
  boxb : B ≤ box
  boxg : box ≠ g
  boxr : ∀ i, i < n → box ≠ bs i

/-- what matrix.reduced leaves. -/
def RedOut (B : Nat) (w w' : World) (g n C cols : Nat) (M : Nat → Nat → Nat) (e : Ending) : Prop := ∃ done L bs' caps' M', e = .returned (.int .i64 (done : Nat)) ∧ Below B w w' ∧
      MatV B w' g n C bs' caps' M' ∧ Mx.ByM M' ∧ Mx.RR M' n cols done L ∧ ∀ d v, Mx.By v → (Mx.Ker M' n d v ↔ Mx.Ker M n d v)
set_option maxRecDepth 100000 in
set_option maxHeartbeats 4000000 in
theorem reduced_walk (B g n C cols capg : Nat) (bs caps : Nat → Nat) (M : Nat → Nat → Nat) (w : World) (hB : B ≤ w.heap.size) (hn : 0 < n) (hn2 : n ≤ 1000) (hC0 : 0 < C) (hC : C ≤ 1000) (hcols : cols ≤ C) (hcap : n ≤ capg) (hM : Mx.ByM M) (hm : MatV B w g n C bs caps M) :
    Calls Tryz.prog 115 #[.slice (some ⟨g, 0, none⟩) n capg, .int .i64 cols] w fun e w' => RedOut B w w' g n C cols M e := by
  have hlt0 := hm.lt hn hC0
  go_enter Tryz.func115, Tryz.ntmps115
  go_wp2
  go_loopw [5, 6] (fun vd vb wr => ∃ box c done L bs' caps' M', vd = .int .i64 (done : Nat) ∧ vb = .pointer (some ⟨box, 0, none⟩) ∧ Hid (RedS B w wr g n C cols M box c done L bs' caps' M')) (fun _ vb wr => cols - boxOf vb wr)
  case atStart =>
    refine ⟨w.heap.size, 0, 0, _, bs, caps, M, rfl, rfl, Lib.hid ⟨?_, ?_, hM, Mx.RR.start M n, fun _ _ _ => Iff.rfl, Nat.zero_le _, ?_, ?_, hB, fun e => by have := hlt0 g (.inl rfl); omega, fun i hi e => by have := hlt0 _ (.inr ⟨i, hi, rfl⟩); omega⟩⟩
    · exact (Below.refl B w).alloc hB _
    · exact hm.keep fun b hb => heap_alloc_lt _ (hlt0 b hb)
    · simp
    · simp
  case round =>
    obtain ⟨box, c, done, L, bs', caps', M', rfl, rfl, H⟩ := hrel
    have hbc := H.out.boxc
    have hdn := H.out.rr.le
    have hcc := H.out.col
    by_cases hend : c < cols ∧ done < n
    · obtain ⟨hc, hd⟩ := hend
      have hc2 : (c : Int) < cols := by omega
      have hd2 : (done : Int) < n := by omega
      have hf := find_walk g done (n - done) (capg - done) C c (fun j => bs' (done + j)) (fun j => caps' (done + j)) (fun j => M' (done + j) c) ⟨box, 0, none⟩ wr (by unfold maxLen; omega) (by omega) (by unfold maxLen; omega) hbc (fun j hj => H.out.mat.head _ (by omega)) (fun j hj => (H.out.mat.row _ (by omega)).cell c (by omega))
      have Hf := Lib.hid hf; clear hf
      have hfree := H.out.boxf
      go_wp2_with fail
      refine (Hf.out).mono ?_
      rintro e w' ⟨hres, rfl⟩
      rcases hres with ⟨hz, rfl⟩ | ⟨k, hk, hne, rfl⟩
      · have Hz := Lib.hid hz; clear hz
        go_wp2
        go_round
        case rel =>
          have hlt := H.out.mat.lt hn hC0
          have hsB : B ≤ wr.heap.size := Nat.le_trans hB H.out.bel.size
          refine ⟨wr.heap.size, c + 1, done, L, bs', caps', M', rfl, rfl, Lib.hid ⟨?_, ?_, H.out.by_, H.out.rr.none fun i h1 h2 => ?_, H.out.ker, by omega, ?_, ?_, hsB, fun e => by have := hlt g (.inl rfl); omega, fun i hi e => by have := hlt _ (.inr ⟨i, hi, rfl⟩); omega⟩⟩
          · exact H.out.bel.alloc hsB _
          · exact H.out.mat.keep fun b hb => heap_alloc_lt _ (hlt b hb)
          · have := Hz.out (i - done) (by omega)
            rwa [show done + (i - done) = i by omega] at this
          · simp
          · simp
        case measure => 
          have e1 : boxOf (.pointer (some ⟨box, 0, none⟩)) wr = c := by unfold boxOf; simp only [hbc]; omega
          have e2 : boxOf (.pointer (some ⟨wr.heap.size, 0, none⟩)) (wr.alloc (.cells #[.int .i64 ((c : Int) + 1)] 3)) = c + 1 := by unfold boxOf; simp
          rw [e1, e2]; omega
      · have hk1 : (done : Int) + k < n := by omega
        have h1 := H.out.mat.head done hd
        have h2 := H.out.mat.head (done + k) (by omega)
        have h3 := H.out.mat.free done hd
        have h4 := H.out.mat.free (done + k) (by omega)
        have hk0 : ¬ (k : Int) < 0 := by omega
        have hk4 : (0 : Int) ≤ (done : Int) + k := by omega
        have htn : ((done : Int) + (k : Int)).toNat = done + k := by omega
        have hwr : IntKind.i64.wrap ((done : Int) + (k : Int)) = (done : Int) + k := IntWalk.i64_in _ (by omega)
        have h5 : (wr.setCell ⟨g, done, none⟩ (.slice (some ⟨bs' (done + k), 0, none⟩) C (caps' (done + k)))).cell? ⟨g, done + k, none⟩ = some (.slice (some ⟨bs' (done + k), 0, none⟩) C (caps' (done + k))) := by
          by_cases e : k = 0
          · subst e
            exact World.cell?_setCell_same _ _ _ h1
          · have hne2 : (⟨g, done, none⟩ : Addr) ≠ ⟨g, done + k, none⟩ := by
              intro he
              have := (Addr.mk.inj he).2.1
              omega
            rw [World.cell?_setCell_other _ _ _ _ hne2]; exact h2
        have hkn : done + k < n := by omega
        have hsw := (H.out.mat.swap hd hkn).keep (w' := ((wr.setCell ⟨g, done, none⟩ (.slice (some ⟨bs' (done + k), 0, none⟩) C (caps' (done + k)))).setCell ⟨g, done + k, none⟩ (.slice (some ⟨bs' done, 0, none⟩) C (caps' done))).drew) (fun _ _ => rfl)
        obtain ⟨b0, hb0⟩ : ∃ b0, bs' done = b0 := ⟨_, rfl⟩
        obtain ⟨p0, hp0⟩ : ∃ p0, caps' done = p0 := ⟨_, rfl⟩
        obtain ⟨b1, hb1⟩ : ∃ b1, bs' (done + k) = b1 := ⟨_, rfl⟩
        obtain ⟨p1, hp1⟩ : ∃ p1, caps' (done + k) = p1 := ⟨_, rfl⟩
        rw [hb0, hp0] at h1
        rw [hb1, hp1] at h2 h5
        rw [hb0, hp0, hb1, hp1] at hsw
        have hbelS : Below B w ((wr.setCell ⟨g, done, none⟩ (.slice (some ⟨b1, 0, none⟩) C p1)).setCell ⟨g, done + k, none⟩ (.slice (some ⟨b0, 0, none⟩) C p0)).drew :=
          (((H.out.bel.setCell H.out.mat.lowg _).setCell H.out.mat.lowg _)).drew
        have hboxS : ((wr.setCell ⟨g, done, none⟩ (.slice (some ⟨b1, 0, none⟩) C p1)).setCell ⟨g, done + k, none⟩ (.slice (some ⟨b0, 0, none⟩) C p0)).drew.heap[box]? = wr.heap[box]? :=
          (heap_set_ne _ H.out.boxg).trans (heap_set_ne _ H.out.boxg)
        have Hsw := Lib.hid hsw
        have HbelS := Lib.hid hbelS
        have HboxS := Lib.hid hboxS
        clear hsw hbelS hboxS hb0 hp0 hb1 hp1
        go_wp2
        go_region_with (fail)
        all_goals
          clear h1 h2 h3 h4 h5
          obtain ⟨W, hW⟩ : ∃ W, W = ((wr.setCell ⟨g, done, none⟩ (.slice (some ⟨b1, 0, none⟩) C p1)).setCell ⟨g, done + k, none⟩ (.slice (some ⟨b0, 0, none⟩) C p0)).drew := ⟨_, rfl⟩
          rw [← hW] at Hsw HbelS HboxS ⊢
          have hM1 := Mx.by_swap H.out.by_ done (done + k)
          have hne1 : Mx.swapR M' done (done + k) done c ≠ 0 := by
            unfold Mx.swapR; rw [if_pos rfl]; exact hne
          have h1 := Hsw.out.head done hd
          have h2 := (Hsw.out.row done hd).cell c (by omega)
          have h3 : W.cell? ⟨box, 0, none⟩ = some (.int .i64 c) := by
            have := hbc
            unfold World.cell? at this ⊢; rw [HboxS.out]; exact this
          have hlt1 := hM1 done c
          have hinv : ∀ W2, Calls Tryz.prog 125 #[.int .u8 (Mx.swapR M' done (done + k) done c : Nat)] W2 fun e w' => e = .returned (.tuple #[.int .u8 (Gf.inv (Mx.swapR M' done (done + k) done c) : Nat), .nilIface]) ∧ w' = W2 := fun W2 => (inv_walk _ W2 hlt1 hne1).mono fun e w' ⟨he, hw⟩ => ⟨he, hw.symm⟩
          have hclt : (c : Int) < C := by omega
          obtain ⟨a, ha⟩ : ∃ a, Mx.swapR M' done (done + k) done c = a := ⟨_, rfl⟩
          obtain ⟨x, hx⟩ : ∃ x, Gf.inv a = x := ⟨_, rfl⟩
          have hx2 : x < 256 := by rw [← hx, ← ha]; exact Gf.inv_lt hlt1
          rw [ha] at h2 hinv hlt1
          rw [hx] at hinv
          have Hinv := Lib.hid hinv
          have Ha := Lib.hid ha
          have Hx := Lib.hid hx
          clear hinv ha hx hW
          go_wp2
          go_quiet ((go_at_call 125; exact Calls.quiet_of_same (Hinv.out _)))
          go_wp2_with fail
          have hbs : ∀ i, i < n → box ≠ swp bs' done (done + k) i := fun i hi => by
            unfold swp
            split
            · exact H.out.boxr _ hkn
            · split
              · exact H.out.boxr _ hd
              · exact H.out.boxr i hi
          refine (scale_walk (swp bs' done (done + k) done) C _ x (Mx.swapR M' done (done + k) done) _ (hM1 done) hx2 (by unfold maxLen; omega) ((Hsw.out.row done hd).drewN nq)).mono ?_
          rintro e w2 ⟨rfl, ho, hr⟩
          have hm2 := (Hsw.out.keep (w' := W.drewN nq) (fun _ _ => rfl)).put hd ho hr
          have hlowd := Hsw.out.low done hd
          have hbel2 : Below B w w2 := HbelS.out.trans (((OnlyB.drewN _ W nq).below hlowd).trans (ho.below hlowd))
          have hb3 : w2.heap[box]? = wr.heap[box]? := (ho.block box (hbs done hd)).trans HboxS.out
          have hI : InnS B w w2 g n C box c (swp bs' done (done + k)) (swp caps' done (done + k)) (Mx.scaleR (Mx.swapR M' done (done + k)) done x) :=
            ⟨hbel2, hm2, by unfold World.cell?; rw [hb3]; exact hbc, by unfold World.frozen?; rw [hb3]; exact hfree⟩
          have hby2 := Mx.by_scale hM1 done x
          have hstep : Mx.stepR M' done (done + k) c = Mx.addR (Mx.scaleR (Mx.swapR M' done (done + k)) done x) done (fun i => Mx.scaleR (Mx.swapR M' done (done + k)) done x i c) := by
            rw [← Hx.out, ← Ha.out]; rfl
          have Hst := Lib.hid hstep
          clear hstep
          generalize Mx.scaleR (Mx.swapR M' done (done + k)) done x = M2 at hI hby2 Hst
          generalize swp bs' done (done + k) = bs2 at hI hbs
          generalize swp caps' done (done + k) = caps2 at hI
          have HI := Lib.hid hI
          have Hby2 := Lib.hid hby2
          have Hbs := Lib.hid hbs
          clear hI hby2 hbs hm2 hbel2 hlowd hb3 ho hr Hsw HbelS HboxS h1 h2 h3 hM1 hne1 hlt1 Ha Hx Hinv
          have hbco := Lib.hid hbc; clear hbc
          obtain ⟨wo, rfl⟩ : ∃ wo : World, wo = wr := ⟨_, rfl⟩
          go_wp2
          go_loopw [66] (fun vi wi => ∃ i : Nat, i ≤ n ∧ vi = .int .i64 i ∧ Hid (InnS B w wi g n C box c bs2 caps2 (addUp M2 done c i))) (fun i _ => n - (intOf i).toNat)
          case atStart => exact ⟨0, by omega, rfl, Lib.hid ⟨HI.out.bel, HI.out.mat.congrM (fun i _ => by unfold addUp; rw [if_neg (by omega)]), HI.out.boxc, HI.out.boxf⟩⟩
          case round =>
            obtain ⟨i, hi, rfl, HJ⟩ := hrel
            have hj1 := HJ.out.boxc
            have hi2 : i < n ∨ i = n := by omega
            rcases hi2 with hlt | hin
            · have hlt2 : (i : Int) < n := by omega
              have hh1 := HJ.out.mat.head i hlt
              have hh2 := HJ.out.mat.head done hd
              by_cases hid : i = done
              · have hne3 : ((i : Int) == (done : Int)) = true := by simp [hid]
                go_wp2
                go_quiet (fail)
                go_wp2
                go_round
                case rel => exact ⟨i + 1, by omega, by go_num, Lib.hid ⟨HJ.out.bel.trans (same_below' _ nq), (HJ.out.mat.keep (w' := wr.drewN nq) (fun _ _ => rfl)).congrM (M' := addUp M2 done c (i + 1)) (fun r hr => by
                  unfold addUp
                  by_cases e : r < i ∧ r ≠ done
                  · rw [if_pos e, if_pos ⟨by omega, e.2⟩]
                  · rw [if_neg e, if_neg (by omega)]), HJ.out.boxc, HJ.out.boxf⟩⟩
                case measure => simp [intOf]; omega
              · have hne3 : ((i : Int) == (done : Int)) = false := by simp; omega
                have hne4 : (i == done) = false := by simp; omega
                have hne5 : ¬ ((i : Int) = (done : Int)) := by omega
                have hrow := HJ.out.mat.row i hlt
                have hM2i : addUp M2 done c i i = M2 i := by unfold addUp; rw [if_neg (by omega)]
                have hM2d : addUp M2 done c i done = M2 done := by unfold addUp; rw [if_neg (by omega)]
                rw [hM2i] at hrow
                have hrowd := HJ.out.mat.row done hd
                rw [hM2d] at hrowd
                have hc4 := hrow.cell c (by omega)
                have hclt : (c : Int) < C := by omega
                have hy2 := Hby2.out i c
                obtain ⟨y, hy⟩ : ∃ y, M2 i c = y := ⟨_, rfl⟩
                rw [hy] at hc4 hy2
                have Hrow := Lib.hid hrow
                have Hrowd := Lib.hid hrowd
                have Hy := Lib.hid hy
                clear hrow hrowd hM2i hM2d hy
                by_cases hy0 : y = 0
                · subst hy0
                  go_wp2
                  go_quiet (fail)
                  go_wp2
                  go_round
                  case rel => exact ⟨i + 1, by omega, by go_num, Lib.hid ⟨HJ.out.bel.trans (same_below' _ nq), (HJ.out.mat.keep (w' := wr.drewN nq) (fun _ _ => rfl)).congrM (M' := addUp M2 done c (i + 1)) (fun r hr => by
                    unfold addUp
                    by_cases e : r < i ∧ r ≠ done
                    · rw [if_pos e, if_pos ⟨by omega, e.2⟩]
                    · rw [if_neg e]
                      by_cases e2 : r = i
                      · rw [if_pos ⟨by omega, by omega⟩, e2, Hy.out]
                        funext j
                        rw [Gf.mul_zero, Nat.xor_zero]
                      · rw [if_neg (by omega)]), HJ.out.boxc, HJ.out.boxf⟩⟩
                  case measure => simp [intOf]; omega
                · have hy3 : ((y : Int) == 0) = false := by simp; omega
                  have hy4 : (y == 0) = false := by simp; omega
                  have hy5 : ¬ ((y : Int) = 0) := by omega
                  have hy6 : ((y : Int) != 0) = true := by simp; omega
                  have hbd : bs2 done ≠ bs2 i := fun e => hid (HJ.out.mat.inj _ _ hlt hd e.symm)
                  have Hbd := Lib.hid hbd
                  clear hbd
                  go_wp2
                  go_quiet (fail)
                  obtain ⟨w4, hw4⟩ : ∃ w4, wr.drewN nq = w4 := ⟨_, rfl⟩
                  rw [hw4]
                  have k1 : w4.cell? ⟨g, i, none⟩ = some (.slice (some ⟨bs2 i, 0, none⟩) C (caps2 i)) := by rw [← hw4]; exact hh1
                  have k2 : w4.cell? ⟨g, done, none⟩ = some (.slice (some ⟨bs2 done, 0, none⟩) C (caps2 done)) := by rw [← hw4]; exact hh2
                  have k3 : w4.cell? ⟨bs2 i, c, none⟩ = some (.int .u8 (y : Nat)) := by rw [← hw4]; exact hc4
                  have k4 : w4.cell? ⟨box, 0, none⟩ = some (.int .i64 c) := by rw [← hw4]; exact hj1
                  have Kr : Hid (RowV w4 (bs2 i) C (M2 i)) := by rw [← hw4]; exact Lib.hid (Hrow.out.drewN nq)
                  have Kd : Hid (RowV w4 (bs2 done) C (M2 done)) := by rw [← hw4]; exact Lib.hid (Hrowd.out.drewN nq)
                  have hadd := add_walk_rows (bs2 i) (bs2 done) C (caps2 i) (caps2 done) y (M2 i) (M2 done) w4.drew (Hby2.out i) (Hby2.out done) hy2 (by unfold maxLen; omega) Hbd.out (Kr.out.drewN 1) (Kd.out.drewN 1)
                  have Hadd := Lib.hid hadd; clear hadd
                  have Hw4 := Lib.hid hw4
                  clear hw4 hh1 hh2 hc4 hj1
                  go_wp2
                  go_still_tail 15, (by kernel_rfl)
                  change wpList _ _ _ _ _ w4.drew
                  go_wp2_with fail
                  refine Hadd.out.mono ?_
                  rintro e w3 ⟨rfl, ho3, hr3⟩
                  all_goals
                    have hI3 : InnS B w w3 g n C box c bs2 caps2 (addUp M2 done c (i + 1)) := by
                      have hlo := HJ.out.mat.low i hlt
                      have hbx : box ≠ bs2 i := Hbs.out i hlt
                      have e4 : w4.drew.heap[box]? = wr.heap[box]? := by rw [← Hw4.out]; rfl
                      have e5 : w3.heap[box]? = wr.heap[box]? := (ho3.block box hbx).trans e4
                      refine ⟨?_, ?_, ?_, ?_⟩
                      · refine HJ.out.bel.trans (Below.trans ?_ (ho3.below hlo))
                        rw [← Hw4.out]
                        exact ((OnlyB.drewN (bs2 i) wr nq).trans (OnlyB.drewN (bs2 i) _ 1)).below hlo
                      · have hm4 : MatV B w4.drew g n C bs2 caps2 (addUp M2 done c i) := HJ.out.mat.keep (fun b _ => by rw [← Hw4.out]; rfl)
                        refine (hm4.put hlt ho3 hr3).congrM (fun r hr => ?_)
                        unfold Mx.putR addUp
                        by_cases e : r = i
                        · rw [if_pos e, if_pos ⟨by omega, by omega⟩, e, Hy.out]
                        · rw [if_neg e]
                          by_cases e2 : r < i ∧ r ≠ done
                          · rw [if_pos e2, if_pos ⟨by omega, e2.2⟩]
                          · rw [if_neg e2, if_neg (by omega)]
                      · have := HJ.out.boxc
                        unfold World.cell? at this ⊢; rw [e5]; exact this
                      · have := HJ.out.boxf
                        unfold World.frozen? at this ⊢; rw [e5]; exact this
                    have HI3 := Lib.hid hI3
                    clear hI3 ho3 hr3
                    go_wp2
                    go_round
                    case rel => exact ⟨i + 1, by omega, by go_num, HI3⟩
                    case measure => simp [intOf]; omega
            · go_wp2
              go_round
              case rel =>
                have hlt := HJ.out.mat.lt hn hC0
                have hsB : B ≤ wr.heap.size := Nat.le_trans hB HJ.out.bel.size
                refine ⟨wr.heap.size, c + 1, done + 1, Mx.upd L done c, bs2, caps2, Mx.stepR M' done (done + k) c, by simp, rfl, Lib.hid ⟨HJ.out.bel.alloc hsB _, ((HJ.out.mat.keep fun b hb => heap_alloc_lt _ (hlt b hb)).congrM (fun r hr => ?_)), Mx.by_step H.out.by_ _ _ _, H.out.rr.step H.out.by_ hd (by omega) hkn hne, fun d v hv => (Mx.ker_step H.out.by_ hv hd hkn hne).trans (H.out.ker d v hv), by omega, ?_, ?_, hsB, fun e => by have := hlt g (.inl rfl); omega, fun i hi e => by have := hlt _ (.inr ⟨i, hi, rfl⟩); omega⟩⟩
                · rw [Hst.out]
                  unfold addUp Mx.addR
                  by_cases e : r = done
                  · rw [if_neg (by omega), if_pos e, e]
                  · rw [if_pos ⟨by omega, e⟩, if_neg e]
                · simp
                · simp
              case measure =>
                have e1 : boxOf (.pointer (some ⟨box, 0, none⟩)) wo = c := by unfold boxOf; simp only [hbco.out]; omega
                have e2 : boxOf (.pointer (some ⟨wr.heap.size, 0, none⟩)) (wr.alloc (.cells #[.int .i64 ((c : Int) + 1)] 3)) = c + 1 := by unfold boxOf; simp
                rw [e1, e2]; omega
    · have hcases : (¬ (c : Int) < cols) ∨ ((c : Int) < cols ∧ ¬ (done : Int) < n) := by omega
      rcases hcases with h1 | ⟨h1, h2⟩
      · go_wp2
        go_ret
        obtain rfl : c = cols := by omega
        exact ⟨done, L, bs', caps', M', rfl, H.out.bel, H.out.mat, H.out.by_, H.out.rr, H.out.ker⟩
      · go_wp2
        go_ret
        obtain rfl : done = n := by omega
        exact ⟨done, L, bs', caps', M', rfl, H.out.bel, H.out.mat, H.out.by_, H.out.rr.full hcc, H.out.ker⟩
end Go.Proofs.YtolbdcmoblcakaaGreatDoor
/- Slices of rows of bytes that are read: what a walk is told of them, and how they come in. -/
namespace Go.Proofs.YtolbdcmoblcakaaGreatDoor
open Go.RowKit Go.ChangeShapes Go.WideShapes

/-- The slice at address a reads as the rows L of bytes, in blocks below n₀. -/
def RowsAt (n₀ : Nat) (w : World) (a : Option Addr) (L : List (List Nat)) : Prop :=
  L = [] ∨ ∃ (b off : Nat) (A : Nat → Option Addr) (C : Nat → Nat), a = some ⟨b, off, none⟩ ∧ b < n₀ ∧ ∀ i, i < L.length →
    w.cell? ⟨b, off + i, none⟩ = some (.slice (A i) (L[i]?.getD []).length (C i)) ∧ (L[i]?.getD []).length ≤ C i ∧ C i ≤ maxLen ∧ RowAt n₀ w (A i) (L[i]?.getD []) ∧ (A i = none → C i = 0)
theorem RowsAt.below {n₀ : Nat} {A B : World} (h : Below n₀ A B) {a : Option Addr} {L : List (List Nat)} : RowsAt n₀ A a L → RowsAt n₀ B a L
  | .inl e => .inl e
  | .inr ⟨b, off, X, C, e, hb, hc⟩ => .inr ⟨b, off, X, C, e, hb, fun j hj => ⟨(h.cell (p := ⟨b, off + j, none⟩) hb).trans (hc j hj).1, (hc j hj).2.1, (hc j hj).2.2.1, (hc j hj).2.2.2.1.below h, (hc j hj).2.2.2.2⟩⟩
theorem RowsAt.mono {n₀ n₁ : Nat} {A : World} (h : n₀ ≤ n₁) {a : Option Addr} {L : List (List Nat)} : RowsAt n₀ A a L → RowsAt n₁ A a L
  | .inl e => .inl e
  | .inr ⟨b, off, X, C, e, hb, hc⟩ => .inr ⟨b, off, X, C, e, by omega, fun j hj => ⟨(hc j hj).1, (hc j hj).2.1, (hc j hj).2.2.1, (hc j hj).2.2.2.1.mono h, (hc j hj).2.2.2.2⟩⟩
theorem RowsAt.take {n₀ : Nat} {A : World} {a : Option Addr} {L : List (List Nat)} (k : Nat) : RowsAt n₀ A a L → RowsAt n₀ A a (L.take k)
  | .inl e => .inl (by rw [e]; simp)
  | .inr ⟨b, off, X, C, e, hb, hc⟩ => .inr ⟨b, off, X, C, e, hb, fun j hj => by
      have hj' : j < L.length := by simp at hj; omega
      have hk : j < k := by simp at hj; omega
      rw [List.getElem?_take, if_pos hk]
      exact hc j hj'⟩
/-- All rows hold bytes. -/
def BytesR (L : List (List Nat)) : Prop := ∀ r ∈ L, Bytes r
theorem BytesR.at {L : List (List Nat)} (h : BytesR L) (i : Nat) : Bytes (L[i]?.getD []) := by
  by_cases hj : i < L.length
  · rw [List.getElem?_eq_getElem hj]; exact h _ (List.getElem_mem hj)
  · rw [List.getElem?_eq_none (by omega)]; exact fun x hx => absurd hx (by simp)

/-- What the walk is told of a slice of rows that came in. -/
structure RowsIn (w : World) (a : Option Addr) (len cap : Nat) (L : List (List Nat)) : Prop where
  len_ : L.length = len
  cap_ : len ≤ cap
  max_ : cap ≤ maxLen
  byt : BytesR L
  rows : RowsAt w.heap.size w a L

theorem slice_at {w : World} {x : Addr} {n : Nat} {V : Nat → Value} (h : ∀ i, i < n → w.cell? (x.add i) = some (V i)) (hp : 0 < n) : ∃ b off, x = ⟨b, off, none⟩ ∧ b < w.heap.size ∧ ∀ j, j < n → w.cell? ⟨b, off + j, none⟩ = some (V j) := by
  obtain ⟨b, off, spot⟩ := x
  have hspot : spot = none := by simpa [Addr.add] using World.cell?_spot (h 0 hp)
  subst hspot
  have hc : ∀ j, j < n → w.cell? ⟨b, off + j, none⟩ = some (V j) := fun j hj => by rw [← Go.WideShapes.add_plain]; exact h j hj
  refine ⟨b, off, rfl, ?_, hc⟩
  have h1 := hc 0 hp
  rcases Nat.lt_or_ge b w.heap.size with h | h
  · exact h
  · simp [World.cell?, Array.getElem?_eq_none h] at h1

theorem cellsRow : Tryz.prog.cellsOf 92 = 1 := by kernel_rfl
theorem cellsByte : Tryz.prog.cellsOf 5 = 1 := by kernel_rfl

theorem open_rows {H : Type} {enc : TypeId × Value → H} {W : World} {a : Option Addr} {len cap : Nat} {d : DataW H} {p : List MemPlace} (h : DataW.Trod enc Tryz.prog W 0 (fun _ => true) true 90 (.slice a len cap) d p) :
    ∃ L, RowsIn W a len cap L := by
  obtain ⟨fuel, hf⟩ := h
  rcases Go.Deep.open_int_rows Tryz.underlying90 Tryz.underlying92 Tryz.underlying5 cellsRow cellsByte hf with ⟨hcs, _⟩ | ⟨x, l, c, A, Ln, C, Z, hcs, _, hl, hm, _, hr⟩
  · simp [Value.cells] at hcs
    obtain ⟨rfl, rfl, rfl⟩ := hcs
    exact ⟨[], rfl, Nat.le_refl _, by simp [maxLen], fun _ h => absurd h (by simp), .inl rfl⟩
  · simp [Value.cells] at hcs
    obtain ⟨rfl, rfl, rfl⟩ := hcs
    have each : ∀ i, i < cap → ∃ l : List Nat, l.length = Ln i ∧ Bytes l ∧ RowAt W.heap.size W (A i) l := fun i hi => by
      obtain ⟨_, h1, h2, h3, h4, h5, h6⟩ := hr i hi
      have : IsRow .u8 W (A i) (Ln i) (C i) (Z i) := by
        cases ha : A i with
        | none =>
          have h0 := h5 ha
          exact .inl ⟨rfl, by omega, h0, List.length_eq_zero_iff.1 (by omega)⟩
        | some y => exact .inr ⟨y, rfl, h1, h2, h3, fun j hj => (h6 y ha).2 j (by omega), h4⟩
      obtain ⟨l, g1, g2, g3, _⟩ := row_of_isRow this
      exact ⟨l, g1, g2, g3⟩
    obtain ⟨f, hff⟩ := Go.Deep.choose_lt each
    refine ⟨(List.range len).map f, by simp, hl, hm, fun r hr => ?_, ?_⟩
    · obtain ⟨i, hi, rfl⟩ := List.mem_map.1 hr
      exact (hff i (by have := List.mem_range.1 hi; omega)).2.1
    · by_cases h0 : len = 0
      · left; subst h0; rfl
      · obtain ⟨b, off, rfl, hb, hc⟩ := slice_at (fun i hi => (hr i hi).1) (show 0 < cap by omega)
        refine .inr ⟨b, off, A, C, rfl, hb, fun i hi => ?_⟩
        simp at hi
        have hi2 : i < cap := by omega
        have e : ((List.range len).map f)[i]?.getD [] = f i := by simp [hi]
        rw [e, (hff i hi2).1]
        exact ⟨hc i hi2, (hr i hi2).2.1, (hr i hi2).2.2.1, (hff i hi2).2.2, (hr i hi2).2.2.2.2.2.1⟩

/-! ### a matrix as rows of bytes -/
/-- the entries of a list of rows. -/
def ent (L : List (List Nat)) : Nat → Nat → Nat := fun i j => (L[i]?.getD [])[j]?.getD 0
/-- so many rows, columns of a matrix. -/
def rowsOf (M : Nat → Nat → Nat) (n C : Nat) : List (List Nat) := (List.range n).map fun i => (List.range C).map (M i)
theorem rowsOf_length (M : Nat → Nat → Nat) (n C : Nat) : (rowsOf M n C).length = n := by simp [rowsOf]
theorem rowsOf_at (M : Nat → Nat → Nat) {n C i : Nat} (hi : i < n) : (rowsOf M n C)[i]?.getD [] = (List.range C).map (M i) := by simp [rowsOf, hi]
theorem ent_rowsOf (M : Nat → Nat → Nat) {n C i j : Nat} (hi : i < n) (hj : j < C) : ent (rowsOf M n C) i j = M i j := by unfold ent; rw [rowsOf_at M hi]; simp [hj]
theorem rowsOf_ent {L : List (List Nat)} {C : Nat} (h : ∀ i, i < L.length → (L[i]?.getD []).length = C) : rowsOf (ent L) L.length C = L := by
  apply List.ext_getElem
  · simp [rowsOf]
  · intro i h1 h2
    have hC := h i h2
    rw [List.getElem?_eq_getElem h2] at hC
    simp at hC
    simp only [rowsOf, List.getElem_map, List.getElem_range]
    apply List.ext_getElem
    · simp [hC]
    · intro j h3 h4
      simp [ent, h2, h4]
theorem ent_by {L : List (List Nat)} (h : BytesR L) : ∀ i j, ent L i j < 256 := fun i j => (h.at i).at j
theorem bytesR_rowsOf {M : Nat → Nat → Nat} (h : ∀ i j, M i j < 256) (n C : Nat) : BytesR (rowsOf M n C) := fun r hr x hx => by
  obtain ⟨i, _, rfl⟩ := List.mem_map.1 hr
  obtain ⟨j, _, rfl⟩ := List.mem_map.1 hx
  exact h i j
/-- a matrix that the document takes for one: so many rows, each of as many columns. -/
def isMat (L : List (List Nat)) : Bool := decide (1 ≤ L.length ∧ L.length ≤ 16 ∧ ∀ r ∈ L, 1 ≤ r.length ∧ r.length ≤ 16 ∧ r.length = (L[0]?.getD []).length)
end Go.Proofs.YtolbdcmoblcakaaGreatDoor
