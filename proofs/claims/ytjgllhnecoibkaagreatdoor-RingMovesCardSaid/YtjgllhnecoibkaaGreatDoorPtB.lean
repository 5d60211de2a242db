/- Walks: strconv.Itoa of a digit; slices of ring points; ring.points. -/
import Derived.Test.YtjgllhnecoibkaaGreatDoorPtA
import Derived.Test.YtjgllhnecoibkaaGreatDoorTxs
import Derived.Test.YtjgllhnecoibkaaGreatDoorSums
namespace Go.Proofs.YtjgllhnecoibkaaGreatDoor
open Go.RowKit

/-- a digit's text. -/
def digT (i : Nat) : ByteArray := ⟨#[UInt8.ofNat (48 + i)]⟩
set_option maxHeartbeats 1000000 in
theorem small_walk (i : Nat) (hi : i < 8) (w : World) : Calls Tryz.prog 135 #[.int .i64 i] w fun e w' => e = .returned (.string (digT i)) ∧ w = w' := by
  rcases (show i = 0 ∨ i = 1 ∨ i = 2 ∨ i = 3 ∨ i = 4 ∨ i = 5 ∨ i = 6 ∨ i = 7 by omega) with rfl | rfl | rfl | rfl | rfl | rfl | rfl | rfl
  all_goals
    go_enter Tryz.func135, Tryz.ntmps135
    go_wp2
    go_ret
    exact ⟨rfl, rfl⟩
set_option maxHeartbeats 1000000 in
theorem itoa_walk (i : Nat) (hi : i < 8) (w : World) : Calls Tryz.prog 56 #[.int .i64 i] w fun e w' => e = .returned (.string (digT i)) ∧ w = w' := by
  have H1 := Lib.hid (small_walk i hi w)
  have H2 : Hid (Calls Tryz.prog 114 #[.int .i64 i, .int .i64 10] w fun e w' => e = .returned (.string (digT i)) ∧ w = w') := by
    have g1 : (0 : Int) ≤ i := by omega
    have g2 : (i : Int) < 100 := by omega
    have g2d : decide (i < 100) = true := decide_eq_true (by omega)
    refine Lib.hid ?_
    go_enter Tryz.func114, Tryz.ntmps114
    go_wp2_with fail
    refine H1.out.mono ?_
    rintro e w' ⟨rfl, rfl⟩
    go_wp2
    go_ret
    exact ⟨rfl, rfl⟩
  have H3 : Hid (Calls Tryz.prog 89 #[.int .i64 i] w fun e w' => e = .returned (.string (digT i)) ∧ w = w') := by
    refine Lib.hid ?_
    go_enter Tryz.func89, Tryz.ntmps89
    go_wp2_with fail
    refine H2.out.mono ?_
    rintro e w' ⟨rfl, rfl⟩
    go_wp2
    go_ret
    exact ⟨rfl, rfl⟩
  go_enter Tryz.func56, Tryz.ntmps56
  go_wp2_with fail
  refine H3.out.mono ?_
  rintro e w' ⟨rfl, rfl⟩
  go_wp2
  go_ret
  exact ⟨rfl, rfl⟩
/-- the place of a node's point. -/
def ringH (s : ByteArray) (k : Nat) : Nat := Sm.hash (Sm.nats (s ++ ⟨#[35]⟩ ++ digT k))

/-! ### slices of points -/
def ptV : List Rg.Pt → List Value
  | [] => []
  | x :: r => encPt x ++ ptV r
theorem ptV_append : ∀ (a b : List Rg.Pt), ptV (a ++ b) = ptV a ++ ptV b
  | [], _ => rfl
  | x :: r, b => by show encPt x ++ ptV (r ++ b) = (encPt x ++ ptV r) ++ ptV b; rw [ptV_append r b, List.append_assoc]
theorem ptV_length : ∀ l : List Rg.Pt, (ptV l).length = l.length * 3
  | [] => rfl
  | x :: r => by
    show (encPt x ++ ptV r).length = (r.length + 1) * 3
    rw [List.length_append, ptV_length r]
    show 3 + _ = _
    omega
theorem ptV_at : ∀ (l : List Rg.Pt) (i j : Nat), i < l.length → j < 3 → (ptV l)[i * 3 + j]? = (encPt (l[i]?.getD (0, ⟨#[]⟩, 0)))[j]?
  | [], _, _, h, _ => by simp at h
  | x :: r, 0, j, _, hj => by
    show (encPt x ++ ptV r)[0 * 3 + j]? = _
    rw [List.getElem?_append_left (by show 0 * 3 + j < 3; omega)]
    simp
  | x :: r, i + 1, j, h, hj => by
    show (encPt x ++ ptV r)[(i + 1) * 3 + j]? = _
    rw [List.getElem?_append_right (by show 3 ≤ (i + 1) * 3 + j; omega)]
    have := ptV_at r i j (by simpa using h) hj
    have e : (i + 1) * 3 + j - (encPt x).length = i * 3 + j := by show (i + 1) * 3 + j - 3 = _; omega
    rw [e, this]
    simp
def OwnP (B : Nat) (w : World) (v : Value) (l : List Rg.Pt) : Prop := w.ownsRow B 77 3 v l.length (ptV l)
theorem OwnP.nil (B : Nat) (w : World) : OwnP B w (.slice none 0 0) [] := World.ownsRow_nil _ _ _ _
theorem OwnP.lt {B : Nat} {w : World} {v : Value} {l : List Rg.Pt} (h : OwnP B w v l) : ∀ k, v.ownBlock = some k → B ≤ k ∧ k < w.heap.size := World.ownsRow.lt h
theorem info_point : (Tryz.prog.info? 77).map (fun i => (i.zero, i.size, i.bytes)) = some (some (.agg #[.int .u32 0, .string ⟨#[]⟩, .int .i64 0]), 3, 32) := by kernel_rfl
theorem append_pt {ops : Array Oper} {rest : List Oper} {o : Oper} {a : Act} {Q : Exit → Act → World → Prop} {w0 : World} (s x : Nat) (hgd : o.guard = none)
    (ho : o.op = .call { callee := .builtin .append, args := #[.tmp s, .tmp x], argTypes := #[71, 71] }) (B : Nat) (v : Value) (l : List Rg.Pt) (p : Rg.Pt)
    (hs : a.eval (.tmp s) = v) (hx : a.eval (.tmp x) = .slice (some ⟨w0.heap.size, 0, none⟩) 1 1) (hown : OwnP B w0 v l) (hl : l.length ≤ 1000000) (hB : B ≤ w0.heap.size)
    (h : ∀ v' w', OwnP B w' v' (l ++ [p]) → (w0.alloc (.cells #[.int .u32 (p.1 : Nat), .string p.2.1, .int .i64 (p.2.2 : Nat)] 77)).grownBy w' v.ownBlock → (v'.ownBlock = v.ownBlock ∨ v'.ownBlock = some (w0.heap.size + 1)) → wpList Tryz.prog ops Q rest (a.put o.dst v') w') :
    wpList Tryz.prog ops Q (o :: rest) a (w0.alloc (.cells #[.int .u32 (p.1 : Nat), .string p.2.1, .int .i64 (p.2.2 : Nat)] 77)) := by
  obtain ⟨i, hi, hz0, hz1, hz2⟩ := info_parts info_point
  have hown' : (w0.alloc (.cells #[.int .u32 (p.1 : Nat), .string p.2.1, .int .i64 (p.2.2 : Nat)] 77)).ownsRow B 77 3 v l.length (ptV l) := World.ownsRow.alloc hown _
  refine wpList_append_own_at _ hgd (.tmp s) (.tmp x) 71 ho B 77 i _ 3 32 Tryz.underlying71 hi hz0 hz1 hz2 rfl (by decide) v l.length (ptV l) hs hown' ⟨w0.heap.size, 0, none⟩ 1 1 (encPt p) hx rfl (fun j u hj => ?_) (fun u hu => ?_) (by unfold maxLen; omega) (by omega) (by simp; omega) ?_
  · have hj2 : j < 3 := (List.getElem?_eq_some_iff.1 hj).1
    rw [Go.WideShapes.add_plain, Nat.zero_add, World.cell?_alloc_at _ _ _ _ rfl]
    rcases (show j = 0 ∨ j = 1 ∨ j = 2 by omega) with rfl | rfl | rfl <;> simpa [encPt] using hj
  · simp [encPt] at hu
    rcases hu with rfl | rfl | rfl <;> rfl
  · intro v' w' h1 h2 _ h4
    refine h v' w' ?_ h2 (by simpa using h4)
    unfold OwnP
    rw [ptV_append, List.length_append]
    show w'.ownsRow B 77 3 v' (l.length + 1) (ptV l ++ (encPt p ++ []))
    rw [List.append_nil]
    exact h1
theorem pts_take (L : List ByteArray) {k : Nat} (hk : k < L.length) : Rg.pts ringH (L.take (k + 1)) = Rg.pts ringH (L.take k) ++ (List.range 8).map fun j => (ringH (L[k]?.getD ⟨#[]⟩) j, L[k]?.getD ⟨#[]⟩, j) := by
  unfold Rg.pts
  rw [List.take_succ_eq_append_getElem hk, List.flatMap_append, List.getElem?_eq_getElem hk]
  simp
theorem pts_length (L : List ByteArray) : (Rg.pts ringH L).length = L.length * 8 := by
  unfold Rg.pts
  induction L with
  | nil => rfl
  | cons a r ih => rw [List.flatMap_cons, List.length_append, ih]; simp; omega
end Go.Proofs.YtjgllhnecoibkaaGreatDoor
