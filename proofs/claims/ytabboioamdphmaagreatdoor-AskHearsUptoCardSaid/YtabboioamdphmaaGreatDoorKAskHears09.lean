/- Walks: slices.Clone of bytes; matrix.Check; the document's IsMatrix; the law's wideMatrix. -/
import Derived.Test.YtabboioamdphmaaGreatDoorKAskHears07
import Derived.Test.YtabboioamdphmaaGreatDoorKAskHears08
namespace Go.Proofs.YtabboioamdphmaaGreatDoor
open Go.RowKit

set_option maxHeartbeats 1000000 in
set_option maxRecDepth 100000 in
/-- slices.Clone of a row that is not nil. -/
theorem clone_walk (n₀ : Nat) (ad : Addr) (c : Nat) (l : List Nat) (w : World) (hr : RowAt n₀ w (some ad) l) (hn : n₀ ≤ w.heap.size) (hl : l.length ≤ 140737488355328) :
    Calls Tryz.prog 121 #[.slice (some ad) l.length c] w fun e w' => (∃ v, e = .returned v ∧ OwnB w.heap.size w' v l) ∧ Below w.heap.size w w' := by
  have q := fun (w : World) (a : Option Addr) (n c n' c' : Nat) => Lib.run_eql_slice_nil (P := Tryz.prog) w 112 _ a n c n' c' Tryz.underlying112
  have hx : (w.alloc (.cells #[] 5)).heap.size = w.heap.size + 1 := by simp
  have hown : OwnB w.heap.size (w.alloc (.cells #[] 5)) (.slice (some ⟨w.heap.size, 0, none⟩) 0 0) [] := World.ownsRow_made w #[] 0 (Nat.le_refl _) (Nat.zero_le _) rfl
  have hr2 : RowAt n₀ (w.alloc (.cells #[] 5)) (some ad) l := hr.below ((Below.refl _ _).alloc hn _)
  have Hown := Lib.hid hown
  have Hr := Lib.hid hr2
  clear hown hr hr2 hx
  go_enter Tryz.func121, Tryz.ntmps121
  go_wp2_with (at_builtin; refine append_row 5 6 rfl rfl w.heap.size n₀ (.slice (some ⟨w.heap.size, 0, none⟩) 0 0) [] l (some ad) c rfl rfl Hown.out Hr.out (fun e => by cases e) (by simpa using hl) (by simp) ?_; intro v' w1 h1 h2 _)
  have hB : Below w.heap.size w w1 := ((Below.refl _ w).alloc (Nat.le_refl _) _).grown h2 (by simp) (by intro k hk; exact Nat.le_of_eq (Option.some.inj hk))
  have h3 : OwnB w.heap.size w1 v' l := h1
  clear h1 h2
  have H3 := Lib.hid h3
  clear h3
  go_wp2
  go_ret
  exact ⟨⟨v', rfl, H3.out⟩, hB⟩

/-! ### is it a matrix? -/
/-- so many rows, columns. -/
structure IsMat (L : List (List Nat)) : Prop where
  n1 : 1 ≤ L.length
  n2 : L.length ≤ 16
  c1 : 1 ≤ (L[0]?.getD []).length
  c2 : (L[0]?.getD []).length ≤ 16
  all : ∀ i, i < L.length → (L[i]?.getD []).length = (L[0]?.getD []).length
theorem notMat {L : List (List Nat)} (h : ¬ IsMat L) (h1 : 1 ≤ L.length) (h2 : L.length ≤ 16) (h3 : 1 ≤ (L[0]?.getD []).length) (h4 : (L[0]?.getD []).length ≤ 16) : ∃ i, i < L.length ∧ (L[i]?.getD []).length ≠ (L[0]?.getD []).length :=
  Classical.byContradiction fun hn => h ⟨h1, h2, h3, h4, fun i hi => Classical.byContradiction fun e => hn ⟨i, hi, e⟩⟩

set_option maxRecDepth 100000 in
theorem chk_pred (a0 a1 : Option Addr) (b off n cap k c c0 cap0 : Nat) (box : Addr) (w : World) (hn : 0 < n) (hb : w.cell? box = some (.slice (some ⟨b, off, none⟩) n cap)) (hc : w.cell? ⟨b, off, none⟩ = some (.slice a0 c0 cap0)) :
    Calls Tryz.prog 135 #[.slice a1 k c, .pointer (some box)] w fun e w' => e = .returned (.bool (decide (k ≠ c0))) ∧ w = w' := by
  have hn2 : (0 : Int) < n := by omega
  by_cases hx : k = c0
  · subst hx
    go_enter Tryz.func135, Tryz.ntmps135
    go_wp2
    go_ret
    exact ⟨by simp, rfl⟩
  · have hx0 : ((k : Int) != (c0 : Int)) = true := by simp; omega
    have hx1 : (k != c0) = true := by simpa using hx
    go_enter Tryz.func135, Tryz.ntmps135
    go_wp2
    go_ret
    exact ⟨by simp [hx], rfl⟩
set_option maxRecDepth 100000 in
set_option maxHeartbeats 1000000 in
theorem chk_find (g off m cap c0 : Nat) (A : Nat → Option Addr) (Ln C : Nat → Nat) (box : Addr) (w : World) (hm : m ≤ maxLen) (h0 : 0 < m) (hc0 : Ln 0 = c0) (hb : w.cell? box = some (.slice (some ⟨g, off, none⟩) m cap))
    (hh : ∀ j, j < m → w.cell? ⟨g, off + j, none⟩ = some (.slice (A j) (Ln j) (C j))) :
    Calls Tryz.prog 136 #[.slice (some ⟨g, off, none⟩) m cap, .func (.func 135) #[] #[.pointer (some box)]] w
      fun e w' => (((∀ j, j < m → Ln j = c0) ∧ e = .returned (.int .i64 (-1))) ∨ ∃ k, k < m ∧ Ln k ≠ c0 ∧ e = .returned (.int .i64 (k : Nat))) ∧ w = w' := by
  have hm' : m ≤ 9223372036854775807 := hm
  have hz0 := hh 0 h0
  rw [hc0] at hz0
  have Hz0 := Lib.hid hz0
  have Hh := Lib.hid hh
  have Hc0 := Lib.hid hc0
  clear hh hz0 hc0
  go_enter Tryz.func136, Tryz.ntmps136
  go_wp2
  go_loop [8] (fun vi => ∃ k : Nat, k ≤ m ∧ vi = .int .i64 k ∧ ∀ j, j < k → Ln j = c0) (fun i => m - (intOf i).toNat)
  case atStart => exact ⟨0, by omega, rfl, fun j hj => by omega⟩
  case round =>
    obtain ⟨k, hk, rfl, hz⟩ := hrel
    have Hz := Lib.hid hz; clear hz
    have hk2 : k < m ∨ k = m := by omega
    rcases hk2 with hlt | rfl
    · have hlt2 : (k : Int) < m := by omega
      have h1 := Hh.out k hlt
      have Hp := Lib.hid (chk_pred (A 0) (A k) g off m cap (Ln k) (C k) c0 (C 0) box w h0 hb Hz0.out)
      by_cases hx : Ln k = c0
      · have e1 : decide (Ln k ≠ c0) = false := by simp [hx]
        rw [e1] at Hp
        have Hx := Lib.hid hx; clear hx
        go_wp2_with (go_at_call 135; refine Hp.out.mono ?_; rintro e w' ⟨rfl, rfl⟩)
        go_round
        case rel => exact ⟨k + 1, by omega, by go_num, fun j hj => by
          by_cases e : j = k
          · rw [e, Hx.out]
          · exact Hz.out j (by omega)⟩
        case measure => simp [intOf]; omega
      · have e1 : decide (Ln k ≠ c0) = true := by simp [hx]
        rw [e1] at Hp
        go_wp2_with (go_at_call 135; refine Hp.out.mono ?_; rintro e w' ⟨rfl, rfl⟩)
        go_ret
        exact ⟨.inr ⟨k, hlt, hx, rfl⟩, rfl⟩
    · go_wp2
      go_ret
      exact ⟨.inl ⟨Hz.out, rfl⟩, rfl⟩
set_option maxRecDepth 100000 in
theorem chk_contains (g off m cap c0 : Nat) (A : Nat → Option Addr) (Ln C : Nat → Nat) (box : Addr) (w : World) (hm : m ≤ maxLen) (h0 : 0 < m) (hc0 : Ln 0 = c0) (hb : w.cell? box = some (.slice (some ⟨g, off, none⟩) m cap))
    (hh : ∀ j, j < m → w.cell? ⟨g, off + j, none⟩ = some (.slice (A j) (Ln j) (C j))) :
    Calls Tryz.prog 134 #[.slice (some ⟨g, off, none⟩) m cap, .func (.func 135) #[] #[.pointer (some box)]] w
      fun e w' => (((∀ j, j < m → Ln j = c0) ∧ e = .returned (.bool false)) ∨ (∃ k, k < m ∧ Ln k ≠ c0) ∧ e = .returned (.bool true)) ∧ w = w' := by
  have H := Lib.hid (chk_find g off m cap c0 A Ln C box w hm h0 hc0 hb hh)
  clear hh hb hc0
  go_enter Tryz.func134, Tryz.ntmps134
  go_wp2_with fail
  refine H.out.mono ?_
  rintro e w' ⟨hres, rfl⟩
  rcases hres with ⟨hz, rfl⟩ | ⟨k, hk, hne, rfl⟩
  · have Hz := Lib.hid hz; clear hz
    go_wp2
    go_ret
    exact ⟨.inl ⟨Hz.out, rfl⟩, rfl⟩
  · have hk0 : (0 : Int) ≤ (k : Int) := by omega
    have Hne := Lib.hid hne; clear hne
    go_wp2
    go_ret
    exact ⟨.inr ⟨⟨k, hk, Hne.out⟩, by simp⟩, rfl⟩
end Go.Proofs.YtabboioamdphmaaGreatDoor
/- Walks: matrix.Check; the document's IsMatrix; the law's wideMatrix. -/
namespace Go.Proofs.YtabboioamdphmaaGreatDoor
open Go.RowKit

set_option maxRecDepth 100000 in
set_option maxHeartbeats 1000000 in
theorem check_few (len cap : Nat) (a : Option Addr) (w : World) (z : Value) (hz : w.cell? ⟨2, 0, none⟩ = some z) (h : len < 1 ∨ 16 < len) :
    Calls Tryz.prog 120 #[.slice a len cap] w fun e w' => e = .returned z ∧ Below w.heap.size w w' := by
  have hz2 : (w.alloc (.cells #[.slice a len cap] 107)).cell? ⟨2, 0, none⟩ = some z := ((Below.refl _ w).alloc (Nat.le_refl _) _).cell (lt_of_cell hz) ▸ hz
  rcases h with h | h
  · have h0 : (len : Int) < 1 := by omega
    go_enter Tryz.func120, Tryz.ntmps120
    go_wp2
    go_ret
    exact ⟨rfl, (Below.refl _ w).alloc (Nat.le_refl _) _⟩
  · have h0 : ¬ (len : Int) < 1 := by omega
    have h1 : (16 : Int) < len := by omega
    go_enter Tryz.func120, Tryz.ntmps120
    go_wp2
    go_ret
    exact ⟨rfl, (Below.refl _ w).alloc (Nat.le_refl _) _⟩
set_option maxRecDepth 100000 in
set_option maxHeartbeats 1000000 in
theorem check_cols (b off len cap c0 cap0 : Nat) (a0 : Option Addr) (w : World) (z : Value) (hz : w.cell? ⟨2, 0, none⟩ = some z) (hn : 1 ≤ len) (hn2 : len ≤ 16) (hc : w.cell? ⟨b, off, none⟩ = some (.slice a0 c0 cap0)) (h : c0 < 1 ∨ 16 < c0) :
    Calls Tryz.prog 120 #[.slice (some ⟨b, off, none⟩) len cap] w fun e w' => e = .returned z ∧ Below w.heap.size w w' := by
  have hz2 : (w.alloc (.cells #[.slice (some ⟨b, off, none⟩) len cap] 107)).cell? ⟨2, 0, none⟩ = some z := ((Below.refl _ w).alloc (Nat.le_refl _) _).cell (lt_of_cell hz) ▸ hz
  have hc2 : (w.alloc (.cells #[.slice (some ⟨b, off, none⟩) len cap] 107)).cell? ⟨b, off, none⟩ = some (.slice a0 c0 cap0) := ((Below.refl _ w).alloc (Nat.le_refl _) _).cell (lt_of_cell hc) ▸ hc
  have g0 : ¬ (len : Int) < 1 := by omega
  have g1 : ¬ (16 : Int) < len := by omega
  have g2 : (0 : Int) < len := by omega
  rcases h with h | h
  · have h0 : (c0 : Int) < 1 := by omega
    go_enter Tryz.func120, Tryz.ntmps120
    go_wp2
    go_ret
    exact ⟨rfl, (Below.refl _ w).alloc (Nat.le_refl _) _⟩
  · have h0 : ¬ (c0 : Int) < 1 := by omega
    have h1 : (16 : Int) < c0 := by omega
    go_enter Tryz.func120, Tryz.ntmps120
    go_wp2
    go_ret
    exact ⟨rfl, (Below.refl _ w).alloc (Nat.le_refl _) _⟩
set_option maxRecDepth 100000 in
set_option maxHeartbeats 1000000 in
theorem check_all (b off len cap c0 : Nat) (A : Nat → Option Addr) (Ln C : Nat → Nat) (w : World) (z : Value) (hz : w.cell? ⟨2, 0, none⟩ = some z) (hn : 1 ≤ len) (hn2 : len ≤ 16)
    (hh : ∀ j, j < len → w.cell? ⟨b, off + j, none⟩ = some (.slice (A j) (Ln j) (C j))) (hc0 : Ln 0 = c0) (h1 : 1 ≤ c0) (h2 : c0 ≤ 16) :
    Calls Tryz.prog 120 #[.slice (some ⟨b, off, none⟩) len cap] w fun e w' => (((∀ j, j < len → Ln j = c0) ∧ e = .returned .nilIface) ∨ (∃ j, j < len ∧ Ln j ≠ c0) ∧ e = .returned z) ∧ Below w.heap.size w w' := by
  have hBl : Below w.heap.size w (w.alloc (.cells #[.slice (some ⟨b, off, none⟩) len cap] 107)) := (Below.refl _ w).alloc (Nat.le_refl _) _
  have hz2 : (w.alloc (.cells #[.slice (some ⟨b, off, none⟩) len cap] 107)).cell? ⟨2, 0, none⟩ = some z := hBl.cell (lt_of_cell hz) ▸ hz
  have hh2 : ∀ j, j < len → (w.alloc (.cells #[.slice (some ⟨b, off, none⟩) len cap] 107)).cell? ⟨b, off + j, none⟩ = some (.slice (A j) (Ln j) (C j)) := fun j hj => hBl.cell (p := ⟨b, off + j, none⟩) (lt_of_cell (hh 0 (by omega)) : b < w.heap.size) ▸ hh j hj
  have hc2 := hh2 0 (by omega)
  rw [hc0, Nat.add_zero] at hc2
  have hf := chk_contains b off len cap c0 A Ln C ⟨w.heap.size, 0, none⟩ _ (by unfold maxLen; omega) (by omega) hc0 (by simp) hh2
  have Hf := Lib.hid hf
  have g0 : ¬ (len : Int) < 1 := by omega
  have g1 : ¬ (16 : Int) < len := by omega
  have g2 : (0 : Int) < len := by omega
  have g3 : ¬ (c0 : Int) < 1 := by omega
  have g4 : ¬ (16 : Int) < c0 := by omega
  clear hf hh hh2 hz hc0
  go_enter Tryz.func120, Tryz.ntmps120
  go_wp2_with fail
  refine Hf.out.mono ?_
  rintro e w' ⟨hres, rfl⟩
  rcases hres with ⟨hzz, rfl⟩ | ⟨hne, rfl⟩
  · have Hz := Lib.hid hzz; clear hzz
    go_wp2
    go_ret
    exact ⟨.inl ⟨Hz.out, rfl⟩, hBl⟩
  · have Hz := Lib.hid hne; clear hne
    go_wp2
    go_ret
    exact ⟨.inr ⟨Hz.out, rfl⟩, hBl⟩
/-- matrix.Check. -/
theorem check_yes (n₀ : Nat) (a : Option Addr) (cap : Nat) (L : List (List Nat)) (w : World) (z : Value) (hz : w.cell? ⟨2, 0, none⟩ = some z) (hr : RowsAt n₀ w a L) (h : IsMat L) :
    Calls Tryz.prog 120 #[.slice a L.length cap] w fun e w' => e = .returned .nilIface ∧ Below w.heap.size w w' := by
  rcases hr with rfl | ⟨b, off, A, C, rfl, hb, hc⟩
  · exact absurd h.n1 (by simp)
  refine (check_all b off L.length cap _ A (fun i => (L[i]?.getD []).length) C w z hz h.n1 h.n2 (fun j hj => (hc j hj).1) rfl h.c1 h.c2).mono ?_
  rintro e w' ⟨h1 | ⟨⟨j, hj, hne⟩, _⟩, hB⟩
  · exact ⟨h1.2, hB⟩
  · exact absurd (h.all j hj) hne
theorem check_no (n₀ : Nat) (a : Option Addr) (cap : Nat) (L : List (List Nat)) (w : World) (z : Value) (hz : w.cell? ⟨2, 0, none⟩ = some z) (hr : RowsAt n₀ w a L) (h : ¬ IsMat L) :
    Calls Tryz.prog 120 #[.slice a L.length cap] w fun e w' => e = .returned z ∧ Below w.heap.size w w' := by
  by_cases h1 : L.length < 1 ∨ 16 < L.length
  · exact check_few _ _ _ w z hz h1
  rcases hr with rfl | ⟨b, off, A, C, rfl, hb, hc⟩
  · exact absurd (.inl (by simp)) h1
  have hc0 := (hc 0 (by omega)).1
  rw [Nat.add_zero] at hc0
  by_cases h2 : (L[0]?.getD []).length < 1 ∨ 16 < (L[0]?.getD []).length
  · exact check_cols b off _ cap _ _ _ w z hz (by omega) (by omega) hc0 h2
  refine (check_all b off L.length cap _ A (fun i => (L[i]?.getD []).length) C w z hz (by omega) (by omega) (fun j hj => (hc j hj).1) rfl (by omega) (by omega)).mono ?_
  rintro e w' ⟨h3 | h3, hB⟩
  · obtain ⟨i, hi, hne⟩ := notMat h (by omega) (by omega) (by omega) (by omega)
    exact absurd (h3.1 i hi) hne
  · exact ⟨h3.2, hB⟩

/-! ### the document's IsMatrix -/
end Go.Proofs.YtabboioamdphmaaGreatDoor
/- Slices of rows of the call's own that are only read from then on. -/
namespace Go.Proofs.YtabboioamdphmaaGreatDoor
open Go.RowKit

theorem info_row : (Tryz.prog.info? 112).map (fun i => (i.zero, i.size, i.bytes)) = some (some (.slice none 0 0), 1, 24) := by kernel_rfl
/-- append(s, r) of a row. -/
theorem append_rowv {ops : Array Oper} {rest : List Oper} {o : Oper} {a : Act} {Q : Exit → Act → World → Prop} {w0 : World} (s x : Nat) (hgd : o.guard = none)
    (ho : o.op = .call { callee := .builtin .append, args := #[.tmp s, .tmp x], argTypes := #[107, 107] }) (B : Nat) (v : Value) (us : List Value) (ad : Option Addr) (n c : Nat)
    (hs : a.eval (.tmp s) = v) (hx : a.eval (.tmp x) = .slice (some ⟨w0.heap.size, 0, none⟩) 1 1) (hown : Own1 112 B w0 v us) (hl : us.length ≤ 1000000) (hB : B ≤ w0.heap.size)
    (h : ∀ v' w', Own1 112 B w' v' (us ++ [.slice ad n c]) → (w0.alloc (.cells #[.slice ad n c] 112)).grownBy w' v.ownBlock → (v'.ownBlock = v.ownBlock ∨ v'.ownBlock = some (w0.heap.size + 1)) → wpList Tryz.prog ops Q rest (a.put o.dst v') w') :
    wpList Tryz.prog ops Q (o :: rest) a (w0.alloc (.cells #[.slice ad n c] 112)) :=
  append_one 107 112 (.slice none 0 0) 24 Tryz.underlying107 info_row rfl s x hgd ho B v us _ rfl hs hx hown (by omega) (by unfold maxLen; omega) hB h

theorem RowAt.heap {n₀ : Nat} {w w' : World} {l : List Nat} {ad : Option Addr} (h : RowAt n₀ w ad l) (e : ∀ p, ad = some p → p.block < n₀ → w'.heap[p.block]? = w.heap[p.block]?) : RowAt n₀ w' ad l := by
  rcases h with h | ⟨b, off, rfl, hb, hc⟩
  · exact .inl h
  · refine .inr ⟨b, off, rfl, hb, fun j hj => ?_⟩
    have := hc j hj
    have e1 := e _ rfl hb
    unfold World.cell? at this ⊢
    rw [e1]; exact this

/-- v owns rows that read as L. -/
structure OwnR (B : Nat) (w : World) (v : Value) (L : List (List Nat)) (A : Nat → Option Addr) (C : Nat → Nat) : Prop where
  own : Own1 112 B w v ((List.range L.length).map fun i => Value.slice (A i) (L[i]?.getD []).length (C i))
  row : ∀ i, i < L.length → (L[i]?.getD []).length ≤ C i ∧ C i ≤ maxLen ∧ RowAt w.heap.size w (A i) (L[i]?.getD []) ∧ (A i = none → C i = 0)
  off : ∀ i, i < L.length → ∀ p, A i = some p → v.ownBlock ≠ some p.block
theorem OwnR.nil (B : Nat) (w : World) (A : Nat → Option Addr) (C : Nat → Nat) : OwnR B w (.slice none 0 0) [] A C :=
  ⟨Own1.nil _ _ _, fun _ h => by simp at h, fun _ h => by simp at h⟩
theorem OwnR.kept {B : Nat} {w w' : World} {v : Value} {L : List (List Nat)} {A : Nat → Option Addr} {C : Nat → Nat} (h : OwnR B w v L A C) {r : Option Nat} (hg : w.grownBy w' r) (h1 : ∀ i, i < L.length → ∀ p, A i = some p → r ≠ some p.block) (h2 : ∀ k, v.ownBlock = some k → r ≠ some k) : OwnR B w' v L A C :=
  ⟨h.own.kept hg (by
      cases e : v.ownBlock with
      | none => exact .inl rfl
      | some k => exact .inr (fun e2 => h2 k e e2.symm)),
    fun i hi => ⟨(h.row i hi).1, (h.row i hi).2.1, ((h.row i hi).2.2.1.heap (fun p e hp => hg.block _ hp (fun e2 => h1 i hi p e e2.symm))).mono hg.size, (h.row i hi).2.2.2⟩, h.off⟩
theorem OwnR.below {B n₀ : Nat} {w w' : World} {v : Value} {L : List (List Nat)} {A : Nat → Option Addr} {C : Nat → Nat} (h : OwnR B w v L A C) (hb : Below n₀ w w') (hn : w.heap.size ≤ n₀) : OwnR B w' v L A C :=
  h.kept (r := none) ⟨hb.os, hb.tape, hb.output, hb.size, fun k hk _ => hb.block k (by omega)⟩ (fun _ _ _ _ e => by cases e) (fun _ _ e => by cases e)
def updA (A : Nat → Option Addr) (n : Nat) (x : Option Addr) : Nat → Option Addr := fun i => if i = n then x else A i
/-- one row more. -/
theorem OwnR.snoc {B : Nat} {w0 w' : World} {v v' : Value} {L : List (List Nat)} {A : Nat → Option Addr} {C : Nat → Nat} (h : OwnR B w0 v L A C) {ad : Option Addr} {l : List Nat} {c : Nat} {o : Obj}
    (hr : RowAt w0.heap.size w0 ad l) (hlc : l.length ≤ c) (hc : c ≤ maxLen) (h0 : ad = none → c = 0) (hoff : ∀ p, ad = some p → v.ownBlock ≠ some p.block) (hlt : ∀ p, ad = some p → p.block < w0.heap.size)
    (hltA : ∀ i, i < L.length → ∀ p, A i = some p → p.block < w0.heap.size)
    (hown : Own1 112 B w' v' ((List.range L.length).map (fun i => Value.slice (A i) (L[i]?.getD []).length (C i)) ++ [Value.slice ad l.length c])) (hg : (w0.alloc o).grownBy w' v.ownBlock)
    (hat : v'.ownBlock = v.ownBlock ∨ v'.ownBlock = some (w0.heap.size + 1)) : OwnR B w' v' (L ++ [l]) (updA A L.length ad) (Mx.upd C L.length c) := by
  have hgb : ∀ b, b < w0.heap.size → v.ownBlock ≠ some b → w'.heap[b]? = w0.heap[b]? := fun b hb hne => (hg.block b (by simp; omega) (fun e => hne e.symm)).trans (heap_alloc_lt _ hb)
  have hsz : w0.heap.size + 1 ≤ w'.heap.size := by have := hg.size; simpa using this
  have old : ∀ i, i < L.length → (L ++ [l])[i]?.getD [] = L[i]?.getD [] ∧ updA A L.length ad i = A i ∧ Mx.upd C L.length c i = C i := fun i hi => by
    refine ⟨by rw [List.getElem?_append_left hi], by unfold updA; rw [if_neg (by omega)], by unfold Mx.upd; rw [if_neg (by omega)]⟩
  have new : (L ++ [l])[L.length]?.getD [] = l ∧ updA A L.length ad L.length = ad ∧ Mx.upd C L.length c L.length = c := ⟨by simp, by simp [updA], by simp [Mx.upd]⟩
  have tr : ∀ {x : Option Addr} {y : List Nat}, RowAt w0.heap.size w0 x y → (∀ p, x = some p → v.ownBlock ≠ some p.block) → RowAt w'.heap.size w' x y := fun hx ho => (hx.heap (fun p e hp => hgb _ hp (ho p e))).mono (by omega)
  have hlen : (L ++ [l]).length = L.length + 1 := by simp
  have split : ∀ i, i < (L ++ [l]).length → i < L.length ∨ i = L.length := fun i hi => by rw [hlen] at hi; omega
  refine ⟨?_, fun i hi => ?_, fun i hi p e => ?_⟩
  · rw [hlen, List.range_succ, List.map_append]
    have e1 : (List.range L.length).map (fun i => Value.slice (updA A L.length ad i) ((L ++ [l])[i]?.getD []).length (Mx.upd C L.length c i)) = (List.range L.length).map (fun i => Value.slice (A i) (L[i]?.getD []).length (C i)) := by
      refine List.map_congr_left fun i hi => ?_
      obtain ⟨a1, a2, a3⟩ := old i (List.mem_range.1 hi)
      rw [a1, a2, a3]
    rw [e1]
    have e2 : [L.length].map (fun i => Value.slice (updA A L.length ad i) ((L ++ [l])[i]?.getD []).length (Mx.upd C L.length c i)) = [Value.slice ad l.length c] := by
      rw [List.map_cons, List.map_nil, new.1, new.2.1, new.2.2]
    rw [e2]; exact hown
  · rcases split i hi with hi | rfl
    · obtain ⟨a1, a2, a3⟩ := old i hi
      rw [a1, a2, a3]
      obtain ⟨b1, b2, b3, b4⟩ := h.row i hi
      exact ⟨b1, b2, tr b3 (h.off i hi), b4⟩
    · rw [new.1, new.2.1, new.2.2]
      exact ⟨hlc, hc, tr hr hoff, h0⟩
  · have hx : p.block < w0.heap.size ∧ v.ownBlock ≠ some p.block := by
      rcases split i hi with hi | rfl
      · obtain ⟨a1, a2, a3⟩ := old i hi
        rw [a2] at e
        exact ⟨hltA i hi p e, h.off i hi p e⟩
      · rw [new.2.1] at e
        exact ⟨hlt p e, hoff p e⟩
    rcases hat with e1 | e1
    · rw [e1]; exact hx.2
    · rw [e1]; intro e2
      have := Option.some.inj e2
      omega
theorem OwnR.rows {B : Nat} {w : World} {v : Value} {L : List (List Nat)} {A : Nat → Option Addr} {C : Nat → Nat} (h : OwnR B w v L A C) : ∃ a cap, v = .slice a L.length cap ∧ L.length ≤ cap ∧ cap ≤ maxLen ∧ RowsAt w.heap.size w a L := by
  rcases h.own.shape with ⟨e1, e⟩ | ⟨g, cap, e, hg, hlt, hc, hm, hf, hcell⟩
  · have := congrArg List.length e
    simp at this
    subst this
    exact ⟨none, 0, e1, Nat.le_refl _, by simp [maxLen], .inl rfl⟩
  · have hl : ((List.range L.length).map fun i => Value.slice (A i) (L[i]?.getD []).length (C i)).length = L.length := by simp
    rw [hl] at e hc hcell
    refine ⟨_, cap, e, hc, hm, .inr ⟨g, 0, A, C, rfl, hlt, fun i hi => ⟨?_, h.row i hi⟩⟩⟩
    rw [Nat.zero_add, hcell i hi]; simp [hi]
theorem OwnB.row2 {B : Nat} {w : World} {v : Value} {l : List Nat} (h : OwnB B w v l) : ∃ a cap, v = .slice a l.length cap ∧ l.length ≤ cap ∧ cap ≤ maxLen ∧ RowAt w.heap.size w a l ∧ (a = none → cap = 0) ∧ ∀ p, a = some p → v.ownBlock = some p.block ∧ p.block < w.heap.size := by
  rcases Own1.shape h with ⟨e1, hl⟩ | ⟨g, cap, e1, _, hg, hc, hm, _, hcell⟩
  · have : l = [] := by simpa using hl
    subst this
    exact ⟨none, 0, e1, by simp, by simp [maxLen], .inl rfl, fun _ => rfl, fun p hp => by cases hp⟩
  · have hl2 : (l.map fun n : Nat => Value.int .u8 (n : Int)).length = l.length := by simp
    rw [hl2] at e1 hc hcell
    refine ⟨some ⟨g, 0, none⟩, cap, e1, hc, hm, .inr ⟨g, 0, rfl, hg, fun j hj => ?_⟩, fun h => by (cases h), fun p hp => ?_⟩
    · rw [Nat.zero_add, hcell j hj]
      simp [hj]
    · obtain rfl := Option.some.inj hp
      rw [e1]
      exact ⟨rfl, hg⟩
end Go.Proofs.YtabboioamdphmaaGreatDoor
/- Walks: the document's IsMatrix; the law's wideMatrix and ownMatrix. -/
namespace Go.Proofs.YtabboioamdphmaaGreatDoor
open Go.RowKit

/-- too wide for a statement. -/
def WideM (L : List (List Nat)) : Prop := 40 < L.length ∨ ∃ i, i < L.length ∧ 40 < (L[i]?.getD []).length
end Go.Proofs.YtabboioamdphmaaGreatDoor
