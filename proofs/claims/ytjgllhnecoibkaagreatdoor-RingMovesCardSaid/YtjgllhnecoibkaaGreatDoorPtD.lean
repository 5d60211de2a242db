/- Walks: ring.look, the search on a ring, ring.Prefer. -/
import Derived.Test.YtjgllhnecoibkaaGreatDoorPtC
import Derived.Test.YtjgllhnecoibkaaGreatDoorNds
namespace Go.Proofs.YtjgllhnecoibkaaGreatDoor
open Go.RowKit

structure ErrRx (w : World) (E : Nat → Addr) : Prop where
  nx : ErrNx w E
  c7 : w.cell? ⟨7, 0, none⟩ = some (errV (E 7))
theorem ErrRx.below {n : Nat} {w w' : World} {E : Nat → Addr} (hb : Below n w w') (hn : w.heap.size ≤ n) (h : ErrRx w E) : ErrRx w' E :=
  ⟨h.nx.below hb hn, (hb.cell (Nat.lt_of_lt_of_le (lt_of_cell h.c7) hn)).trans h.c7⟩
theorem ErrEnv.rx {w : World} {E : Nat → Addr} (h : ErrEnv w E) : ErrRx w E := ⟨h.nx, h.c7⟩
/-- what look answers. -/
def lookF (L : List ByteArray) (n : Int) : Nat × Int := if (nodesF L).1 = 0 then (if (L.length : Int) < n then (8, -1) else if n < 0 then (2, -1) else (0, -1)) else nodesF L
theorem lookF_zero {L : List ByteArray} {n : Int} (h : (lookF L n).1 = 0) : (1 ≤ L.length ∧ L.length ≤ 16) ∧ L.Nodup ∧ (∀ s ∈ L, nameB s = true) ∧ 0 ≤ n ∧ n ≤ L.length ∧ lookF L n = (0, -1) := by
  unfold lookF at *
  by_cases h0 : (nodesF L).1 = 0
  · rw [if_pos h0] at h ⊢
    obtain ⟨h1, h2, h3, _⟩ := nodesF_zero h0
    by_cases h4 : (L.length : Int) < n
    · rw [if_pos h4] at h; cases h
    · rw [if_neg h4] at h ⊢
      by_cases h5 : n < 0
      · rw [if_pos h5] at h; cases h
      · rw [if_neg h5]
        exact ⟨h1, h2, h3, by omega, by omega, rfl⟩
  · rw [if_neg h0] at h
    exact absurd h h0
theorem nameB_le {s : ByteArray} (h : nameB s = true) : s.size ≤ 16 := by
  unfold nameB at h
  simp at h
  omega
set_option maxRecDepth 100000 in
set_option maxHeartbeats 2000000 in
theorem rlook_walk (n : Int) (n₀ : Nat) (a : Option Addr) (len cap : Nat) (L : List ByteArray) (w : World) (E : Nat → Addr) (hE : ErrRx w E) (hlen : L.length = len) (hm : len ≤ maxLen) (hcap : len ≤ cap) (hsz : ∀ j : Nat, (L[j]?.getD (⟨#[]⟩ : ByteArray)).size ≤ maxLen) (hI : TxsAt n₀ w a L) (hn : n₀ ≤ w.heap.size) :
    Calls Tryz.prog 33 #[.slice a len cap, .int .i64 n] w fun e w' => (∃ v, e = .returned v ∧ FltV w' E (lookF L n) v) ∧ Below w.heap.size w w' := by
  have Hk := Lib.hid (check_walk n₀ a len cap L w E hE.nx hlen hcap hsz hI hn)
  have HE := Lib.hid hE
  have hm9 : len ≤ 9223372036854775807 := hm
  obtain ⟨F, hF⟩ : ∃ F, nodesF L = F := ⟨_, rfl⟩
  have HF := Lib.hid hF
  rw [hF] at Hk
  have hlF : lookF L n = if F.1 = 0 then (if (len : Int) < n then (8, -1) else if n < 0 then (2, -1) else (0, -1)) else F := by unfold lookF; rw [hF, hlen]
  obtain ⟨G, hG⟩ : ∃ G, lookF L n = G := ⟨_, rfl⟩
  rw [hG] at hlF ⊢
  have HlF := Lib.hid hlF
  clear hF hE hI hsz hlen hlF hG
  go_enter Tryz.func33, Tryz.ntmps33
  go_wp2_with fail
  refine Hk.out.mono ?_
  rintro e w1 ⟨⟨v, rfl, hv⟩, hb1⟩
  have HB1 := Lib.hid hb1
  have HE1 := Lib.hid (HE.out.below hb1 (Nat.le_refl _))
  clear hb1
  by_cases h0 : F.1 = 0
  · obtain ⟨hF0, rfl⟩ := hv.nil h0
    have H0 := Lib.hid h0
    clear hv h0 hF0
    have c7 := HE1.out.c7
    have c1 := HE1.out.nx.c1
    by_cases h1 : (len : Int) < n
    · have H1 := Lib.hid h1
      go_wp2
      go_ret
      exact ⟨⟨_, rfl, .inr (.inl ⟨7, by decide, by rw [HlF.out, if_pos H0.out, if_pos H1.out], rfl⟩)⟩, HB1.out⟩
    · have H1 := Lib.hid h1
      by_cases h2 : n < 0
      · have H2 := Lib.hid h2
        go_wp2
        go_ret
        exact ⟨⟨_, rfl, .inr (.inl ⟨1, by decide, by rw [HlF.out, if_pos H0.out, if_neg (show ¬ (len : Int) < n by have := H1.out; omega), if_pos H2.out], rfl⟩)⟩, HB1.out⟩
      · have H2 := Lib.hid h2
        go_wp2
        go_ret
        exact ⟨⟨_, rfl, .inl ⟨by rw [HlF.out, if_pos H0.out, if_neg (show ¬ (len : Int) < n by have := H1.out; omega), if_neg (show ¬ n < 0 by have := H2.out; omega)], rfl⟩⟩, HB1.out⟩
  · have H0 := Lib.hid (And.intro h0 hv)
    rcases hv.some_ h0 with ⟨x, rfl⟩ | ⟨m, rfl⟩
    · clear hv h0
      go_wp2
      go_ret
      exact ⟨⟨_, rfl, by rw [HlF.out, if_neg H0.out.1]; exact H0.out.2⟩, HB1.out⟩
    · unfold faultV at H0 ⊢
      clear hv h0
      go_wp2
      go_ret
      exact ⟨⟨_, rfl, by rw [HlF.out, if_neg H0.out.1]; exact H0.out.2⟩, HB1.out⟩

/-- points that stand there. -/
def PtsAt (w : World) (g : Nat) (P : List Rg.Pt) : Prop := ∀ i, i < P.length → w.cell? ⟨g, i * 3, none⟩ = some (.int .u32 ((P[i]?.getD (0, ⟨#[]⟩, 0)).1 : Nat)) ∧ w.cell? ⟨g, i * 3 + 1, none⟩ = some (.string (P[i]?.getD (0, ⟨#[]⟩, 0)).2.1) ∧ w.cell? ⟨g, i * 3 + 2, none⟩ = some (.int .i64 ((P[i]?.getD (0, ⟨#[]⟩, 0)).2.2 : Nat))
theorem PtsAt.below {n : Nat} {w w' : World} {g : Nat} {P : List Rg.Pt} (h : PtsAt w g P) (hb : Below n w w') (hg : g < n) : PtsAt w' g P := fun i hi =>
  ⟨(hb.cell (p := ⟨g, i * 3, none⟩) hg).trans (h i hi).1, (hb.cell (p := ⟨g, i * 3 + 1, none⟩) hg).trans (h i hi).2.1, (hb.cell (p := ⟨g, i * 3 + 2, none⟩) hg).trans (h i hi).2.2⟩
set_option maxRecDepth 100000 in
set_option maxHeartbeats 1000000 in
theorem prefC_walk (p1 : Nat) (s : ByteArray) (p3 h hb : Nat) (w : World) (hc : w.cell? ⟨hb, 0, none⟩ = some (.int .u32 (h : Nat))) :
    Calls Tryz.prog 37 #[.agg #[.int .u32 (p1 : Nat), .string s, .int .i64 (p3 : Nat)], .pointer (some ⟨hb, 0, none⟩)] w fun e w' => e = .returned (.bool (decide (h ≤ p1))) ∧ Below w.heap.size w w' := by
  have hc2 : (w.alloc (.cells #[.int .u32 (p1 : Nat), .string s, .int .i64 (p3 : Nat)] 77)).cell? ⟨hb, 0, none⟩ = some (.int .u32 (h : Nat)) := ((Below.refl _ w).alloc (Nat.le_refl _) _).cell (lt_of_cell hc) ▸ hc
  clear hc
  by_cases hh : h ≤ p1
  · have g1 : (h : Int) ≤ p1 := by omega
    rw [decide_eq_true hh]
    have g1d : decide (h ≤ p1) = true := decide_eq_true hh
    clear hh
    go_enter Tryz.func37, Tryz.ntmps37
    go_wp2
    go_ret
    exact ⟨by simp, (Below.refl _ w).alloc (Nat.le_refl _) _⟩
  · have g1 : ¬ (h : Int) ≤ p1 := by omega
    rw [decide_eq_false hh]
    have g1d : decide (h ≤ p1) = false := decide_eq_false hh
    clear hh
    go_enter Tryz.func37, Tryz.ntmps37
    go_wp2
    go_ret
    exact ⟨by simp, (Below.refl _ w).alloc (Nat.le_refl _) _⟩
set_option maxRecDepth 100000 in
set_option maxHeartbeats 2000000 in
theorem idxP_walk (g cap h hb len : Nat) (P : List Rg.Pt) (w : World) (hl : P.length = len) (hlen : len ≤ maxLen) (hP : PtsAt w g P) (hg : g < w.heap.size) (hc : w.cell? ⟨hb, 0, none⟩ = some (.int .u32 (h : Nat))) :
    Calls Tryz.prog 36 #[.slice (some ⟨g, 0, none⟩) len cap, .func (.func 37) #[] #[.pointer (some ⟨hb, 0, none⟩)]] w
      fun e w' => (((∀ j, j < len → (P[j]?.getD (0, ⟨#[]⟩, 0)).1 < h) ∧ e = .returned (.int .i64 (-1))) ∨ (∃ k : Nat, k < len ∧ (∀ j, j < k → (P[j]?.getD (0, ⟨#[]⟩, 0)).1 < h) ∧ h ≤ (P[k]?.getD (0, ⟨#[]⟩, 0)).1 ∧ e = .returned (.int .i64 (k : Nat)))) ∧ Below w.heap.size w w' := by
  have hm' : len ≤ 9223372036854775807 := hlen
  have HP := Lib.hid (And.intro hP (And.intro hg (And.intro hc hl)))
  clear hP hg hc hl hlen
  go_enter Tryz.func36, Tryz.ntmps36
  go_wp2
  go_loopw [8] (fun vi wr => ∃ k : Nat, k ≤ len ∧ vi = .int .i64 k ∧ Hid ((∀ j, j < k → (P[j]?.getD (0, ⟨#[]⟩, 0)).1 < h) ∧ Below w.heap.size w wr)) (fun i _ => len - (intOf i).toNat)
  case atStart => exact ⟨0, by omega, rfl, Lib.hid ⟨fun j hj => by omega, Below.refl _ _⟩⟩
  case round =>
    obtain ⟨k, hk, rfl, H⟩ := hrel
    have hk2 : k < len ∨ k = len := by omega
    rcases hk2 with hlt | rfl
    · have hlt2 : (k : Int) < len := by omega
      obtain ⟨h1, h2, h3⟩ := HP.out.1.below H.out.2 HP.out.2.1 k (by have := HP.out.2.2.2; omega)
      obtain ⟨x, hx⟩ : ∃ x, P[k]?.getD (0, ⟨#[]⟩, 0) = x := ⟨_, rfl⟩
      rw [hx] at h1 h2 h3
      have Hx := Lib.hid hx
      clear hx
      obtain ⟨p1, ps, p3⟩ := x
      simp only at h1 h2 h3
      have Hp := Lib.hid (prefC_walk p1 ps p3 h hb wr ((H.out.2.cell (lt_of_cell HP.out.2.2.1)).trans HP.out.2.2.1))
      by_cases he : h ≤ p1
      · rw [decide_eq_true he] at Hp
        have He := Lib.hid he
        clear he
        go_wp2_with fail
        refine Hp.out.mono ?_
        rintro e w' ⟨rfl, hb2⟩
        have HB := Lib.hid (H.out.2.trans (hb2.mono H.out.2.size))
        clear hb2
        go_wp2
        go_ret
        exact ⟨.inr ⟨k, hlt, H.out.1, by rw [Hx.out]; exact He.out, rfl⟩, HB.out⟩
      · rw [decide_eq_false he] at Hp
        have He := Lib.hid he
        clear he
        go_wp2_with fail
        refine Hp.out.mono ?_
        rintro e w' ⟨rfl, hb2⟩
        have HB := Lib.hid (H.out.2.trans (hb2.mono H.out.2.size))
        clear hb2
        go_wp2
        go_roundw
        case rel => exact ⟨k + 1, by omega, by go_num, Lib.hid ⟨fun j hj => by
          by_cases e : j = k
          · rw [e, Hx.out]; have := He.out; simp only; omega
          · exact H.out.1 j (by omega), HB.out⟩⟩
        case measure => simp [intOf]; omega
    · go_wp2
      go_ret
      exact ⟨.inl ⟨H.out.1, rfl⟩, H.out.2⟩
end Go.Proofs.YtjgllhnecoibkaaGreatDoor
