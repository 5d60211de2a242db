/- The walk of the document's NodesFault. -/
import Derived.Test.YtjgllhnecoibkaaGreatDoorNds
import Derived.Deep.QuietTactic
import Derived.BigQuiet
namespace Go.Proofs.YtjgllhnecoibkaaGreatDoor
open Go.RowKit

/-- a fault as the document's answer has it. -/
def fltA (f : Nat × Int) : Value := .agg #[.int .i64 (f.1 : Nat), .int .i64 f.2]
theorem drewN_below (w : World) (n : Nat) : Below w.heap.size w (w.drewN n) := ⟨rfl, rfl, rfl, Nat.le_refl _, fun _ _ => rfl⟩
theorem alloc_drewN_below (w : World) (o : Obj) (n : Nat) : Below w.heap.size w ((w.alloc o).drewN n) := ((Below.refl _ w).alloc (Nat.le_refl _) o).trans ((drewN_below (w.alloc o) n).mono (by simp))
set_option maxRecDepth 100000 in
set_option maxHeartbeats 4000000 in
theorem rnodes_walk (n₀ : Nat) (a : Option Addr) (len cap : Nat) (L : List ByteArray) (w : World) (hlen : L.length = len) (hcap : len ≤ cap) (hsz : ∀ j : Nat, (L[j]?.getD (⟨#[]⟩ : ByteArray)).size ≤ maxLen) (hI : TxsAt n₀ w a L) (hn : n₀ ≤ w.heap.size) :
    Calls Tryz.prog 11 #[.slice a len cap] w fun e w' => e = .returned (fltA (nodesF L)) ∧ Below w.heap.size w w' := by
  have hP := Pair.new w (.int .i64 0) (.int .i64 0) 31
  have hB0 : Below w.heap.size w (w.alloc (.cells #[.int .i64 0, .int .i64 0] 31)) := (Below.refl _ w).alloc (Nat.le_refl _) _
  have hz : w.heap.size < (w.alloc (.cells #[.int .i64 0, .int .i64 0] 31)).heap.size := by simp
  obtain ⟨W0, hW0⟩ : ∃ W0, w.alloc (.cells #[.int .i64 0, .int .i64 0] 31) = W0 := ⟨_, rfl⟩
  rw [hW0] at hP hB0 hz
  have hI0 := (hI.mono hn).below hB0
  obtain ⟨bb, hbb⟩ : ∃ bb, w.heap.size = bb := ⟨_, rfl⟩
  rw [hbb] at hP hz
  have HB := Lib.hid (And.intro hP (And.intro hB0 hz))
  have HW := Lib.hid hW0
  have Hbb := Lib.hid hbb
  have HI := Lib.hid hI0
  obtain ⟨F, hF⟩ : ∃ F, nodesF L = F := ⟨_, rfl⟩
  have HF := Lib.hid hF
  rw [hF]
  have hset : ∀ V, Below w.heap.size w V → ∀ u v : Value, Below w.heap.size w ((V.setCell ⟨bb, 0, none⟩ u).setCell ⟨bb, 1, none⟩ v) := fun V hV u v => (hV.setCell (p := ⟨bb, 0, none⟩) (Nat.le_of_eq hbb) u).setCell (p := ⟨bb, 1, none⟩) (Nat.le_of_eq hbb) v
  have Hset := Lib.hid hset
  have Hl := Lib.hid hlen
  have Hs := Lib.hid hsz
  clear hF hW0 hbb hP hB0 hz hset hI hI0
  by_cases hb : 1 ≤ len ∧ len ≤ 16
  · have hm' : len ≤ 9223372036854775807 := by omega
    have Hr : Hid (1 ≤ L.length ∧ L.length ≤ 16) := Lib.hid (by rw [hlen]; exact hb)
    have g1 : ¬ (len : Int) < 1 := by omega
    have g1d : decide (len < 1) = false := decide_eq_false (by omega)
    have g2 : ¬ (16 : Int) < len := by omega
    have g2d : decide (16 < len) = false := decide_eq_false (by omega)
    have hcap2 : (len : Int) ≤ cap := by omega
    clear hb hlen hsz hcap
    go_enter Tryz.func11, Tryz.ntmps11
    go_wp2
    rw [HW.out, Hbb.out]
    go_loopw [3] (fun vi wr => ∃ k : Nat, k ≤ len ∧ vi = .int .i64 k ∧ Hid ((∀ j, j < k → badAt L j = 0) ∧ ∃ q, wr = W0.drewN q)) (fun i _ => len - (intOf i).toNat)
    case atStart => exact ⟨0, by omega, rfl, Lib.hid ⟨fun j hj => by omega, 0, rfl⟩⟩
    case round =>
      obtain ⟨k, hk, rfl, Hz⟩ := hrel
      have hk2 : k < len ∨ k = len := by omega
      have hpw : Pair wr bb (.int .i64 0) (.int .i64 0) ∧ Below w.heap.size w wr ∧ bb < wr.heap.size ∧ TxsAt w.heap.size wr a L := by
        obtain ⟨_, q, hq⟩ := Hz.out
        rw [hq]
        exact ⟨HB.out.1.drewN q, HB.out.2.1.trans ((drewN_below W0 q).mono HB.out.2.1.size), HB.out.2.2, HI.out⟩
      have HP := Lib.hid hpw
      clear hpw
      rcases hk2 with hlt | rfl
      · have hlt2 : (k : Int) < len := by omega
        have hk3 : (k : Int) ≤ cap := by omega
        rcases HP.out.2.2.2 with he | ⟨b, off, rfl, hbl, hc⟩
        · exfalso
          have := Hl.out
          rw [he] at this; simp at this; omega
        have h1 := hc k (by have := Hl.out; omega)
        obtain ⟨x, hx⟩ : ∃ x, L[k]?.getD ⟨#[]⟩ = x := ⟨_, rfl⟩
        have hxs := Hs.out k
        rw [hx] at h1 hxs
        have Hx := Lib.hid hx
        have Hn := Lib.hid (rname_walk x wr hxs)
        clear hc hx hxs
        cases hnb : nameB x with
        | false =>
          rw [hnb] at Hn
          have hF2 : F = (4, (k : Int)) := by
            have hbad : badAt L k = 4 := badAt_name (by rw [Hx.out]; exact hnb)
            rw [← HF.out, nodesF_at Hr.out (by have := Hl.out; omega) Hz.out.1 (by omega), hbad]
          clear hnb
          subst hF2
          obtain ⟨p0, p1, q0, q1⟩ := HP.out.1
          go_wp2_with fail
          refine Hn.out.mono ?_
          rintro e w' ⟨rfl, rfl⟩
          go_wp2
          exact bodyPost_ret (v := fltA (4, (k : Int))) (by simp [results, Tryz.results11, fltA, p0, p1, go_sem]) rfl ⟨rfl, Hset.out _ HP.out.2.1 _ _⟩
        | true =>
          rw [hnb] at Hn
          obtain ⟨y, hy⟩ : ∃ y, idxT (L.take k) x = y := ⟨_, rfl⟩
          have hq : ∀ n c, Calls Tryz.prog 31 #[.slice (some ⟨b, off, none⟩) k c, .string x] (wr.drewN n) fun e w' => e = .returned (.int .i64 y) ∧ w' = wr.drewN n := fun n c => by
            rw [← hy]
            exact (ridx_walk w.heap.size (some ⟨b, off, none⟩) k c (L.take k) x (wr.drewN n) (at_take (by have := Hl.out; omega)) (by have := Hl.out; have := Hr.out; unfold maxLen; omega) (TxsAt.take k HP.out.2.2.2)).mono fun e w' h => ⟨h.1, h.2.symm⟩
          have Hq := Lib.hid hq
          have hmem := (idxT_range (L.take k) x).2.2
          rw [hy] at hmem
          by_cases hm : x ∈ L.take k
          · have hy0 : 0 ≤ y := hmem.2 hm
            have hF2 : F = (6, (k : Int)) := by
              have hbad : badAt L k = 6 := badAt_exist (by rw [Hx.out]; exact hnb) (by rw [Hx.out]; exact hm)
              rw [← HF.out, nodesF_at Hr.out (by have := Hl.out; omega) Hz.out.1 (by omega), hbad]
            clear hnb hmem hm hq hy
            subst hF2
            obtain ⟨p0, p1, q0, q1⟩ := HP.out.1
            go_wp2_with fail
            refine Hn.out.mono ?_
            rintro e w' ⟨rfl, rfl⟩
            go_wp2
            go_quiet ((go_at_call 31; exact Calls.quiet_of_same (Hq.out _ _)))
            go_wp2
            exact bodyPost_ret (v := fltA (6, (k : Int))) (by simp [results, Tryz.results11, fltA, p0, p1, go_sem]) rfl ⟨rfl, Hset.out _ (HP.out.2.1.trans ((drewN_below wr _).mono HP.out.2.1.size)) _ _⟩
          · have hy0 : ¬ 0 ≤ y := fun h => hm (hmem.1 h)
            have hbad : badAt L k = 0 := badAt_ok (by rw [Hx.out]; exact hnb) (by rw [Hx.out]; exact hm)
            have Hbad := Lib.hid hbad
            clear hnb hmem hm hbad hq hy
            go_wp2_with fail
            refine Hn.out.mono ?_
            rintro e w' ⟨rfl, rfl⟩
            go_wp2
            go_quiet ((go_at_call 31; exact Calls.quiet_of_same (Hq.out _ _)))
            go_wp2
            go_roundw
            case rel => exact ⟨k + 1, by omega, by go_num, Lib.hid ⟨fun j hj => by
              by_cases e : j = k
              · rw [e]; exact Hbad.out
              · exact Hz.out.1 j (by omega), by
                obtain ⟨_, q, hq⟩ := Hz.out
                exact ⟨q + nq, by rw [hq, World.drewN_drewN]⟩⟩⟩
            case measure => simp [intOf]; omega
      · have hF2 : F = (0, -1) := by rw [← HF.out, nodesF_ok Hr.out (fun j hj => Hz.out.1 j (by have := Hl.out; omega))]
        subst hF2
        have Hfn := Lib.hid (fine_walk wr)
        go_wp2_with fail
        refine Hfn.out.mono ?_
        rintro e w1 ⟨rfl, hb1⟩
        obtain ⟨p0, p1, q0, q1⟩ := HP.out.1.below hb1 HP.out.2.2.1
        have HB1 := Lib.hid (HP.out.2.1.trans (hb1.mono HP.out.2.1.size))
        clear hb1
        go_wp2
        exact bodyPost_ret (v := fltA (0, -1)) (by simp [results, Tryz.results11, fltA, p0, p1, go_sem]) rfl ⟨rfl, Hset.out _ HB1.out _ _⟩
  · have hF2 : F = (2, -1) := by rw [← HF.out, nodesF_out (by rw [hlen]; exact hb)]
    subst hF2
    have hcase : len < 1 ∨ (¬ len < 1 ∧ 16 < len) := by omega
    rcases hcase with h1 | ⟨h1, h2⟩
    case' inl =>
      have g1 : (len : Int) < 1 := by omega
      have g1d : decide (len < 1) = true := decide_eq_true h1
    case' inr =>
      have g1 : ¬ (len : Int) < 1 := by omega
      have g1d : decide (len < 1) = false := decide_eq_false h1
      have g2 : (16 : Int) < len := by omega
      have g2d : decide (16 < len) = true := decide_eq_true h2
    all_goals
      clear hb hlen hsz hcap h1
      try clear h2
      have Hfn := Lib.hid (bare_walk 2 W0)
      go_enter Tryz.func11, Tryz.ntmps11
      go_wp2_with fail
      rw [HW.out, Hbb.out]
      refine Hfn.out.mono ?_
      rintro e w1 ⟨rfl, hb1⟩
      obtain ⟨p0, p1, q0, q1⟩ := HB.out.1.below hb1 HB.out.2.2
      have HB1 := Lib.hid (HB.out.2.1.trans (hb1.mono HB.out.2.1.size))
      clear hb1
      go_wp2
      exact bodyPost_ret (v := fltA (2, -1)) (by simp [results, Tryz.results11, fltA, p0, p1, go_sem]) rfl ⟨rfl, Hset.out _ HB1.out _ _⟩
end Go.Proofs.YtjgllhnecoibkaaGreatDoor
