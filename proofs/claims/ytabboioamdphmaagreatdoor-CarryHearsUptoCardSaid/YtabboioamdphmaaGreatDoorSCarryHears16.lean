/- The walks of the checks of nodes: slices.Contains of texts, ring.Check, the document's Index, NodesFault. -/
import Derived.Test.YtabboioamdphmaaGreatDoorSCarryHears14
import Derived.Test.YtabboioamdphmaaGreatDoorSCarryHears15
import Derived.Test.YtabboioamdphmaaGreatDoorSCarryHears10
namespace Go.Proofs.YtabboioamdphmaaGreatDoor
open Go.RowKit

theorem ret_i {a b : Int} (h : a = b) : Ending.returned (.int .i64 a) = .returned (.int .i64 b) := by rw [h]
theorem txt_inj {a b : ByteArray} (h : a.toList = b.toList) : a = b := by
  rw [ByteArray.toList_eq, ByteArray.toList_eq] at h
  obtain ⟨a⟩ := a
  obtain ⟨b⟩ := b
  exact congrArg ByteArray.mk (Array.toList_inj.1 h)
theorem txt_ne {a b : ByteArray} (h : a ≠ b) : (a.toList == b.toList) = false := by
  rw [beq_eq_false_iff_ne]; exact fun e => h (txt_inj e)
theorem at_take {L : List ByteArray} {k : Nat} (hk : k ≤ L.length) : (L.take k).length = k := by simp; omega

set_option maxRecDepth 100000 in
set_option maxHeartbeats 1000000 in
theorem idxS_walk (n₀ : Nat) (a : Option Addr) (len cap : Nat) (L : List ByteArray) (s : ByteArray) (w : World) (hlen : L.length = len) (hl : len ≤ maxLen) (hI : TxsAt n₀ w a L) :
    Calls Tryz.prog 92 #[.slice a len cap, .string s] w fun e w' => e = .returned (.int .i64 (idxT L s)) ∧ w = w' := by
  have hm' : len ≤ 9223372036854775807 := hl
  obtain ⟨r, hr⟩ : ∃ r, idxT L s = r := ⟨_, rfl⟩
  have Hr := Lib.hid hr
  rw [hr]
  have Hl := Lib.hid hlen
  have HI := Lib.hid hI
  clear hr hlen hI hl
  go_enter Tryz.func92, Tryz.ntmps92
  go_wp2
  go_loop [8] (fun vi => ∃ k : Nat, k ≤ len ∧ vi = .int .i64 k ∧ Hid (∀ j, j < k → (L[j]?.getD ⟨#[]⟩) ≠ s)) (fun i => len - (intOf i).toNat)
  case atStart => exact ⟨0, by omega, rfl, Lib.hid (fun j hj => by omega)⟩
  case round =>
    obtain ⟨k, hk, rfl, Hz⟩ := hrel
    have hk2 : k < len ∨ k = len := by omega
    rcases hk2 with hlt | rfl
    · have hlt2 : (k : Int) < len := by omega
      rcases HI.out with he | ⟨b, off, rfl, _, hc⟩
      · exfalso
        have := Hl.out
        rw [he] at this; simp at this; omega
      have h1 := hc k (by have := Hl.out; omega)
      obtain ⟨x, hx⟩ : ∃ x, L[k]?.getD ⟨#[]⟩ = x := ⟨_, rfl⟩
      rw [hx] at h1
      have Hx := Lib.hid hx
      clear hc hx
      by_cases he : x = s
      · subst he
        go_wp2
        go_ret
        exact ⟨ret_i (by rw [← Hr.out, idxT_at (by have := Hl.out; omega) Hz.out Hx.out]), rfl⟩
      · have e1 := txt_ne (Ne.symm he)
        have He := Lib.hid he
        clear he
        go_wp2
        go_round
        case rel => exact ⟨k + 1, by omega, by go_num, Lib.hid (fun j hj => by
          by_cases e : j = k
          · rw [e, Hx.out]; exact He.out
          · exact Hz.out j (by omega))⟩
        case measure => simp [intOf]; omega
    · go_wp2
      go_ret
      exact ⟨ret_i (by rw [← Hr.out, idxT_none (fun j hj => Hz.out j (by have := Hl.out; omega))]), rfl⟩
set_option maxRecDepth 100000 in
theorem contS_walk (n₀ : Nat) (a : Option Addr) (len cap : Nat) (L : List ByteArray) (s : ByteArray) (r : Bool) (w : World) (hlen : L.length = len) (hl : len ≤ maxLen) (hI : TxsAt n₀ w a L) (hr : decide (s ∈ L) = r) :
    Calls Tryz.prog 66 #[.slice a len cap, .string s] w fun e w' => e = .returned (.bool r) ∧ w = w' := by
  have Hi := Lib.hid (idxS_walk n₀ a len cap L s w hlen hl hI)
  have h0 := idxT_pos (L := L) (s := s)
  rw [hr] at h0
  obtain ⟨x, hx⟩ : ∃ x, idxT L s = x := ⟨_, rfl⟩
  rw [hx] at Hi h0
  clear hlen hl hI hr hx
  cases r with
  | true =>
    have h1 : 0 ≤ x := by simpa using h0
    clear h0
    go_enter Tryz.func66, Tryz.ntmps66
    go_wp2_with fail
    refine Hi.out.mono ?_
    rintro e w' ⟨rfl, rfl⟩
    go_wp2
    go_ret
    exact ⟨by simp, rfl⟩
  | false =>
    have h1 : ¬ 0 ≤ x := by simpa using h0
    clear h0
    go_enter Tryz.func66, Tryz.ntmps66
    go_wp2_with fail
    refine Hi.out.mono ?_
    rintro e w' ⟨rfl, rfl⟩
    go_wp2
    go_ret
    exact ⟨by simp; omega, rfl⟩
set_option maxRecDepth 100000 in
set_option maxHeartbeats 1000000 in
theorem ridx_walk (n₀ : Nat) (a : Option Addr) (len cap : Nat) (L : List ByteArray) (s : ByteArray) (w : World) (hlen : L.length = len) (hl : len ≤ maxLen) (hI : TxsAt n₀ w a L) :
    Calls Tryz.prog 50 #[.slice a len cap, .string s] w fun e w' => e = .returned (.int .i64 (idxT L s)) ∧ w = w' := by
  have hm' : len ≤ 9223372036854775807 := hl
  obtain ⟨r, hr⟩ : ∃ r, idxT L s = r := ⟨_, rfl⟩
  have Hr := Lib.hid hr
  rw [hr]
  have Hl := Lib.hid hlen
  have HI := Lib.hid hI
  clear hr hlen hI hl
  go_enter Tryz.func50, Tryz.ntmps50
  go_wp2
  go_loop [5] (fun vi => ∃ k : Nat, k ≤ len ∧ vi = .int .i64 k ∧ Hid (∀ j, j < k → (L[j]?.getD ⟨#[]⟩) ≠ s)) (fun i => len - (intOf i).toNat)
  case atStart => exact ⟨0, by omega, rfl, Lib.hid (fun j hj => by omega)⟩
  case round =>
    obtain ⟨k, hk, rfl, Hz⟩ := hrel
    have hk2 : k < len ∨ k = len := by omega
    rcases hk2 with hlt | rfl
    · have hlt2 : (k : Int) < len := by omega
      rcases HI.out with he | ⟨b, off, rfl, _, hc⟩
      · exfalso
        have := Hl.out
        rw [he] at this; simp at this; omega
      have h1 := hc k (by have := Hl.out; omega)
      obtain ⟨x, hx⟩ : ∃ x, L[k]?.getD ⟨#[]⟩ = x := ⟨_, rfl⟩
      rw [hx] at h1
      have Hx := Lib.hid hx
      clear hc hx
      by_cases he : x = s
      · subst he
        go_wp2
        go_ret
        exact ⟨ret_i (by rw [← Hr.out, idxT_at (by have := Hl.out; omega) Hz.out Hx.out]), rfl⟩
      · have e1 := txt_ne he
        have He := Lib.hid he
        clear he
        go_wp2
        go_round
        case rel => exact ⟨k + 1, by omega, by go_num, Lib.hid (fun j hj => by
          by_cases e : j = k
          · rw [e, Hx.out]; exact He.out
          · exact Hz.out j (by omega))⟩
        case measure => simp [intOf]; omega
    · go_wp2
      go_ret
      exact ⟨ret_i (by rw [← Hr.out, idxT_none (fun j hj => Hz.out j (by have := Hl.out; omega))]), rfl⟩

set_option maxRecDepth 100000 in
set_option maxHeartbeats 2000000 in
theorem check_walk (n₀ : Nat) (a : Option Addr) (len cap : Nat) (L : List ByteArray) (w : World) (E : Nat → Addr) (hE : ErrNx w E) (hlen : L.length = len) (hcap : len ≤ cap) (hsz : ∀ j : Nat, (L[j]?.getD (⟨#[]⟩ : ByteArray)).size ≤ maxLen) (hI : TxsAt n₀ w a L) (hn : n₀ ≤ w.heap.size) :
    Calls Tryz.prog 58 #[.slice a len cap] w fun e w' => (∃ v, e = .returned v ∧ FltV w' E (nodesF L) v) ∧ Below w.heap.size w w' := by
  by_cases hb : 1 ≤ len ∧ len ≤ 16
  · have hm' : len ≤ 9223372036854775807 := by omega
    have hb' : 1 ≤ L.length ∧ L.length ≤ 16 := by rw [hlen]; exact hb
    have g1 : ¬ (len : Int) < 1 := by omega
    have g1d : decide (len < 1) = false := decide_eq_false (by omega)
    have g2 : ¬ (16 : Int) < len := by omega
    have g2d : decide (16 < len) = false := decide_eq_false (by omega)
    have hcap2 : (len : Int) ≤ cap := by omega
    have Hl := Lib.hid (And.intro hlen hb')
    have HI := Lib.hid (hI.mono hn)
    have HE := Lib.hid hE
    have Hs := Lib.hid hsz
    obtain ⟨F, hF⟩ : ∃ F, nodesF L = F := ⟨_, rfl⟩
    have HF := Lib.hid hF
    rw [hF]
    have hfin : ∀ (V V' : World), Below w.heap.size w V → ∀ k i, k < len → (∀ j, j < k → badAt L j = 0) → badAt L k = i + 1 → i < 12 → V' = V.alloc (.cells #[.int .i64 (k : Int), errV (E i)] 120) →
        FltV V' E F (.iface 116 (.pointer (some ⟨V.heap.size, 0, none⟩))) ∧ Below w.heap.size w V' := fun V V' hB k i hk hj hbk hi hV => by
      subst hV
      refine ⟨.inr (.inr ⟨i, V.heap.size, hi, ?_, rfl, ?_⟩), hB.alloc hB.size _⟩
      · rw [← hF, nodesF_at hb' (by omega) hj (by omega), hbk]
      · rw [← hF, nodesF_at hb' (by omega) hj (by omega)]
        exact ⟨by simp, by simp⟩
    have Hfin := Lib.hid hfin
    clear hb hlen hI hE hsz hcap hb' hF hfin
    go_enter Tryz.func58, Tryz.ntmps58
    go_wp2
    go_loopw [16] (fun vi wr => ∃ k : Nat, k ≤ len ∧ vi = .int .i64 k ∧ Hid ((∀ j, j < k → badAt L j = 0) ∧ Below w.heap.size w wr)) (fun i _ => len - (intOf i).toNat)
    case atStart => exact ⟨0, by omega, rfl, Lib.hid ⟨fun j hj => by omega, Below.refl _ _⟩⟩
    case round =>
      obtain ⟨k, hk, rfl, Hz⟩ := hrel
      have hk2 : k < len ∨ k = len := by omega
      rcases hk2 with hlt | rfl
      · have hlt2 : (k : Int) < len := by omega
        rcases HI.out.below Hz.out.2 with he | ⟨b, off, rfl, hbl, hc⟩
        · exfalso
          have := Hl.out.1
          rw [he] at this; simp at this; omega
        have h1 := hc k (by have := Hl.out.1; omega)
        have hk3 : (k : Int) ≤ cap := by omega
        obtain ⟨x, hx⟩ : ∃ x, L[k]?.getD ⟨#[]⟩ = x := ⟨_, rfl⟩
        have hxs := Hs.out k
        rw [hx] at h1 hxs
        have Hx := Lib.hid hx
        have Hn := Lib.hid (name_walk x wr hxs)
        clear hc hx hxs
        cases hnb : nameB x with
        | false =>
          rw [hnb] at Hn
          have hbad : badAt L k = 3 + 1 := badAt_name (by rw [Hx.out]; exact hnb)
          have Hbad := Lib.hid hbad
          clear hnb hbad
          go_wp2_with fail
          refine Hn.out.mono ?_
          rintro e w1 ⟨rfl, hb1⟩
          have HB := Lib.hid (Hz.out.2.trans (hb1.mono Hz.out.2.size))
          have hc3 := (HE.out.below HB.out (Nat.le_refl _)).c3
          clear hb1
          go_wp2
          go_ret
          obtain ⟨f1, f2⟩ := Hfin.out w1 _ HB.out k 3 hlt Hz.out.1 Hbad.out (by decide) rfl
          exact ⟨⟨_, rfl, f1⟩, f2⟩
        | true =>
          rw [hnb] at Hn
          have Hnb := Lib.hid hnb
          clear hnb
          go_wp2_with fail
          refine Hn.out.mono ?_
          rintro e w1 ⟨rfl, hb1⟩
          have HB := Lib.hid (Hz.out.2.trans (hb1.mono Hz.out.2.size))
          have hc5 := (HE.out.below HB.out (Nat.le_refl _)).c5
          have hT : TxsAt w.heap.size w1 (some ⟨b, off, none⟩) (L.take k) := (HI.out.below HB.out).take k
          obtain ⟨r, hr⟩ : ∃ r, decide (x ∈ L.take k) = r := ⟨_, rfl⟩
          have Hr := Lib.hid hr
          have Hcs := Lib.hid (fun c => contS_walk w.heap.size (some ⟨b, off, none⟩) k c (L.take k) x r w1 (at_take (by have := Hl.out.1; omega)) (by have := Hl.out; unfold maxLen; omega) hT hr)
          clear hb1 hT hr
          cases r with
          | true =>
            have hbad : badAt L k = 5 + 1 := badAt_exist (by rw [Hx.out]; exact Hnb.out) (by rw [Hx.out]; exact of_decide_eq_true Hr.out)
            have Hbad := Lib.hid hbad
            clear hbad
            go_wp2_with fail
            refine (Hcs.out _).mono ?_
            rintro e w' ⟨rfl, rfl⟩
            go_wp2
            go_ret
            obtain ⟨f1, f2⟩ := Hfin.out w1 _ HB.out k 5 hlt Hz.out.1 Hbad.out (by decide) rfl
            exact ⟨⟨_, rfl, f1⟩, f2⟩
          | false =>
            have hbad : badAt L k = 0 := badAt_ok (by rw [Hx.out]; exact Hnb.out) (by rw [Hx.out]; exact of_decide_eq_false Hr.out)
            have Hbad := Lib.hid hbad
            clear hbad
            go_wp2_with fail
            refine (Hcs.out _).mono ?_
            rintro e w' ⟨rfl, rfl⟩
            go_wp2
            go_roundw
            case rel => exact ⟨k + 1, by omega, by go_num, Lib.hid ⟨fun j hj => by
              by_cases e : j = k
              · rw [e]; exact Hbad.out
              · exact Hz.out.1 j (by omega), HB.out⟩⟩
            case measure => simp [intOf]; omega
      · go_wp2
        go_ret
        exact ⟨⟨_, rfl, .inl ⟨by rw [← HF.out, nodesF_ok Hl.out.2 (fun j hj => Hz.out.1 j (by have := Hl.out.1; omega))], rfl⟩⟩, Hz.out.2⟩
  · have hF : nodesF L = (2, -1) := nodesF_out (by rw [hlen]; exact hb)
    have hc1 := hE.c1
    rw [hF]
    have hcase : len < 1 ∨ (¬ len < 1 ∧ 16 < len) := by omega
    rcases hcase with h1 | ⟨h1, h2⟩
    case' inl =>
      have g1 : (len : Int) < 1 := by omega
      have g1d : decide (len < 1) = true := decide_eq_true h1
    case' inr =>
      have g1 : ¬ (len : Int) < 1 := by omega
      have g1d : decide (len < 1) = false := decide_eq_false h1
      have g2 : (16 : Int) < len := by omega
      have g2d : decide (16 < len) = true := decide_eq_true h2
    all_goals
      clear hb hlen hI hE hsz hcap hF h1
      try clear h2
      go_enter Tryz.func58, Tryz.ntmps58
      go_wp2
      go_ret
      exact ⟨⟨_, rfl, .inr (.inl ⟨1, by decide, rfl, rfl⟩)⟩, Below.refl _ _⟩

/-! ### the document's -/
structure Pair (w : World) (b : Nat) (x y : Value) : Prop where
  c0 : w.cell? ⟨b, 0, none⟩ = some x
  c1 : w.cell? ⟨b, 1, none⟩ = some y
  f0 : w.frozen? ⟨b, 0, none⟩ = false
  f1 : w.frozen? ⟨b, 1, none⟩ = false
theorem Pair.new (w : World) (x y : Value) (T : TypeId) : Pair (w.alloc (.cells #[x, y] T)) w.heap.size x y := ⟨by simp, by simp, by simp, by simp⟩
theorem Pair.drewN {w : World} {b : Nat} {x y : Value} (h : Pair w b x y) (n : Nat) : Pair (w.drewN n) b x y := ⟨h.c0, h.c1, h.f0, h.f1⟩
theorem Pair.below {n : Nat} {w w' : World} {b : Nat} {x y : Value} (h : Pair w b x y) (hb : Below n w w') (hn : b < n) : Pair w' b x y :=
  ⟨(hb.cell (p := ⟨b, 0, none⟩) hn).trans h.c0, (hb.cell (p := ⟨b, 1, none⟩) hn).trans h.c1, (hb.frozen (p := ⟨b, 0, none⟩) hn).trans h.f0, (hb.frozen (p := ⟨b, 1, none⟩) hn).trans h.f1⟩
theorem bare_walk (c : Int) (w : World) :
    Calls Tryz.prog 12 #[.int .i64 c] w fun e w' => e = .returned (.agg #[.int .i64 c, .int .i64 (-1)]) ∧ Below w.heap.size w w' := by
  go_enter Tryz.func12, Tryz.ntmps12
  go_wp2
  exact bodyPost_ret (v := .agg #[.int .i64 c, .int .i64 (-1)]) (by simp [results, Tryz.results12, go_sem]) rfl ⟨rfl, (Below.refl _ _).alloc (Nat.le_refl _) _⟩
theorem fine_walk (w : World) :
    Calls Tryz.prog 61 #[] w fun e w' => e = .returned (.agg #[.int .i64 0, .int .i64 (-1)]) ∧ Below w.heap.size w w' := by
  go_enter Tryz.func61, Tryz.ntmps61
  go_wp2
  exact bodyPost_ret (v := .agg #[.int .i64 0, .int .i64 (-1)]) (by simp [results, Tryz.results61, go_sem]) rfl ⟨rfl, (Below.refl _ _).alloc (Nat.le_refl _) _⟩
end Go.Proofs.YtabboioamdphmaaGreatDoor
/- The walks of quorum.Check, quorum.Enough. -/
namespace Go.Proofs.YtabboioamdphmaaGreatDoor
open Go.RowKit

structure ErrQx (w : World) (E : Nat → Addr) : Prop where
  nx : ErrNx w E
  c2 : w.cell? ⟨2, 0, none⟩ = some (errV (E 2))
theorem ErrQx.below {n : Nat} {w w' : World} {E : Nat → Addr} (hb : Below n w w') (hn : w.heap.size ≤ n) (h : ErrQx w E) : ErrQx w' E :=
  ⟨h.nx.below hb hn, (hb.cell (Nat.lt_of_lt_of_le (lt_of_cell h.c2) hn)).trans h.c2⟩
theorem ErrEnv.qx {w : World} {E : Nat → Addr} (h : ErrEnv w E) : ErrQx w E := ⟨h.nx, h.c2⟩
def configF (n k : Int) (L : List ByteArray) : Nat × Int := if isSpreadB n k = true then (if (L.length : Int) = n then nodesF L else (3, -1)) else (2, -1)
theorem configF_bad {n k : Int} {L : List ByteArray} (h : isSpreadB n k = false) : configF n k L = (2, -1) := by unfold configF; rw [h]; rfl
theorem configF_shape {n k : Int} {L : List ByteArray} (h : isSpreadB n k = true) (hl : (L.length : Int) ≠ n) : configF n k L = (3, -1) := by unfold configF; rw [if_pos h, if_neg hl]
theorem configF_nodes {n k : Int} {L : List ByteArray} (h : isSpreadB n k = true) (hl : (L.length : Int) = n) : configF n k L = nodesF L := by unfold configF; rw [if_pos h, if_pos hl]
theorem configF_zero {n k : Int} {L : List ByteArray} (h : (configF n k L).1 = 0) : (1 ≤ k ∧ k ≤ n ∧ n ≤ 12) ∧ (L.length : Int) = n ∧ L.Nodup ∧ (∀ s ∈ L, nameB s = true) ∧ configF n k L = (0, -1) := by
  cases hs : isSpreadB n k with
  | false => rw [configF_bad hs] at h; cases h
  | true =>
    by_cases hl : (L.length : Int) = n
    · rw [configF_nodes hs hl] at h ⊢
      have := nodesF_zero h
      exact ⟨of_decide_eq_true hs, hl, this.2.1, this.2.2.1, this.2.2.2⟩
    · rw [configF_shape hs hl] at h; cases h
abbrev cfgV (n k : Int) (v : Value) : Value := .agg #[.int .i64 n, .int .i64 k, v]
structure CfgAt (w : World) (b : Nat) (n k : Int) (v : Value) : Prop where
  c0 : w.cell? ⟨b, 0, none⟩ = some (.int .i64 n)
  c1 : w.cell? ⟨b, 1, none⟩ = some (.int .i64 k)
  c2 : w.cell? ⟨b, 2, none⟩ = some v
theorem CfgAt.new (w : World) (n k : Int) (v : Value) : CfgAt (w.alloc (.cells #[.int .i64 n, .int .i64 k, v] 24)) w.heap.size n k v := ⟨by simp, by simp, by simp⟩
theorem CfgAt.below {m : Nat} {w w' : World} {b : Nat} {n k : Int} {v : Value} (h : CfgAt w b n k v) (hb : Below m w w') (hn : b < m) : CfgAt w' b n k v :=
  ⟨(hb.cell (p := ⟨b, 0, none⟩) hn).trans h.c0, (hb.cell (p := ⟨b, 1, none⟩) hn).trans h.c1, (hb.cell (p := ⟨b, 2, none⟩) hn).trans h.c2⟩

set_option maxRecDepth 100000 in
set_option maxHeartbeats 2000000 in
theorem qcheck_walk (n k : Int) (n₀ : Nat) (a : Option Addr) (len cap : Nat) (L : List ByteArray) (w : World) (E : Nat → Addr) (hE : ErrQx w E) (hlen : L.length = len) (hcap : len ≤ cap) (hsz : ∀ j : Nat, (L[j]?.getD (⟨#[]⟩ : ByteArray)).size ≤ maxLen) (hI : TxsAt n₀ w a L) (hn : n₀ ≤ w.heap.size) :
    Calls Tryz.prog 33 #[cfgV n k (.slice a len cap)] w fun e w' => (∃ v, e = .returned v ∧ FltV w' E (configF n k L) v) ∧ Below w.heap.size w w' := by
  have hB0 : Below w.heap.size w (w.alloc (.cells #[.int .i64 n, .int .i64 k, .slice a len cap] 24)) := (Below.refl _ w).alloc (Nat.le_refl _) _
  have hz : w.heap.size < (w.alloc (.cells #[.int .i64 n, .int .i64 k, .slice a len cap] 24)).heap.size := by simp
  have hE0 := hE.below hB0 (Nat.le_refl _)
  have hC := CfgAt.new w n k (.slice a len cap)
  have hI0 := (hI.mono hn).below hB0
  cases hs : isSpreadB n k with
  | false =>
    have hp := powers_bad n k _ (errV (E 1)) hE0.nx.c1 (of_decide_eq_false hs)
    have Hp := Lib.hid hp
    have HB := Lib.hid hB0
    rw [configF_bad hs]
    clear hs hp hB0 hz hE0 hE hC hI0 hI hsz hlen
    go_enter Tryz.func33, Tryz.ntmps33
    go_wp2_with fail
    refine Hp.out.mono ?_
    rintro e w1 ⟨rfl, hq⟩
    have HB1 : Hid (Below w.heap.size w w1) := Lib.hid (by
      obtain ⟨q, rfl⟩ := hq
      exact HB.out.trans (same_below' _ q))
    clear hq
    go_wp2
    go_ret
    exact ⟨⟨_, rfl, .inr (.inl ⟨1, by decide, rfl, rfl⟩)⟩, HB1.out⟩
  | true =>
    have hsp := of_decide_eq_true hs
    obtain ⟨k, rfl⟩ := Int.eq_ofNat_of_zero_le (show 0 ≤ k by omega)
    obtain ⟨n, rfl⟩ := Int.eq_ofNat_of_zero_le (show 0 ≤ n by omega)
    have Hp := Lib.hid (powers_walk n k (w.alloc (.cells #[.int .i64 (n : Int), .int .i64 (k : Int), .slice a len cap] 24)) (by omega) (by omega) (by omega))
    have HB := Lib.hid (And.intro hB0 hz)
    have HE := Lib.hid hE0
    have HC := Lib.hid hC
    have HI := Lib.hid hI0
    have Hsz := Lib.hid hsz
    have Hlen := Lib.hid hlen
    by_cases hl : len = n
    · subst hl
      obtain ⟨F, hF⟩ : ∃ F, configF (len : Int) (k : Int) L = F := ⟨_, rfl⟩
      have hF2 := hF
      rw [configF_nodes hs (by omega)] at hF2
      have HF := Lib.hid hF2
      rw [hF]
      clear hF hF2 hs hsp hB0 hz hE0 hE hC hI0 hI hsz hlen
      go_enter Tryz.func33, Tryz.ntmps33
      go_wp2_with fail
      refine Hp.out.mono ?_
      rintro e w1 ⟨⟨v, bs, cps, rfl, _⟩, hb1⟩
      have HB1 := Lib.hid (HB.out.1.trans (hb1.mono HB.out.1.size))
      obtain ⟨c0, c1, c2⟩ := HC.out.below hb1 HB.out.2
      have Hk := Lib.hid (check_walk w.heap.size a len cap L w1 E (HE.out.below hb1 (Nat.le_refl _)).nx Hlen.out hcap Hsz.out (HI.out.below (hb1.mono HB.out.1.size)) HB1.out.size)
      clear hb1
      go_wp2_with fail
      refine Hk.out.mono ?_
      rintro e w2 ⟨⟨v, rfl, hv⟩, hb2⟩
      rw [HF.out] at hv
      have HV := Lib.hid (And.intro hv (HB1.out.trans (hb2.mono HB1.out.size)))
      clear hv hb2
      go_wp2
      go_ret
      exact ⟨⟨_, rfl, HV.out.1⟩, HV.out.2⟩
    · have e1 : ((len : Int) == (n : Int)) = false := beq_eq_false_iff_ne.2 (by omega)
      have e2 : ((len : Int) != (n : Int)) = true := bne_iff_ne.2 (by omega)
      have e3 : (len == n) = false := beq_eq_false_iff_ne.2 hl
      rw [configF_shape hs (by omega)]
      clear hs hsp hB0 hz hE0 hE hC hI0 hI hsz hlen hl
      go_enter Tryz.func33, Tryz.ntmps33
      go_wp2_with fail
      refine Hp.out.mono ?_
      rintro e w1 ⟨⟨v, bs, cps, rfl, _⟩, hb1⟩
      have HB1 := Lib.hid (HB.out.1.trans (hb1.mono HB.out.1.size))
      obtain ⟨c0, c1, c2⟩ := HC.out.below hb1 HB.out.2
      have hsh := (HE.out.below hb1 (Nat.le_refl _)).c2
      clear hb1
      go_wp2
      go_ret
      exact ⟨⟨_, rfl, .inr (.inl ⟨2, by decide, rfl, rfl⟩)⟩, HB1.out⟩

def EnoughOut (w w' : World) (E : Nat → Addr) (n k : Int) (L : List ByteArray) (e : Ending) : Prop := Below w.heap.size w w' ∧
  (((configF n k L).1 = 0 ∧ e = .returned (.tuple #[.int .i64 ((n + k + 1) / 2), .nilIface])) ∨ ((configF n k L).1 ≠ 0 ∧ ∃ v, ((∃ x, v = errV x) ∨ ∃ m, v = faultV m) ∧ FltV w' E (configF n k L) v ∧ e = .returned (.tuple #[.int .i64 0, v])))
set_option maxRecDepth 100000 in
set_option maxHeartbeats 2000000 in
theorem enough_walk (n k : Int) (n₀ : Nat) (a : Option Addr) (len cap : Nat) (L : List ByteArray) (w : World) (E : Nat → Addr) (hE : ErrQx w E) (hlen : L.length = len) (hcap : len ≤ cap) (hsz : ∀ j : Nat, (L[j]?.getD (⟨#[]⟩ : ByteArray)).size ≤ maxLen) (hI : TxsAt n₀ w a L) (hn : n₀ ≤ w.heap.size) :
    Calls Tryz.prog 68 #[cfgV n k (.slice a len cap)] w fun e w' => EnoughOut w w' E n k L e := by
  have hB0 : Below w.heap.size w (w.alloc (.cells #[.int .i64 n, .int .i64 k, .slice a len cap] 24)) := (Below.refl _ w).alloc (Nat.le_refl _) _
  have hz : w.heap.size < (w.alloc (.cells #[.int .i64 n, .int .i64 k, .slice a len cap] 24)).heap.size := by simp
  have Hk := Lib.hid (qcheck_walk n k w.heap.size a len cap L _ E (hE.below hB0 (Nat.le_refl _)) hlen hcap hsz ((hI.mono hn).below hB0) hB0.size)
  have HB := Lib.hid (And.intro hB0 hz)
  have HC := Lib.hid (CfgAt.new w n k (.slice a len cap))
  have Hz := Lib.hid (fun h => configF_zero (n := n) (k := k) (L := L) h)
  obtain ⟨F, hF⟩ : ∃ F, configF n k L = F := ⟨_, rfl⟩
  have HF := Lib.hid hF
  rw [hF] at Hk Hz
  clear hF hB0 hz hE hI hsz hlen
  go_enter Tryz.func68, Tryz.ntmps68
  go_wp2_with fail
  refine Hk.out.mono ?_
  rintro e w1 ⟨⟨v, rfl, hv⟩, hb1⟩
  have HB1 := Lib.hid (HB.out.1.trans (hb1.mono HB.out.1.size))
  obtain ⟨c0, c1, c2⟩ := HC.out.below hb1 HB.out.2
  clear hb1
  by_cases h0 : F.1 = 0
  · obtain ⟨hF0, rfl⟩ := hv.nil h0
    obtain ⟨⟨h1, h2, h3⟩, _⟩ := Hz.out h0
    have H0 := Lib.hid h0
    clear hv h0 hF0
    go_wp2
    go_ret2
    exact ⟨HB1.out, .inl ⟨by rw [HF.out]; exact H0.out, rfl⟩⟩
  · have H0 := Lib.hid (And.intro h0 (And.intro (hv.some_ h0) hv))
    rcases hv.some_ h0 with ⟨x, rfl⟩ | ⟨m, rfl⟩
    · clear hv h0
      go_wp2
      go_ret2
      exact ⟨HB1.out, .inr ⟨by rw [HF.out]; exact H0.out.1, _, H0.out.2.1, by rw [HF.out]; exact H0.out.2.2, rfl⟩⟩
    · unfold faultV at H0 ⊢
      clear hv h0
      go_wp2
      go_ret2
      exact ⟨HB1.out, .inr ⟨by rw [HF.out]; exact H0.out.1, _, H0.out.2.1, by rw [HF.out]; exact H0.out.2.2, rfl⟩⟩
end Go.Proofs.YtabboioamdphmaaGreatDoor
/- Walks of the document's upTo and Spread; of both Times where they do not go together. -/
namespace Go.Proofs.YtabboioamdphmaaGreatDoor
open Go.RowKit

set_option maxHeartbeats 1000000 in
theorem upto_walk (k : Nat) (w : World) (hk : k ≤ 255) :
    Calls Tryz.prog 114 #[.int .i64 k] w fun e w' => (∃ v, e = .returned v ∧ OwnB w.heap.size w' v (List.range k)) ∧ Below w.heap.size w w' := by
  go_enter Tryz.func114, Tryz.ntmps114
  go_wp2
  go_loopw [3, 4] (fun v vi wr => ∃ i : Nat, i ≤ k ∧ vi = .int .i64 i ∧ Hid (OwnB w.heap.size wr v (List.range i) ∧ Below w.heap.size w wr)) (fun _ i _ => k - (intOf i).toNat)
  case atStart => exact ⟨0, by omega, rfl, Lib.hid ⟨OwnB.nil _ _, Below.refl _ _⟩⟩
  case round =>
    obtain ⟨i, hi, rfl, H⟩ := hrel
    have hi2 : i < k ∨ i = k := by omega
    rcases hi2 with hlt | rfl
    · have hlt2 : (i : Int) < k := by omega
      have hmod : (i : Int) % 256 = i := by omega
      have hl : (List.range i).length + 1 ≤ 140737488355328 := by simp; omega
      have hs2 := H.out.2.size
      go_wp2_with (at_builtin; refine append_byte 10 13 rfl rfl w.heap.size _ _ i rfl rfl H.out.1 hl hs2 ?_)
      intro v' w' k1 k2 k3
      have hb : Below w.heap.size w w' := (H.out.2.alloc hs2 _).grown k2 (by simp; omega) (fun q e => (H.out.1.lt q e).1)
      have hr : OwnB w.heap.size w' v' (List.range (i + 1)) := by rw [List.range_succ]; exact k1
      have HR := Lib.hid (And.intro hr hb)
      clear k1 k2 k3 hb hr
      go_wp2
      go_roundw
      case rel => exact ⟨i + 1, by omega, by go_num, HR⟩
      case measure => simp [intOf]; omega
    · go_wp2
      go_ret
      exact ⟨⟨_, rfl, H.out.1⟩, H.out.2⟩

set_option maxRecDepth 100000 in
set_option maxHeartbeats 4000000 in
theorem rspread_walk (n k : Nat) (w : World) (hk : 1 ≤ k) (hkn : k ≤ n) (hn : n ≤ 12) :
    Calls Tryz.prog 90 #[.int .i64 n, .int .i64 k] w fun e w' => (∃ v bs caps, e = .returned v ∧ OwnM w.heap.size w' v n k bs caps (Mx.spr k)) ∧ Below w.heap.size w w' := by
  have hmk := fun (W : World) => run_make_row' (P := Tryz.prog) (w := W) 112 5 (.int .u8 0) 1 Tryz.underlying112 info_uint8 rfl .i64 .i64 k (by omega) (by omega)
  have Hmk := Lib.hid hmk
  clear hmk
  go_enter Tryz.func90, Tryz.ntmps90
  go_wp2_with fail
  refine (upto_walk k w (by omega)).mono ?_
  rintro e w1 ⟨⟨vx, rfl, hvx⟩, hb1⟩
  obtain ⟨ax, cx, hve, _, _, hIx⟩ := OwnB.row hvx
  rw [hve, List.length_range]
  have HX := Lib.hid hIx
  have HB1 := Lib.hid hb1
  have hsw := hb1.size
  clear hve hvx hIx hb1
  go_wp2
  go_loopw [6, 7] (fun vo vi wr => ∃ (i : Nat) (bs caps : Nat → Nat), i ≤ n ∧ vi = .int .i64 i ∧ Hid (OwnM w1.heap.size wr vo i k bs caps (Mx.spr k) ∧ Below w1.heap.size w1 wr)) (fun _ i _ => n - (intOf i).toNat)
  case atStart => exact ⟨0, fun _ => 0, fun _ => 0, by omega, rfl, Lib.hid ⟨OwnM.nil _ _ _ _ _ _, Below.refl _ _⟩⟩
  case round =>
    obtain ⟨i, bs, caps, hi, rfl, H⟩ := hrel
    have hi2 : i < n ∨ i = n := by omega
    rcases hi2 with hlt | rfl
    · have hlt2 : (i : Int) < n := by omega
      have hmk := Hmk.out wr
      obtain ⟨wo, rfl⟩ : ∃ wo : World, wo = wr := ⟨_, rfl⟩
      go_wp2
      have hsz := H.out.2.size
      have hrow := RowV.made wo k
      obtain ⟨W0, hW0⟩ : ∃ W0, (wo.alloc (.cells (madeCells #[.int .u8 0] k) 5)) = W0 := ⟨_, rfl⟩
      have hb0 : Below w1.heap.size w1 W0 := by rw [← hW0]; exact H.out.2.alloc hsz _
      have hm0 : OwnM w1.heap.size W0 u6 i k bs caps (Mx.spr k) := by rw [← hW0]; exact H.out.1.below ((Below.refl _ wo).alloc (Nat.le_refl _) _) (Nat.le_refl _)
      have hs0 : W0.heap.size = wo.heap.size + 1 := by rw [← hW0]; simp
      have hl0 : ∀ i', i' < i → bs i' ≠ wo.heap.size := fun i' h e => by have := H.out.1.lt i' h; omega
      have ho0 : u6.ownBlock ≠ some wo.heap.size := fun e => by have := (H.out.1.own.lt _ e).2; omega
      rw [hW0] at hrow ⊢
      obtain ⟨g, hg⟩ : ∃ g, wo.heap.size = g := ⟨_, rfl⟩
      rw [hg] at hrow hs0 hl0 ho0 hsz ⊢
      have Hx := Lib.hid (And.intro hrow (And.intro hb0 (And.intro hm0 (And.intro hs0 (And.intro hl0 ho0)))))
      clear hrow hb0 hm0 hs0 hl0 ho0 hW0 hg hmk
      go_loopw [9] (fun vt wr => ∃ j : Nat, j ≤ k ∧ vt = .int .i64 j ∧ Hid (OnlyB g W0 wr ∧ RowV wr g k (firstK j (Mx.spr k i) (fun _ => 0)))) (fun t _ => k - (intOf t).toNat)
      case atStart => exact ⟨0, by omega, rfl, Lib.hid ⟨OnlyB.refl _ _, Hx.out.1.congr fun j _ => by unfold firstK; rw [if_neg (by omega)]⟩⟩
      case round =>
        obtain ⟨j, hj, rfl, H2⟩ := hrel
        have hj2 : j < k ∨ j = k := by omega
        rcases hj2 with hjl | rfl
        · have hjl2 : (j : Int) < k := by omega
          have hmod : (i : Int) % 256 = i := by omega
          have hlr : (List.range k).length = k := List.length_range
          have hI2 : RowAt w1.heap.size wr ax (List.range k) := HX.out.below (Hx.out.2.1.trans (H2.out.1.below hsz))
          have hbs := basis_walk w1.heap.size ax cx (List.range k) j i wr (Mx.range_bytes (by omega)) (Mx.range_unlike k) (by omega) (by rw [hlr]; unfold maxLen; omega) (by rw [hlr]; exact hjl) hI2
          rw [hlr] at hbs
          have hnew : bas (List.range k) j i = Mx.spr k i j := rfl
          rw [hnew] at hbs
          have hxl := Mx.by_spr k i j
          obtain ⟨x, hxe⟩ : ∃ x, Mx.spr k i j = x := ⟨_, rfl⟩
          rw [hxe] at hbs hxl
          have hcD := H2.out.2.cell j hjl
          have hfr := H2.out.2.free j hjl
          have Hbs := Lib.hid hbs
          have Hxe := Lib.hid hxe
          clear hbs hxe hI2 hnew hlr
          go_wp2_with fail
          refine Hbs.out.mono ?_
          rintro e w' ⟨rfl, q, rfl⟩
          have hcD2 : (wr.drewN q).cell? ⟨g, j, none⟩ = some (.int .u8 (firstK j (Mx.spr k i) (fun _ => 0) j : Nat)) := hcD
          go_wp2
          go_roundw
          case rel =>
            refine ⟨j + 1, by omega, by go_num, Lib.hid ⟨?_, ?_⟩⟩
            · exact (H2.out.1.trans (OnlyB.drewN g wr q)).trans (OnlyB.setCell _ _ _ _)
            · refine (RowV.set (x := x) hjl (RowV.drewN q H2.out.2)).congr fun j' hj' => ?_
              unfold Mx.upd firstK
              by_cases e : j' = j
              · rw [if_pos e, if_pos (by omega), e]; exact Hxe.out.symm
              · rw [if_neg e]
                by_cases e2 : j' < j
                · rw [if_pos e2, if_pos (by omega)]
                · rw [if_neg e2, if_neg (by omega)]
          case measure => simp [intOf]; omega
        · obtain ⟨_, hb0, hm0, hs0, hl0, ho0⟩ := Hx.out
          have hm1 := hm0.only H2.out.1 hl0 ho0
          have hb1 := hb0.trans (H2.out.1.below hsz)
          have hgl : g < wr.heap.size := by have := H2.out.1.size; omega
          have hown := Lib.hid hm1.own
          have hul : ((List.range i).map fun i => Value.slice (some ⟨bs i, 0, none⟩) j (caps i)).length ≤ 1000000 := by simp; omega
          have hsz1 := hb1.size
          have hrowf := H2.out.2.congr (g := Mx.spr j i) (fun j' hj' => by unfold firstK; rw [if_pos hj'])
          have Hy := Lib.hid (And.intro hm1 (And.intro hb1 (And.intro hl0 (And.intro ho0 hrowf))))
          clear hb0 hm0 hs0 hl0 ho0 hm1 hb1 hrowf
          go_wp2_with (at_builtin; refine append_rowv 32 34 rfl rfl w1.heap.size _ _ (some ⟨g, 0, none⟩) j j rfl rfl hown.out hul hsz1 ?_)
          intro v' w' k1 k2 k3
          obtain ⟨hm1, hb1, hl0, ho0, hrowf⟩ := Hy.out
          have hm2 := hm1.snoc hrowf hsz hgl hl0 ho0 ⟨Nat.le_refl _, by unfold maxLen; omega⟩ k1 k2 k3
          have hb2 : Below w1.heap.size w1 w' := (hb1.alloc hsz1 _).grown k2 (by simp; omega) (fun j e => (hm1.own.lt j e).1)
          have hm3 := hm2.congr (M' := Mx.spr j) (fun i' hi' j hj => by
            unfold Mx.putR
            by_cases e : i' = i
            · rw [if_pos e, e]
            · rw [if_neg e])
          have HR := Lib.hid (And.intro hm3 hb2)
          clear hm1 hb1 hl0 ho0 hrowf hm2 hb2 hm3 k1 k2 k3 Hy hown
          go_wp2
          go_roundw
          case rel => exact ⟨i + 1, _, _, by omega, by go_num, HR⟩
          case measure => simp [intOf]; omega
    · go_wp2
      go_ret
      exact ⟨⟨_, bs, caps, rfl, H.out.1.lower hsw⟩, HB1.out.trans (H.out.2.mono hsw)⟩

end Go.Proofs.YtabboioamdphmaaGreatDoor
