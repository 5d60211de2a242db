/- The walk of the law SumsBurst. -/
import Derived.Test.YtfojimaafhpgbaaDoorBurst
import Derived.Laws.IdiomStrings
namespace Go.Proofs.YtfojimaafhpgbaaDoor.sumsBurst
open Go.RowKit

set_option maxHeartbeats 1000000 in
theorem walk_out (s : ByteArray) (k : Int) (b : Int) (w : World) (h : (600 : Int) < (s.size : Int) ∨ b = 0 ∨ k < 0) :
    Calls Tryd.prog 8 #[.string s, .int .i64 k, .int .u32 b] w fun e w' => e = .returned (.bool true) ∧ w = w' := by
  by_cases h1 : (600 : Int) < (s.size : Int)
  · go_enter Tryd.func8, Tryd.ntmps8
    go_wp2_with (go_at_call 33; refine (check_walk _).mono ?_; rintro e w' ⟨rfl, rfl⟩)
    go_ret
    exact ⟨rfl, rfl⟩
  · by_cases h2 : b = 0
    · subst h2
      go_enter Tryd.func8, Tryd.ntmps8
      go_wp2_with (go_at_call 33; refine (check_walk _).mono ?_; rintro e w' ⟨rfl, rfl⟩)
      go_ret
      exact ⟨rfl, rfl⟩
    · have h3 : k < 0 := by omega
      have hb : (b == 0) = false := by simpa using h2
      go_enter Tryd.func8, Tryd.ntmps8
      go_wp2_with (go_at_call 33; refine (check_walk _).mono ?_; rintro e w' ⟨rfl, rfl⟩)
      go_ret
      exact ⟨rfl, rfl⟩

set_option maxRecDepth 100000 in
set_option maxHeartbeats 2000000 in
/-- the burst begins behind the text. -/
theorem walk_far (s : ByteArray) (k : Int) (b : Int) (w : World) (hs : ¬ (600 : Int) < (s.size : Int)) (hb : (b == 0) = false) (hk : ¬ k < 0) (hk2 : k < 9223372036854775808) (hf : 8 * (s.size : Int) ≤ k) :
    Calls Tryd.prog 8 #[.string s, .int .i64 k, .int .u32 b] w fun e w' => e = .returned (.bool true) ∧ Below w.heap.size w w' := by
  have hse : Hid (Calls Tryd.prog 34 #[.string s] w fun e w' => e = .returned (.string (s ++ fourS (Sm.crc (Sm.nats s)))) ∧ Below w.heap.size w w') := Lib.hid (seal_walk s w (by omega))
  obtain ⟨k32, hk32⟩ : ∃ c, IntKind.i64.wrap (k + 32) = c := ⟨_, rfl⟩
  by_cases h : 8 * (s.size : Int) + 32 < k32
  · go_enter Tryd.func8, Tryd.ntmps8
    go_wp2_with fail
    refine (check_walk _).mono ?_
    rintro e w' ⟨rfl, rfl⟩
    go_wp2
    go_ret
    exact ⟨rfl, Below.refl _ _⟩
  · go_enter Tryd.func8, Tryd.ntmps8
    go_wp2_with fail
    refine (check_walk _).mono ?_
    rintro e w' ⟨rfl, rfl⟩
    go_wp2_with fail
    refine hse.out.mono ?_
    rintro e w1 ⟨rfl, hb1⟩
    have hcv := run_bytes_of_string (P := Tryd.prog) w1 9 28 5 (s ++ fourS (Sm.crc (Sm.nats s))) Tryd.underlying9 Tryd.underlying28 Tryd.underlying5
    generalize s ++ fourS (Sm.crc (Sm.nats s)) = q at hcv
    go_wp2
    go_ret
    exact ⟨rfl, (hb1.drew).alloc hb1.size _⟩

set_option maxRecDepth 100000 in
set_option maxHeartbeats 2000000 in
theorem walk_in (s f : ByteArray) (k : Nat) (b : Nat) (w : World) (hs : s.size ≤ 600) (hb0 : ((b : Int) == 0) = false) (_hb : b < 4294967296) (hk : k < 8 * s.size) (hf4 : f.size = 4)
    (hse : ∀ W, Calls Tryd.prog 34 #[.string s] W fun e w' => e = .returned (.string (s ++ f)) ∧ Below W.heap.size W w')
    (t : ByteArray) (ht : t = Sm.flipB (s ++ f) (Sm.turned b k (8 * s.size) 32 * 2 ^ k)) (ev : Value)
    (hO : t ≠ s ++ f → ∀ W, Below w.heap.size w W → Calls Tryd.prog 40 #[.string t] W fun e w' => e = .returned (.tuple #[.string ⟨#[]⟩, ev]) ∧ Below W.heap.size W w')
    (hC : ∀ W, Below w.heap.size w W → Calls Tryd.prog 31 #[ev, .int .i64 9] W fun e w' => e = .returned (.bool true) ∧ Below W.heap.size W w') :
    Calls Tryd.prog 8 #[.string s, .int .i64 k, .int .u32 b] w fun e w' => e = .returned (.bool true) ∧ Below w.heap.size w w' := by
  have Hse := Lib.hid hse
  have HO := Lib.hid hO
  have HC := Lib.hid hC
  have Ht := Lib.hid ht
  have hwr : IntKind.i64.wrap ((k : Int) + 32) = (k : Int) + 32 := IntWalk.i64_in _ (by omega)
  clear hse hO hC ht
  have hqs : (s ++ f).size = s.size + 4 := by rw [ByteArray.size_append, hf4]
  generalize hq : s ++ f = q at *
  go_enter Tryd.func8, Tryd.ntmps8
  go_wp2_with fail
  refine (check_walk _).mono ?_
  rintro e w' ⟨rfl, rfl⟩
  go_wp2_with fail
  refine (Hse.out _).mono ?_
  rintro e w1 ⟨rfl, hb1⟩
  have hcv := run_bytes_of_string (P := Tryd.prog) w1 9 28 5 q Tryd.underlying9 Tryd.underlying28 Tryd.underlying5
  obtain ⟨w2, hw2⟩ : ∃ w2, w2 = (w1.drew.alloc (.cells (bytesRow q (grownCap w1 q.size 0 5)) 5 ((bytesRow q (grownCap w1 q.size 0 5)).size, (bytesRow q (grownCap w1 q.size 0 5)).size + 1))) := ⟨_, rfl⟩
  rw [← hw2] at hcv
  have hc2 : ∀ j, j < s.size + 4 → w2.cell? ⟨w1.heap.size, j, none⟩ = some (.int .u8 (((Sm.nats q)[j]?.getD 0 : Nat) : Int)) := by
    intro j hj
    have hj' : j < q.data.size := by rw [← hqs] at hj; exact hj
    rw [hw2]
    have := World.cell?_alloc_mark w1.drew (bytesRow q (grownCap w1 q.size 0 5)) 5 ((bytesRow q (grownCap w1 q.size 0 5)).size, (bytesRow q (grownCap w1 q.size 0 5)).size + 1) j
    rw [show w1.drew.heap.size = w1.heap.size from rfl] at this
    rw [this, bytesRow_at _ _ _ hj', Sm.nats_at hj']
    rfl
  have hf2 : ∀ j, j < s.size + 4 → w2.frozen? ⟨w1.heap.size, j, none⟩ = false := by
    intro j hj
    rw [hw2]
    have := World.frozen?_alloc_mark w1.drew (bytesRow q (grownCap w1 q.size 0 5)) 5 (bytesRow q (grownCap w1 q.size 0 5)).size ((bytesRow q (grownCap w1 q.size 0 5)).size + 1) j
    rw [show w1.drew.heap.size = w1.heap.size from rfl] at this
    rw [this]
    have hj' : j < q.data.size := by rw [← hqs] at hj; exact hj
    have : q.data.size ≤ (bytesRow q (grownCap w1 q.size 0 5)).size := by unfold bytesRow; simp
    simp
    omega
  have hb2 : Below w.heap.size w w2 := hw2 ▸ (hb1.drew).alloc hb1.size _
  have hgw : w.heap.size ≤ w1.heap.size := hb1.size
  obtain ⟨g, hg⟩ : ∃ g, w1.heap.size = g := ⟨_, rfl⟩
  generalize grownCap w1 q.size 0 5 = cap at hcv
  rw [hg] at hcv hc2 hf2 hgw
  clear hw2 hb1
  have Hc2 := Lib.hid hc2
  have Hf2 := Lib.hid hf2
  have Hb2 := Lib.hid hb2
  clear hc2 hf2 hb2
  go_wp2
  obtain ⟨D, hD⟩ : ∃ D : Nat → Nat, D = fun i => Sm.turned b k (8 * s.size) i * 2 ^ k := ⟨_, rfl⟩
  go_loopw [9] (fun vi wr => ∃ i : Nat, i ≤ 32 ∧ vi = .int .i64 i ∧ Hid (Below w.heap.size w wr) ∧ Hid (∀ j, j < s.size + 4 → wr.cell? ⟨g, j, none⟩ = some (.int .u8 (((Sm.nats q)[j]?.getD 0 ^^^ Sm.byteAt (D i) j : Nat) : Int))) ∧ Hid (∀ j, j < s.size + 4 → wr.frozen? ⟨g, j, none⟩ = false)) (fun i _ => 32 - (intOf i).toNat)
  case atStart => exact ⟨0, by omega, rfl, Hb2, Lib.hid (fun j hj => by rw [Hc2.out j hj, hD]; simp [Sm.turned, Sm.byteAt]), Hf2⟩
  case round =>
    obtain ⟨i, hi, rfl, Hbr, Hcr, Hfr⟩ := hrel
    have hi2 : i < 32 ∨ i = 32 := by omega
    rcases hi2 with hlt | rfl
    · have hdm : ((b : Int) / 2 ^ i).tmod 2 = ((b / 2 ^ i % 2 : Nat) : Int) := by
        have e1 : ((2 : Int) ^ i) = ((2 ^ i : Nat) : Int) := by simp
        rw [e1, ← Int.natCast_ediv, Int.tmod_eq_emod_of_nonneg (Int.natCast_nonneg _)]
        rfl
      by_cases hbit : b / 2 ^ i % 2 = 1 ∧ k + i < 8 * s.size
      · have hj8 : (k + i) / 8 < s.size + 4 := by omega
        have hcell := Hcr.out _ hj8
        have hfr := Hfr.out _ hj8
        have hDi : D (i + 1) = D i ^^^ 2 ^ (k + i) := by
          rw [hD]
          show Sm.turned b k (8 * s.size) (i + 1) * 2 ^ k = _
          rw [Sm.turned, if_pos hbit, Sm.xor_mul_pow, ← Nat.pow_add, Nat.add_comm i k]
        have HDi := Lib.hid hDi
        have hclt : ((Sm.nats q)[(k + i) / 8]?.getD 0 ^^^ Sm.byteAt (D i) ((k + i) / 8)) < 256 := Nat.xor_lt_two_pow (n := 8) (Sm.nats_lt q _) (Sm.byteAt_lt _ _)
        obtain ⟨c, hc⟩ : ∃ c, ((Sm.nats q)[(k + i) / 8]?.getD 0 ^^^ Sm.byteAt (D i) ((k + i) / 8)) = c := ⟨_, rfl⟩
        rw [hc] at hcell hclt
        have Hc := Lib.hid hc
        have t1 : ((b : Int) / 2 ^ i).tmod 2 = 1 := by rw [hdm, hbit.1]; rfl
        have t2 : (k : Int) + i < 8 * s.size := by omega
        clear hc hdm hDi hD hbit
        have hm8 : 2 ^ ((k + i) % 8) < 256 := Nat.lt_of_lt_of_le (Nat.pow_lt_pow_right (by decide) (Nat.mod_lt (k + i) (by decide : 0 < 8))) (Nat.le_refl (2 ^ 8))
        have hx : bits .xor .u8 (c : Int) (2 ^ ((k + i) % 8) % 256) = ((c ^^^ 2 ^ ((k + i) % 8) : Nat) : Int) := by
          have e1 : ((2 : Int) ^ ((k + i) % 8)) = ((2 ^ ((k + i) % 8) : Nat) : Int) := by simp
          rw [e1, Int.emod_eq_of_lt (Int.natCast_nonneg _) (by omega), u8_xor_nat _ _ hclt hm8]
        have Hx := Lib.hid hx
        clear hx hm8
        go_wp2
        go_round
        case rel =>
          refine ⟨i + 1, by omega, by go_num, Lib.hid (Hbr.out.setCell hgw _), Lib.hid (fun j hj => ?_), Lib.hid (fun j hj => by rw [World.frozen?_setCell]; exact Hfr.out j hj)⟩
          rw [HDi.out, Sm.byteAt_xor, Hx.out]
          by_cases hjj : j = (k + i) / 8
          · subst hjj
            rw [World.cell?_setCell_same _ _ _ hcell, if_pos rfl, ← Nat.xor_assoc, Hc.out]
          · have hne : (⟨g, (k + i) / 8, none⟩ : Addr) ≠ ⟨g, j, none⟩ := by
              intro he
              exact hjj (Addr.mk.inj he).2.1.symm
            rw [World.cell?_setCell_other _ _ _ _ hne, if_neg hjj]
            exact Hcr.out j hj
        case measure => simp [intOf]; omega
      · have hDi : D (i + 1) = D i := by
          rw [hD]
          show Sm.turned b k (8 * s.size) (i + 1) * 2 ^ k = _
          rw [Sm.turned, if_neg hbit]
        have HDi := Lib.hid hDi
        have hb2 : b / 2 ^ i % 2 = 0 ∨ b / 2 ^ i % 2 = 1 ∧ ¬ k + i < 8 * s.size := by omega
        clear hDi hD
        rcases hb2 with hb2 | ⟨hb2, hb3⟩
        · have t1 : ((b : Int) / 2 ^ i).tmod 2 = 0 := by rw [hdm, hb2]; rfl
          clear hdm hbit hb2
          go_wp2
          go_round
          case rel => exact ⟨i + 1, by omega, by go_num, Hbr, Lib.hid (by rw [HDi.out]; exact Hcr.out), Hfr⟩
          case measure => simp [intOf]; omega
        · have t1 : ((b : Int) / 2 ^ i).tmod 2 = 1 := by rw [hdm, hb2]; rfl
          have t2 : ¬ (k : Int) + i < 8 * s.size := by omega
          clear hdm hbit hb2 hb3
          go_wp2
          go_round
          case rel => exact ⟨i + 1, by omega, by go_num, Hbr, Lib.hid (by rw [HDi.out]; exact Hcr.out), Hfr⟩
          case measure => simp [intOf]; omega
    · have htl : t.data.toList.length = s.size + 4 := by
        rw [Ht.out, ← hqs]
        have := Sm.flip_size q (Sm.turned b k (8 * s.size) 32 * 2 ^ k)
        simpa using this
      have hcb := run_convert_bytes_back (P := Tryd.prog) wr 28 9 5 ⟨g, 0, none⟩ cap t.data.toList Tryd.underlying28 Tryd.underlying5 Tryd.underlying9 (fun j hj => by
        have hj' : j < t.size := by simpa using hj
        have hj4 : j < s.size + 4 := by rw [← htl]; exact hj
        rw [Go.WideShapes.add_plain, Nat.zero_add, Hcr.out j hj4, hD]
        have e1 := Sm.flip_nats q (Sm.turned b k (8 * s.size) 32 * 2 ^ k) j (by omega)
        rw [← Ht.out, Sm.nats_at hj'] at e1
        rw [← e1]
        rfl)
      rw [htl] at hcb
      have hbr := Hbr.out
      clear Hcr Hfr Hc2 Hf2 Hb2 hcv hD Ht htl Hbr
      have et : (⟨t.data.toList.toArray⟩ : ByteArray) = t := rfl
      rw [et] at hcb
      by_cases htq : t = q
      · have hb1 : (t.toList == q.toList) = true := by rw [htq]; simp
        clear HO HC htq
        go_wp2_with fail
        refine (Hse.out _).mono ?_
        rintro e w3 ⟨rfl, hb3⟩
        have hb4 := hbr.trans (hb3.mono hbr.size)
        clear hb3
        go_wp2
        go_ret
        exact ⟨rfl, hb4⟩
      · have ho := Lib.hid (HO.out htq)
        have hb1 := ne_list htq
        clear HO htq
        go_wp2_with fail
        refine (Hse.out _).mono ?_
        rintro e w3 ⟨rfl, hb3⟩
        have hb4 := hbr.trans (hb3.mono hbr.size)
        clear hb3
        go_wp2_with fail
        refine (ho.out _ hb4).mono ?_
        rintro e w4 ⟨rfl, hb⟩
        have hb5 := hb4.trans (hb.mono hb4.size)
        clear hb hb4
        go_wp2_with fail
        refine (HC.out _ hb5).mono ?_
        rintro e w5 ⟨rfl, hb⟩
        have hb6 := hb5.trans (hb.mono hb5.size)
        clear hb hb5
        go_wp2
        go_ret
        exact ⟨rfl, hb6⟩

theorem walk (s : ByteArray) (k b : Int) (w : World) (_w0 : s.size ≤ maxLen) (w1' : (Lit.int .i64 k).wf = true) (w2' : (Lit.int .u32 b).wf = true) (hL : laidMetH Tryd.prog Rows.sumsBurstRow.laid w) :
    Calls Tryd.prog 8 #[.string s, .int .i64 k, .int .u32 b] w fun e w' => e = .returned (.bool true) ∧ Below w.heap.size w w' := by
  obtain ⟨E, hE⟩ := env_of_laid hL
  have w1 := bounds_i64 w1'
  have w2 := bounds_u32 w2'
  have eE : ∀ {W : World}, Below w.heap.size w W → ErrEnv W E := fun hW => hE.below hW (Nat.le_refl _)
  by_cases h : (600 : Int) < (s.size : Int) ∨ b = 0 ∨ k < 0
  · exact (walk_out s k b w h).mono fun e w' ⟨he, hw⟩ => ⟨he, hw ▸ Below.refl _ _⟩
  have hb0 : (b == 0) = false := by rw [beq_eq_false_iff_ne]; omega
  by_cases hf : 8 * (s.size : Int) ≤ k
  · exact walk_far s k b w (by omega) hb0 (by omega) (by omega) hf
  obtain ⟨k, rfl⟩ := Int.eq_ofNat_of_zero_le (show 0 ≤ k by omega)
  obtain ⟨b, rfl⟩ := Int.eq_ofNat_of_zero_le (show 0 ≤ b by omega)
  refine walk_in s (fourS (Sm.crc (Sm.nats s))) k b w (by omega) hb0 (by omega) (by omega) (fourS_size _) (fun W => seal_walk s W (by omega)) _ rfl (errV (E 8)) ?_ (fun W hW => coded_err E 8 (by decide) 9 W (eE hW))
  intro hne W hW
  have hD := Sm.turned_in b k (8 * s.size) 32
  by_cases h0 : Sm.turned b k (8 * s.size) 32 = 0
  · exfalso; apply hne
    rw [h0, Nat.zero_mul, Sm.flip_zero]
  have hcrc := Sm.burst_crc (s := s) (b := b) (a := k) (by omega) h0
  rw [Sm.flip_append hD]
  refine open_sum _ W _ ?_ ?_ (eE hW).c8 ?_
  · rw [ByteArray.size_append, fourS_size]; omega
  · rw [ByteArray.size_append, fourS_size, Sm.flip_size]; omega
  · rw [bodyOf_append (fourS_size _), tailOf_append (fourS_size _)]
    exact fun he => hcrc (Sm.fourS_inj (crc_lt _) (crc_lt _) he)
end Go.Proofs.YtfojimaafhpgbaaDoor.sumsBurst
