/- The walk of coder.look, whole. -/
import Derived.Test.YtolbdcmoblcakaaGreatDoorKRepairAll21
import Derived.Test.YtolbdcmoblcakaaGreatDoorKRepairAll18
import Derived.Test.YtolbdcmoblcakaaGreatDoorKRepairAll01
namespace Go.Proofs.YtolbdcmoblcakaaGreatDoor
open Go.RowKit

theorem wide_q (k size : Nat) (w : World) (hk : 1 ≤ k) (hk2 : k ≤ 1000) (hs : size ≤ 100000) :
    Calls Tryz.prog 70 #[.int .i64 k, .int .i64 size] w fun e w' => e = .returned (.int .i64 (wideN k size : Nat)) ∧ w' = w :=
  (wide_walk2 k size w hk hk2 hs).mono fun _ _ ⟨he, hw⟩ => ⟨he, hw.symm⟩
theorem stepS_le {k : Nat} {out : List Sh} {s : Sh} (h : out.length ≤ k) : (stepS k out s).length ≤ k := by
  unfold stepS
  split
  · rename_i h1; simp; omega
  · exact h
theorem pickS_le (k : Nat) (l : List Sh) : (pickS k l).length ≤ k := by
  unfold pickS
  have : ∀ (l out : List Sh), out.length ≤ k → (l.foldl (stepS k) out).length ≤ k := by
    intro l
    induction l with
    | nil => intro out h; exact h
    | cons s r ih => intro out h; exact ih _ (stepS_le h)
  exact this l [] (by simp)

set_option maxHeartbeats 1000000 in
theorem look_spread (n k size : Int) (a : Option Addr) (len cap : Nat) (w : World) (a1 : Addr) (hb : w.cell? ⟨3, 0, none⟩ = some (errV a1)) (h : ¬ (1 ≤ k ∧ k ≤ n ∧ n ≤ 12)) :
    Calls Tryz.prog 94 #[.int .i64 n, .int .i64 k, .int .i64 size, .slice a len cap] w fun e w' => e = .returned (.tuple #[.slice none 0 0, errV a1]) ∧ Below w.heap.size w w' := by
  have H := Lib.hid (powers_bad n k w (errV a1) hb h)
  clear hb h
  go_enter Tryz.func94, Tryz.ntmps94
  go_wp2_with fail
  refine H.out.mono ?_
  rintro e w' ⟨rfl, q, rfl⟩
  go_wp2
  go_ret2
  exact ⟨rfl, same_below' _ q⟩
set_option maxHeartbeats 1000000 in
theorem look_size (n k : Nat) (size : Int) (a : Option Addr) (len cap : Nat) (w : World) (a1 : Addr) (hb : w.cell? ⟨3, 0, none⟩ = some (errV a1)) (hk : 1 ≤ k) (hkn : k ≤ n) (hn : n ≤ 12) (h : size < 0 ∨ 1000 < size) :
    Calls Tryz.prog 94 #[.int .i64 n, .int .i64 k, .int .i64 size, .slice a len cap] w fun e w' => e = .returned (.tuple #[.slice none 0 0, errV a1]) ∧ Below w.heap.size w w' := by
  have Hb := Lib.hid hb
  clear hb
  have hcase : size < 0 ∨ (¬ size < 0 ∧ 1000 < size) := by omega
  clear h
  rcases hcase with h | ⟨h, h2⟩
  all_goals
    go_enter Tryz.func94, Tryz.ntmps94
    go_wp2_with fail
    refine (powers_walk n k w hk hkn hn).mono ?_
    rintro e w1 ⟨⟨v, bs, cps, rfl, _⟩, hb1⟩
    have hc := (hb1.cell (lt_of_cell Hb.out)).trans Hb.out
    have HB := Lib.hid hb1
    clear hb1
    go_wp2
    go_quiet (fail)
    go_wp2
    go_ret2
    exact ⟨rfl, HB.out.trans (same_below' _ nq)⟩

/-- what look answers. -/
def LookOut (w w' : World) (n k W : Nat) (l : List Sh) (e2 e7 : Value) (e : Ending) : Prop := Below w.heap.size w w' ∧
  ((¬ (∀ s ∈ l, GoodS n W s) ∧ e = .returned (.tuple #[.slice none 0 0, e2])) ∨ ((∀ s ∈ l, GoodS n W s) ∧ (pickS k l).length < k ∧ e = .returned (.tuple #[.slice none 0 0, e7])) ∨
    ((∀ s ∈ l, GoodS n W s) ∧ (pickS k l).length = k ∧ ∃ v, e = .returned (.tuple #[v, .nilIface]) ∧ OwnS w.heap.size w' v (pickS k l)))
set_option maxRecDepth 100000 in
set_option maxHeartbeats 8000000 in
theorem look_walk (n₀ n k size : Nat) (a : Option Addr) (cap : Nat) (l : List Sh) (w : World) (a2 a7 : Addr) (h2 : w.cell? ⟨6, 0, none⟩ = some (errV a2)) (h7 : w.cell? ⟨8, 0, none⟩ = some (errV a7))
    (hk : 1 ≤ k) (hkn : k ≤ n) (hn : n ≤ 12) (hs : size ≤ 1000) (hl : l.length ≤ maxLen) (hn₀ : n₀ ≤ w.heap.size) (hI : ShR n₀ w a l) :
    Calls Tryz.prog 94 #[.int .i64 n, .int .i64 k, .int .i64 size, .slice a l.length cap] w fun e w' => LookOut w w' n k (wideN k size) l (errV a2) (errV a7) e := by
  have Hwq := Lib.hid (fun V => wide_q k size V hk (by omega) (by omega))
  obtain ⟨W, hW⟩ : ∃ W, wideN k size = W := ⟨_, rfl⟩
  rw [hW] at Hwq ⊢
  obtain ⟨len, hlen⟩ : ∃ len, l.length = len := ⟨_, rfl⟩
  have hm' : len ≤ 9223372036854775807 := by rw [← hlen]; exact hl
  have Hlen := Lib.hid hlen
  have HI := Lib.hid hI
  have HE := Lib.hid (And.intro h2 h7)
  rw [hlen]
  clear hlen hI hl hW h2 h7
  have g1 : ¬ (size : Int) < 0 := by omega
  have g2 : ¬ (1000 : Int) < size := by omega
  go_enter Tryz.func94, Tryz.ntmps94
  go_wp2_with fail
  refine (powers_walk n k w hk hkn hn).mono ?_
  rintro e w1 ⟨⟨v, bs, cps, rfl, _⟩, hb1⟩
  have H1 := Lib.hid hb1
  clear hb1
  go_wp2
  go_loopw [12, 33] (fun vo vi wr => ∃ i : Nat, i ≤ len ∧ vi = .int .i64 i ∧ Hid (OwnS w.heap.size wr vo (pickS k (l.take i)) ∧ Below w.heap.size w wr ∧ ∀ j, j < i → GoodS n W (l[j]?.getD (0, ⟨#[]⟩)))) (fun _ i _ => len - (intOf i).toNat)
  case atStart => exact ⟨0, by omega, rfl, Lib.hid ⟨OwnS.nil _ _, H1.out, fun j hj => by omega⟩⟩
  case round =>
    obtain ⟨i, hi, rfl, H⟩ := hrel
    have hi2 : i < len ∨ i = len := by omega
    obtain ⟨ao, co, hve, hco, _, hso⟩ := OwnS.read H.out.1
    have hple := pickS_le k (l.take i)
    rcases hi2 with hlt | hie
    · have hlt2 : (i : Int) < len := by omega
      rcases (HI.out.mono hn₀).below H.out.2.1 with he | ⟨g, off, rfl, hg, hc⟩
      · exfalso
        have := Hlen.out
        rw [he] at this
        simp at this; omega
      obtain ⟨c1, c2⟩ := hc i (by have := Hlen.out; omega)
      clear hc
      obtain ⟨x, hx⟩ : ∃ x, l[i]?.getD (0, ⟨#[]⟩) = x := ⟨_, rfl⟩
      rw [hx] at c1 c2
      have Hx := Lib.hid hx
      clear hx
      obtain ⟨s1, s2⟩ := x
      have hsz := H.out.2.1.size
      have hBa : Below w.heap.size w (wr.alloc (.cells #[.int .i64 s1, .string s2] 56)) := H.out.2.1.alloc hsz _
      have he2 : (wr.alloc (.cells #[.int .i64 s1, .string s2] 56)).cell? ⟨6, 0, none⟩ = some (errV a2) := (hBa.cell (lt_of_cell HE.out.1)).trans HE.out.1
      have hil : i < l.length := by have := Hlen.out; omega
      have hmem : (s1, s2) ∈ l := by
        have := Hx.out
        rw [List.getElem?_eq_getElem hil] at this
        simp at this
        rw [← this]; exact List.getElem_mem hil
      have HBa := Lib.hid hBa
      have Hmem := Lib.hid hmem
      clear hBa hmem
      by_cases b1 : s1 < 0
      · have d1 : decide (s1 < 0) = true := by simpa using b1
        go_wp2
        go_quiet (first | (go_at_call 70; exact Calls.quiet_of_same (Hwq.out _)))
        go_wp2
        go_quiet (fail)
        go_wp2
        go_ret2
        exact ⟨(HBa.out.trans (same_below' _ _)).trans (same_below' _ _), .inl ⟨fun h => by have := (h _ Hmem.out).1; omega, rfl⟩⟩
      have d1 : decide (s1 < 0) = false := by simpa using b1
      by_cases b2 : (n : Int) ≤ s1
      · have d2 : decide ((n : Int) ≤ s1) = true := by simpa using b2
        go_wp2
        go_quiet (first | (go_at_call 70; exact Calls.quiet_of_same (Hwq.out _)))
        go_wp2
        go_quiet (fail)
        go_wp2
        go_ret2
        exact ⟨(HBa.out.trans (same_below' _ _)).trans (same_below' _ _), .inl ⟨fun h => by have := (h _ Hmem.out).2.1; omega, rfl⟩⟩
      have d2 : decide ((n : Int) ≤ s1) = false := by simpa using b2
      by_cases b3 : s2.size = W
      · have d3 : ((s2.size : Int) != (W : Int)) = false := by simp; omega
        have d4 : (s2.size != W) = false := by simp; omega
        have Hb3 := Lib.hid b3
        clear b3
        go_wp2
        go_quiet (first | (go_at_call 70; exact Calls.quiet_of_same (Hwq.out _)))
        have e1 : ((wr.alloc (.cells #[.int .i64 s1, .string s2] 56)).drewN nq).cell? ⟨wr.heap.size, 0, none⟩ = some (.int .i64 s1) := by simp
        have e2 : ((wr.alloc (.cells #[.int .i64 s1, .string s2] 56)).drewN nq).cell? ⟨wr.heap.size, 1, none⟩ = some (.string s2) := by simp
        have hbW : Below w.heap.size w ((wr.alloc (.cells #[.int .i64 s1, .string s2] 56)).drewN nq) := HBa.out.trans (same_below' _ _)
        have hbr : Below wr.heap.size wr ((wr.alloc (.cells #[.int .i64 s1, .string s2] 56)).drewN nq) := ((Below.refl _ wr).alloc (Nat.le_refl _) _).trans (same_below' _ _)
        have hsW : wr.heap.size < ((wr.alloc (.cells #[.int .i64 s1, .string s2] 56)).drewN nq).heap.size := by simp
        obtain ⟨W2, hW2⟩ : ∃ W2, (wr.alloc (.cells #[.int .i64 s1, .string s2] 56)).drewN nq = W2 := ⟨_, rfl⟩
        rw [hW2] at e1 e2 hbW hbr hsW ⊢
        clear hW2
        obtain ⟨bx, hbx⟩ : ∃ bx, wr.heap.size = bx := ⟨_, rfl⟩
        rw [hbx] at e1 e2 hsW ⊢
        have Hbx := Lib.hid hbx
        clear hbx he2
        have hgood : ∀ j, j < i + 1 → GoodS n W (l[j]?.getD (0, ⟨#[]⟩)) := fun j hj => by
          by_cases e : j = i
          · rw [e, Hx.out]; exact ⟨by omega, by omega, Hb3.out⟩
          · exact H.out.2.2 j (by omega)
        have htk : l.take (i + 1) = l.take i ++ [(s1, s2)] := by
          rw [List.take_succ_eq_append_getElem hil, ← Hx.out]
          simp [hil]
        have hpk : pickS k (l.take (i + 1)) = stepS k (pickS k (l.take i)) (s1, s2) := by rw [htk, pickS_snoc]
        have HG := Lib.hid (And.intro hgood hpk)
        clear hgood htk hpk
        obtain ⟨P, hP⟩ : ∃ P, pickS k (l.take i) = P := ⟨_, rfl⟩
        rw [hP] at hve hco hso hple HG H ⊢
        have hown2 : OwnS w.heap.size W2 u12 P := H.out.1.below hbr (Nat.le_refl _)
        have hso2 : ShR wr.heap.size W2 ao P := hso.below hbr
        have hplI : (P.length : Int) ≤ k := by omega
        have hpl2 : P.length ≤ maxLen := by unfold maxLen; omega
        rw [hve] at hown2
        have HH := Lib.hid (And.intro hown2 (And.intro hso2 hbW))
        clear hP hown2 hso2 hbW hso
        by_cases hp : P.length < k
        · have p1 : (P.length : Int) < k := by omega
          have p2 : decide (P.length < k) = true := by simpa using hp
          have hC := Lib.hid (lookC_walk wr.heap.size ao co bx P s1 W2 hpl2 (by have := Hbx.out; omega) HH.out.2.1 e1)
          obtain ⟨r, hr⟩ : ∃ r, P.any (fun x => decide (x.1 = s1)) = r := ⟨_, rfl⟩
          rw [hr] at hC
          have Hr := Lib.hid hr
          have Hve := Lib.hid hve
          clear hr hve
          go_wp2_with fail
          refine hC.out.mono ?_
          rintro e w3 ⟨rfl, hb3⟩
          have f1 : w3.cell? ⟨bx, 0, none⟩ = some (.int .i64 s1) := (hb3.cell (p := ⟨bx, 0, none⟩) hsW).trans e1
          have f2 : w3.cell? ⟨bx, 1, none⟩ = some (.string s2) := (hb3.cell (p := ⟨bx, 1, none⟩) hsW).trans e2
          have hB3 := Lib.hid (And.intro (HH.out.2.2.trans (hb3.mono HH.out.2.2.size)) (HH.out.1.below hb3 (Nat.le_refl _)))
          have hsz3 := hB3.out.1.size
          clear hb3 hC
          cases r with
          | true =>
            go_wp2
            go_roundw
            case rel => exact ⟨i + 1, by omega, by go_num, Lib.hid ⟨by
              rw [HG.out.2]
              unfold stepS
              rw [if_neg (by intro h; rw [Hr.out] at h; exact absurd h.2 (by simp))]
              exact hB3.out.2, hB3.out.1, HG.out.1⟩⟩
            case measure => simp [intOf]; omega
          | false =>
            have hul : P.length ≤ 1000000 := by omega
            go_wp2_with (at_builtin; refine append_shard 66 68 rfl rfl w.heap.size _ P s1 s2 rfl rfl hB3.out.2 hul hsz3 ?_)
            intro v' w' k1 k2 k3
            have hb5 : Below w.heap.size w w' := (hB3.out.1.alloc hsz3 _).grown k2 (by simp; omega) (fun q e => (hB3.out.2.lt q e).1)
            have hm5 : OwnS w.heap.size w' v' (pickS k (l.take (i + 1))) := by
              rw [HG.out.2]
              unfold stepS
              rw [if_pos ⟨hp, Hr.out⟩]
              exact k1
            have HR := Lib.hid (And.intro hm5 (And.intro hb5 HG.out.1))
            clear hb5 hm5 k1 k2 k3
            go_wp2
            go_roundw
            case rel => exact ⟨i + 1, by omega, by go_num, HR⟩
            case measure => simp [intOf]; omega
        · have p1 : ¬ (P.length : Int) < k := by omega
          have p2 : decide (P.length < k) = false := by simpa using hp
          have Hve := Lib.hid hve
          clear hve
          go_wp2
          go_roundw
          case rel => exact ⟨i + 1, by omega, by go_num, Lib.hid ⟨by
            rw [HG.out.2]
            unfold stepS
            rw [if_neg (by intro h; exact hp h.1)]
            exact HH.out.1, HH.out.2.2, HG.out.1⟩⟩
          case measure => simp [intOf]; omega
      · have d3 : ((s2.size : Int) != (W : Int)) = true := by simp; omega
        have d4 : (s2.size != W) = true := by simp; omega
        go_wp2
        go_quiet (first | (go_at_call 70; exact Calls.quiet_of_same (Hwq.out _)))
        go_wp2
        go_quiet (fail)
        go_wp2
        go_ret2
        exact ⟨(HBa.out.trans (same_below' _ _)).trans (same_below' _ _), .inl ⟨fun h => b3 (h _ Hmem.out).2.2, rfl⟩⟩
    · have htl : l.take i = l := List.take_of_length_le (by have := Hlen.out; omega)
      have hall : ∀ s ∈ l, GoodS n W s := fun s hs => by
        obtain ⟨j, hj, rfl⟩ := List.getElem_of_mem hs
        have := H.out.2.2 j (by have := Hlen.out; omega)
        rw [List.getElem?_eq_getElem hj] at this
        exact this
      rw [htl] at H hve hco hple
      have he7 := (H.out.2.1.cell (lt_of_cell HE.out.2)).trans HE.out.2
      have HA := Lib.hid hall
      obtain ⟨P, hP⟩ : ∃ P, pickS k l = P := ⟨_, rfl⟩
      rw [hP] at H hve hco hple
      have HP := Lib.hid hP
      clear hP hall htl hso
      subst hie
      by_cases hp : P.length < k
      · have p1 : (P.length : Int) < k := by omega
        have p2 : decide (P.length < k) = true := by simpa using hp
        rw [hve]
        go_wp2
        go_quiet (fail)
        go_wp2
        go_ret2
        exact ⟨H.out.2.1.trans (same_below' _ _), .inr (.inl ⟨HA.out, by rw [HP.out]; exact hp, rfl⟩)⟩
      · have p1 : ¬ (P.length : Int) < k := by omega
        have p2 : decide (P.length < k) = false := by simpa using hp
        have hk3 : P.length = k := by omega
        have Hk3 := Lib.hid hk3
        have hOw := H.out.1
        rw [hve] at hOw ⊢
        have HOw := Lib.hid hOw
        clear hve hk3 hOw
        go_wp2
        go_ret2
        exact ⟨H.out.2.1, .inr (.inr ⟨HA.out, by rw [HP.out]; exact Hk3.out, _, rfl, by rw [HP.out]; exact HOw.out⟩)⟩
end Go.Proofs.YtolbdcmoblcakaaGreatDoor
/- Integers that come in; a list of what was picked and the marks beside it. -/
namespace Go.Proofs.YtolbdcmoblcakaaGreatDoor
open Go.RowKit

/-- so many integers stand there. -/
def IntsAt (n₀ : Nat) (w : World) (a : Option Addr) (len : Nat) (z : Nat → Int) : Prop := len = 0 ∨ ∃ b off, a = some ⟨b, off, none⟩ ∧ b < n₀ ∧ ∀ j, j < len → w.cell? ⟨b, off + j, none⟩ = some (.int .i64 (z j))
theorem IntsAt.below {n₀ : Nat} {A B : World} (h : Below n₀ A B) {a : Option Addr} {len : Nat} {z : Nat → Int} : IntsAt n₀ A a len z → IntsAt n₀ B a len z
  | .inl e => .inl e
  | .inr ⟨b, off, e, hb, hc⟩ => .inr ⟨b, off, e, hb, fun j hj => (h.cell (p := ⟨b, off + j, none⟩) hb).trans (hc j hj)⟩
theorem IntsAt.mono {n₀ n₁ : Nat} {A : World} (h : n₀ ≤ n₁) {a : Option Addr} {len : Nat} {z : Nat → Int} : IntsAt n₀ A a len z → IntsAt n₁ A a len z
  | .inl e => .inl e
  | .inr ⟨b, off, e, hb, hc⟩ => .inr ⟨b, off, e, by omega, hc⟩
theorem ints_of_isRow {w : World} {a : Option Addr} {len cap : Nat} {zs : List Int} (h : IsRow .i64 w a len cap zs) : ∃ z : Nat → Int, IntsAt w.heap.size w a len z ∧ (∀ j, -9223372036854775808 ≤ z j ∧ z j ≤ 9223372036854775807) ∧ len ≤ maxLen ∧ len ≤ cap := by
  rcases h with ⟨rfl, rfl, rfl, rfl⟩ | ⟨x, rfl, hl, hm, hz, hc, hwf⟩
  · exact ⟨fun _ => 0, .inl rfl, fun _ => ⟨by show (-9223372036854775808 : Int) ≤ 0; omega, by show (0 : Int) ≤ 9223372036854775807; omega⟩, by simp [maxLen], Nat.le_refl _⟩
  · refine ⟨fun j => zs.getD j 0, ?_, fun j => ?_, by omega, hl⟩
    · by_cases h0 : zs.length = 0
      · left; omega
      · obtain ⟨b, off, rfl, hcell⟩ := ints_at hc (by omega)
        refine .inr ⟨b, off, rfl, ?_, fun j hj => hcell j (by omega)⟩
        have h1 := hcell 0 (by omega)
        rcases Nat.lt_or_ge b w.heap.size with h | h
        · exact h
        · simp [World.cell?, Array.getElem?_eq_none h] at h1
    · by_cases hj : j < zs.length
      · have h1 := hwf (zs.getD j 0) (by simp [List.getD, List.getElem?_eq_getElem hj])
        exact bounds_i64 h1
      · simp [List.getD, List.getElem?_eq_none (show zs.length ≤ j by omega)]
theorem Own1.form {E : TypeId} {B : Nat} {w : World} {v : Value} {us : List Value} (h : Own1 E B w v us) : ∃ a cap, v = .slice a us.length cap ∧ us.length ≤ cap := by
  rcases h.shape with ⟨e, rfl⟩ | ⟨g, cap, e, _, _, hc, _⟩
  · exact ⟨none, 0, e, Nat.le_refl _⟩
  · exact ⟨_, cap, e, hc⟩

/-- v owns what was picked; block u bears the marks. -/
structure Picked (E : TypeId) (B : Nat) (w : World) (v : Value) (u n : Nat) (head : Nat → Value) (ps us : List Nat) : Prop where
  own : Own1 E B w v (ps.map head)
  mark : ∀ j, j < n → w.cell? ⟨u, j, none⟩ = some (.bool (decide (j ∈ us)))
  free : ∀ j, j < n → w.frozen? ⟨u, j, none⟩ = false
  off : v.ownBlock ≠ some u
  lt : u < w.heap.size
theorem Picked.append {E : TypeId} {B : Nat} {w0 w' : World} {v v' : Value} {u n : Nat} {head : Nat → Value} {ps us : List Nat} {o : Obj} {p : Nat} (h : Picked E B w0 v u n head ps us)
    (hown : Own1 E B w' v' (ps.map head ++ [head p])) (hg : (w0.alloc o).grownBy w' v.ownBlock) (hat : v'.ownBlock = v.ownBlock ∨ v'.ownBlock = some (w0.heap.size + 1)) : Picked E B w' v' u n head (ps ++ [p]) us := by
  have hb : w'.heap[u]? = w0.heap[u]? := (hg.block u (by have := h.lt; simp; omega) (fun e => h.off e.symm)).trans (heap_alloc_lt _ h.lt)
  refine ⟨by rw [List.map_append]; exact hown, fun j hj => ?_, fun j hj => ?_, ?_, ?_⟩
  · have := h.mark j hj
    unfold World.cell? at this ⊢; rw [hb]; exact this
  · have := h.free j hj
    unfold World.frozen? at this ⊢; rw [hb]; exact this
  · rcases hat with e | e
    · rw [e]; exact h.off
    · rw [e]; intro e2
      have := Option.some.inj e2
      have := h.lt
      omega
  · have h1 := hg.size
    have h2 := h.lt
    simp at h1; omega
theorem Picked.set {E : TypeId} {B : Nat} {w : World} {v : Value} {u n : Nat} {head : Nat → Value} {ps us : List Nat} {p : Nat} (h : Picked E B w v u n head ps us) (hp : p < n) : Picked E B (w.setCell ⟨u, p, none⟩ (.bool true)) v u n head ps (us ++ [p]) := by
  have ho := OnlyB.setCell u p w (.bool true)
  refine ⟨h.own.kept (row := some u) ⟨ho.os, ho.tape, ho.output, Nat.le_of_eq ho.size.symm, fun k _ hk => ho.block k (fun e => hk (by rw [e]))⟩ ?_, fun j hj => ?_, fun j hj => by rw [World.frozen?_setCell]; exact h.free j hj, h.off, by have := ho.size; have := h.lt; omega⟩
  · cases e : v.ownBlock with
    | none => exact .inl rfl
    | some k => exact .inr (fun e2 => h.off (by rw [e, ← e2]))
  · by_cases e : j = p
    · subst e; rw [World.cell?_setCell_same _ _ _ (h.mark j hj)]; simp
    · have hne : (⟨u, p, none⟩ : Addr) ≠ ⟨u, j, none⟩ := fun he => e (Addr.mk.inj he).2.1.symm
      rw [World.cell?_setCell_other _ _ _ _ hne, h.mark j hj]
      simp [e]
/-- the picks of the first loop. -/
structure PickI (n k : Nat) (ps : List Nat) : Prop where
  nd : ps.Nodup
  lt : ∀ q ∈ ps, q < n
  le : ps.length ≤ k
theorem PickI.nil (n k : Nat) : PickI n k [] := ⟨List.nodup_nil, (fun _ h => by cases h), by simp⟩
theorem PickI.snoc {n k p : Nat} {ps : List Nat} (h : PickI n k ps) (hp : p < n) (hn : p ∉ ps) (hl : ps.length < k) : PickI n k (ps ++ [p]) := by
  refine ⟨?_, fun q hq => ?_, by simp; omega⟩
  · rw [List.nodup_append]
    exact ⟨h.nd, by simp, fun a ha b hb e => by
      rw [List.mem_singleton.1 hb] at e
      exact hn (e ▸ ha)⟩
  · rcases List.mem_append.1 hq with hq | hq
    · exact h.lt q hq
    · rw [List.mem_singleton.1 hq]; exact hp
/-- and of the second one, the first i looked at. -/
structure PickJ (n k i : Nat) (ps us : List Nat) : Prop where
  base : PickI n k ps
  sub : ∀ q ∈ us, q ∈ ps
  old : ∀ q ∈ ps, q ∈ us ∨ q < i
  all : ∀ j, j < i → j ∈ ps
theorem PickJ.start {n k : Nat} {ps : List Nat} (h : PickI n k ps) : PickJ n k 0 ps ps := ⟨h, fun _ h => h, fun _ h => .inl h, fun _ h => by omega⟩
theorem PickJ.skip {n k i : Nat} {ps us : List Nat} (h : PickJ n k i ps us) (hi : i ∈ us) : PickJ n k (i + 1) ps us :=
  ⟨h.base, h.sub, fun q hq => (h.old q hq).imp id (by omega), fun j hj => by
    by_cases e : j = i
    · rw [e]; exact h.sub i hi
    · exact h.all j (by omega)⟩
theorem PickJ.snoc {n k i : Nat} {ps us : List Nat} (h : PickJ n k i ps us) (hi : i ∉ us) (hin : i < n) (hl : ps.length < k) : PickJ n k (i + 1) (ps ++ [i]) us :=
  ⟨h.base.snoc hin (fun hm => by rcases h.old i hm with h1 | h1; exact hi h1; omega) hl, fun q hq => List.mem_append.2 (.inl (h.sub q hq)), fun q hq => by
    rcases List.mem_append.1 hq with hq | hq
    · exact (h.old q hq).imp id (by omega)
    · rw [List.mem_singleton.1 hq]; exact .inr (by omega), fun j hj => by
    by_cases e : j = i
    · rw [e]; simp
    · exact List.mem_append.2 (.inl (h.all j (by omega)))⟩
theorem PickJ.done {n k i : Nat} {ps us : List Nat} (h : PickJ n k i ps us) (hk : k ≤ n) (he : i = n ∨ ¬ ps.length < k) : ps.length = k := by
  have hle := h.base.le
  rcases he with rfl | he
  · have : (List.range i).length ≤ ps.length := Mx.nodup_length List.nodup_range (fun x hx => h.all x (List.mem_range.1 hx))
    simp at this
    omega
  · omega
theorem unlike_of_nodup {ps : List Nat} (h : ps.Nodup) : Unlike ps := fun i k hi hk hne e => by
  rw [List.getElem?_eq_getElem hi, List.getElem?_eq_getElem hk] at e
  simp at e
  have hp := List.pairwise_iff_getElem.1 (List.nodup_iff_pairwise_ne.1 h)
  rcases Nat.lt_or_gt_of_ne hne with h1 | h1
  · exact hp i k hi hk h1 e
  · exact hp k i hk hi h1 e.symm
end Go.Proofs.YtolbdcmoblcakaaGreatDoor
/- The walk of coder.Decode. -/
namespace Go.Proofs.YtolbdcmoblcakaaGreatDoor
open Go.RowKit

namespace Mx
theorem dot_zeroR (r : Nat → Nat) : ∀ c, dot r (fun _ => 0) c = 0
  | 0 => rfl
  | c + 1 => by show dot r _ c ^^^ Gf.mul _ 0 = 0; rw [dot_zeroR r c, Gf.mul_zero]; rfl
/-- rows that were picked turn nothing but 0 to 0. -/
theorem spr_ker {k : Nat} (hk : k ≤ 200) {xs : List Nat} (hl : xs.length = k) (hx : Bytes xs) (hu : Unlike xs) {v : Nat → Nat} (hv : By v) (h : Ker (fun i => spr k (xs[i]?.getD 0)) k k v) : ∀ j, j < k → v j = 0 := by
  intro j hj
  have h1 := back hk hl hx hu hv (show j < 256 by omega)
  rw [top_is hk hv hj] at h1
  rw [← h1, dot_congr (r' := fun i => bas xs i j) (v' := fun _ => 0) (fun _ _ => rfl) (fun i hi => h i hi), dot_zeroR]
end Mx
/-- the numbers of shards. -/
def numS (P : List Sh) : List Nat := P.map fun x => x.1.toNat
theorem numS_length (P : List Sh) : (numS P).length = P.length := by simp [numS]
/-- no two have one number. -/
def UnlikeS (P : List Sh) : Prop := P.Pairwise fun x y => x.1 ≠ y.1
theorem stepS_unlike {k : Nat} {out : List Sh} {s : Sh} (h : UnlikeS out) : UnlikeS (stepS k out s) := by
  unfold stepS
  split
  · rename_i h1
    have h2 := h1.2
    rw [List.any_eq_false] at h2
    unfold UnlikeS
    rw [List.pairwise_append]
    refine ⟨h, by simp, fun a ha b hb => ?_⟩
    rw [List.mem_singleton.1 hb]
    simpa using h2 a ha
  · exact h
theorem pickS_unlike (k : Nat) (l : List Sh) : UnlikeS (pickS k l) := by
  unfold pickS
  have : ∀ (l out : List Sh), UnlikeS out → UnlikeS (l.foldl (stepS k) out) := by
    intro l
    induction l with
    | nil => intro out h; exact h
    | cons s r ih => intro out h; exact ih _ (stepS_unlike h)
  exact this l [] List.Pairwise.nil
theorem pickS_sub (k : Nat) (l : List Sh) : ∀ s ∈ pickS k l, s ∈ l := by
  unfold pickS
  have : ∀ (l out : List Sh), ∀ s ∈ l.foldl (stepS k) out, s ∈ out ∨ s ∈ l := by
    intro l
    induction l with
    | nil => intro out s h; exact .inl h
    | cons x r ih =>
      intro out s h
      rcases ih _ s h with h1 | h1
      · unfold stepS at h1
        split at h1
        · rcases List.mem_append.1 h1 with h2 | h2
          · exact .inl h2
          · rw [List.mem_singleton.1 h2]; exact .inr (List.mem_cons_self)
        · exact .inl h1
      · exact .inr (List.mem_cons_of_mem _ h1)
  intro s hs
  rcases this l [] s hs with h | h
  · cases h
  · exact h
theorem numS_unlike {n W : Nat} {P : List Sh} (h : UnlikeS P) (hg : ∀ s ∈ P, GoodS n W s) : Unlike (numS P) := by
  apply unlike_of_nodup
  unfold numS
  rw [List.nodup_iff_pairwise_ne, List.pairwise_map]
  refine List.Pairwise.imp_of_mem ?_ h
  intro a b ha hb hne e
  have h1 := (hg a ha).1
  have h2 := (hg b hb).1
  exact hne (by omega)
theorem numS_lt {n W : Nat} {P : List Sh} (hg : ∀ s ∈ P, GoodS n W s) : ∀ x ∈ numS P, x < n := fun x hx => by
  obtain ⟨s, hs, rfl⟩ := List.mem_map.1 hx
  have h1 := (hg s hs).1
  have h2 := (hg s hs).2.1
  omega
theorem numS_at {P : List Sh} {i : Nat} (hi : i < P.length) : (numS P)[i]?.getD 0 = (P[i]?.getD (0, ⟨#[]⟩)).1.toNat := by simp [numS, hi]

/-- one answer of Decode's. -/
def decF (P : List Sh) (k W : Nat) (p : Nat) : Nat := Mx.dot (fun i => bas (numS P) i (p / W)) (fun i => sb (P[i]?.getD (0, ⟨#[]⟩)).2 (p % W)) k
theorem decF_lt (P : List Sh) (k W p : Nat) : decF P k W p < 256 := Mx.dot_lt (fun _ => Mx.bas_lt _ _ _) k
/-- a text out of a row. -/
def textOf (f : Nat → Nat) (n : Nat) : ByteArray := ⟨(rowText f n).toArray⟩
theorem textOf_size (f : Nat → Nat) (n : Nat) : (textOf f n).size = n := by
  show (rowText f n).toArray.size = n
  simp [rowText]
theorem sb_textOf {f : Nat → Nat} (hf : ∀ j, f j < 256) (n i : Nat) : sb (textOf f n) i = if i < n then f i else 0 := by
  by_cases h : i < n
  · rw [if_pos h]
    unfold sb textOf rowText
    simp [h]
    exact hf i
  · rw [if_neg h]
    exact sb_out _ _ (by rw [textOf_size]; omega)
/-- texts are told by their bytes. -/
theorem text_ext {s t : ByteArray} (hs : s.size = t.size) (h : ∀ i, i < s.size → sb s i = sb t i) : s = t := by
  have : s.data.toList = t.data.toList := by
    apply List.ext_getElem
    · simpa using hs
    · intro i h1 h2
      have := h i (by simpa using h1)
      unfold sb at this
      rw [List.getElem?_eq_getElem h1, List.getElem?_eq_getElem h2] at this
      exact UInt8.toNat_inj.1 this
  cases s; cases t
  congr 1
  exact Array.toList_inj.1 this
theorem join_nil_eq (L : List (List UInt8)) : Lib.join L [] = L.flatten := by
  unfold Lib.join
  induction L with
  | nil => rfl
  | cons x r ih =>
    cases r with
    | nil => simp [List.intercalate]
    | cons y r => simp [List.intercalate] at ih ⊢; exact ih
theorem flatten_at {W : Nat} : ∀ (L : List (List UInt8)), (∀ x ∈ L, x.length = W) → ∀ p, W ≠ 0 → L.flatten[p]? = (L[p / W]?).bind (fun x => x[p % W]?)
  | [], _, p, _ => by simp
  | x :: r, h, p, hW => by
    have hx := h x List.mem_cons_self
    rw [List.flatten_cons]
    by_cases hp : p < W
    · rw [List.getElem?_append_left (by omega), Nat.div_eq_of_lt hp, Nat.mod_eq_of_lt hp]; rfl
    · rw [List.getElem?_append_right (by omega), hx, flatten_at r (fun y hy => h y (List.mem_cons_of_mem _ hy)) (p - W) hW]
      have e1 : p / W = (p - W) / W + 1 := by
        have := Nat.sub_mul_div p W 1
        rw [Nat.mul_one] at this
        have h2 : 1 ≤ p / W := (Nat.one_le_div_iff (by omega)).2 (by omega)
        omega
      have e2 : (p - W) % W = p % W := by
        conv => rhs; rw [show p = (p - W) + W by omega, Nat.add_mod_right]
      rw [e1, e2]; rfl
/-- the joined texts, cut, are what was asked for. -/
theorem joined_dec {k W size : Nat} {P : List Sh} {X : Nat → Nat → Nat} (hX : Mx.ByM X) (hXe : ∀ j i, j < k → i < k → X j i = bas (numS P) i j) (hsz : size ≤ k * W) :
    (⟨(((List.range k).map fun j => (prodT X (fun i => (P[i]?.getD (0, ⟨#[]⟩)).2) k W j).data.toList).flatten).toArray⟩ : ByteArray).extract 0 size = textOf (decF P k W) size := by
  have hall : ∀ x ∈ (List.range k).map fun j => (prodT X (fun i => (P[i]?.getD (0, ⟨#[]⟩)).2) k W j).data.toList, x.length = W := fun x hx => by
    obtain ⟨j, _, rfl⟩ := List.mem_map.1 hx
    have := prodT_size X (fun i => (P[i]?.getD (0, ⟨#[]⟩)).2) k W j
    simpa using this
  have hlen : (((List.range k).map fun j => (prodT X (fun i => (P[i]?.getD (0, ⟨#[]⟩)).2) k W j).data.toList).flatten).length = k * W := by
    rw [List.length_flatten, List.map_map]
    have : (List.range k).map (List.length ∘ fun j => (prodT X (fun i => (P[i]?.getD (0, ⟨#[]⟩)).2) k W j).data.toList) = List.replicate k W := by
      rw [List.eq_replicate_iff]
      refine ⟨by simp, fun y hy => ?_⟩
      obtain ⟨j, hj, rfl⟩ := List.mem_map.1 hy
      exact hall _ (List.mem_map.2 ⟨j, hj, rfl⟩)
    rw [this]; simp
  have hs1 : (⟨(((List.range k).map fun j => (prodT X (fun i => (P[i]?.getD (0, ⟨#[]⟩)).2) k W j).data.toList).flatten).toArray⟩ : ByteArray).size = k * W := by
    show (((List.range k).map _).flatten).toArray.size = _
    rw [List.size_toArray]; exact hlen
  refine text_ext ?_ ?_
  · rw [ByteArray.size_extract, textOf_size, hs1]; omega
  · intro p hp
    rw [ByteArray.size_extract, hs1] at hp
    have hpl : p < size := by omega
    have hW : W ≠ 0 := fun e => by rw [e] at hsz; omega
    rw [sb_extract _ _ _ _ (by omega), Nat.zero_add, sb_textOf (decF_lt P k W), if_pos hpl]
    have hj : p / W < k := by
      rw [Nat.div_lt_iff_lt_mul (by omega)]; omega
    have hc : p % W < W := Nat.mod_lt _ (by omega)
    unfold sb
    show ((((List.range k).map fun j => (prodT X (fun i => (P[i]?.getD (0, ⟨#[]⟩)).2) k W j).data.toList).flatten)[p]?.getD 0).toNat = _
    rw [flatten_at _ hall p hW, List.getElem?_map, List.getElem?_range hj]
    show ((prodT X (fun i => (P[i]?.getD (0, ⟨#[]⟩)).2) k W (p / W)).data.toList[p % W]?.getD 0).toNat = _
    have := sb_prodT hX (fun i => (P[i]?.getD (0, ⟨#[]⟩)).2) k W (p / W) hc
    unfold sb at this
    rw [this]
    unfold prodN decF
    exact Mx.dot_congr (fun i hi => hXe _ i hj hi) (fun _ _ => rfl)
end Go.Proofs.YtolbdcmoblcakaaGreatDoor
/- Plain: the first k of unlike shards. -/
namespace Go.Proofs.YtolbdcmoblcakaaGreatDoor
open Go.RowKit

theorem pickS_take (k : Nat) (l : List Sh) (hu : UnlikeS l) : ∀ i, i ≤ l.length → pickS k (l.take i) = (l.take i).take k
  | 0, _ => by simp [pickS]
  | i + 1, hi => by
    have hil : i < l.length := by omega
    have ht : l.take (i + 1) = l.take i ++ [l[i]] := List.take_succ_eq_append_getElem hil
    have hu2 : UnlikeS (l.take (i + 1)) := List.Pairwise.sublist (List.take_sublist _ _) hu
    rw [ht] at hu2 ⊢
    rw [pickS_snoc, pickS_take k l hu i (by omega)]
    have hlen : (l.take i).length = i := by rw [List.length_take]; omega
    unfold stepS
    by_cases hik : i < k
    · have e1 : (l.take i).take k = l.take i := List.take_of_length_le (by omega)
      have hc : (l.take i).length < k ∧ (l.take i).any (fun x => decide (x.1 = l[i].1)) = false := by
        refine ⟨by omega, ?_⟩
        rw [List.any_eq_false]
        intro x hx
        have := (List.pairwise_append.1 hu2).2.2 x hx l[i] (List.mem_singleton_self _)
        simpa using this
      rw [e1, if_pos hc]
      exact (List.take_of_length_le (by rw [List.length_append, hlen]; simp; omega)).symm
    · rw [if_neg, List.take_append_of_le_length (by omega)]
      intro h
      have := h.1
      rw [List.length_take, hlen] at this
      omega
theorem pickS_all {k : Nat} {l : List Sh} (hu : UnlikeS l) : pickS k l = l.take k := by
  have := pickS_take k l hu l.length (Nat.le_refl _)
  rwa [List.take_length] at this
end Go.Proofs.YtolbdcmoblcakaaGreatDoor
