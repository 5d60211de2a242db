/- The walk of the document's Some. -/
import Derived.Test.YtabboioamdphmaaGreatDoorSCarryHears17
import Derived.Test.YtabboioamdphmaaGreatDoorSCarryHears12
namespace Go.Proofs.YtabboioamdphmaaGreatDoor
open Go.RowKit

def SomeOut (w w' : World) (n k W : Nat) (l : List Sh) (e : Ending) : Prop := Below w.heap.size w w' ∧
  ((¬ (∀ s ∈ l, GoodS n W s) ∧ e = .returned (.tuple #[.slice none 0 0, .int .i64 3])) ∨ ((∀ s ∈ l, GoodS n W s) ∧ (pickS k l).length < k ∧ e = .returned (.tuple #[.slice none 0 0, .int .i64 8])) ∨
    ((∀ s ∈ l, GoodS n W s) ∧ (pickS k l).length = k ∧ ∃ v, e = .returned (.tuple #[v, .int .i64 0]) ∧ OwnS w.heap.size w' v (pickS k l)))
theorem any_take (P : List Sh) (s1 : Int) {j : Nat} (hj : j < P.length) : (P.take (j + 1)).any (fun x => decide (x.1 = s1)) = ((P.take j).any (fun x => decide (x.1 = s1)) || decide ((P[j]?.getD (0, ⟨#[]⟩)).1 = s1)) := by
  rw [List.take_succ_eq_append_getElem hj, List.any_append, List.getElem?_eq_getElem hj]
  simp
set_option maxRecDepth 100000 in
set_option maxHeartbeats 8000000 in
theorem rsome_walk (n₀ n k size : Nat) (a : Option Addr) (cap : Nat) (l : List Sh) (w : World)
    (hk : 1 ≤ k) (hkn : k ≤ n) (hn : n ≤ 12) (hs : size ≤ 1000) (hl : l.length ≤ maxLen) (hn₀ : n₀ ≤ w.heap.size) (hI : ShR n₀ w a l) :
    Calls Tryz.prog 107 #[.int .i64 n, .int .i64 k, .int .i64 size, .slice a l.length cap] w fun e w' => SomeOut w w' n k (wideN k size) l e := by
  have Hwq := Lib.hid (fun V => rwide_walk k size V hk (by omega) (by omega))
  obtain ⟨W, hW⟩ : ∃ W, wideN k size = W := ⟨_, rfl⟩
  rw [hW] at Hwq ⊢
  obtain ⟨len, hlen⟩ : ∃ len, l.length = len := ⟨_, rfl⟩
  have hm' : len ≤ 9223372036854775807 := by rw [← hlen]; exact hl
  have Hlen := Lib.hid hlen
  have HI := Lib.hid hI
  rw [hlen]
  have es : isSpreadB n k = true := decide_eq_true (by omega)
  have Es := Lib.hid es
  clear hlen hI hl hW es
  have g1 : ¬ (size : Int) < 0 := by omega
  have g2 : ¬ (1000 : Int) < size := by omega
  go_enter Tryz.func107, Tryz.ntmps107
  go_wp2_with fail
  refine (isspread_walk n k w).mono ?_
  rintro e w' ⟨rfl, hw'⟩
  subst hw'
  rw [Es.out]
  go_wp2
  go_loopw [11, 12] (fun vo vi wr => ∃ i : Nat, i ≤ len ∧ vi = .int .i64 i ∧ Hid (OwnS w.heap.size wr vo (pickS k (l.take i)) ∧ Below w.heap.size w wr ∧ ∀ j, j < i → GoodS n W (l[j]?.getD (0, ⟨#[]⟩)))) (fun _ i _ => len - (intOf i).toNat)
  case atStart => exact ⟨0, by omega, rfl, Lib.hid ⟨OwnS.nil _ _, Below.refl _ _, fun j hj => by omega⟩⟩
  case round =>
    obtain ⟨i, hi, rfl, H⟩ := hrel
    have hi2 : i < len ∨ i = len := by omega
    obtain ⟨ao, co, hve, hco, _, hso⟩ := OwnS.read H.out.1
    have hple := pickS_le k (l.take i)
    rcases hi2 with hlt | hie
    · have hlt2 : (i : Int) < len := by omega
      rcases (HI.out.mono hn₀).below H.out.2.1 with he | ⟨g, off, rfl, hg, hc⟩
      · exfalso
        have := Hlen.out
        rw [he] at this
        simp at this; omega
      obtain ⟨c1, c2⟩ := hc i (by have := Hlen.out; omega)
      clear hc
      obtain ⟨x, hx⟩ : ∃ x, l[i]?.getD (0, ⟨#[]⟩) = x := ⟨_, rfl⟩
      rw [hx] at c1 c2
      have Hx := Lib.hid hx
      clear hx
      obtain ⟨s1, s2⟩ := x
      simp only at c1 c2
      have hil : i < l.length := by have := Hlen.out; omega
      have hmem : (s1, s2) ∈ l := by
        have := Hx.out
        rw [List.getElem?_eq_getElem hil] at this
        simp at this
        rw [← this]; exact List.getElem_mem hil
      have Hmem := Lib.hid hmem
      clear hmem
      by_cases b1 : s1 < 0
      · have d1 : decide (s1 < 0) = true := by simpa using b1
        go_wp2
        go_quiet (first | (go_at_call 89; exact Calls.quiet_of_same (Hwq.out _)))
        go_wp2
        go_ret2
        exact ⟨H.out.2.1.trans (same_below' _ _), .inl ⟨fun h => by have := (h _ Hmem.out).1; omega, rfl⟩⟩
      have d1 : decide (s1 < 0) = false := by simpa using b1
      by_cases b2 : (n : Int) ≤ s1
      · have d2 : decide ((n : Int) ≤ s1) = true := by simpa using b2
        go_wp2
        go_quiet (first | (go_at_call 89; exact Calls.quiet_of_same (Hwq.out _)))
        go_wp2
        go_ret2
        exact ⟨H.out.2.1.trans (same_below' _ _), .inl ⟨fun h => by have := (h _ Hmem.out).2.1; omega, rfl⟩⟩
      have d2 : decide ((n : Int) ≤ s1) = false := by simpa using b2
      by_cases b3 : s2.size = W
      · have d3 : ((s2.size : Int) != (W : Int)) = false := by simp; omega
        have d4 : (s2.size != W) = false := by simp; omega
        have Hb3 := Lib.hid b3
        clear b3
        obtain ⟨wo, rfl⟩ : ∃ wo : World, wo = wr := ⟨_, rfl⟩
        go_wp2
        go_quiet (first | (go_at_call 89; exact Calls.quiet_of_same (Hwq.out _)))
        have hgood : ∀ j, j < i + 1 → GoodS n W (l[j]?.getD (0, ⟨#[]⟩)) := fun j hj => by
          by_cases e : j = i
          · rw [e, Hx.out]; exact ⟨by omega, by omega, Hb3.out⟩
          · exact H.out.2.2 j (by omega)
        have htk : l.take (i + 1) = l.take i ++ [(s1, s2)] := by
          rw [List.take_succ_eq_append_getElem hil, ← Hx.out]
          simp [hil]
        have hpk : pickS k (l.take (i + 1)) = stepS k (pickS k (l.take i)) (s1, s2) := by rw [htk, pickS_snoc]
        have HG := Lib.hid (And.intro hgood hpk)
        clear hgood htk hpk
        obtain ⟨P, hP⟩ : ∃ P, pickS k (l.take i) = P := ⟨_, rfl⟩
        rw [hP] at hve hco hso hple HG H ⊢
        have hplI : (P.length : Int) ≤ k := by omega
        have Hso := Lib.hid hso
        have Hve := Lib.hid hve
        clear hP hso hve
        go_wp2
        go_loopw [13, 14] (fun vb vj wr' => ∃ j : Nat, j ≤ P.length ∧ vj = .int .i64 j ∧ vb = .bool ((P.take j).any (fun x => decide (x.1 = s1))) ∧ Hid (∃ q, wr' = wo.drewN q)) (fun _ j _ => P.length - (intOf j).toNat)
        case atStart => exact ⟨0, by omega, rfl, by simp, Lib.hid ⟨nq, rfl⟩⟩
        case round =>
          obtain ⟨j, hj, rfl, rfl, H2⟩ := hrel
          obtain ⟨q, hq⟩ := H2.out
          have Hq := Lib.hid hq; clear hq
          have f1 : wr.cell? ⟨g, off + i * 2, none⟩ = some (.int .i64 s1) := by rw [Hq.out]; exact c1
          have f2 : wr.cell? ⟨g, off + i * 2 + 1, none⟩ = some (.string s2) := by rw [Hq.out]; exact c2
          obtain ⟨r, hr⟩ : ∃ r, (P.take j).any (fun x => decide (x.1 = s1)) = r := ⟨_, rfl⟩
          have Hr := Lib.hid hr
          rw [hr]
          clear hr
          have hj2 : j < P.length ∨ j = P.length := by omega
          rcases hj2 with hjl | hje
          · have hjl2 : (j : Int) < P.length := by omega
            rcases Hso.out with he | ⟨gp, op, rfl, _, hc⟩
            · rw [he] at hjl; simp at hjl
            obtain ⟨e1, _⟩ := hc j hjl
            clear hc
            have hat := any_take P s1 hjl
            rw [Hr.out] at hat
            obtain ⟨y, hy⟩ : ∃ y, P[j]?.getD (0, ⟨#[]⟩) = y := ⟨_, rfl⟩
            rw [hy] at e1 hat
            obtain ⟨y1, y2⟩ := y
            simp only at e1 hat
            have e2 : wr.cell? ⟨gp, op + j * 2, none⟩ = some (.int .i64 y1) := by rw [Hq.out]; exact e1
            clear e1 hy c1 c2
            by_cases hy1 : y1 = s1
            · subst hy1
              have Hat := Lib.hid hat
              clear hat
              go_wp2
              go_quiet (fail)
              go_wp2
              go_roundw
              case rel => exact ⟨j + 1, by omega, by go_num, by rw [Hat.out]; simp, Lib.hid ⟨q + nq, by rw [Hq.out, World.drewN_drewN]⟩⟩
              case measure => simp [intOf]; omega
            · have hd : decide (y1 = s1) = false := by simpa using hy1
              have Hat := Lib.hid (And.intro hat hd)
              clear hat hd
              go_wp2
              go_quiet (fail)
              go_wp2
              go_roundw
              case rel => exact ⟨j + 1, by omega, by go_num, by rw [Hat.out.1, Hat.out.2]; simp, Lib.hid ⟨q + nq, by rw [Hq.out, World.drewN_drewN]⟩⟩
              case measure => simp [intOf]; omega
          · have hjl3 : ¬ (j : Int) < P.length := by omega
            have hra : P.any (fun x => decide (x.1 = s1)) = r := by
              rw [← Hr.out, List.take_of_length_le (by omega)]
            have Hra := Lib.hid hra
            have hown : OwnS w.heap.size wr u11 P := by rw [Hq.out]; exact H.out.1.below (same_below' _ q) (Nat.le_refl _)
            rw [Hve.out] at hown
            have hbw : Below w.heap.size w wr := by rw [Hq.out]; exact H.out.2.1.trans (same_below' _ q)
            have Hw := Lib.hid (And.intro hown hbw)
            have hszw := hbw.size
            clear hra hown hbw c1 c2
            by_cases hp : P.length < k
            · have p1 : (P.length : Int) < k := by omega
              have p2 : decide (P.length < k) = true := by simpa using hp
              cases r with
              | true =>
                go_wp2
                go_roundw
                case rel => exact ⟨i + 1, by omega, by go_num, Lib.hid ⟨by
                  rw [HG.out.2]
                  unfold stepS
                  rw [if_neg (by intro h; rw [Hra.out] at h; exact absurd h.2 (by simp))]
                  exact Hw.out.1, Hw.out.2, HG.out.1⟩⟩
                case measure => simp [intOf]; omega
              | false =>
                have hul : P.length ≤ 1000000 := by omega
                go_wp2_with (at_builtin; refine append_shard 86 91 rfl rfl w.heap.size _ P s1 s2 rfl rfl Hw.out.1 hul hszw ?_)
                intro v' w' k1 k2 k3
                have hb5 : Below w.heap.size w w' := (Hw.out.2.alloc hszw _).grown k2 (by simp; omega) (fun q e => (Hw.out.1.lt q e).1)
                have hm5 : OwnS w.heap.size w' v' (pickS k (l.take (i + 1))) := by
                  rw [HG.out.2]
                  unfold stepS
                  rw [if_pos ⟨hp, Hra.out⟩]
                  exact k1
                have HR := Lib.hid (And.intro hm5 (And.intro hb5 HG.out.1))
                clear hb5 hm5 k1 k2 k3
                go_wp2
                go_roundw
                case rel => exact ⟨i + 1, by omega, by go_num, HR⟩
                case measure => simp [intOf]; omega
            · have p1 : ¬ (P.length : Int) < k := by omega
              have p2 : decide (P.length < k) = false := by simpa using hp
              cases r
              all_goals
                go_wp2
                go_roundw
                case rel => exact ⟨i + 1, by omega, by go_num, Lib.hid ⟨by
                  rw [HG.out.2]
                  unfold stepS
                  rw [if_neg (by intro h; exact hp h.1)]
                  exact Hw.out.1, Hw.out.2, HG.out.1⟩⟩
                case measure => simp [intOf]; omega
      · have d3 : ((s2.size : Int) != (W : Int)) = true := by simp; omega
        have d4 : (s2.size != W) = true := by simp; omega
        go_wp2
        go_quiet (first | (go_at_call 89; exact Calls.quiet_of_same (Hwq.out _)))
        go_wp2
        go_ret2
        exact ⟨H.out.2.1.trans (same_below' _ _), .inl ⟨fun h => b3 (h _ Hmem.out).2.2, rfl⟩⟩
    · subst hie
      have htl : l.take i = l := List.take_of_length_le (by have := Hlen.out; omega)
      rw [htl] at hve hco hso hple H
      have hall : ∀ s ∈ l, GoodS n W s := fun s hs => by
        obtain ⟨j, hj, rfl⟩ := List.getElem_of_mem hs
        have := H.out.2.2 j (by have := Hlen.out; omega)
        rw [List.getElem?_eq_getElem hj] at this
        exact this
      have Hall := Lib.hid hall
      obtain ⟨P, hP⟩ : ∃ P, pickS k l = P := ⟨_, rfl⟩
      have HP := Lib.hid hP
      rw [hP] at hve hso hple hco H
      rw [hve]
      have Hve := Lib.hid hve
      clear htl hall hP hso hve hco
      by_cases hp : P.length < k
      · have p1 : (P.length : Int) < k := by omega
        go_wp2
        go_ret2
        exact ⟨H.out.2.1, .inr (.inl ⟨Hall.out, by rw [HP.out]; exact hp, rfl⟩)⟩
      · have p1 : ¬ (P.length : Int) < k := by omega
        go_wp2
        go_ret2
        exact ⟨H.out.2.1, .inr (.inr ⟨Hall.out, by rw [HP.out]; omega, _, rfl, by rw [HP.out, ← Hve.out]; exact H.out.1⟩)⟩

end Go.Proofs.YtabboioamdphmaaGreatDoor

