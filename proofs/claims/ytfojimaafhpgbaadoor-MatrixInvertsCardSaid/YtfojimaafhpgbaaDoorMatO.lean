/- Walks of the document's lead and Rank. -/
import Derived.Test.YtfojimaafhpgbaaDoorMatM
import Derived.Test.YtfojimaafhpgbaaDoorMxRank
import Derived.Test.YtfojimaafhpgbaaDoorPick
namespace Go.Proofs.YtfojimaafhpgbaaDoor
open Go.RowKit

set_option maxRecDepth 100000 in
set_option maxHeartbeats 1000000 in
theorem lead_walk (p o C cap : Nat) (f : Nat → Nat) (w : World) (hC : C ≤ maxLen) (hc : ∀ j, j < C → w.cell? ⟨p, o + j, none⟩ = some (.int .u8 (f j : Nat))) :
    Calls Tryd.prog 81 #[.slice (some ⟨p, o, none⟩) C cap] w fun e w' => (((∀ j, j < C → f j = 0) ∧ e = .returned (.int .i64 (-1))) ∨ ∃ l, l < C ∧ f l ≠ 0 ∧ (∀ j, j < l → f j = 0) ∧ e = .returned (.int .i64 (l : Nat))) ∧ w = w' := by
  have hm : C ≤ 9223372036854775807 := hC
  have Hc := Lib.hid hc
  clear hc
  go_enter Tryd.func81, Tryd.ntmps81
  go_wp2
  go_loop [3] (fun vi => ∃ k : Nat, k ≤ C ∧ vi = .int .i64 k ∧ Hid (∀ j, j < k → f j = 0)) (fun i => C - (intOf i).toNat)
  case atStart => exact ⟨0, by omega, rfl, Lib.hid fun j hj => by omega⟩
  case round =>
    obtain ⟨k, hk, rfl, H⟩ := hrel
    have hk2 : k < C ∨ k = C := by omega
    rcases hk2 with hlt | rfl
    · have hlt2 : (k : Int) < C := by omega
      have h1 := Hc.out k hlt
      obtain ⟨x, hx⟩ : ∃ x, f k = x := ⟨_, rfl⟩
      rw [hx] at h1
      have Hx := Lib.hid hx
      clear hx
      by_cases h0 : x = 0
      · subst h0
        go_wp2
        go_round
        case rel => exact ⟨k + 1, by omega, by go_num, Lib.hid fun j hj => by
          by_cases e : j = k
          · rw [e]; exact Hx.out
          · exact H.out j (by omega)⟩
        case measure => simp [intOf]; omega
      · have h2 : (0 : Int) < x := by omega
        go_wp2
        go_ret
        exact ⟨.inr ⟨k, hlt, by rw [Hx.out]; exact h0, H.out, rfl⟩, rfl⟩
    · go_wp2
      go_ret
      exact ⟨.inl ⟨H.out, rfl⟩, rfl⟩
theorem lead_is (p o C cap l : Nat) (f : Nat → Nat) (w : World) (hC : C ≤ maxLen) (hc : ∀ j, j < C → w.cell? ⟨p, o + j, none⟩ = some (.int .u8 (f j : Nat))) (hl : l < C) (hne : f l ≠ 0) (hz : ∀ j, j < l → f j = 0) :
    Calls Tryd.prog 81 #[.slice (some ⟨p, o, none⟩) C cap] w fun e w' => e = .returned (.int .i64 (l : Nat)) ∧ w = w' := by
  refine (lead_walk p o C cap f w hC hc).mono ?_
  rintro e w' ⟨h | ⟨l', h1, h2, h3, h4⟩, rfl⟩
  · exact absurd (h.1 l hl) hne
  · have : l' = l := by
      rcases Nat.lt_trichotomy l' l with h | h | h
      · exact absurd (hz l' h) h2
      · exact h
      · exact absurd (h3 l h) hne
    rw [h4, this]
    exact ⟨rfl, rfl⟩
/-- append(v, r...), the row of C bytes. -/
theorem append_rowC {ops : Array Oper} {rest : List Oper} {o : Oper} {a : Act} {Q : Exit → Act → World → Prop} {w : World} (s x : Nat) (hgd : o.guard = none)
    (ho : o.op = .call { callee := .builtin .append, args := #[.tmp s, .tmp x], argTypes := #[28, 28] }) (B p q C c : Nat) (v : Value) (f : Nat → Nat)
    (hs : a.eval (.tmp s) = v) (hx : a.eval (.tmp x) = .slice (some ⟨p, q, none⟩) C c) (hown : OwnB B w v []) (hp : p < w.heap.size) (hr : ∀ j, j < C → w.cell? ⟨p, q + j, none⟩ = some (.int .u8 (f j : Nat))) (hl : C ≤ 140737488355328) (hB : B ≤ w.heap.size)
    (h : ∀ v' w', OwnB B w' v' ((List.range C).map f) → w.grownBy w' v.ownBlock → (v'.ownBlock = v.ownBlock ∨ v'.ownBlock = some w.heap.size) → wpList Tryd.prog ops Q rest (a.put o.dst v') w') :
    wpList Tryd.prog ops Q (o :: rest) a w := by
  have e : ((List.range C).map f).length = C := by simp
  exact append_row s x hgd ho B w.heap.size v [] ((List.range C).map f) (some ⟨p, q, none⟩) c hs (by rw [e]; exact hx) hown (.inr ⟨p, q, rfl, hp, fun j hj => by rw [e] at hj; rw [hr j hj]; simp [hj]⟩) (fun e => by cases e) (by rw [e]; simpa using hl) hB (fun v' w' h1 h2 h3 => h v' w' h1 h2 h3)

set_option maxRecDepth 100000 in
set_option maxHeartbeats 8000000 in
theorem rrank_walk (n₀ b off n C cap : Nat) (p o caps : Nat → Nat) (M : Nat → Nat → Nat) (w : World) (hn₀ : n₀ ≤ w.heap.size)
    (hM : MatR n₀ w b off n C p o caps M) (bM : Mx.ByM M) (hn2 : n ≤ 16) (hC : 1 ≤ C) (hC2 : C ≤ 16) :
    Calls Tryd.prog 54 #[.slice (some ⟨b, off, none⟩) n cap] w fun e w' => (∃ q K L, e = .returned (.int .i64 (q : Nat)) ∧ Mx.Kept K M q n C L) ∧ Below w.heap.size w w' := by
  have HM := Lib.hid hM
  clear hM
  go_enter Tryd.func54, Tryd.ntmps54
  go_wp2
  go_loopw [3, 4] (fun vo vi wr => ∃ (i q : Nat) (bs cps L : Nat → Nat) (K : Nat → Nat → Nat), i ≤ n ∧ q ≤ i ∧ vi = .int .i64 i ∧ Hid (OwnM w.heap.size wr vo q C bs cps K ∧ Below w.heap.size w wr ∧ Mx.Kept K M q i C L)) (fun _ i _ => n - (intOf i).toNat)
  case atStart => exact ⟨0, 0, fun _ => 0, fun _ => 0, fun _ => 0, M, by omega, by omega, rfl, Lib.hid ⟨OwnM.nil _ _ _ _ _ _, Below.refl _ _, Mx.Kept.start bM M C _⟩⟩
  case round =>
    obtain ⟨i, q, bs, cps, L, K, hi, hqi, rfl, H⟩ := hrel
    have hi2 : i < n ∨ i = n := by omega
    obtain ⟨av, cv, hve, hcv⟩ := H.out.1.own.form
    rw [List.length_map, List.length_range] at hve
    rcases hi2 with hlt | rfl
    · have hlt2 : (i : Int) < n := by omega
      have hR := HM.out.below (H.out.2.1.mono hn₀)
      have hsz := H.out.2.1.size
      have h1 := hR.head i hlt
      have hpl := hR.plo i hlt
      have hrc := Lib.hid (hR.cell i hlt)
      clear hR
      obtain ⟨wo, rfl⟩ : ∃ wo : World, wo = wr := ⟨_, rfl⟩
      go_wp2_with (at_builtin; refine append_rowC 16 20 rfl rfl wo.heap.size (p i) (o i) C _ (.slice none 0 0) (M i) rfl rfl (OwnB.nil _ _) (by omega) hrc.out (by omega) (Nat.le_refl _) ?_)
      intro v1 W0 k1 k2 k3
      obtain ⟨g, cg, hv1, hg1, hg2, hg3, hg4, hrow⟩ := OwnB.copy k1 hC
      rw [hv1]
      have hb0 : Below wo.heap.size wo W0 := (Below.refl _ wo).grown k2 (Nat.le_refl _) (fun j e => by cases e)
      have hm0 : OwnM w.heap.size W0 u3 q C bs cps K := H.out.1.below hb0 (Nat.le_refl _)
      have hbw : Below w.heap.size w W0 := H.out.2.1.trans (hb0.mono hsz)
      have hne : ∀ i', i' < q → bs i' ≠ g := fun i' h e => by have := H.out.1.lt i' h; omega
      have hoff : u3.ownBlock ≠ some g := fun e => by have := (H.out.1.own.lt _ e).2; omega
      have hgw : w.heap.size ≤ g := by omega
      have hkept := H.out.2.2
      rw [hve] at hm0 hoff
      have Hx := Lib.hid (And.intro hm0 (And.intro hbw (And.intro hne (And.intro hoff (And.intro hg1 (And.intro hg2 (And.intro hg3 (And.intro hg4 (And.intro hkept hrow)))))))))
      have HV := Lib.hid hve
      clear hm0 hbw hne hoff hg1 hg2 hg3 hg4 hkept hrow hb0 k1 k2 k3 hv1 hve h1 hpl hrc H
      go_wp2
      go_loopw [6] (fun vk wr => ∃ (k : Nat) (r : Nat → Nat), k ≤ q ∧ vk = .int .i64 k ∧ Hid (OnlyB g W0 wr ∧ RowV wr g C r ∧ Mx.Off K M q i C L r k)) (fun k _ => q - (intOf k).toNat)
      case atStart => exact ⟨0, M i, by omega, rfl, Lib.hid ⟨OnlyB.refl _ _, Hx.out.2.2.2.2.2.2.2.2.2, Mx.Off.start bM⟩⟩
      case round =>
        obtain ⟨k, r, hk, rfl, H2⟩ := hrel
        have hk2 : k < q ∨ k = q := by omega
        rcases hk2 with hkl | hkq
        · have hkl2 : (k : Int) < q := by omega
          obtain ⟨gk, ck, hve, _, _, hV⟩ := Hx.out.1.mat (by omega)
          obtain ⟨rfl, -, rfl⟩ := Value.slice.inj hve
          have hgk : gk ≠ g := fun e => Hx.out.2.2.2.1 (by rw [e]; rfl)
          have hbk : bs k ≠ g := Hx.out.2.2.1 k hkl
          have hh : wr.cell? ⟨gk, k, none⟩ = some (.slice (some ⟨bs k, 0, none⟩) C (cps k)) := (H2.out.1.cell (p := ⟨gk, k, none⟩) hgk).trans (hV.head k hkl)
          have hKc : ∀ j, j < C → wr.cell? ⟨bs k, j, none⟩ = some (.int .u8 (K k j : Nat)) := fun j hj => (H2.out.1.cell (p := ⟨bs k, j, none⟩) hbk).trans ((hV.row k hkl).cell j hj)
          have hkept := Hx.out.2.2.2.2.2.2.2.2.1
          have hlk := hkept.ech.lt k hkl
          have hlk2 : (L k : Int) < C := by omega
          have hl := Lib.hid (lead_is (bs k) 0 C (cps k) (L k) (K k) wr (by unfold maxLen; omega) (fun j hj => by rw [Nat.zero_add]; exact hKc j hj) hlk (hkept.ech.ne k hkl) (hkept.ech.zero k hkl))
          have c1 := hKc (L k) hlk
          have c2 := H2.out.2.1.cell (L k) hlk
          have x1 := hkept.by_ k (L k)
          have x2 := H2.out.2.2.by_ (L k)
          have hne0 := hkept.ech.ne k hkl
          have HKc := Lib.hid hKc
          have hstep := H2.out.2.2.step hkept hkl
          obtain ⟨y, hy⟩ : ∃ y, K k (L k) = y := ⟨_, rfl⟩
          obtain ⟨z, hz⟩ : ∃ z, r (L k) = z := ⟨_, rfl⟩
          obtain ⟨l, hle⟩ : ∃ l, L k = l := ⟨_, rfl⟩
          rw [hle] at c1 c2 x1 x2 hne0 hstep hy hz hlk hlk2 hl
          rw [hy] at c1 x1 hne0 hstep
          rw [hz] at c2 x2 hstep
          have Hle := Lib.hid hle
          have Hy := Lib.hid hy
          have hiv := fun W => rinv_q y W x1 hne0
          have hil := Gf.inv_lt x1
          obtain ⟨yi, hyi⟩ : ∃ yi, Gf.inv y = yi := ⟨_, rfl⟩
          rw [hyi] at hiv hil hstep
          have hmz := fun W => rmul_q z yi W x2 hil
          have hxl := Gf.mul_lt yi x2
          obtain ⟨x, hx⟩ : ∃ x, Gf.mul z yi = x := ⟨_, rfl⟩
          rw [hx] at hmz hxl hstep
          have Hiv := Lib.hid hiv
          have Hmz := Lib.hid hmz
          have Hst := Lib.hid hstep
          clear hiv hmz hstep hle hy hz hyi hx hKc hkept hV hne0
          go_wp2_with fail
          refine hl.out.mono ?_
          rintro e w' ⟨rfl, rfl⟩
          go_wp2
          go_quiet (first | (go_at_call 46; exact Calls.quiet_of_same (Hiv.out _)) | (go_at_call 47; exact Calls.quiet_of_same (Hmz.out _)))
          go_wp2
          go_loopw [9] (fun vj wr => ∃ j : Nat, j ≤ C ∧ vj = .int .i64 j ∧ Hid (OnlyB g W0 wr ∧ RowV wr g C (firstK j (fun j => r j ^^^ Gf.mul x (K k j)) r))) (fun j _ => C - (intOf j).toNat)
          case atStart => exact ⟨0, by omega, rfl, Lib.hid ⟨H2.out.1.trans (OnlyB.drewN _ _ _), (H2.out.2.1.congr fun j _ => by unfold firstK; rw [if_neg (by omega)]).drewN nq⟩⟩
          case round =>
            obtain ⟨j, hj, rfl, H3⟩ := hrel
            have hj2 : j < C ∨ j = C := by omega
            rcases hj2 with hjl | rfl
            · have hjl2 : (j : Int) < C := by omega
              obtain ⟨gk2, ck2, hve2, _, _, hV2⟩ := Hx.out.1.mat (by omega)
              obtain ⟨e1, -, -⟩ := Value.slice.inj hve2
              have e2 := (Addr.mk.inj (Option.some.inj e1)).1
              subst e2
              have hh3 : wr.cell? ⟨gk, k, none⟩ = some (.slice (some ⟨bs k, 0, none⟩) C (cps k)) := (H3.out.1.cell (p := ⟨gk, k, none⟩) hgk).trans (hV2.head k hkl)
              have hcC : wr.cell? ⟨bs k, j, none⟩ = some (.int .u8 (K k j : Nat)) := (H3.out.1.cell (p := ⟨bs k, j, none⟩) hbk).trans ((Hx.out.1.row k hkl).cell j hjl)
              have hcD : wr.cell? ⟨g, j, none⟩ = some (.int .u8 (r j : Nat)) := by
                have := H3.out.2.cell j hjl
                unfold firstK at this; rwa [if_neg (by omega)] at this
              have hfr := H3.out.2.free j hjl
              have hyy := Hx.out.2.2.2.2.2.2.2.2.1.by_ k j
              have hdd := H2.out.2.2.by_ j
              obtain ⟨y3, hy3⟩ : ∃ y3, K k j = y3 := ⟨_, rfl⟩
              obtain ⟨d, hd3⟩ : ∃ d, r j = d := ⟨_, rfl⟩
              rw [hy3] at hcC hyy
              rw [hd3] at hcD hdd
              have hml := Gf.mul_lt y3 hxl
              have hz3 : bits .xor .u8 (d : Int) ((Gf.mul x y3 : Nat) : Int) = ((d ^^^ Gf.mul x y3 : Nat) : Int) := u8_xor_nat _ _ hdd hml
              have hmq := fun W => rmul_q x y3 W hxl hyy
              have hnew : r j ^^^ Gf.mul x (K k j) = d ^^^ Gf.mul x y3 := by rw [hy3, hd3]
              obtain ⟨q3, hqe⟩ : ∃ q3, Gf.mul x y3 = q3 := ⟨_, rfl⟩
              rw [hqe] at hz3 hmq hml hnew
              have Hz3 := Lib.hid hz3
              have Hnew := Lib.hid hnew
              have Hmq := Lib.hid hmq
              clear hz3 hnew hmq hy3 hd3 hqe hV2 hve2 e1 hh c1 c2
              go_wp2
              refine wp_region_still_tail 17 (by kernel_rfl) (by kernel_rfl) ?_
              simp only [List.take_succ_cons, List.take_zero, List.drop_succ_cons, List.drop_zero]
              repeat still_step
              still_call (Hmq.out _)
              repeat still_step
              refine wpStill_nil ?_
              change wpList _ _ _ _ _ wr.drew
              go_wp2
              go_roundw
              case rel =>
                refine ⟨j + 1, by omega, by go_num, Lib.hid ⟨?_, ?_⟩⟩
                · exact (H3.out.1.trans (OnlyB.setCell _ _ _ _)).trans (OnlyB.drewN _ _ 1)
                · refine RowV.drewN 1 ?_
                  rw [Hz3.out]
                  refine (H3.out.2.set (x := d ^^^ q3) hjl).congr fun j' hj' => ?_
                  unfold Mx.upd firstK
                  by_cases e : j' = j
                  · rw [if_pos e, if_pos (by omega), e]; exact Hnew.out.symm
                  · rw [if_neg e]
                    by_cases e2 : j' < j
                    · rw [if_pos e2, if_pos (by omega)]
                    · rw [if_neg e2, if_neg (by omega)]
              case measure => simp [intOf]; omega
            · go_wp2
              go_roundw
              case rel => exact ⟨k + 1, _, by omega, by go_num, Lib.hid ⟨H3.out.1, H3.out.2.congr (fun j' hj' => by unfold firstK; rw [if_pos hj']), Hst.out⟩⟩
              case measure => simp [intOf]; omega
        · subst hkq
          obtain ⟨hm0, hbw, hne, hoff, hg1, hg2, hg3, hg4, hkept, _⟩ := Hx.out
          have hm1 := hm0.only H2.out.1 hne hoff
          have hb1 := hbw.trans (H2.out.1.below hgw)
          have hsz1 := hb1.size
          have hgl : g < wr.heap.size := by have := H2.out.1.size; omega
          have hld := Lib.hid (lead_walk g 0 C cg r wr (by unfold maxLen; omega) (fun j hj => by rw [Nat.zero_add]; exact H2.out.2.1.cell j hj))
          have hown := Lib.hid hm1.own
          have hul : ((List.range k).map fun i => Value.slice (some ⟨bs i, 0, none⟩) C (cps i)).length ≤ 1000000 := by simp; omega
          have Hy := Lib.hid (And.intro hm1 (And.intro hb1 (And.intro hne (And.intro hoff (And.intro hgw (And.intro hgl (And.intro (And.intro hg3 hg4) hkept)))))))
          clear hm0 hbw hne hoff hg1 hg2 hg3 hg4 hkept hm1 hb1
          go_wp2_with fail
          refine hld.out.mono ?_
          rintro e w' ⟨hres, rfl⟩
          rcases hres with ⟨hz, rfl⟩ | ⟨l, hl1, hl2, hl3, rfl⟩
          · have Hzz := Lib.hid hz
            clear hz hld
            go_wp2
            go_roundw
            case rel => exact ⟨i + 1, k, bs, cps, L, K, by omega, by omega, by go_num, Lib.hid ⟨Hy.out.1, Hy.out.2.1, Hy.out.2.2.2.2.2.2.2.drop H2.out.2.2 Hzz.out⟩⟩
            case measure => simp [intOf]; omega
          · have hl0 : (0 : Int) ≤ (l : Int) := by omega
            have Hl := Lib.hid (And.intro hl2 hl3)
            clear hl2 hl3 hld
            go_wp2_with (at_builtin; refine append_rowv 72 74 rfl rfl w.heap.size _ _ (some ⟨g, 0, none⟩) C cg rfl rfl hown.out hul hsz1 ?_)
            intro v' w' k1 k2 k3
            obtain ⟨hm1, hb1, hne, hoff, hgw', hgl', hcap, hkept⟩ := Hy.out
            have hm2 := hm1.snoc H2.out.2.1 hgw' hgl' hne hoff hcap k1 k2 k3
            have hb2 : Below w.heap.size w w' := (hb1.alloc hsz1 _).grown k2 (by simp; omega) (fun j e => (hm1.own.lt j e).1)
            have hk2 := hkept.keep H2.out.2.2 hl1 Hl.out.1 Hl.out.2
            have HR := Lib.hid (And.intro hm2 (And.intro hb2 hk2))
            clear hm1 hb1 hne hoff hgw' hgl' hcap hkept hm2 hb2 hk2 k1 k2 k3 Hy hown
            go_wp2
            go_roundw
            case rel => exact ⟨i + 1, k + 1, _, _, _, _, by omega, by omega, by go_num, HR⟩
            case measure => simp [intOf]; omega
    · go_wp2
      go_ret
      exact ⟨⟨q, K, L, rfl, H.out.2.2⟩, H.out.2.1⟩
end Go.Proofs.YtfojimaafhpgbaaDoor
