/- The walk of shardkeeplaw2's some: so many texts of a list, those that are picked first. -/
import Derived.Test.YtmaalkjimppnkaaDoorTxs
import Derived.Test.YtmaalkjimppnkaaDoorPick
import Derived.Test.YtmaalkjimppnkaaDoorMatL
namespace Go.Proofs.YtmaalkjimppnkaaDoor
open Go.RowKit

theorem append_txtH {ops : Array Oper} {rest : List Oper} {o : Oper} {a : Act} {Q : Exit → Act → World → Prop} {w0 : World} (s x : Nat) (hgd : o.guard = none)
    (ho : o.op = .call { callee := .builtin .append, args := #[.tmp s, .tmp x], argTypes := #[22, 22] }) (B H : Nat) (v : Value) (us : List Value) (t : ByteArray) (hH : w0.heap.size = H)
    (hs : a.eval (.tmp s) = v) (hx : a.eval (.tmp x) = .slice (some ⟨H, 0, none⟩) 1 1) (hown : Own1 9 B w0 v us) (hl : us.length ≤ 1000000) (hB : B ≤ w0.heap.size)
    (h : ∀ v' w', Own1 9 B w' v' (us ++ [.string t]) → (w0.alloc (.cells #[.string t] 9)).grownBy w' v.ownBlock → (v'.ownBlock = v.ownBlock ∨ v'.ownBlock = some (H + 1)) → wpList Tryd.prog ops Q rest (a.put o.dst v') w') :
    wpList Tryd.prog ops Q (o :: rest) a (w0.alloc (.cells #[.string t] 9)) := by
  subst hH
  exact append_one 22 9 (.string ⟨#[]⟩) 16 Tryd.underlying22 info_text rfl s x hgd ho B v us _ rfl hs hx hown (by omega) (by unfold maxLen; omega) hB h
theorem info_bool2 : (Tryd.prog.info? 4).map (fun i => (i.zero, i.size, i.bytes)) = some (some (.bool false), 1, 1) := by kernel_rfl
/-- what some answers. -/
def SomeT (w w' : World) (L : List ByteArray) (m : Nat) (e : Ending) : Prop := Below w.heap.size w w' ∧ ∃ (v : Value) (ps : List Nat), e = .returned v ∧ OwnT w.heap.size w' v (ps.map fun p => L[p]?.getD ⟨#[]⟩) ∧ ps.Nodup ∧ (∀ q ∈ ps, q < L.length) ∧ ps.length = m
set_option maxRecDepth 100000 in
set_option maxHeartbeats 8000000 in
theorem some_walk (n₀ : Nat) (a : Option Addr) (n cap : Nat) (L : List ByteArray) (ap : Option Addr) (len cp : Nat) (z : Nat → Int) (k : Nat) (w : World) (hL : L.length = n) (hn : n ≤ 16) (hkn : k ≤ n) (hlen : len ≤ 40)
    (hI : TxsAt n₀ w a L) (hn0 : n₀ ≤ w.heap.size) (hz : IntsAt w.heap.size w ap len z) (hzb : ∀ j, -9223372036854775808 ≤ z j ∧ z j ≤ 9223372036854775807) :
    Calls Tryd.prog 17 #[.slice a n cap, .slice ap len cp, .int .i64 k] w fun e w' => SomeT w w' L k e := by
  have HI := Lib.hid (hI.mono hn0)
  have HL := Lib.hid hL
  have HZ := Lib.hid hz
  have HZb := Lib.hid hzb
  have hmk := run_make_row' (P := Tryd.prog) (w := w) 109 4 (.bool false) 1 Tryd.underlying109 info_bool2 rfl .i64 .i64 n (by omega) (by omega)
  have hbU : Below w.heap.size w (w.alloc (.cells (madeCells #[.bool false] n) 4)) := (Below.refl _ w).alloc (Nat.le_refl _) _
  have hrow := World.rowIs_made w (.bool false) n 4
  have hP : Picked 9 w.heap.size (w.alloc (.cells (madeCells #[.bool false] n) 4)) (.slice none 0 0) w.heap.size n (fun p => Value.string (L[p]?.getD ⟨#[]⟩)) [] [] :=
    ⟨Own1.nil _ _ _, fun j hj => by rw [hrow.cell hj]; simp, fun j _ => hrow.frozen j, by simp [Value.ownBlock], by simp⟩
  have HP := Lib.hid (And.intro hP hbU)
  clear hP hbU hrow hI hz hzb hL
  go_enter Tryd.func17, Tryd.ntmps17
  go_wp2
  clear hmk
  obtain ⟨u, hu⟩ : ∃ u, w.heap.size = u := ⟨_, rfl⟩
  rw [hu] at HP ⊢
  have Hu2 := Lib.hid hu
  clear hu
  go_loopw [8, 9] (fun vo vi wr => ∃ (i : Nat) (ps : List Nat), i ≤ len ∧ vi = .int .i64 i ∧ Hid (Picked 9 u wr vo u n (fun p => Value.string (L[p]?.getD ⟨#[]⟩)) ps ps ∧ Below u w wr ∧ PickI n k ps)) (fun _ i _ => len - (intOf i).toNat)
  case atStart => exact ⟨0, [], by omega, rfl, Lib.hid ⟨HP.out.1, HP.out.2, PickI.nil _ _⟩⟩
  case round =>
    obtain ⟨i, ps, hi, rfl, H⟩ := hrel
    obtain ⟨av, cv, hve, hcv⟩ := H.out.1.own.form
    rw [List.length_map] at hve
    have hle := H.out.2.2.le
    by_cases hgo : i < len ∧ ps.length < k
    · obtain ⟨hlt, hpl⟩ := hgo
      have hlt2 : (i : Int) < len := by omega
      have hpl2 : (ps.length : Int) < k := by omega
      have hpl3 : decide (ps.length < k) = true := by simpa using hpl
      have hbw : Below w.heap.size w wr := by rw [Hu2.out]; exact H.out.2.1
      rcases HZ.out.below hbw with h0 | ⟨b, off, rfl, hb, hc⟩
      · omega
      have hzi := hc i hlt
      obtain ⟨y, hy⟩ : ∃ y, z i = y := ⟨_, rfl⟩
      rw [hy] at hzi
      have hyb := HZb.out i
      rw [hy] at hyb
      clear hc hy
      rcases HI.out.below hbw with he | ⟨g, og, rfl, hgl, hgc⟩
      · exfalso
        have := HL.out
        rw [he] at this; simp at this; omega
      rw [hve]
      by_cases hin : 0 ≤ y ∧ y < n
      · obtain ⟨hy0, hyn⟩ := hin
        obtain ⟨p, rfl⟩ := Int.eq_ofNat_of_zero_le hy0
        have hp : p < n := by omega
        have hmk := H.out.1.mark p hp
        have hfr := H.out.1.free p hp
        by_cases hmem : p ∈ ps
        · have e1 : decide (p ∈ ps) = true := by simpa using hmem
          rw [e1] at hmk
          clear hmem hgc
          go_wp2
          go_roundw
          case rel => exact ⟨i + 1, ps, by omega, by go_num, by rw [← hve]; exact H⟩
          case measure => simp [intOf]; omega
        · have e1 : decide (p ∈ ps) = false := by simpa using hmem
          rw [e1] at hmk
          have hne : g ≠ u := by have := Hu2.out; omega
          have hneb : b ≠ u := by have := Hu2.out; omega
          have hho : OnlyB u wr (wr.setCell ⟨u, p, none⟩ (.bool true)) := OnlyB.setCell _ _ _ _
          have hgp := hgc p (by have := HL.out; omega)
          have hPs := H.out.1.set hp
          have hul : (ps.map (fun p => Value.string (L[p]?.getD ⟨#[]⟩))).length ≤ 1000000 := by simp; omega
          have hB1 : Below u w (wr.setCell ⟨u, p, none⟩ (.bool true)) := H.out.2.1.setCell (p := ⟨u, p, none⟩) (Nat.le_refl _) _
          have hszu : u ≤ wr.heap.size := by have := H.out.2.1.size; have := Hu2.out; omega
          have hszu2 : u ≤ (wr.setCell ⟨u, p, none⟩ (.bool true)).heap.size := by have := hho.size; omega
          have hX := Lib.hid (And.intro hPs (And.intro hB1 (And.intro (H.out.2.2.snoc hp hmem hpl) hho.size)))
          have HV := Lib.hid hve
          rw [hve] at hPs
          have hown := Lib.hid hPs.own
          obtain ⟨tx, htx⟩ : ∃ tx, L[p]?.getD ⟨#[]⟩ = tx := ⟨_, rfl⟩
          rw [htx] at hgp
          have Htx := Lib.hid htx
          have hz2 : (wr.setCell ⟨u, p, none⟩ (.bool true)).cell? ⟨b, off + i, none⟩ = some (.int .i64 (p : Int)) := by
            rw [World.cell?_setCell_other _ _ _ _ (fun he => hneb (Addr.mk.inj he).1.symm)]; exact hzi
          have hh2 : (wr.setCell ⟨u, p, none⟩ (.bool true)).cell? ⟨g, og + p, none⟩ = some (.string tx) := by
            rw [World.cell?_setCell_other _ _ _ _ (fun he => hne (Addr.mk.inj he).1.symm)]; exact hgp
          clear hmem hPs hB1 hho hve hgc hgp htx
          go_wp2_with (at_builtin; refine append_txtH 56 64 rfl rfl u wr.heap.size _ _ tx hX.out.2.2.2 rfl rfl hown.out hul hszu2 ?_)
          intro v' w' k1 k2 k3
          obtain ⟨hPs, hB1, hI, hsq⟩ := hX.out
          rw [HV.out] at hPs
          have hP2 := hPs.append (p := p) (by rw [Htx.out]; exact k1) k2 (by rw [hsq]; exact k3)
          have hB2 : Below u w w' := (hB1.alloc hszu2 _).grown k2 (by simp; omega) (fun j e => (hPs.own.lt j e).1)
          have HR := Lib.hid (And.intro hP2 (And.intro hB2 hI))
          clear hPs hB1 hI hsq hP2 hB2 k1 k2 k3 hX hown HV
          go_wp2
          go_roundw
          case rel => exact ⟨i + 1, _, by omega, by go_num, HR⟩
          case measure => simp [intOf]; omega
      · have hy2 : ¬ (0 ≤ y) ∨ (0 ≤ y ∧ ¬ (y < n)) := by omega
        clear hin hgc
        rcases hy2 with hy2 | ⟨hy2, hy3⟩
        all_goals
          go_wp2
          go_roundw
          case rel => exact ⟨i + 1, ps, by omega, by go_num, by rw [← hve]; exact H⟩
          case measure => simp [intOf]; omega
    · have hcase : (¬ (i : Int) < len) ∨ ((i : Int) < len ∧ ¬ (ps.length : Int) < k) := by omega
      have hP0 : Picked 9 u wr (.slice av ps.length cv) u n (fun p => Value.string (L[p]?.getD ⟨#[]⟩)) ps ps := by rw [← hve]; exact H.out.1
      have HQ := Lib.hid (And.intro hP0 (And.intro H.out.2.1 (PickJ.start H.out.2.2)))
      rw [hve]
      obtain ⟨us, hus⟩ : ∃ us, us = ps := ⟨_, rfl⟩
      have HQ2 : Hid (Picked 9 u wr (.slice av ps.length cv) u n (fun p => Value.string (L[p]?.getD ⟨#[]⟩)) ps us ∧ Below u w wr ∧ PickJ n k 0 ps us) := by rw [hus]; exact HQ
      obtain ⟨wx, hwx⟩ : ∃ wx : World, wx = wr := ⟨_, rfl⟩
      clear hP0 HQ H hgo hve hus hwx
      rcases hcase with h1 | ⟨h1, h2⟩
      all_goals
        go_wp2
        go_loopw [8, 10] (fun vo vi wr => ∃ (i : Nat) (qs : List Nat), i ≤ n ∧ vi = .int .i64 i ∧ Hid (Picked 9 u wr vo u n (fun p => Value.string (L[p]?.getD ⟨#[]⟩)) qs us ∧ Below u w wr ∧ PickJ n k i qs us)) (fun _ i _ => n - (intOf i).toNat)
        case atStart => exact ⟨0, ps, by omega, rfl, HQ2⟩
        case round =>
          clear h1
          obtain ⟨i2, qs, hi2, rfl, H2⟩ := hrel
          obtain ⟨av2, cv2, hve2, _⟩ := H2.out.1.own.form
          rw [List.length_map] at hve2
          have hle2 := H2.out.2.2.base.le
          by_cases hgo : i2 < n ∧ qs.length < k
          · obtain ⟨hlt, hpl⟩ := hgo
            have hlt2 : (i2 : Int) < n := by omega
            have hpl2 : (qs.length : Int) < k := by omega
            have hpl3 : decide (qs.length < k) = true := by simpa using hpl
            have hmk := H2.out.1.mark i2 hlt
            rcases (HI.out.below (show Below w.heap.size w wr by rw [Hu2.out]; exact H2.out.2.1)) with he | ⟨g, og, rfl, hgl, hgc⟩
            · exfalso
              have := HL.out
              rw [he] at this; simp at this; omega
            have hh2 := hgc i2 (by have := HL.out; omega)
            obtain ⟨tx, htx⟩ : ∃ tx, L[i2]?.getD ⟨#[]⟩ = tx := ⟨_, rfl⟩
            rw [htx] at hh2
            have Htx := Lib.hid htx
            by_cases hmem : i2 ∈ us
            · have e1 : decide (i2 ∈ us) = true := by simpa using hmem
              rw [e1] at hmk
              have hJ := Lib.hid (H2.out.2.2.skip hmem)
              clear hmem hgc htx
              rw [hve2]
              go_wp2
              go_roundw
              case rel => exact ⟨i2 + 1, qs, by omega, by go_num, by rw [← hve2]; exact Lib.hid ⟨H2.out.1, H2.out.2.1, hJ.out⟩⟩
              case measure => simp [intOf]; omega
            · have e1 : decide (i2 ∈ us) = false := by simpa using hmem
              rw [e1] at hmk
              have hJ := H2.out.2.2.snoc hmem hlt hpl
              have hul : (qs.map (fun p => Value.string (L[p]?.getD ⟨#[]⟩))).length ≤ 1000000 := by simp; omega
              have hszu : u ≤ wr.heap.size := by have := H2.out.2.1.size; have := Hu2.out; omega
              have hPs := H2.out.1
              rw [hve2] at hPs
              have hown := Lib.hid hPs.own
              have hX := Lib.hid (And.intro hPs (And.intro H2.out.2.1 hJ))
              rw [hve2]
              clear hmem hPs hJ hve2 H2 hgc htx
              go_wp2_with (at_builtin; refine append_txtH 83 88 rfl rfl u _ _ _ tx rfl rfl rfl hown.out hul hszu ?_)
              intro v' w' k1 k2 k3
              obtain ⟨hPs, hB1, hJ⟩ := hX.out
              have hP2 := hPs.append (p := i2) (by rw [Htx.out]; exact k1) k2 k3
              have hB2 : Below u w w' := (hB1.alloc hszu _).grown k2 (by simp; omega) (fun j e => (hPs.own.lt j e).1)
              have HR := Lib.hid (And.intro hP2 (And.intro hB2 hJ))
              clear hPs hB1 hJ hP2 hB2 k1 k2 k3 hX hown
              go_wp2
              go_roundw
              case rel => exact ⟨i2 + 1, _, by omega, by go_num, HR⟩
              case measure => simp [intOf]; omega
          · have hql := H2.out.2.2.done hkn (by omega)
            have hcase : (¬ (i2 : Int) < n) ∨ ((i2 : Int) < n ∧ ¬ (qs.length : Int) < k) := by omega
            have hres : SomeT w wr L k (.returned (.slice av2 qs.length cv2)) := by
              refine ⟨by rw [Hu2.out]; exact H2.out.2.1, _, qs, rfl, ?_, H2.out.2.2.base.nd, fun q hq => by rw [HL.out]; exact H2.out.2.2.base.lt q hq, hql⟩
              rw [← hve2, Hu2.out]
              have h9 := H2.out.1.own
              unfold OwnT
              rw [List.map_map]
              exact h9
            have HR := Lib.hid hres
            rw [hve2]
            clear hql hgo hve2 H2 hle2 hres
            rcases hcase with h3 | ⟨h3, h4⟩
            all_goals
              go_wp2
              go_ret
              exact HR.out
end Go.Proofs.YtmaalkjimppnkaaDoor
