/- The walk of the law HoldLoads. -/
import Derived.Test.YthdicfcgkbepdaaGreatDoorKHoldSavesX1
import Derived.Test.YthdicfcgkbepdaaGreatDoorClosed
import Derived.Test.YthdicfcgkbepdaaGreatDoorErr
import Derived.Test.YthdicfcgkbepdaaGreatDoorCards
import Derived.Test.YthdicfcgkbepdaaGreatDoorTie
import Derived.SevenTiedAt
namespace Go.Proofs.YthdicfcgkbepdaaGreatDoor.holdLoads
open Go.RowKit Go.BigFrame

theorem tail_laid : ((Rows.holdLoadsRow.laid).drop 3).take 13 = fullLaid := rfl
theorem in_tab : ("internal/strconv.uint64pow10", p10T) ∈ Rows.holdLoadsRow.laid := List.mem_of_getElem? (i := 2) rfl
theorem in_ran : ("strconv.ErrRange", sent ranT) ∈ Rows.holdLoadsRow.laid := List.mem_of_getElem? (i := 16) rfl
theorem in_syn : ("strconv.ErrSyntax", sent synT) ∈ Rows.holdLoadsRow.laid := List.mem_of_getElem? (i := 17) rfl
set_option maxRecDepth 100000 in
set_option maxHeartbeats 16000000 in
theorem walk (s : ByteArray) (w : World) (hs : s.size ≤ maxLen) (hL : laidMetH Tryz.prog Rows.holdLoadsRow.laid w) :
    Calls Tryz.prog 3 #[.string s] w fun e w' => e = .returned (.bool true) ∧ Below w.heap.size w w' := by
  obtain ⟨E, hE, hN, hT⟩ := loads_env 3 tail_laid in_tab in_syn in_ran hL
  have Hh := Lib.hid (holds_walk w E hE.hx)
  have HH := Lib.hid (And.intro hE (And.intro hN hT))
  have hs9 : (s.size : Int) ≤ 9223372036854775807 := by unfold maxLen at hs; omega
  clear hE hN hT hL
  by_cases hbig : 2000 < s.size
  · have hb9 : (2000 : Int) < s.size := by omega
    go_enter Tryz.func3, Tryz.ntmps3
    go_wp2_with fail
    refine Hh.out.mono ?_
    rintro e w1 ⟨rfl, hb1⟩
    have HB1 := Lib.hid hb1
    clear hb1
    go_wp2
    go_ret
    exact ⟨rfl, HB1.out⟩
  · have hb9 : (s.size : Int) ≤ 2000 := by omega
    have hb8 : s.size ≤ 2000 := by omega
    go_enter Tryz.func3, Tryz.ntmps3
    go_wp2_with fail
    refine Hh.out.mono ?_
    rintro e w1 ⟨rfl, hb1⟩
    have HB1 := Lib.hid hb1
    clear hb1
    go_wp2_with fail
    refine (seal_walk s w1 (by omega)).mono ?_
    rintro e w2 ⟨rfl, hb2⟩
    have HB2 := Lib.hid (HB1.out.trans (hb2.mono HB1.out.size))
    clear hb2
    obtain ⟨X, hX⟩ : ∃ X, s ++ (⟨(fourL (Sm.crc (Sm.nats s))).toArray⟩ : ByteArray) = X := ⟨_, rfl⟩
    have hX2 : s ++ fourS (Sm.crc (Sm.nats s)) = X := hX
    have hld := fun W (hb : Below w.heap.size w W) => load_sealed E s W (HH.out.1.below hb (Nat.le_refl _)) (HH.out.2.1.below hb (Nat.le_refl _)) (HH.out.2.2.below hb (Nat.le_refl _)) (by omega)
    rw [hX2] at hld
    rw [hX]
    have HLd := Lib.hid hld
    clear hld hX
    go_wp2_with fail
    refine (HLd.out w2 HB2.out).mono ?_
    rintro e w3 ⟨hb3, ⟨hno, rfl⟩ | ⟨l, sd, hb, hyes, hf, hone, rfl⟩⟩
    · have HB3 := Lib.hid (HB2.out.trans (hb3.mono HB2.out.size))
      clear hb3 hno
      unfold rLoad
      go_wp2_with fail
      refine (coded2_of E 1 (errV (E 0)) w3 (HH.out.1.below HB3.out (Nat.le_refl _)) (.inr ⟨0, by omega, by omega, rfl⟩)).mono ?_
      rintro e w4 ⟨rfl, hb4⟩
      have HB4 := Lib.hid (HB3.out.trans (hb4.mono HB3.out.size))
      clear hb4
      go_wp2
      go_ret
      exact ⟨rfl, HB4.out⟩
    · have HB3 := Lib.hid (HB2.out.trans (hb3.mono HB2.out.size))
      have HO := Lib.hid (And.intro hone (And.intro hf hyes))
      have hsv := loadB_save hyes
      have hbs : (⟨(saveB sd l).toArray⟩ : ByteArray) = s := by rw [hsv]
      have hSW := one_save hone hf (HH.out.2.2.below HB3.out (Nat.le_refl _))
      rw [hbs, hX2] at hSW
      have HSW := Lib.hid hSW
      clear hb3 hone hf hyes hsv hbs hSW
      unfold rLoad
      go_wp2_with fail
      refine HSW.out.mono ?_
      rintro e w4 ⟨rfl, hb4⟩
      have HB4 := Lib.hid (And.intro (HB3.out.trans (hb4.mono HB3.out.size)) (HO.out.1.below hb4 (Nat.le_refl _)))
      clear hb4
      go_wp2_with fail
      refine (HLd.out w4 HB4.out.1).mono ?_
      rintro e w5 ⟨hb5, ⟨hno, rfl⟩ | ⟨l2, sd2, hb2, hyes2, hf2, hone2, rfl⟩⟩
      · exfalso
        rw [HO.out.2.2] at hno
        cases hno
      · have h9 := HO.out.2.2
        rw [hyes2] at h9
        simp only [Option.some.injEq, Prod.mk.injEq] at h9
        obtain ⟨rfl, rfl⟩ := h9
        have HB5 := Lib.hid (And.intro (HB4.out.1.trans (hb5.mono HB4.out.1.size)) (And.intro hone2 (HB4.out.2.below hb5 (Nat.le_refl _))))
        have hl9 : (l2.length : Int) ≤ 60 := by have := hf2.1.2; omega
        have Hf := Lib.hid hf2
        clear hb5 hyes2 hone2 hf2
        unfold rLoad
        go_wp2_with fail
        refine (one_count HB5.out.2.1 Hf.out).mono ?_
        rintro e w6 ⟨rfl, hb6⟩
        have HB6 := Lib.hid (And.intro (HB5.out.1.trans (hb6.mono HB5.out.1.size)) (And.intro (HB5.out.2.1.below hb6 (Nat.le_refl _)) (HB5.out.2.2.below hb6 (Nat.le_refl _))))
        clear hb6
        go_wp2_with fail
        refine (one_count HB6.out.2.2 Hf.out).mono ?_
        rintro e w7 ⟨rfl, hb7⟩
        have HB7 := Lib.hid (And.intro (HB6.out.1.trans (hb7.mono HB6.out.1.size)) (And.intro (HB6.out.2.1.below hb7 (Nat.le_refl _)) (HB6.out.2.2.below hb7 (Nat.le_refl _))))
        clear hb7
        go_wp2_with fail
        refine (one_sealed HB7.out.2.1).mono ?_
        rintro e w8 ⟨rfl, rfl⟩
        go_wp2_with fail
        refine (one_sealed HB7.out.2.2).mono ?_
        rintro e w8 ⟨rfl, rfl⟩
        have hss : (sd2 == sd2) = true := by simp
        go_wp2
        go_ret
        exact ⟨rfl, HB7.out.1⟩
end Go.Proofs.YthdicfcgkbepdaaGreatDoor.holdLoads
/- shardkeeplaw's HoldLoads: the row's step and the tied card: for every input the law returns true and its arguments read as before. Conditions: the listed variables read as the program's text lays them, which the card ties. -/
namespace Go.Proofs.YthdicfcgkbepdaaGreatDoor.holdLoads
open Go.ChangeShapes Go.WideShapes Go.ChangeAt Go.RowKit
open Go.ChangeMaps (open_string shut_string)

theorem laid_met (os : Os) (args : Array Value) : laidMetH Tryz.prog Rows.holdLoadsRow.laid ((World.doorLaid Tryz.prog 400 os).forCall (fun _ _ => 0) ⟨#[], args, []⟩).memory :=
  laidMetH_of_parts3 (fuel := 8) (laidMet_of_run' 8 (by kernel_rfl) (by kernel_rfl)) (by kernel_rfl) (by kernel_rfl)
theorem reads (os : Os) {H : Type} (enc : TypeId × Value → H) : ∃ places, DataW.whole enc Tryz.prog ((World.doorLaid Tryz.prog 400 os).forCall (fun _ _ => 0) ⟨#[], #[.string ByteArray.empty], []⟩).memory Tryz.f3.params.toList Rows.holdLoadsSpec.vars false (#[.string ByteArray.empty] : Array Value).toList 8 = some ([.lit (.string [])], [], places) :=
  ⟨[], by kernel_rfl⟩

set_option maxRecDepth 100000 in
set_option maxHeartbeats 2000000 in
theorem contract (H : Type) (enc : TypeId × Value → H) (W : World) (base : Nat) (args : Array Value) (ds gs : List (DataW H)) (before : List MemPlace)
    (hval0 : ∀ (j : Nat) t v, Tryz.f3.params[j]? = some t → args[j]? = some v → Value.okWide Tryz.prog W .any base t v)
    (hW : DataW.Whole enc Tryz.prog Tryz.f3.params.toList Rows.holdLoadsSpec.vars false W args.toList ds gs before)
    (hsz : (DataW.weightsEach Tryz.prog (Tryz.f3.params.toList ++ Rows.holdLoadsSpec.plain.varTypes Tryz.prog) (ds ++ gs)).all (· ≤ reachBytes) = true)
    (hL : laidMetH Tryz.prog Rows.holdLoadsRow.laid W) :
    Calls Tryz.prog 3 args W fun e W' => ∃ v, e = .returned v ∧ Rows.holdLoadsSpec.post enc Tryz.prog Tryz.f3 false true false false W args v W' := by
  have hval : ∀ (j : Nat) t v, Tryz.f3.params[j]? = some t → args[j]? = some v → Value.okWide Tryz.prog W .any base t v := hval0
  have hW' := hW
  obtain ⟨p, q, hA0, hV, rfl, hfz, hnd⟩ := hW
  have hA : DataW.TrodAll enc Tryz.prog W 0 (fun _ => true) true Tryz.f3.params.toList args.toList ds p := hA0
  rw [Tryz.params3] at hA hval
  obtain ⟨v0, vs0, d0, ds0, p0, q0, hargs, rfl, rfl, h0, r0⟩ := trodAll_cons hA
  obtain ⟨rfl, rfl, rfl⟩ := trodAll_nil r0
  obtain rfl : args = #[v0] := by cases args; simp_all
  obtain ⟨rfl, rfl⟩ := trodVars_none hV
  obtain ⟨a0, rfl, rfl, rfl, w0⟩ := open_string Tryz.underlying9 (hval 0 9 v0 rfl rfl) h0
  clear hA0 hval0
  refine (walk a0 W w0 hL).mono fun e W' ⟨he, bel⟩ => ?_
  subst he
  exact ⟨_, rfl, _, _, _, [], _, [], hW', trodAll_mk1 (shut_bool Tryz.underlying4 _), (trodAll_cons_mk (shut_string Tryz.underlying9 w0) trodAll_mk0), rfl, bel.frame _, fun h => by cases h⟩

set_option maxHeartbeats 4000000 in
theorem closed : joinedFacts Tryz.prog 3 Tryz.f3 (OpenSpec.ofChange Rows.holdLoadsSpec).bare Rows.holdLoadsRow = true := by
  unfold joinedFacts
  exact (Closed.and_mk (Closed.and_mk (Closed.and_mk (Closed.and_mk (Closed.and_mk (Closed.and_mk (Closed.and_mk (Closed.and_mk (Closed.and_mk (Closed.and_mk (Closed.and_mk (Closed.and_mk (Closed.and_mk (Closed.and_mk (Closed.and_mk (Closed.and_mk (Closed.and_mk (Closed.and_mk (Closed.and_mk (Closed.and_mk (Closed.and_mk (Closed.and_mk (Closed.and_mk (Closed.and_mk (Closed.and_mk (Closed.and_mk (Closed.and_mk (Closed.and_mk (Closed.and_mk (Closed.and_mk (Closed.and_mk (by as_aux_lemma => kernel_rfl) Closed.laidOut) Closed.mapsRowed) (by as_aux_lemma => kernel_rfl)) (by as_aux_lemma => kernel_rfl)) (by as_aux_lemma => kernel_rfl)) Closed.stops) (by as_aux_lemma => kernel_rfl)) Closed.stopKnobs) (by as_aux_lemma => kernel_rfl)) (by as_aux_lemma => kernel_rfl)) (by as_aux_lemma => kernel_rfl)) (by as_aux_lemma => kernel_rfl)) (by as_aux_lemma => kernel_rfl)) (by as_aux_lemma => kernel_rfl)) (by as_aux_lemma => kernel_rfl)) (by as_aux_lemma => kernel_rfl)) (by as_aux_lemma => kernel_rfl)) (by as_aux_lemma => kernel_rfl)) (by as_aux_lemma => kernel_rfl)) (by as_aux_lemma => kernel_rfl)) (by as_aux_lemma => kernel_rfl)) Closed.plainKeys) (by as_aux_lemma => kernel_rfl)) Closed.stopsHeard) Closed.mayEnter) Closed.lifted) Closed.make) (by as_aux_lemma => kernel_rfl)) Closed.pinned) (by as_aux_lemma => kernel_rfl)) (by as_aux_lemma => kernel_rfl))

set_option maxRecDepth 100000 in
theorem lifted (os : Os) (started : os.Started) (H : Type) (enc : TypeId × Value → H) (F : Stop.Interp) :
    ReturnsInHanded {} Tryz.checked os 3 .any ((OpenSpec.ofChange Rows.holdLoadsSpec).preRow enc Tryz.prog Tryz.f3 Rows.holdLoadsRow.domain false Rows.holdLoadsRow.laid) (((OpenSpec.ofChange Rows.holdLoadsSpec).at F).post enc Tryz.prog Tryz.f3 false true false false) := by
  obtain ⟨places, hx⟩ := reads os enc
  refine returnsInHanded_of_row (C := Tryz.checked) (s := OpenSpec.ofChange Rows.holdLoadsSpec) own started (by kernel_rfl) Tryz.func3
    (witness_row_atRef (enc := enc) (C := Tryz.checked) false (World.doorLaid Tryz.prog 400 os) #[.string ByteArray.empty] rfl (by kernel_rfl) (by kernel_rfl) (by kernel_rfl)
      (OpenSpec.preRow_of_cond 8 hx (by kernel_rfl) (fun k hk => by cases hk) (by kernel_rfl) (laid_met os _))) ?_
  intro W base args ds gs before hval hW _ _ hsz hL _ _
  exact contract H enc W base args ds gs before hval hW hsz hL

theorem said : Rows.HoldLoadsSaid :=
  OpenClaim.holds_of_cond 3 Tryz.f3 rfl rfl rfl rfl rfl rfl rfl ⟨rfl, rfl, rfl, rfl, rfl⟩ rfl rfl rfl rfl rfl (by kernel_rfl) Tryz.func3 closed
    (of_decide_eq_true (by kernel_rfl)) (by unfold Func.isWrapper; first | (rw [if_pos (by decide +kernel)]; kernel_rfl) | (rw [if_neg (by decide +kernel)]; exact ⟨rfl, rfl⟩))
    (fun os started H enc _ F => by rw [OpenClaim.pre_eq_preRow]; exact lifted os started H enc F)

theorem plain (f : FuncId) (fn : Func) (hf : Tryz.pinned.checked.prog.funcNamed "shardkeep/shardkeeplaw2.HoldLoads" = some f) (hfn : Tryz.pinned.checked.prog.funcs[f]? = some fn) :
    true = Tryz.pinned.checked.prog.looks [] ∧ ∀ (j : Nat) t, fn.params[j]? = some t → Tryz.pinned.checked.prog.wantsStandIn t = false := by
  obtain rfl : f = 3 := Option.some.inj ((show Tryz.prog.funcNamed "shardkeep/shardkeeplaw2.HoldLoads" = some 3 by kernel_rfl).symm.trans hf) |>.symm
  obtain rfl : fn = Tryz.f3 := (Option.some.inj (Tryz.func3.symm.trans hfn)).symm
  refine ⟨by kernel_rfl, fun j t ht => ?_⟩
  rw [Tryz.params3] at ht
  have hm : t ∈ ([9] : List TypeId) := by simpa using Array.mem_of_getElem? ht
  have hall : (([9] : List TypeId).all fun u => !Tryz.prog.wantsStandIn u) = true := by kernel_rfl
  exact (show Tryz.prog.wantsStandIn t = false by simpa using List.all_eq_true.1 hall t hm)

/-- the statement. -/
theorem card : Rows.HoldLoadsCardSaid :=
  Claim7.holds_tied_plain_at .later [] _ _ _ _ said (fun _ h => by cases h) (by kernel_rfl) (fun _ h => by cases h) holdLoads_row_tie rfl ⟨rfl, rfl⟩ (by kernel_rfl) rfl plain (by kernel_rfl)
#print axioms card
end Go.Proofs.YthdicfcgkbepdaaGreatDoor.holdLoads
