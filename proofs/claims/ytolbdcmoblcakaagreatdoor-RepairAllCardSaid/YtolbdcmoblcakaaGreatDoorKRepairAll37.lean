/- Printed out of RpH: racks of holds alone. -/
import Derived.Test.YtolbdcmoblcakaaGreatDoorKRepairAll36
import Derived.Test.YtolbdcmoblcakaaGreatDoorKRepairAll08
import Derived.Deep.QuietTactic
import Derived.BigQuiet
import Derived.Test.YtolbdcmoblcakaaGreatDoorKRepairAll23
namespace Go.Proofs.YtolbdcmoblcakaaGreatDoor.HO
section
open Go.RowKit Go.Maps Go.BigFrame

/-- what Mend answers, and leaves. -/
def MendRes (w w' : World) (E : Nat → Addr) (n k : Int) (L : List ByteArray) (len : Nat) (key : ByteArray) (Z : Nat → Prop) (sl : List Slot) (z : Int) (v : Value) : Prop :=
  ((configF n k L).1 ≠ 0 ∧ z = 0 ∧ ((∃ x, v = errV x) ∨ ∃ m, v = faultV m) ∧ FltV w' E (configF n k L) v ∧ Below w.heap.size w w') ∨
     ((configF n k L).1 = 0 ∧ (len : Int) ≠ n ∧ z = 0 ∧ v = errV (E 2) ∧ Below w.heap.size w w') ∨
     ((configF n k L).1 = 0 ∧ (len : Int) = n ∧
       (((bestOf n.toNat k.toNat (toldC key (consH sl))).2.2 = false ∧ z = 0 ∧ v = .nilIface ∧ Below w.heap.size w w') ∨
        ∃ t s sl', bestOf n.toNat k.toNat (toldC key (consH sl)) = (t, s, true) ∧ RackAt Z w' sl' ∧ ptrsH sl' = ptrsH sl ∧ ptrsM sl' = ptrsM sl ∧ consM sl' = consM sl ∧ KeptBut (fun b => ¬ Z b) w w' ∧
          ∃ R, mendF key (mustL n.toNat k.toNat t s) (lackL (mustL n.toNat k.toNat t s) (toldC key (consH sl))) (consH sl) 0 = R ∧ consH sl' = R.1 ∧ ((R.2.1 = 0 ∧ z = (R.2.2 : Nat) ∧ v = .nilIface) ∨ (R.2.1 ≠ 0 ∧ z = 0 ∧ errOf E R.2.1 v))))
theorem mendF_none {key : ByteArray} {must : List Ver} {i : Nat} {r : List Nat} {cs : List (Option (List Kp))} {d : Nat} (h : cs[i]?.getD none = none) : mendF key must (i :: r) cs d = mendF key must r cs d := by
  rw [mendF, h]
theorem mendF_ok {key : ByteArray} {must : List Ver} {i : Nat} {r : List Nat} {cs : List (Option (List Kp))} {d : Nat} {l : List Kp} (h : cs[i]?.getD none = some l) (he : putM (errM false l key (must[i]?.getD ver0)) = 0) : mendF key must (i :: r) cs d = mendF key must r (cs.set i (some (afterP false l key (must[i]?.getD ver0)))) (d + 1) := by
  rw [mendF, h]
  exact if_pos he
theorem mendF_err {key : ByteArray} {must : List Ver} {i : Nat} {r : List Nat} {cs : List (Option (List Kp))} {d : Nat} {l : List Kp} (h : cs[i]?.getD none = some l) (he : putM (errM false l key (must[i]?.getD ver0)) ≠ 0) : mendF key must (i :: r) cs d = (cs, putM (errM false l key (must[i]?.getD ver0)), d) := by
  rw [mendF, h]
  exact if_neg he
theorem afterP_err {l : List Kp} {key : ByteArray} {x : Ver} (he : putM (errM false l key x) ≠ 0) : afterP false l key x = l := by
  unfold afterP
  by_cases h : errM false l key x = 0
  · exact absurd (by rw [h]; rfl) he
  · exact if_neg h
theorem ErrEnv.hx' {w : World} {E : Nat → Addr} (h : ErrEnv w E) : ErrHx w E := ⟨h.c1, h.c3, h.c5, h.c6, h.c9⟩
/-- the state of the loop. -/
def MdState (Z1 : Nat → Prop) (w1 wr : World) (key : ByteArray) (must : List Ver) (lack : List Nat) (sl : List Slot) (i d : Nat) (sl' : List Slot) : Prop :=
  RackAt Z1 wr sl' ∧ ptrsH sl' = ptrsH sl ∧ ptrsM sl' = ptrsM sl ∧ consM sl' = consM sl ∧ KeptBut (fun b => ¬ Z1 b) w1 wr ∧ mendF key must (lack.drop i) (consH sl') d = mendF key must lack (consH sl) 0
theorem kept_in {Z : Nat → Prop} {w1 wr : World} (h : KeptBut (fun b => ¬ Z b) w1 wr) {p : Addr} {v : Value} (hp : Z p.block) (hc : w1.cell? p = some v) : wr.cell? p = some v := h.cell hc (fun e => e hp)
theorem drop_at {α : Type} {l : List α} {i : Nat} (d : α) (h : i < l.length) : l.drop i = (l[i]?.getD d) :: l.drop (i + 1) := by
  rw [List.drop_eq_getElem_cons h, List.getElem?_eq_getElem h]; rfl
set_option maxRecDepth 100000 in
set_option maxHeartbeats 8000000 in
theorem mend_walk {w : World} {E : Nat → Addr} {n₀ : Nat} {a : Option Addr} {len cap : Nat} {L : List ByteArray} {key : ByteArray} {pa : Option Addr} {pl : Nat} {Z : Nat → Prop} {sl : List Slot} (h : LookIn w E n₀ a len cap L key pa pl Z sl) (n k : Int) (pc : Nat)
    (hpz : ∀ x, pa = some x → Z x.block) (hEZ : ∀ w', KeptBut (fun b => ¬ Z b) w w' → ErrHx w' E) :
    Calls Tryz.prog 14 #[cfgV n k (.slice a len cap), .string key, .slice pa pl pc] w fun e w' => ∃ z v, e = .returned (.tuple #[.int .i64 z, v]) ∧ MendRes w w' E n k L pl key Z sl z v := by
  obtain ⟨W0, hW0⟩ : ∃ W0, w.alloc (.cells #[.int .i64 n, .int .i64 k, .slice a len cap] 24) = W0 := ⟨_, rfl⟩
  have hB0 : Below w.heap.size w W0 := by rw [← hW0]; exact (Below.refl _ w).alloc (Nat.le_refl _) _
  have hC0 : CfgAt W0 w.heap.size n k (.slice a len cap) := by rw [← hW0]; exact CfgAt.new w n k (.slice a len cap)
  have HL := Lib.hid ((h.below hB0).walk n k pc)
  have H := Lib.hid (And.intro h (And.intro hpz hEZ))
  obtain ⟨c0, c1, c2⟩ := hC0
  have H0 := Lib.hid hB0
  obtain ⟨told, htd⟩ : ∃ told, toldC key (consH sl) = told := ⟨_, rfl⟩
  have HTD := Lib.hid htd
  rw [htd] at HL
  unfold cfgV at HL ⊢
  have hpm9 : pl ≤ 9223372036854775807 := h.max_
  clear h hB0 htd hpz hEZ
  go_enter Tryz.func14, Tryz.ntmps14
  go_wp2_with fail
  clear hW0 c0 c1 c2
  refine HL.out.mono ?_
  rintro e w1 ⟨hb1, vm, vl, v, rfl, hr⟩
  have HR : Hid (Below w.heap.size w w1) := Lib.hid (H0.out.trans (hb1.mono H0.out.size))
  have hs01 : w.heap.size ≤ W0.heap.size := H0.out.size
  have Hs01 := Lib.hid hs01
  have hs01' := hs01
  clear hb1 hs01
  rcases hr with ⟨r0, rfl, rfl, r1, r2⟩ | ⟨r0, r1, rfl, rfl, rfl⟩ | ⟨r0, r1, rfl, ⟨r2, rfl, rfl⟩ | ⟨t, s, r2, r3, r4⟩⟩
  · have HX := Lib.hid (And.intro r0 (And.intro r1 r2))
    rcases r1 with ⟨x, rfl⟩ | ⟨m, rfl⟩
    all_goals
      clear r0 r2
      try unfold faultV
      go_wp2
      go_ret2
      exact ⟨_, _, rfl, .inl ⟨HX.out.1, rfl, HX.out.2.1, HX.out.2.2, HR.out⟩⟩
  · have HX := Lib.hid (And.intro r0 r1)
    clear r0 r1
    go_wp2
    go_ret2
    exact ⟨_, _, rfl, .inr (.inl ⟨HX.out.1, HX.out.2, rfl, rfl, HR.out⟩)⟩
  · have HX := Lib.hid (And.intro r0 (And.intro r1 r2))
    clear r0 r1 r2
    have hl0 : ¬ ((0 : Int) < 0) := by omega
    go_wp2
    go_loopw [11, 28] (fun vn vi wr => vn = .int .i64 0 ∧ vi = .int .i64 0 ∧ wr = w1) (fun _ _ _ => 0)
    case atStart => exact ⟨rfl, rfl, rfl⟩
    case round =>
      obtain ⟨rfl, rfl, rfl⟩ := hrel
      go_wp2
      go_ret2
      exact ⟨_, _, rfl, .inr (.inr ⟨HX.out.1, HX.out.2.1, .inl ⟨by rw [HTD.out]; exact HX.out.2.2, rfl, rfl, HR.out⟩⟩)⟩
  · obtain ⟨⟨hk1, hkn, hn12⟩, _⟩ := configF_zero r0
    obtain ⟨n, rfl⟩ : ∃ m : Nat, n = (m : Int) := ⟨n.toNat, by omega⟩
    obtain ⟨k, rfl⟩ : ∃ m : Nat, k = (m : Int) := ⟨k.toNat, by omega⟩
    rw [Int.toNat_natCast, Int.toNat_natCast] at r2 r3 r4
    obtain ⟨la, lc, rfl, hlc, hlm, hlb, hli⟩ := r4.read
    have hmsh := r3.lt
    obtain ⟨ma, mc, rfl, hmc, _, _, hmr⟩ := r3.read
    have hml := mustL_length n k t s
    have hll := lackL_lt (must := mustL n k t s) (told := told)
    have hle := lackL_len (mustL n k t s) told
    rw [hml] at hll hle
    obtain ⟨must, hmu⟩ : ∃ must, mustL n k t s = must := ⟨_, rfl⟩
    rw [hmu] at hml hll hle hlc hli hmr hmsh hmc ⊢
    obtain ⟨lack, hla⟩ : ∃ lack, lackL must told = lack := ⟨_, rfl⟩
    rw [hla] at hll hle hlc hli ⊢
    obtain ⟨m, hm⟩ : ∃ m, lack.length = m := ⟨_, rfl⟩
    rw [hm] at hle hlc ⊢
    rw [hml] at hmc ⊢
    have hpn : pl = n := by omega
    subst hpn
    have hBw := HR.out
    have hIn1 := H.out.1.below hBw
    obtain ⟨Z1, hZ1⟩ : ∃ Z1 : Nat → Prop, (fun b => Z b ∨ (w.heap.size ≤ b ∧ b < w1.heap.size)) = Z1 := ⟨_, rfl⟩
    have hrk1 : RackAt Z1 w1 sl := by rw [← hZ1]; exact H.out.1.rack.below hBw (Nat.le_refl _)
    have hZZ : ∀ b, Z b → Z1 b := fun b hb => by rw [← hZ1]; exact .inl hb
    have hZN : ∀ b, w.heap.size ≤ b → b < w1.heap.size → Z1 b := fun b h1 h2 => by rw [← hZ1]; exact .inr ⟨h1, h2⟩
    have hki : ∀ w', KeptBut (fun b => ¬ Z1 b) w1 w' → KeptBut (fun b => ¬ Z b) w w' := fun w' hk => (KeptBut.of_below (F := fun b => ¬ Z b) hBw (fun b hb h9 => by omega)).trans (hk.mono fun b hb h9 hz => h9 (hZZ b hz))
    have HS0 : Hid (MdState Z1 w1 w1 key must lack sl 0 0 sl) := Lib.hid ⟨hrk1, rfl, rfl, rfl, KeptBut.refl _ _, by rw [List.drop_zero]⟩
    have HX := Lib.hid (And.intro r0 (And.intro r2 (And.intro hml (And.intro hll (And.intro hle (And.intro hm (And.intro hZZ (And.intro hZN (And.intro hki (And.intro hlb (And.intro hli (And.intro hmr (And.intro hmsh (And.intro hla hmu))))))))))))))
    have HI1 := Lib.hid (And.intro hIn1 hs01')
    have hm12 : m ≤ 12 := by omega
    clear r0 r1 r2 r3 r4 hBw hIn1 hZ1 hrk1 hZZ hZN hki hml hll hle hm hlb hli hmr hmsh hla hmu hlc hlm hmc hk1 hkn
    go_wp2
    go_loopw [11, 28] (fun vn vi wr => ∃ (i d : Nat), i ≤ m ∧ d ≤ i ∧ vi = .int .i64 i ∧ vn = .int .i64 d ∧ Hid (∃ sl', MdState Z1 w1 wr key must lack sl i d sl')) (fun _ vi _ => m - (intOf vi).toNat)
    case atStart => exact ⟨0, 0, by omega, by omega, rfl, rfl, Lib.hid ⟨_, HS0.out⟩⟩
    case round =>
      obtain ⟨i, d, hi, hdi, rfl, rfl, Hr⟩ := hrel
      have hi2 : i < m ∨ m = i := by omega
      obtain ⟨sl', hrk, hph, hpm, hcm, hkp, hme⟩ := Hr.out
      rcases hi2 with hilt | rfl
      · have hilt2 : (i : Int) < m := by omega
        obtain ⟨q, hq⟩ : ∃ q, lack[i]?.getD 0 = q := ⟨_, rfl⟩
        have hil : i < lack.length := by rw [HX.out.2.2.2.2.2.1]; exact hilt
        have hqn : q < pl := HX.out.2.2.2.1 q (by rw [← hq, List.getElem?_eq_getElem hil]; exact List.getElem_mem hil)
        have hqn2 : (q : Int) < pl := by omega
        obtain ⟨lb, lo, rfl, hlc1⟩ : ∃ lb lo, la = some ⟨lb, lo, none⟩ ∧ wr.cell? ⟨lb, lo + i, none⟩ = some (.int .i64 (q : Int)) := by
          rcases HX.out.2.2.2.2.2.2.2.2.2.2.1 with he | ⟨lb, lo, h, hc⟩
          · exfalso
            have h9 : lack = [] := by simpa using he
            rw [h9] at hil; simp at hil
          · refine ⟨lb, lo, h, ?_⟩
            have h9 := hc i (by simpa using hil)
            rw [List.getElem?_map, List.getElem?_eq_getElem hil] at h9
            have hl9 := HX.out.2.2.2.2.2.2.2.2.2.1 _ h
            refine kept_in hkp (HX.out.2.2.2.2.2.2.2.1 lb (Nat.le_trans (by exact Hs01.out) hl9.1) hl9.2) (h9.trans ?_)
            rw [← hq, List.getElem?_eq_getElem hil]; rfl
        have hqs : q < sl'.length := by
          have h1 := size_ptrsH sl'
          rw [hph, size_ptrsH, H.out.1.pl_] at h1
          omega
        obtain ⟨s', hs'⟩ : ∃ s', sl'[q]? = some s' := ⟨_, List.getElem?_eq_getElem hqs⟩
        obtain ⟨b, off, rfl, hpc⟩ : ∃ b off, pa = some ⟨b, off, none⟩ ∧ wr.cell? ⟨b, off + q, none⟩ = some (.pointer (s'.map fun x => (⟨x.1, 0, none⟩ : Addr))) := by
          rcases HI1.out.1.ptr with he | ⟨b, off, h, hb, hc⟩
          · exfalso
            have h9 := size_ptrsH sl
            rw [he, H.out.1.pl_] at h9; simp at h9; omega
          · refine ⟨b, off, h, ?_⟩
            have h9 := hc q (by rw [size_ptrsH, H.out.1.pl_]; exact hqn)
            rw [← hph, ptrsH_at hs'] at h9
            exact kept_in hkp (HX.out.2.2.2.2.2.2.1 b (H.out.2.1 _ h)) h9
        have hdr : lack.drop i = q :: lack.drop (i + 1) := by rw [← hq]; exact drop_at 0 hil
        rw [hdr] at hme
        have hsc := consH_is hs'
        cases s' with
        | none =>
          rw [mendF_none (by rw [hsc]; rfl)] at hme
          have HN : Hid (∃ sl', MdState Z1 w1 wr key must lack sl (i + 1) d sl') := Lib.hid ⟨sl', hrk, hph, hpm, hcm, hkp, hme⟩
          replace hpc : wr.cell? ⟨b, off + q, none⟩ = some (.pointer none) := hpc
          clear hrk hph hpm hcm hkp hme hq hil hqs hs' hdr hsc Hr
          go_wp2
          go_roundw
          case rel => exact ⟨i + 1, d, by omega, by omega, by go_num, rfl, HN⟩
          case measure => simp [intOf]; omega
        | some x =>
          obtain ⟨hb, mb, l1, l2⟩ := x
          replace hpc : wr.cell? ⟨b, off + q, none⟩ = some (.pointer (some ⟨hb, 0, none⟩)) := hpc
          have hsc2 : (consH sl')[q]?.getD none = some l1 := by rw [hsc]; rfl
          have hqm : q < must.length := by rw [HX.out.2.2.1]; exact hqn
          obtain ⟨mb', mo, rfl, f0, f1, f2, f3, f4⟩ : ∃ mb' mo, ma = some ⟨mb', mo, none⟩ ∧ wr.cell? ⟨mb', mo + q * 5, none⟩ = some (.int .i64 (must[q]?.getD ver0).1) ∧ wr.cell? ⟨mb', mo + q * 5 + 1, none⟩ = some (.int .i64 (must[q]?.getD ver0).2.1) ∧ wr.cell? ⟨mb', mo + q * 5 + 2, none⟩ = some (.int .i64 (must[q]?.getD ver0).2.2.1) ∧ wr.cell? ⟨mb', mo + q * 5 + 3, none⟩ = some (.int .i64 (must[q]?.getD ver0).2.2.2.1) ∧ wr.cell? ⟨mb', mo + q * 5 + 4, none⟩ = some (.string (must[q]?.getD ver0).2.2.2.2) := by
            rcases HX.out.2.2.2.2.2.2.2.2.2.2.2.1 with he | ⟨mb', mo, h, hbl, hc⟩
            · exfalso
              rw [he] at hqm; simp at hqm
            · obtain ⟨f0, f1, f2, f3, f4⟩ := VrR.at5 hc hqm
              obtain ⟨h8, h9⟩ := HX.out.2.2.2.2.2.2.2.2.2.2.2.2.1 mb' (by rw [h]; rfl)
              have hz := HX.out.2.2.2.2.2.2.2.1 mb' (Nat.le_trans (by exact Hs01.out) h8) h9
              exact ⟨mb', mo, h, kept_in hkp hz f0, kept_in hkp hz f1, kept_in hkp hz f2, kept_in hkp hz f3, kept_in hkp hz f4⟩
          obtain ⟨⟨x1, x2, x3, x4, x5⟩, hx⟩ : ∃ x, must[q]?.getD ver0 = x := ⟨_, rfl⟩
          rw [hx] at f0 f1 f2 f3 f4
          dsimp only at f0 f1 f2 f3 f4
          obtain ⟨wd, hwd⟩ : ∃ wd, wr.drew = wd := ⟨_, rfl⟩
          have hBd : Below wr.heap.size wr wd := by rw [← hwd]; exact (Below.refl _ wr).drew
          have hrkd := hrk.below' hBd (Nat.le_refl _)
          obtain ⟨fi1, fi2, P, ht, hPZ, hback⟩ := hrkd.act hs'
          have hkd : KeptBut (fun b => ¬ Z1 b) w1 wd := hkp.trans (KeptBut.of_below (F := fun b => ¬ Z1 b) hBd (fun b h1 h2 => by omega))
          have hEr : ErrHx wd E := H.out.2.2 wd (HX.out.2.2.2.2.2.2.2.2.1 wd hkd)
          have Hput := Lib.hid (two_hput ht fi1 E hEr key x1 x2 x3 x4 x5 H.out.1.key_)
          have HA := Lib.hid (And.intro hkd (And.intro hPZ (And.intro hback (And.intro fi1 (And.intro fi2 (And.intro hph (And.intro hpm (And.intro hcm (And.intro hme (And.intro hs' (And.intro hsc2 (And.intro hx hwd))))))))))))
          clear hrk hph hpm hcm hkp hme hq hil hqs hs' hdr hsc hsc2 hx hBd hrkd fi1 fi2 ht hPZ hback hkd hEr Hr
          go_wp2_with fail
          have g0 : wd.cell? ⟨b, off + q, none⟩ = some (.pointer (some ⟨hb, 0, none⟩)) := by rw [← hwd]; exact hpc
          have g1 : wd.cell? ⟨mb', mo + q * 5, none⟩ = some (.int .i64 x1) := by rw [← hwd]; exact f0
          have g2 : wd.cell? ⟨mb', mo + q * 5 + 1, none⟩ = some (.int .i64 x2) := by rw [← hwd]; exact f1
          have g3 : wd.cell? ⟨mb', mo + q * 5 + 2, none⟩ = some (.int .i64 x3) := by rw [← hwd]; exact f2
          have g4 : wd.cell? ⟨mb', mo + q * 5 + 3, none⟩ = some (.int .i64 x4) := by rw [← hwd]; exact f3
          have g5 : wd.cell? ⟨mb', mo + q * 5 + 4, none⟩ = some (.string x5) := by rw [← hwd]; exact f4
          go_still_tail 9, (by kernel_rfl)
          change wpList _ _ _ _ _ wr.drew
          rw [hwd]
          clear hwd g0 g1 g2 g3 g4 g5 hpc f0 f1 f2 f3 f4
          go_wp2_with fail
          refine Hput.out.mono ?_
          rintro e w5 ⟨⟨v5, rfl, hv5⟩, ht5, hk5⟩
          obtain ⟨pe, hpe⟩ : ∃ pe, putM (errM false l1 key (x1, x2, x3, x4, x5)) = pe := ⟨_, rfl⟩
          rw [hpe] at hv5
          have hr5 := HA.out.2.2.1 w5 _ _ ht5 hk5 HA.out.2.2.2.1.put HA.out.2.2.2.2.1
          have hk15 : KeptBut (fun b => ¬ Z1 b) w1 w5 := HA.out.1.trans (hk5.mono fun b _ hp => HA.out.2.1 b hp)
          have hxx : must[q]?.getD ver0 = (x1, x2, x3, x4, x5) := HA.out.2.2.2.2.2.2.2.2.2.2.2.1
          have hss := HA.out.2.2.2.2.2.2.2.2.2.1
          have hme := HA.out.2.2.2.2.2.2.2.2.1
          have hph5 := (ptrsH_set (m1 := afterP false l1 key (x1, x2, x3, x4, x5)) (m2 := l2) hss).trans HA.out.2.2.2.2.2.1
          have hpm5 := (ptrsM_set (m1 := afterP false l1 key (x1, x2, x3, x4, x5)) (m2 := l2) hss).trans HA.out.2.2.2.2.2.2.1
          have hch5 := consH_set (sl := sl') (i := q) (hb := hb) (mb := mb) (m1 := afterP false l1 key (x1, x2, x3, x4, x5)) (m2 := l2)
          have hcm5 : consM (sl'.set q (some (hb, mb, afterP false l1 key (x1, x2, x3, x4, x5), l2))) = consM sl := by
            rw [consM_set, set_same (consM_at hss)]
            exact HA.out.2.2.2.2.2.2.2.1
          rcases hv5 with ⟨rfl, rfl⟩ | ⟨j, hj, rfl, rfl⟩
          · rw [mendF_ok HA.out.2.2.2.2.2.2.2.2.2.2.1 (by rw [hxx]; exact hpe), hxx, ← hch5] at hme
            have HN : Hid (∃ sl', MdState Z1 w1 w5 key must lack sl (i + 1) (d + 1) sl') := Lib.hid ⟨_, hr5, hph5, hpm5, hcm5, hk15, hme⟩
            have hd9 : d + 1 ≤ 12 := by omega
            clear hr5 hk15 hxx hss hme hph5 hpm5 hch5 hcm5 ht5 hk5 hpe
            go_wp2
            go_roundw
            case rel => exact ⟨i + 1, d + 1, by omega, by omega, by go_num, by go_num, HN⟩
            case measure => simp [intOf]; omega
          · have hj0 : putM (errM false l1 key (must[q]?.getD ver0)) ≠ 0 := by rw [hxx, hpe]; omega
            have hafter : afterP false l1 key (x1, x2, x3, x4, x5) = l1 := afterP_err (by rw [hpe]; omega)
            rw [hafter] at hr5 hph5 hpm5 hch5 hcm5
            rw [set_same hss] at hr5 hph5 hpm5 hch5 hcm5
            rw [mendF_err HA.out.2.2.2.2.2.2.2.2.2.2.1 hj0, hxx, hpe] at hme
            have HN := Lib.hid (And.intro hr5 (And.intro hph5 (And.intro hpm5 (And.intro hcm5 (And.intro hk15 (And.intro hme hj))))))
            clear hr5 hk15 hxx hss hme hph5 hpm5 hch5 hcm5 ht5 hk5 hpe hj0 hafter
            go_wp2
            go_ret2
            exact ⟨_, _, rfl, .inr (.inr ⟨HX.out.1, rfl, .inr ⟨t, s, sl', by rw [Int.toNat_natCast, Int.toNat_natCast, HTD.out]; exact HX.out.2.1, HN.out.1.lessZ HX.out.2.2.2.2.2.2.1, HN.out.2.1, HN.out.2.2.1, HN.out.2.2.2.1, HX.out.2.2.2.2.2.2.2.2.1 _ HN.out.2.2.2.2.1, _, by
              rw [Int.toNat_natCast, Int.toNat_natCast, HTD.out, HX.out.2.2.2.2.2.2.2.2.2.2.2.2.2.2, HX.out.2.2.2.2.2.2.2.2.2.2.2.2.2.1, ← HN.out.2.2.2.2.2.1], rfl, .inr ⟨by show (j : Int) + 1 ≠ 0; omega, rfl, .inr ⟨j, HN.out.2.2.2.2.2.2, rfl, rfl⟩⟩⟩⟩)⟩
      · have hme2 : mendF key must lack (consH sl) 0 = (consH sl', 0, d) := by
          rw [← hme, ← HX.out.2.2.2.2.2.1, List.drop_length]; rfl
        have HN := Lib.hid (And.intro hrk (And.intro hph (And.intro hpm (And.intro hcm (And.intro hkp hme2)))))
        clear hrk hph hpm hcm hkp hme hme2 Hr
        go_wp2
        go_ret2
        exact ⟨_, _, rfl, .inr (.inr ⟨HX.out.1, rfl, .inr ⟨t, s, sl', by rw [Int.toNat_natCast, Int.toNat_natCast, HTD.out]; exact HX.out.2.1, HN.out.1.lessZ HX.out.2.2.2.2.2.2.1, HN.out.2.1, HN.out.2.2.1, HN.out.2.2.2.1, HX.out.2.2.2.2.2.2.2.2.1 _ HN.out.2.2.2.2.1, _, by
          rw [Int.toNat_natCast, Int.toNat_natCast, HTD.out, HX.out.2.2.2.2.2.2.2.2.2.2.2.2.2.2, HX.out.2.2.2.2.2.2.2.2.2.2.2.2.2.1], by rw [HN.out.2.2.2.2.2], .inl ⟨by rw [HN.out.2.2.2.2.2], by rw [HN.out.2.2.2.2.2], rfl⟩⟩⟩)⟩
end
end Go.Proofs.YtolbdcmoblcakaaGreatDoor.HO
/- The walk of the document's NodesFault. -/
namespace Go.Proofs.YtolbdcmoblcakaaGreatDoor
open Go.RowKit

/-- a fault as the document's answer has it. -/
def fltA (f : Nat × Int) : Value := .agg #[.int .i64 (f.1 : Nat), .int .i64 f.2]
theorem drewN_below (w : World) (n : Nat) : Below w.heap.size w (w.drewN n) := ⟨rfl, rfl, rfl, Nat.le_refl _, fun _ _ => rfl⟩
theorem alloc_drewN_below (w : World) (o : Obj) (n : Nat) : Below w.heap.size w ((w.alloc o).drewN n) := ((Below.refl _ w).alloc (Nat.le_refl _) o).trans ((drewN_below (w.alloc o) n).mono (by simp))
set_option maxRecDepth 100000 in
set_option maxHeartbeats 4000000 in
theorem rnodes_walk (n₀ : Nat) (a : Option Addr) (len cap : Nat) (L : List ByteArray) (w : World) (hlen : L.length = len) (hcap : len ≤ cap) (hsz : ∀ j : Nat, (L[j]?.getD (⟨#[]⟩ : ByteArray)).size ≤ maxLen) (hI : TxsAt n₀ w a L) (hn : n₀ ≤ w.heap.size) :
    Calls Tryz.prog 28 #[.slice a len cap] w fun e w' => e = .returned (fltA (nodesF L)) ∧ Below w.heap.size w w' := by
  have hP := Pair.new w (.int .i64 0) (.int .i64 0) 42
  have hB0 : Below w.heap.size w (w.alloc (.cells #[.int .i64 0, .int .i64 0] 42)) := (Below.refl _ w).alloc (Nat.le_refl _) _
  have hz : w.heap.size < (w.alloc (.cells #[.int .i64 0, .int .i64 0] 42)).heap.size := by simp
  obtain ⟨W0, hW0⟩ : ∃ W0, w.alloc (.cells #[.int .i64 0, .int .i64 0] 42) = W0 := ⟨_, rfl⟩
  rw [hW0] at hP hB0 hz
  have hI0 := (hI.mono hn).below hB0
  obtain ⟨bb, hbb⟩ : ∃ bb, w.heap.size = bb := ⟨_, rfl⟩
  rw [hbb] at hP hz
  have HB := Lib.hid (And.intro hP (And.intro hB0 hz))
  have HW := Lib.hid hW0
  have Hbb := Lib.hid hbb
  have HI := Lib.hid hI0
  obtain ⟨F, hF⟩ : ∃ F, nodesF L = F := ⟨_, rfl⟩
  have HF := Lib.hid hF
  rw [hF]
  have hset : ∀ V, Below w.heap.size w V → ∀ u v : Value, Below w.heap.size w ((V.setCell ⟨bb, 0, none⟩ u).setCell ⟨bb, 1, none⟩ v) := fun V hV u v => (hV.setCell (p := ⟨bb, 0, none⟩) (Nat.le_of_eq hbb) u).setCell (p := ⟨bb, 1, none⟩) (Nat.le_of_eq hbb) v
  have Hset := Lib.hid hset
  have Hl := Lib.hid hlen
  have Hs := Lib.hid hsz
  clear hF hW0 hbb hP hB0 hz hset hI hI0
  by_cases hb : 1 ≤ len ∧ len ≤ 16
  · have hm' : len ≤ 9223372036854775807 := by omega
    have Hr : Hid (1 ≤ L.length ∧ L.length ≤ 16) := Lib.hid (by rw [hlen]; exact hb)
    have g1 : ¬ (len : Int) < 1 := by omega
    have g1d : decide (len < 1) = false := decide_eq_false (by omega)
    have g2 : ¬ (16 : Int) < len := by omega
    have g2d : decide (16 < len) = false := decide_eq_false (by omega)
    have hcap2 : (len : Int) ≤ cap := by omega
    clear hb hlen hsz hcap
    go_enter Tryz.func28, Tryz.ntmps28
    go_wp2
    rw [HW.out, Hbb.out]
    go_loopw [3] (fun vi wr => ∃ k : Nat, k ≤ len ∧ vi = .int .i64 k ∧ Hid ((∀ j, j < k → badAt L j = 0) ∧ ∃ q, wr = W0.drewN q)) (fun i _ => len - (intOf i).toNat)
    case atStart => exact ⟨0, by omega, rfl, Lib.hid ⟨fun j hj => by omega, 0, rfl⟩⟩
    case round =>
      obtain ⟨k, hk, rfl, Hz⟩ := hrel
      have hk2 : k < len ∨ k = len := by omega
      have hpw : Pair wr bb (.int .i64 0) (.int .i64 0) ∧ Below w.heap.size w wr ∧ bb < wr.heap.size ∧ TxsAt w.heap.size wr a L := by
        obtain ⟨_, q, hq⟩ := Hz.out
        rw [hq]
        exact ⟨HB.out.1.drewN q, HB.out.2.1.trans ((drewN_below W0 q).mono HB.out.2.1.size), HB.out.2.2, HI.out⟩
      have HP := Lib.hid hpw
      clear hpw
      rcases hk2 with hlt | rfl
      · have hlt2 : (k : Int) < len := by omega
        have hk3 : (k : Int) ≤ cap := by omega
        rcases HP.out.2.2.2 with he | ⟨b, off, rfl, hbl, hc⟩
        · exfalso
          have := Hl.out
          rw [he] at this; simp at this; omega
        have h1 := hc k (by have := Hl.out; omega)
        obtain ⟨x, hx⟩ : ∃ x, L[k]?.getD ⟨#[]⟩ = x := ⟨_, rfl⟩
        have hxs := Hs.out k
        rw [hx] at h1 hxs
        have Hx := Lib.hid hx
        have Hn := Lib.hid (rname_walk x wr hxs)
        clear hc hx hxs
        cases hnb : nameB x with
        | false =>
          rw [hnb] at Hn
          have hF2 : F = (4, (k : Int)) := by
            have hbad : badAt L k = 4 := badAt_name (by rw [Hx.out]; exact hnb)
            rw [← HF.out, nodesF_at Hr.out (by have := Hl.out; omega) Hz.out.1 (by omega), hbad]
          clear hnb
          subst hF2
          obtain ⟨p0, p1, q0, q1⟩ := HP.out.1
          go_wp2_with fail
          refine Hn.out.mono ?_
          rintro e w' ⟨rfl, rfl⟩
          go_wp2
          exact bodyPost_ret (v := fltA (4, (k : Int))) (by simp [results, Tryz.results28, fltA, p0, p1, go_sem]) rfl ⟨rfl, Hset.out _ HP.out.2.1 _ _⟩
        | true =>
          rw [hnb] at Hn
          obtain ⟨y, hy⟩ : ∃ y, idxT (L.take k) x = y := ⟨_, rfl⟩
          have hq : ∀ n c, Calls Tryz.prog 48 #[.slice (some ⟨b, off, none⟩) k c, .string x] (wr.drewN n) fun e w' => e = .returned (.int .i64 y) ∧ w' = wr.drewN n := fun n c => by
            rw [← hy]
            exact (ridx_walk w.heap.size (some ⟨b, off, none⟩) k c (L.take k) x (wr.drewN n) (at_take (by have := Hl.out; omega)) (by have := Hl.out; have := Hr.out; unfold maxLen; omega) (TxsAt.take k HP.out.2.2.2)).mono fun e w' h => ⟨h.1, h.2.symm⟩
          have Hq := Lib.hid hq
          have hmem := (idxT_range (L.take k) x).2.2
          rw [hy] at hmem
          by_cases hm : x ∈ L.take k
          · have hy0 : 0 ≤ y := hmem.2 hm
            have hF2 : F = (6, (k : Int)) := by
              have hbad : badAt L k = 6 := badAt_exist (by rw [Hx.out]; exact hnb) (by rw [Hx.out]; exact hm)
              rw [← HF.out, nodesF_at Hr.out (by have := Hl.out; omega) Hz.out.1 (by omega), hbad]
            clear hnb hmem hm hq hy
            subst hF2
            obtain ⟨p0, p1, q0, q1⟩ := HP.out.1
            go_wp2_with fail
            refine Hn.out.mono ?_
            rintro e w' ⟨rfl, rfl⟩
            go_wp2
            go_quiet ((go_at_call 48; exact Calls.quiet_of_same (Hq.out _ _)))
            go_wp2
            exact bodyPost_ret (v := fltA (6, (k : Int))) (by simp [results, Tryz.results28, fltA, p0, p1, go_sem]) rfl ⟨rfl, Hset.out _ (HP.out.2.1.trans ((drewN_below wr _).mono HP.out.2.1.size)) _ _⟩
          · have hy0 : ¬ 0 ≤ y := fun h => hm (hmem.1 h)
            have hbad : badAt L k = 0 := badAt_ok (by rw [Hx.out]; exact hnb) (by rw [Hx.out]; exact hm)
            have Hbad := Lib.hid hbad
            clear hnb hmem hm hbad hq hy
            go_wp2_with fail
            refine Hn.out.mono ?_
            rintro e w' ⟨rfl, rfl⟩
            go_wp2
            go_quiet ((go_at_call 48; exact Calls.quiet_of_same (Hq.out _ _)))
            go_wp2
            go_roundw
            case rel => exact ⟨k + 1, by omega, by go_num, Lib.hid ⟨fun j hj => by
              by_cases e : j = k
              · rw [e]; exact Hbad.out
              · exact Hz.out.1 j (by omega), by
                obtain ⟨_, q, hq⟩ := Hz.out
                exact ⟨q + nq, by rw [hq, World.drewN_drewN]⟩⟩⟩
            case measure => simp [intOf]; omega
      · have hF2 : F = (0, -1) := by rw [← HF.out, nodesF_ok Hr.out (fun j hj => Hz.out.1 j (by have := Hl.out; omega))]
        subst hF2
        have Hfn := Lib.hid (fine_walk wr)
        go_wp2_with fail
        refine Hfn.out.mono ?_
        rintro e w1 ⟨rfl, hb1⟩
        obtain ⟨p0, p1, q0, q1⟩ := HP.out.1.below hb1 HP.out.2.2.1
        have HB1 := Lib.hid (HP.out.2.1.trans (hb1.mono HP.out.2.1.size))
        clear hb1
        go_wp2
        exact bodyPost_ret (v := fltA (0, -1)) (by simp [results, Tryz.results28, fltA, p0, p1, go_sem]) rfl ⟨rfl, Hset.out _ HB1.out _ _⟩
  · have hF2 : F = (2, -1) := by rw [← HF.out, nodesF_out (by rw [hlen]; exact hb)]
    subst hF2
    have hcase : len < 1 ∨ (¬ len < 1 ∧ 16 < len) := by omega
    rcases hcase with h1 | ⟨h1, h2⟩
    case' inl =>
      have g1 : (len : Int) < 1 := by omega
      have g1d : decide (len < 1) = true := decide_eq_true h1
    case' inr =>
      have g1 : ¬ (len : Int) < 1 := by omega
      have g1d : decide (len < 1) = false := decide_eq_false h1
      have g2 : (16 : Int) < len := by omega
      have g2d : decide (16 < len) = true := decide_eq_true h2
    all_goals
      clear hb hlen hsz hcap h1
      try clear h2
      have Hfn := Lib.hid (bare_walk 2 W0)
      go_enter Tryz.func28, Tryz.ntmps28
      go_wp2_with fail
      rw [HW.out, Hbb.out]
      refine Hfn.out.mono ?_
      rintro e w1 ⟨rfl, hb1⟩
      obtain ⟨p0, p1, q0, q1⟩ := HB.out.1.below hb1 HB.out.2.2
      have HB1 := Lib.hid (HB.out.2.1.trans (hb1.mono HB.out.2.1.size))
      clear hb1
      go_wp2
      exact bodyPost_ret (v := fltA (2, -1)) (by simp [results, Tryz.results28, fltA, p0, p1, go_sem]) rfl ⟨rfl, Hset.out _ HB1.out _ _⟩
end Go.Proofs.YtolbdcmoblcakaaGreatDoor
/- The walks of shardkeeplaw2's enough, longConfig, OwnConfig. -/
namespace Go.Proofs.YtolbdcmoblcakaaGreatDoor
open Go.RowKit

theorem nameA : nameB ⟨#[97]⟩ = true := by decide +kernel
theorem configA : configF 1 1 [⟨#[97]⟩] = (0, -1) := by decide +kernel
/-- is a configuration too long for a statement? -/
def longC (L : List ByteArray) : Bool := decide (30 < L.length) || L.any fun s => decide (60 < s.size)
theorem longC_no {L : List ByteArray} (h : longC L = false) : L.length ≤ 30 ∧ ∀ s ∈ L, s.size ≤ 60 := by
  unfold longC at h
  rw [Bool.or_eq_false_iff, decide_eq_false_iff_not, List.any_eq_false] at h
  exact ⟨by omega, fun s hs => by have := h.2 s hs; simp at this; omega⟩
theorem grown_setCell (w : World) (p : Addr) (u : Value) : w.grownBy (w.setCell p u) (some p.block) :=
  ⟨rfl, rfl, rfl, by simp [World.setCell], fun i _ hne => Below.heap_setCell w p u i (fun e => hne (by rw [e]))⟩
theorem Own1.setCell {E : TypeId} {B : Nat} {w : World} {v : Value} {us : List Value} (h : Own1 E B w v us) (p : Addr) (u : Value) (hne : v.ownBlock ≠ some p.block) : Own1 E B (w.setCell p u) v us :=
  h.kept (grown_setCell w p u) (by cases e : v.ownBlock with | none => exact .inl rfl | some k => exact .inr (by rw [← e]; exact hne))
set_option maxRecDepth 100000 in
set_option maxHeartbeats 2000000 in
theorem ownc_walk (n k : Int) (n₀ : Nat) (a : Option Addr) (len cap : Nat) (L : List ByteArray) (w : World) (hlen : L.length = len) (hl : len ≤ 1000) (ha : a = none → cap = 0) (hI : TxsAt n₀ w a L) (hn : n₀ ≤ w.heap.size) :
    Calls Tryz.prog 10 #[cfgV n k (.slice a len cap)] w fun e w' => (∃ v, e = .returned (cfgV n k v) ∧ OwnT w.heap.size w' v L) ∧ Below w.heap.size w w' := by
  have hB0 : Below w.heap.size w ((w.alloc (.cells #[.int .i64 n, .int .i64 k, .slice a len cap] 24)).alloc (.cells #[.int .i64 0, .int .i64 0, .slice none 0 0] 24)) := ((Below.refl _ w).alloc (Nat.le_refl _) _).alloc (by simp) _
  have hc : ∀ j, ((w.alloc (.cells #[.int .i64 n, .int .i64 k, .slice a len cap] 24)).alloc (.cells #[.int .i64 0, .int .i64 0, .slice none 0 0] 24)).cell? ⟨w.heap.size, j, none⟩ = (#[.int .i64 n, .int .i64 k, .slice a len cap] : Array Value)[j]? := fun j => by
    rw [World.cell?_alloc_lt _ _ _ (by simp), World.cell?_alloc_at _ _ _ _ rfl]
  have hr : ∀ j, ((w.alloc (.cells #[.int .i64 n, .int .i64 k, .slice a len cap] 24)).alloc (.cells #[.int .i64 0, .int .i64 0, .slice none 0 0] 24)).cell? ⟨w.heap.size + 1, j, none⟩ = (#[.int .i64 0, .int .i64 0, .slice none 0 0] : Array Value)[j]? := fun j => by
    rw [World.cell?_alloc_at _ _ _ _ (by simp)]
  have hf : ∀ b j, b = w.heap.size ∨ b = w.heap.size + 1 → ((w.alloc (.cells #[.int .i64 n, .int .i64 k, .slice a len cap] 24)).alloc (.cells #[.int .i64 0, .int .i64 0, .slice none 0 0] 24)).frozen? ⟨b, j, none⟩ = false := fun b j hb => by
    rcases hb with rfl | rfl <;> simp
  have hzs : ((w.alloc (.cells #[.int .i64 n, .int .i64 k, .slice a len cap] 24)).alloc (.cells #[.int .i64 0, .int .i64 0, .slice none 0 0] 24)).heap.size = w.heap.size + 2 := by simp
  have hI0 := (hI.mono hn).below hB0
  obtain ⟨W, hW⟩ : ∃ W, (w.alloc (.cells #[.int .i64 n, .int .i64 k, .slice a len cap] 24)).alloc (.cells #[.int .i64 0, .int .i64 0, .slice none 0 0] 24) = W := ⟨_, rfl⟩
  rw [hW] at hB0 hc hr hf hzs hI0
  have HW := Lib.hid hW
  have HF := Lib.hid (And.intro hB0 (And.intro hc (And.intro hr (And.intro hf hzs))))
  have hul : ([] : List ByteArray).length + L.length ≤ 1000000 := by simp; omega
  have Hlen := Lib.hid (And.intro hlen hul)
  have Hha := Lib.hid ha
  have HI := Lib.hid hI0
  clear hB0 hc hr hf hzs hI hI0 hW ha hlen hul
  go_enter Tryz.func10, Tryz.ntmps10
  go_wp2_with (at_builtin; refine append_txts 4 6 rfl rfl w.heap.size (.slice none 0 0) [] w.heap.size a len cap L rfl rfl (OwnT.nil _ _) Hlen.out.1 Hlen.out.2 Hha.out (by rw [HW.out]; exact HI.out) (by rw [HW.out]; exact HF.out.1.size) ?_)
  rw [HW.out]
  intro v' w' k1 k2 k3
  obtain ⟨a', cap', hve, hcp, hmx, _, _⟩ := k1.read
  obtain ⟨hB0, hc, hr, hf, hzs⟩ := HF.out
  have kc : ∀ b j, b < W.heap.size → w'.cell? ⟨b, j, none⟩ = W.cell? ⟨b, j, none⟩ := fun b j hb => World.cell?_of_block (k2.block b hb (by simp [Value.ownBlock]))
  have kf : ∀ b j, b < W.heap.size → w'.frozen? ⟨b, j, none⟩ = W.frozen? ⟨b, j, none⟩ := fun b j hb => World.frozen?_of_block (k2.block b hb (by simp [Value.ownBlock]))
  have c0 := (kc w.heap.size 0 (by omega)).trans (hc 0)
  have c1 := (kc w.heap.size 1 (by omega)).trans (hc 1)
  have c2 := (kc w.heap.size 2 (by omega)).trans (hc 2)
  have f2 := (kf w.heap.size 2 (by omega)).trans (hf _ 2 (.inl rfl))
  have r0 := (kc (w.heap.size + 1) 0 (by omega)).trans (hr 0)
  have r1 := (kc (w.heap.size + 1) 1 (by omega)).trans (hr 1)
  have r2 := (kc (w.heap.size + 1) 2 (by omega)).trans (hr 2)
  have q0 := (kf (w.heap.size + 1) 0 (by omega)).trans (hf _ 0 (.inr rfl))
  have q1 := (kf (w.heap.size + 1) 1 (by omega)).trans (hf _ 1 (.inr rfl))
  have q2 := (kf (w.heap.size + 1) 2 (by omega)).trans (hf _ 2 (.inr rfl))
  simp at c0 c1 c2 r0 r1 r2
  have hB1 : Below w.heap.size w w' := hB0.grown k2 hB0.size (fun j e => by simp [Value.ownBlock] at e)
  have hnb : ∀ p : Addr, p.block < w.heap.size + 2 → v'.ownBlock ≠ some p.block := fun p hp e => by
    rcases k3 with h | h
    · rw [h] at e; simp [Value.ownBlock] at e
    · rw [h] at e
      have := Option.some.inj e
      omega
  have hK := Lib.hid (And.intro k1 (And.intro hB1 hnb))
  rw [hve]
  have HV := Lib.hid hve
  clear k1 k2 k3 hB1 hnb hve kc kf hB0 hc hr hf hzs
  go_wp2
  refine bodyPost_ret (v := cfgV n k (.slice a' L.length cap')) (by simp [results, Tryz.results10, r0, r1, r2, go_sem]) rfl ⟨⟨.slice a' L.length cap', rfl, ?_⟩, ?_⟩
  · have h1 := hK.out.1
    rw [HV.out] at h1
    have hn := hK.out.2.2
    rw [HV.out] at hn
    refine Own1.setCell (Own1.setCell (Own1.setCell (Own1.setCell h1 _ _ (hn _ ?_)) _ _ (hn _ ?_)) _ _ (hn _ ?_)) _ _ (hn _ ?_) <;> (simp only; omega)
  · exact (((hK.out.2.1.setCell (by simp only; omega) _).setCell (by simp only; omega) _).setCell (by simp only; omega) _).setCell (by simp only; omega) _
end Go.Proofs.YtolbdcmoblcakaaGreatDoor
/- The walks of shardkeeplaw3's faulted and coded. -/
namespace Go.Proofs.YtolbdcmoblcakaaGreatDoor
open Go.RowKit

set_option maxRecDepth 100000 in
set_option maxHeartbeats 1000000 in
theorem faulted3_walk (E : Nat → Addr) (f g : Nat × Int) (v : Value) (r : Bool) (w : World) (hE : ErrEnv w E) (h : FltV w E f v) (hr : r = decide (f.1 = g.1 ∧ (f.1 = 0 ∨ f.2 = g.2))) :
    Calls Tryz.prog 15 #[v, .agg #[.int .i64 (g.1 : Nat), .int .i64 g.2]] w fun e w' => e = .returned (.bool r) ∧ Below w.heap.size w w' := by
  obtain ⟨c, at'⟩ := f
  obtain ⟨d, bt⟩ := g
  simp only at hr
  have hB0 : Below w.heap.size w (w.alloc (.cells #[.int .i64 (d : Nat), .int .i64 bt] 42)) := (Below.refl _ w).alloc (Nat.le_refl _) _
  have Hc := Lib.hid (code_flt (hE.below hB0 (Nat.le_refl _)) (h.below hB0 (Nat.le_refl _)))
  have Hb := Lib.hid hB0
  have z0 : (w.alloc (.cells #[.int .i64 (d : Nat), .int .i64 bt] 42)).cell? ⟨w.heap.size, 0, none⟩ = some (.int .i64 (d : Nat)) := by simp
  have z1 : (w.alloc (.cells #[.int .i64 (d : Nat), .int .i64 bt] 42)).cell? ⟨w.heap.size, 1, none⟩ = some (.int .i64 bt) := by simp
  have hz : w.heap.size < (w.alloc (.cells #[.int .i64 (d : Nat), .int .i64 bt] 42)).heap.size := by simp
  have Hz := Lib.hid (And.intro z0 (And.intro z1 hz))
  clear hE h hB0 z0 z1 hz
  have hcs : (c ≠ d ∧ r = false) ∨ (c = d ∧ c = 0 ∧ r = true) ∨ (c = d ∧ c ≠ 0 ∧ at' = bt ∧ r = true) ∨ (c = d ∧ c ≠ 0 ∧ at' ≠ bt ∧ r = false) := by
    rw [hr]
    by_cases h1 : c = d
    · by_cases h2 : c = 0
      · exact .inr (.inl ⟨h1, h2, decide_eq_true ⟨h1, .inl h2⟩⟩)
      · by_cases h3 : at' = bt
        · exact .inr (.inr (.inl ⟨h1, h2, h3, decide_eq_true ⟨h1, .inr h3⟩⟩))
        · exact .inr (.inr (.inr ⟨h1, h2, h3, decide_eq_false (fun ⟨_, h⟩ => h.elim h2 h3)⟩))
    · exact .inl ⟨h1, decide_eq_false (fun ⟨h, _⟩ => h1 h)⟩
  clear hr
  rcases hcs with ⟨h1, rfl⟩ | ⟨rfl, rfl, rfl⟩ | ⟨rfl, h2, rfl, rfl⟩ | ⟨rfl, h2, h3, rfl⟩
  case' inl =>
    have e1 : ((c : Int) == (d : Int)) = false := beq_eq_false_iff_ne.2 (by omega)
    have e1b : decide (c = d) = false := by simpa using h1
    have e1c : (c == d) = false := by simpa using h1
  case' inr.inr.inl =>
    have e2 : ((c : Int) == 0) = false := beq_eq_false_iff_ne.2 (by omega)
    have e2b : (c == 0) = false := by simpa using h2
  case' inr.inr.inr =>
    have e2 : ((c : Int) == 0) = false := beq_eq_false_iff_ne.2 (by omega)
    have e2b : (c == 0) = false := by simpa using h2
    have e3 : (at' == bt) = false := by simpa using h3
  all_goals
    try clear h1
    try clear h2
    try clear h3
    go_enter Tryz.func15, Tryz.ntmps15
    go_wp2_with fail
    refine Hc.out.mono ?_
    rintro e w1 ⟨rfl, hb1⟩
    have k0 := (hb1.cell (p := ⟨w.heap.size, 0, none⟩) Hz.out.2.2).trans Hz.out.1
    have k1 := (hb1.cell (p := ⟨w.heap.size, 1, none⟩) Hz.out.2.2).trans Hz.out.2.1
    have HB := Lib.hid (Hb.out.trans (hb1.mono Hb.out.size))
    clear hb1
    go_wp2
    go_ret
    exact ⟨rfl, HB.out⟩
set_option maxHeartbeats 1000000 in
theorem coded3_nil (c : Int) (w : World) :
    Calls Tryz.prog 18 #[.nilIface, .int .i64 c] w fun e w' => e = .returned (.bool (decide (c = 0))) ∧ w = w' := by
  by_cases hc : c = 0
  · subst hc
    go_enter Tryz.func18, Tryz.ntmps18
    go_wp2_with fail
    refine (code_nil _).mono ?_
    rintro e w' ⟨rfl, rfl⟩
    go_wp2
    go_ret
    exact ⟨rfl, rfl⟩
  · have h0 : ((0 : Int) == c) = false := by simp; omega
    go_enter Tryz.func18, Tryz.ntmps18
    go_wp2_with fail
    refine (code_nil _).mono ?_
    rintro e w' ⟨rfl, rfl⟩
    go_wp2
    go_ret
    exact ⟨by simp [hc], rfl⟩
set_option maxHeartbeats 1000000 in
theorem coded3_err (E : Nat → Addr) (i : Nat) (hi : i < 12) (c : Int) (w : World) (hE : ErrEnv w E) :
    Calls Tryz.prog 18 #[errV (E i), .int .i64 c] w fun e w' => e = .returned (.bool (decide (c = (i : Int) + 1))) ∧ Below w.heap.size w w' := by
  have HE := Lib.hid hE; clear hE
  by_cases hc : c = (i : Int) + 1
  · subst hc
    go_enter Tryz.func18, Tryz.ntmps18
    go_wp2_with fail
    refine (code_err E i hi _ HE.out).mono ?_
    rintro e w' ⟨rfl, hb⟩
    go_wp2
    go_ret
    exact ⟨by simp, hb⟩
  · have h0 : ((i : Int) + 1 == c) = false := by simp; omega
    go_enter Tryz.func18, Tryz.ntmps18
    go_wp2_with fail
    refine (code_err E i hi _ HE.out).mono ?_
    rintro e w' ⟨rfl, hb⟩
    go_wp2
    go_ret
    exact ⟨by simp [hc], hb⟩
end Go.Proofs.YtolbdcmoblcakaaGreatDoor
