/- Printed out of RpG: racks of holds alone. -/
import Derived.Test.YtolbdcmoblcakaaGreatDoorKRepairAll35
import Derived.StillTailTactics
namespace Go.Proofs.YtolbdcmoblcakaaGreatDoor.HO
section
open Go.RowKit Go.Maps Go.BigFrame

/-- a rack is looked at: what is asked of the memory. -/
structure LookIn (w : World) (E : Nat → Addr) (n₀ : Nat) (a : Option Addr) (len cap : Nat) (L : List ByteArray) (key : ByteArray) (pa : Option Addr) (pl : Nat) (Z : Nat → Prop) (sl : List Slot) : Prop where
  env : ErrEnv w E
  len_ : L.length = len
  cap_ : len ≤ cap
  sz : ∀ j : Nat, (L[j]?.getD (⟨#[]⟩ : ByteArray)).size ≤ maxLen
  txs : TxsAt n₀ w a L
  n_ : n₀ ≤ w.heap.size
  key_ : key.size ≤ maxLen
  pl_ : sl.length = pl
  max_ : pl ≤ 9223372036854775807
  ptr : PtrR w pa (ptrsH sl)
  rack : RackAt Z w sl
theorem LookIn.below {w w' : World} {E : Nat → Addr} {n₀ : Nat} {a : Option Addr} {len cap : Nat} {L : List ByteArray} {key : ByteArray} {pa : Option Addr} {pl : Nat} {Z : Nat → Prop} {sl : List Slot} (h : LookIn w E n₀ a len cap L key pa pl Z sl) (hb : Below w.heap.size w w') : LookIn w' E n₀ a len cap L key pa pl Z sl :=
  ⟨h.env.below hb (Nat.le_refl _), h.len_, h.cap_, h.sz, h.txs.below (hb.mono h.n_), Nat.le_trans h.n_ hb.size, h.key_, h.pl_, h.max_, h.ptr.below hb, h.rack.below' hb (Nat.le_refl _)⟩
theorem LookIn.walk {w : World} {E : Nat → Addr} {n₀ : Nat} {a : Option Addr} {len cap : Nat} {L : List ByteArray} {key : ByteArray} {pa : Option Addr} {pl : Nat} {Z : Nat → Prop} {sl : List Slot} (h : LookIn w E n₀ a len cap L key pa pl Z sl) (n k : Int) (pc : Nat) :
    Calls Tryz.prog 26 #[cfgV n k (.slice a len cap), .string key, .slice pa pl pc] w fun e w' => Below w.heap.size w w' ∧ ∃ vm vl v, e = .returned (.tuple #[vm, vl, v]) ∧ LookRes w.heap.size w' E n k L pl (toldC key (consH sl)) vm vl v :=
  rlook_walk n k n₀ a len cap L key pa pl pc Z sl w E h.env h.len_ h.cap_ h.sz h.txs h.n_ h.key_ h.pl_ h.max_ h.ptr h.rack
set_option maxRecDepth 100000 in
set_option maxHeartbeats 4000000 in
theorem missing_walk {w : World} {E : Nat → Addr} {n₀ : Nat} {a : Option Addr} {len cap : Nat} {L : List ByteArray} {key : ByteArray} {pa : Option Addr} {pl : Nat} {Z : Nat → Prop} {sl : List Slot} (h : LookIn w E n₀ a len cap L key pa pl Z sl) (n k : Int) (pc : Nat) :
    Calls Tryz.prog 9 #[cfgV n k (.slice a len cap), .string key, .slice pa pl pc] w fun e w' => Below w.heap.size w w' ∧ ∃ vm vl v, e = .returned (.tuple #[vl, v]) ∧ LookRes w.heap.size w' E n k L pl (toldC key (consH sl)) vm vl v := by
  obtain ⟨W0, hW0⟩ : ∃ W0, w.alloc (.cells #[.int .i64 n, .int .i64 k, .slice a len cap] 24) = W0 := ⟨_, rfl⟩
  have hB0 : Below w.heap.size w W0 := by rw [← hW0]; exact (Below.refl _ w).alloc (Nat.le_refl _) _
  have hC0 : CfgAt W0 w.heap.size n k (.slice a len cap) := by rw [← hW0]; exact CfgAt.new w n k (.slice a len cap)
  have HL := Lib.hid ((h.below hB0).walk n k pc)
  obtain ⟨c0, c1, c2⟩ := hC0
  have H0 := Lib.hid hB0
  unfold cfgV at HL ⊢
  clear h hB0
  go_enter Tryz.func9, Tryz.ntmps9
  go_wp2_with fail
  refine HL.out.mono ?_
  rintro e w1 ⟨hb1, vm, vl, v, rfl, hr⟩
  have HR : Hid (Below w.heap.size w w1 ∧ LookRes w.heap.size w1 E n k L pl (toldC key (consH sl)) vm vl v) := Lib.hid ⟨H0.out.trans (hb1.mono H0.out.size), hr.lower H0.out.size⟩
  clear hb1 hr hW0 c0 c1 c2
  go_wp2
  go_ret2
  exact ⟨HR.out.1, _, _, _, rfl, HR.out.2⟩
/-- what Stand answers. -/
def StandRes (w' : World) (E : Nat → Addr) (n k : Int) (L : List ByteArray) (len : Nat) (told : List (List Ver)) (z : Int) (v : Value) : Prop :=
  ((configF n k L).1 ≠ 0 ∧ z = 0 ∧ ((∃ x, v = errV x) ∨ ∃ m, v = faultV m) ∧ FltV w' E (configF n k L) v) ∨
     ((configF n k L).1 = 0 ∧ (len : Int) ≠ n ∧ z = 0 ∧ v = errV (E 2)) ∨
     ((configF n k L).1 = 0 ∧ (len : Int) = n ∧
       (((bestOf n.toNat k.toNat told).2.2 = false ∧ z = 0 ∧ v = errV (E 4)) ∨
        ∃ t s, bestOf n.toNat k.toNat told = (t, s, true) ∧ v = .nilIface ∧ z = max 0 (n - ((lackL (mustL n.toNat k.toNat t s) told).length : Nat) - k)))
theorem lackL_len (must : List Ver) (told : List (List Ver)) : (lackL must told).length ≤ must.length := lackI_le must told must.length
set_option maxRecDepth 100000 in
set_option maxHeartbeats 4000000 in
theorem stand_walk {w : World} {E : Nat → Addr} {n₀ : Nat} {a : Option Addr} {len cap : Nat} {L : List ByteArray} {key : ByteArray} {pa : Option Addr} {pl : Nat} {Z : Nat → Prop} {sl : List Slot} (h : LookIn w E n₀ a len cap L key pa pl Z sl) (n k : Int) (pc : Nat) :
    Calls Tryz.prog 11 #[cfgV n k (.slice a len cap), .string key, .slice pa pl pc] w fun e w' => Below w.heap.size w w' ∧ ∃ z v, e = .returned (.tuple #[.int .i64 z, v]) ∧ StandRes w' E n k L pl (toldC key (consH sl)) z v := by
  obtain ⟨W0, hW0⟩ : ∃ W0, w.alloc (.cells #[.int .i64 n, .int .i64 k, .slice a len cap] 24) = W0 := ⟨_, rfl⟩
  obtain ⟨cb, hcb⟩ : ∃ cb, w.heap.size = cb := ⟨_, rfl⟩
  have hB0 : Below w.heap.size w W0 := by rw [← hW0]; exact (Below.refl _ w).alloc (Nat.le_refl _) _
  have hC0 : CfgAt W0 cb n k (.slice a len cap) := by rw [← hW0, ← hcb]; exact CfgAt.new w n k (.slice a len cap)
  have hs0 : cb < W0.heap.size := by rw [← hW0, ← hcb]; simp
  have HL := Lib.hid ((h.below hB0).walk n k pc)
  have HE := Lib.hid h.env
  have HC := Lib.hid (And.intro hC0 hs0)
  obtain ⟨c0, c1, c2⟩ := hC0
  have H0 := Lib.hid hB0
  obtain ⟨told, htd⟩ : ∃ told, toldC key (consH sl) = told := ⟨_, rfl⟩
  rw [htd] at HL ⊢
  unfold cfgV at HL ⊢
  clear h hB0 hs0 htd
  go_enter Tryz.func11, Tryz.ntmps11
  go_wp2_with fail
  clear hW0 c0 c1 c2
  refine HL.out.mono ?_
  rintro e w1 ⟨hb1, vm, vl, v, rfl, hr⟩
  have hE1 := HE.out.below (H0.out.trans (hb1.mono H0.out.size)) (Nat.le_refl _)
  obtain ⟨c0, c1, c2⟩ := HC.out.1.below hb1 HC.out.2
  have HR : Hid (Below w.heap.size w w1) := Lib.hid (H0.out.trans (hb1.mono H0.out.size))
  clear hb1
  rcases hr with ⟨r0, rfl, rfl, r1, r2⟩ | ⟨r0, r1, rfl, rfl, rfl⟩ | ⟨r0, r1, rfl, ⟨r2, rfl, rfl⟩ | ⟨t, s, r2, r3, r4⟩⟩
  · have HX := Lib.hid (And.intro r0 (And.intro r1 r2))
    rcases r1 with ⟨x, rfl⟩ | ⟨m, rfl⟩
    all_goals
      clear r0 r2 hE1
      try unfold faultV
      go_wp2
      go_ret2
      exact ⟨HR.out, _, _, rfl, .inl ⟨HX.out.1, rfl, HX.out.2.1, HX.out.2.2⟩⟩
  · have HX := Lib.hid (And.intro r0 r1)
    clear r0 r1 hE1
    go_wp2
    go_ret2
    exact ⟨HR.out, _, _, rfl, .inr (.inl ⟨HX.out.1, HX.out.2, rfl, rfl⟩)⟩
  · have HX := Lib.hid (And.intro r0 (And.intro r1 r2))
    have hno := hE1.c4
    have hnn := Lib.run_eql_slice_nil_nil (P := Tryz.prog) w1 (t := 46) (e := 58) 0 0 Tryz.underlying46
    clear r0 r1 r2 hE1
    go_wp2
    go_quiet (fail)
    go_wp2
    go_ret2
    exact ⟨HR.out.trans ⟨rfl, rfl, rfl, Nat.le_refl _, fun _ _ => rfl⟩, _, _, rfl, .inr (.inr ⟨HX.out.1, HX.out.2.1, .inl ⟨HX.out.2.2, rfl, rfl⟩⟩)⟩
  · obtain ⟨⟨hk1, hkn, hn12⟩, _⟩ := configF_zero r0
    obtain ⟨n, rfl⟩ : ∃ m : Nat, n = (m : Int) := ⟨n.toNat, by omega⟩
    obtain ⟨k, rfl⟩ : ∃ m : Nat, k = (m : Int) := ⟨k.toNat, by omega⟩
    rw [Int.toNat_natCast, Int.toNat_natCast] at r2 r3 r4
    obtain ⟨la, lc, rfl, hlc, _, _, _⟩ := r4.read
    obtain ⟨ma, mc, rfl, hmc, _, _, hmr⟩ := r3.read
    have hll := lackL_len (mustL n k t s) told
    have hml := mustL_length n k t s
    rw [hml] at hll
    obtain ⟨m, hm⟩ : ∃ m, (lackL (mustL n k t s) told).length = m := ⟨_, rfl⟩
    rcases hmr with he | ⟨mb, mo, rfl, _, _⟩
    · exfalso
      rw [he] at hml; simp at hml; omega
    have HX := Lib.hid (And.intro r0 (And.intro r1 (And.intro r2 hm)))
    rw [hml, hm]
    rw [hm] at hll
    have hnn := Lib.run_eql_slice_some_nil (P := Tryz.prog) w1 (t := 46) (e := 58) ⟨mb, mo, none⟩ n mc Tryz.underlying46
    clear r0 r1 r2 r3 r4 hE1 hlc hmc hml hm
    go_wp2
    go_ret2
    exact ⟨HR.out, _, _, rfl, .inr (.inr ⟨HX.out.1, HX.out.2.1, .inr ⟨t, s, by rw [Int.toNat_natCast, Int.toNat_natCast]; exact HX.out.2.2.1, rfl, by rw [Int.toNat_natCast, Int.toNat_natCast, HX.out.2.2.2]⟩⟩)⟩
end
end Go.Proofs.YtolbdcmoblcakaaGreatDoor.HO
/- The walk of repair.Mend. -/
namespace Go.Proofs.YtolbdcmoblcakaaGreatDoor
section
open Go.RowKit Go.Maps Go.BigFrame

/-- what Mend answers, and leaves. -/
def MendRes (w w' : World) (E : Nat → Addr) (n k : Int) (L : List ByteArray) (len : Nat) (key : ByteArray) (Z : Nat → Prop) (sl : List Slot) (z : Int) (v : Value) : Prop :=
  ((configF n k L).1 ≠ 0 ∧ z = 0 ∧ ((∃ x, v = errV x) ∨ ∃ m, v = faultV m) ∧ FltV w' E (configF n k L) v ∧ Below w.heap.size w w') ∨
     ((configF n k L).1 = 0 ∧ (len : Int) ≠ n ∧ z = 0 ∧ v = errV (E 2) ∧ Below w.heap.size w w') ∨
     ((configF n k L).1 = 0 ∧ (len : Int) = n ∧
       (((bestOf n.toNat k.toNat (toldC key (consH sl))).2.2 = false ∧ z = 0 ∧ v = .nilIface ∧ Below w.heap.size w w') ∨
        ∃ t s sl', bestOf n.toNat k.toNat (toldC key (consH sl)) = (t, s, true) ∧ RackAt Z w' sl' ∧ ptrsH sl' = ptrsH sl ∧ ptrsM sl' = ptrsM sl ∧ consM sl' = consM sl ∧ KeptBut (fun b => ¬ Z b) w w' ∧
          ∃ R, mendF key (mustL n.toNat k.toNat t s) (lackL (mustL n.toNat k.toNat t s) (toldC key (consH sl))) (consH sl) 0 = R ∧ consH sl' = R.1 ∧ ((R.2.1 = 0 ∧ z = (R.2.2 : Nat) ∧ v = .nilIface) ∨ (R.2.1 ≠ 0 ∧ z = 0 ∧ errOf E R.2.1 v))))
theorem mendF_none {key : ByteArray} {must : List Ver} {i : Nat} {r : List Nat} {cs : List (Option (List Kp))} {d : Nat} (h : cs[i]?.getD none = none) : mendF key must (i :: r) cs d = mendF key must r cs d := by
  rw [mendF, h]
theorem mendF_ok {key : ByteArray} {must : List Ver} {i : Nat} {r : List Nat} {cs : List (Option (List Kp))} {d : Nat} {l : List Kp} (h : cs[i]?.getD none = some l) (he : putM (errM false l key (must[i]?.getD ver0)) = 0) : mendF key must (i :: r) cs d = mendF key must r (cs.set i (some (afterP false l key (must[i]?.getD ver0)))) (d + 1) := by
  rw [mendF, h]
  exact if_pos he
theorem mendF_err {key : ByteArray} {must : List Ver} {i : Nat} {r : List Nat} {cs : List (Option (List Kp))} {d : Nat} {l : List Kp} (h : cs[i]?.getD none = some l) (he : putM (errM false l key (must[i]?.getD ver0)) ≠ 0) : mendF key must (i :: r) cs d = (cs, putM (errM false l key (must[i]?.getD ver0)), d) := by
  rw [mendF, h]
  exact if_neg he
theorem afterP_err {l : List Kp} {key : ByteArray} {x : Ver} (he : putM (errM false l key x) ≠ 0) : afterP false l key x = l := by
  unfold afterP
  by_cases h : errM false l key x = 0
  · exact absurd (by rw [h]; rfl) he
  · exact if_neg h
theorem ErrEnv.hx' {w : World} {E : Nat → Addr} (h : ErrEnv w E) : ErrHx w E := ⟨h.c1, h.c3, h.c5, h.c6, h.c9⟩
/-- the state of the loop. -/
def MdState (Z1 : Nat → Prop) (w1 wr : World) (key : ByteArray) (must : List Ver) (lack : List Nat) (sl : List Slot) (i d : Nat) (sl' : List Slot) : Prop :=
  RackAt Z1 wr sl' ∧ ptrsH sl' = ptrsH sl ∧ ptrsM sl' = ptrsM sl ∧ consM sl' = consM sl ∧ KeptBut (fun b => ¬ Z1 b) w1 wr ∧ mendF key must (lack.drop i) (consH sl') d = mendF key must lack (consH sl) 0
theorem kept_in {Z : Nat → Prop} {w1 wr : World} (h : KeptBut (fun b => ¬ Z b) w1 wr) {p : Addr} {v : Value} (hp : Z p.block) (hc : w1.cell? p = some v) : wr.cell? p = some v := h.cell hc (fun e => e hp)
theorem drop_at {α : Type} {l : List α} {i : Nat} (d : α) (h : i < l.length) : l.drop i = (l[i]?.getD d) :: l.drop (i + 1) := by
  rw [List.drop_eq_getElem_cons h, List.getElem?_eq_getElem h]; rfl
set_option maxRecDepth 100000 in
set_option maxHeartbeats 8000000 in
theorem mend_walk {w : World} {E : Nat → Addr} {n₀ : Nat} {a : Option Addr} {len cap : Nat} {L : List ByteArray} {key : ByteArray} {pa : Option Addr} {pl : Nat} {Z : Nat → Prop} {sl : List Slot} (h : LookIn w E n₀ a len cap L key pa pl Z sl) (n k : Int) (pc : Nat)
    (hpz : ∀ x, pa = some x → Z x.block) (hEZ : ∀ w', KeptBut (fun b => ¬ Z b) w w' → ErrHx w' E) :
    Calls Tryz.prog 14 #[cfgV n k (.slice a len cap), .string key, .slice pa pl pc] w fun e w' => ∃ z v, e = .returned (.tuple #[.int .i64 z, v]) ∧ MendRes w w' E n k L pl key Z sl z v := by
  obtain ⟨W0, hW0⟩ : ∃ W0, w.alloc (.cells #[.int .i64 n, .int .i64 k, .slice a len cap] 24) = W0 := ⟨_, rfl⟩
  have hB0 : Below w.heap.size w W0 := by rw [← hW0]; exact (Below.refl _ w).alloc (Nat.le_refl _) _
  have hC0 : CfgAt W0 w.heap.size n k (.slice a len cap) := by rw [← hW0]; exact CfgAt.new w n k (.slice a len cap)
  have HL := Lib.hid ((h.below hB0).walk n k pc)
  have H := Lib.hid (And.intro h (And.intro hpz hEZ))
  obtain ⟨c0, c1, c2⟩ := hC0
  have H0 := Lib.hid hB0
  obtain ⟨told, htd⟩ : ∃ told, toldC key (consH sl) = told := ⟨_, rfl⟩
  have HTD := Lib.hid htd
  rw [htd] at HL
  unfold cfgV at HL ⊢
  have hpm9 : pl ≤ 9223372036854775807 := h.max_
  clear h hB0 htd hpz hEZ
  go_enter Tryz.func14, Tryz.ntmps14
  go_wp2_with fail
  clear hW0 c0 c1 c2
  refine HL.out.mono ?_
  rintro e w1 ⟨hb1, vm, vl, v, rfl, hr⟩
  have HR : Hid (Below w.heap.size w w1) := Lib.hid (H0.out.trans (hb1.mono H0.out.size))
  have hs01 : w.heap.size ≤ W0.heap.size := H0.out.size
  have Hs01 := Lib.hid hs01
  have hs01' := hs01
  clear hb1 hs01
  rcases hr with ⟨r0, rfl, rfl, r1, r2⟩ | ⟨r0, r1, rfl, rfl, rfl⟩ | ⟨r0, r1, rfl, ⟨r2, rfl, rfl⟩ | ⟨t, s, r2, r3, r4⟩⟩
  · have HX := Lib.hid (And.intro r0 (And.intro r1 r2))
    rcases r1 with ⟨x, rfl⟩ | ⟨m, rfl⟩
    all_goals
      clear r0 r2
      try unfold faultV
      go_wp2
      go_ret2
      exact ⟨_, _, rfl, .inl ⟨HX.out.1, rfl, HX.out.2.1, HX.out.2.2, HR.out⟩⟩
  · have HX := Lib.hid (And.intro r0 r1)
    clear r0 r1
    go_wp2
    go_ret2
    exact ⟨_, _, rfl, .inr (.inl ⟨HX.out.1, HX.out.2, rfl, rfl, HR.out⟩)⟩
  · have HX := Lib.hid (And.intro r0 (And.intro r1 r2))
    clear r0 r1 r2
    have hl0 : ¬ ((0 : Int) < 0) := by omega
    go_wp2
    go_loopw [11, 28] (fun vn vi wr => vn = .int .i64 0 ∧ vi = .int .i64 0 ∧ wr = w1) (fun _ _ _ => 0)
    case atStart => exact ⟨rfl, rfl, rfl⟩
    case round =>
      obtain ⟨rfl, rfl, rfl⟩ := hrel
      go_wp2
      go_ret2
      exact ⟨_, _, rfl, .inr (.inr ⟨HX.out.1, HX.out.2.1, .inl ⟨by rw [HTD.out]; exact HX.out.2.2, rfl, rfl, HR.out⟩⟩)⟩
  · obtain ⟨⟨hk1, hkn, hn12⟩, _⟩ := configF_zero r0
    obtain ⟨n, rfl⟩ : ∃ m : Nat, n = (m : Int) := ⟨n.toNat, by omega⟩
    obtain ⟨k, rfl⟩ : ∃ m : Nat, k = (m : Int) := ⟨k.toNat, by omega⟩
    rw [Int.toNat_natCast, Int.toNat_natCast] at r2 r3 r4
    obtain ⟨la, lc, rfl, hlc, hlm, hlb, hli⟩ := r4.read
    have hmsh := r3.lt
    obtain ⟨ma, mc, rfl, hmc, _, _, hmr⟩ := r3.read
    have hml := mustL_length n k t s
    have hll := lackL_lt (must := mustL n k t s) (told := told)
    have hle := lackL_len (mustL n k t s) told
    rw [hml] at hll hle
    obtain ⟨must, hmu⟩ : ∃ must, mustL n k t s = must := ⟨_, rfl⟩
    rw [hmu] at hml hll hle hlc hli hmr hmsh hmc ⊢
    obtain ⟨lack, hla⟩ : ∃ lack, lackL must told = lack := ⟨_, rfl⟩
    rw [hla] at hll hle hlc hli ⊢
    obtain ⟨m, hm⟩ : ∃ m, lack.length = m := ⟨_, rfl⟩
    rw [hm] at hle hlc ⊢
    rw [hml] at hmc ⊢
    have hpn : pl = n := by omega
    subst hpn
    have hBw := HR.out
    have hIn1 := H.out.1.below hBw
    obtain ⟨Z1, hZ1⟩ : ∃ Z1 : Nat → Prop, (fun b => Z b ∨ (w.heap.size ≤ b ∧ b < w1.heap.size)) = Z1 := ⟨_, rfl⟩
    have hrk1 : RackAt Z1 w1 sl := by rw [← hZ1]; exact H.out.1.rack.below hBw (Nat.le_refl _)
    have hZZ : ∀ b, Z b → Z1 b := fun b hb => by rw [← hZ1]; exact .inl hb
    have hZN : ∀ b, w.heap.size ≤ b → b < w1.heap.size → Z1 b := fun b h1 h2 => by rw [← hZ1]; exact .inr ⟨h1, h2⟩
    have hki : ∀ w', KeptBut (fun b => ¬ Z1 b) w1 w' → KeptBut (fun b => ¬ Z b) w w' := fun w' hk => (KeptBut.of_below (F := fun b => ¬ Z b) hBw (fun b hb h9 => by omega)).trans (hk.mono fun b hb h9 hz => h9 (hZZ b hz))
    have HS0 : Hid (MdState Z1 w1 w1 key must lack sl 0 0 sl) := Lib.hid ⟨hrk1, rfl, rfl, rfl, KeptBut.refl _ _, by rw [List.drop_zero]⟩
    have HX := Lib.hid (And.intro r0 (And.intro r2 (And.intro hml (And.intro hll (And.intro hle (And.intro hm (And.intro hZZ (And.intro hZN (And.intro hki (And.intro hlb (And.intro hli (And.intro hmr (And.intro hmsh (And.intro hla hmu))))))))))))))
    have HI1 := Lib.hid (And.intro hIn1 hs01')
    have hm12 : m ≤ 12 := by omega
    clear r0 r1 r2 r3 r4 hBw hIn1 hZ1 hrk1 hZZ hZN hki hml hll hle hm hlb hli hmr hmsh hla hmu hlc hlm hmc hk1 hkn
    go_wp2
    go_loopw [11, 28] (fun vn vi wr => ∃ (i d : Nat), i ≤ m ∧ d ≤ i ∧ vi = .int .i64 i ∧ vn = .int .i64 d ∧ Hid (∃ sl', MdState Z1 w1 wr key must lack sl i d sl')) (fun _ vi _ => m - (intOf vi).toNat)
    case atStart => exact ⟨0, 0, by omega, by omega, rfl, rfl, Lib.hid ⟨_, HS0.out⟩⟩
    case round =>
      obtain ⟨i, d, hi, hdi, rfl, rfl, Hr⟩ := hrel
      have hi2 : i < m ∨ m = i := by omega
      obtain ⟨sl', hrk, hph, hpm, hcm, hkp, hme⟩ := Hr.out
      rcases hi2 with hilt | rfl
      · have hilt2 : (i : Int) < m := by omega
        obtain ⟨q, hq⟩ : ∃ q, lack[i]?.getD 0 = q := ⟨_, rfl⟩
        have hil : i < lack.length := by rw [HX.out.2.2.2.2.2.1]; exact hilt
        have hqn : q < pl := HX.out.2.2.2.1 q (by rw [← hq, List.getElem?_eq_getElem hil]; exact List.getElem_mem hil)
        have hqn2 : (q : Int) < pl := by omega
        obtain ⟨lb, lo, rfl, hlc1⟩ : ∃ lb lo, la = some ⟨lb, lo, none⟩ ∧ wr.cell? ⟨lb, lo + i, none⟩ = some (.int .i64 (q : Int)) := by
          rcases HX.out.2.2.2.2.2.2.2.2.2.2.1 with he | ⟨lb, lo, h, hc⟩
          · exfalso
            have h9 : lack = [] := by simpa using he
            rw [h9] at hil; simp at hil
          · refine ⟨lb, lo, h, ?_⟩
            have h9 := hc i (by simpa using hil)
            rw [List.getElem?_map, List.getElem?_eq_getElem hil] at h9
            have hl9 := HX.out.2.2.2.2.2.2.2.2.2.1 _ h
            refine kept_in hkp (HX.out.2.2.2.2.2.2.2.1 lb (Nat.le_trans (by exact Hs01.out) hl9.1) hl9.2) (h9.trans ?_)
            rw [← hq, List.getElem?_eq_getElem hil]; rfl
        have hqs : q < sl'.length := by
          have h1 := size_ptrsH sl'
          rw [hph, size_ptrsH, H.out.1.pl_] at h1
          omega
        obtain ⟨s', hs'⟩ : ∃ s', sl'[q]? = some s' := ⟨_, List.getElem?_eq_getElem hqs⟩
        obtain ⟨b, off, rfl, hpc⟩ : ∃ b off, pa = some ⟨b, off, none⟩ ∧ wr.cell? ⟨b, off + q, none⟩ = some (.pointer (s'.map fun x => (⟨x.1, 0, none⟩ : Addr))) := by
          rcases HI1.out.1.ptr with he | ⟨b, off, h, hb, hc⟩
          · exfalso
            have h9 := size_ptrsH sl
            rw [he, H.out.1.pl_] at h9; simp at h9; omega
          · refine ⟨b, off, h, ?_⟩
            have h9 := hc q (by rw [size_ptrsH, H.out.1.pl_]; exact hqn)
            rw [← hph, ptrsH_at hs'] at h9
            exact kept_in hkp (HX.out.2.2.2.2.2.2.1 b (H.out.2.1 _ h)) h9
        have hdr : lack.drop i = q :: lack.drop (i + 1) := by rw [← hq]; exact drop_at 0 hil
        rw [hdr] at hme
        have hsc := consH_is hs'
        cases s' with
        | none =>
          rw [mendF_none (by rw [hsc]; rfl)] at hme
          have HN : Hid (∃ sl', MdState Z1 w1 wr key must lack sl (i + 1) d sl') := Lib.hid ⟨sl', hrk, hph, hpm, hcm, hkp, hme⟩
          replace hpc : wr.cell? ⟨b, off + q, none⟩ = some (.pointer none) := hpc
          clear hrk hph hpm hcm hkp hme hq hil hqs hs' hdr hsc Hr
          go_wp2
          go_roundw
          case rel => exact ⟨i + 1, d, by omega, by omega, by go_num, rfl, HN⟩
          case measure => simp [intOf]; omega
        | some x =>
          obtain ⟨hb, mb, l1, l2⟩ := x
          replace hpc : wr.cell? ⟨b, off + q, none⟩ = some (.pointer (some ⟨hb, 0, none⟩)) := hpc
          have hsc2 : (consH sl')[q]?.getD none = some l1 := by rw [hsc]; rfl
          have hqm : q < must.length := by rw [HX.out.2.2.1]; exact hqn
          obtain ⟨mb', mo, rfl, f0, f1, f2, f3, f4⟩ : ∃ mb' mo, ma = some ⟨mb', mo, none⟩ ∧ wr.cell? ⟨mb', mo + q * 5, none⟩ = some (.int .i64 (must[q]?.getD ver0).1) ∧ wr.cell? ⟨mb', mo + q * 5 + 1, none⟩ = some (.int .i64 (must[q]?.getD ver0).2.1) ∧ wr.cell? ⟨mb', mo + q * 5 + 2, none⟩ = some (.int .i64 (must[q]?.getD ver0).2.2.1) ∧ wr.cell? ⟨mb', mo + q * 5 + 3, none⟩ = some (.int .i64 (must[q]?.getD ver0).2.2.2.1) ∧ wr.cell? ⟨mb', mo + q * 5 + 4, none⟩ = some (.string (must[q]?.getD ver0).2.2.2.2) := by
            rcases HX.out.2.2.2.2.2.2.2.2.2.2.2.1 with he | ⟨mb', mo, h, hbl, hc⟩
            · exfalso
              rw [he] at hqm; simp at hqm
            · obtain ⟨f0, f1, f2, f3, f4⟩ := VrR.at5 hc hqm
              obtain ⟨h8, h9⟩ := HX.out.2.2.2.2.2.2.2.2.2.2.2.2.1 mb' (by rw [h]; rfl)
              have hz := HX.out.2.2.2.2.2.2.2.1 mb' (Nat.le_trans (by exact Hs01.out) h8) h9
              exact ⟨mb', mo, h, kept_in hkp hz f0, kept_in hkp hz f1, kept_in hkp hz f2, kept_in hkp hz f3, kept_in hkp hz f4⟩
          obtain ⟨⟨x1, x2, x3, x4, x5⟩, hx⟩ : ∃ x, must[q]?.getD ver0 = x := ⟨_, rfl⟩
          rw [hx] at f0 f1 f2 f3 f4
          dsimp only at f0 f1 f2 f3 f4
          obtain ⟨wd, hwd⟩ : ∃ wd, wr.drew = wd := ⟨_, rfl⟩
          have hBd : Below wr.heap.size wr wd := by rw [← hwd]; exact (Below.refl _ wr).drew
          have hrkd := hrk.below' hBd (Nat.le_refl _)
          obtain ⟨fi1, fi2, P, ht, hPZ, hback⟩ := hrkd.act hs'
          have hkd : KeptBut (fun b => ¬ Z1 b) w1 wd := hkp.trans (KeptBut.of_below (F := fun b => ¬ Z1 b) hBd (fun b h1 h2 => by omega))
          have hEr : ErrHx wd E := H.out.2.2 wd (HX.out.2.2.2.2.2.2.2.2.1 wd hkd)
          have Hput := Lib.hid (two_hput ht fi1 E hEr key x1 x2 x3 x4 x5 H.out.1.key_)
          have HA := Lib.hid (And.intro hkd (And.intro hPZ (And.intro hback (And.intro fi1 (And.intro fi2 (And.intro hph (And.intro hpm (And.intro hcm (And.intro hme (And.intro hs' (And.intro hsc2 (And.intro hx hwd))))))))))))
          clear hrk hph hpm hcm hkp hme hq hil hqs hs' hdr hsc hsc2 hx hBd hrkd fi1 fi2 ht hPZ hback hkd hEr Hr
          go_wp2_with fail
          have g0 : wd.cell? ⟨b, off + q, none⟩ = some (.pointer (some ⟨hb, 0, none⟩)) := by rw [← hwd]; exact hpc
          have g1 : wd.cell? ⟨mb', mo + q * 5, none⟩ = some (.int .i64 x1) := by rw [← hwd]; exact f0
          have g2 : wd.cell? ⟨mb', mo + q * 5 + 1, none⟩ = some (.int .i64 x2) := by rw [← hwd]; exact f1
          have g3 : wd.cell? ⟨mb', mo + q * 5 + 2, none⟩ = some (.int .i64 x3) := by rw [← hwd]; exact f2
          have g4 : wd.cell? ⟨mb', mo + q * 5 + 3, none⟩ = some (.int .i64 x4) := by rw [← hwd]; exact f3
          have g5 : wd.cell? ⟨mb', mo + q * 5 + 4, none⟩ = some (.string x5) := by rw [← hwd]; exact f4
          go_still_tail 9, (by kernel_rfl)
          change wpList _ _ _ _ _ wr.drew
          rw [hwd]
          clear hwd g0 g1 g2 g3 g4 g5 hpc f0 f1 f2 f3 f4
          go_wp2_with fail
          refine Hput.out.mono ?_
          rintro e w5 ⟨⟨v5, rfl, hv5⟩, ht5, hk5⟩
          obtain ⟨pe, hpe⟩ : ∃ pe, putM (errM false l1 key (x1, x2, x3, x4, x5)) = pe := ⟨_, rfl⟩
          rw [hpe] at hv5
          have hr5 := HA.out.2.2.1 w5 _ _ ht5 hk5 HA.out.2.2.2.1.put HA.out.2.2.2.2.1
          have hk15 : KeptBut (fun b => ¬ Z1 b) w1 w5 := HA.out.1.trans (hk5.mono fun b _ hp => HA.out.2.1 b hp)
          have hxx : must[q]?.getD ver0 = (x1, x2, x3, x4, x5) := HA.out.2.2.2.2.2.2.2.2.2.2.2.1
          have hss := HA.out.2.2.2.2.2.2.2.2.2.1
          have hme := HA.out.2.2.2.2.2.2.2.2.1
          have hph5 := (ptrsH_set (m1 := afterP false l1 key (x1, x2, x3, x4, x5)) (m2 := l2) hss).trans HA.out.2.2.2.2.2.1
          have hpm5 := (ptrsM_set (m1 := afterP false l1 key (x1, x2, x3, x4, x5)) (m2 := l2) hss).trans HA.out.2.2.2.2.2.2.1
          have hch5 := consH_set (sl := sl') (i := q) (hb := hb) (mb := mb) (m1 := afterP false l1 key (x1, x2, x3, x4, x5)) (m2 := l2)
          have hcm5 : consM (sl'.set q (some (hb, mb, afterP false l1 key (x1, x2, x3, x4, x5), l2))) = consM sl := by
            rw [consM_set, set_same (consM_at hss)]
            exact HA.out.2.2.2.2.2.2.2.1
          rcases hv5 with ⟨rfl, rfl⟩ | ⟨j, hj, rfl, rfl⟩
          · rw [mendF_ok HA.out.2.2.2.2.2.2.2.2.2.2.1 (by rw [hxx]; exact hpe), hxx, ← hch5] at hme
            have HN : Hid (∃ sl', MdState Z1 w1 w5 key must lack sl (i + 1) (d + 1) sl') := Lib.hid ⟨_, hr5, hph5, hpm5, hcm5, hk15, hme⟩
            have hd9 : d + 1 ≤ 12 := by omega
            clear hr5 hk15 hxx hss hme hph5 hpm5 hch5 hcm5 ht5 hk5 hpe
            go_wp2
            go_roundw
            case rel => exact ⟨i + 1, d + 1, by omega, by omega, by go_num, by go_num, HN⟩
            case measure => simp [intOf]; omega
          · have hj0 : putM (errM false l1 key (must[q]?.getD ver0)) ≠ 0 := by rw [hxx, hpe]; omega
            have hafter : afterP false l1 key (x1, x2, x3, x4, x5) = l1 := afterP_err (by rw [hpe]; omega)
            rw [hafter] at hr5 hph5 hpm5 hch5 hcm5
            rw [set_same hss] at hr5 hph5 hpm5 hch5 hcm5
            rw [mendF_err HA.out.2.2.2.2.2.2.2.2.2.2.1 hj0, hxx, hpe] at hme
            have HN := Lib.hid (And.intro hr5 (And.intro hph5 (And.intro hpm5 (And.intro hcm5 (And.intro hk15 (And.intro hme hj))))))
            clear hr5 hk15 hxx hss hme hph5 hpm5 hch5 hcm5 ht5 hk5 hpe hj0 hafter
            go_wp2
            go_ret2
            exact ⟨_, _, rfl, .inr (.inr ⟨HX.out.1, rfl, .inr ⟨t, s, sl', by rw [Int.toNat_natCast, Int.toNat_natCast, HTD.out]; exact HX.out.2.1, HN.out.1.lessZ HX.out.2.2.2.2.2.2.1, HN.out.2.1, HN.out.2.2.1, HN.out.2.2.2.1, HX.out.2.2.2.2.2.2.2.2.1 _ HN.out.2.2.2.2.1, _, by
              rw [Int.toNat_natCast, Int.toNat_natCast, HTD.out, HX.out.2.2.2.2.2.2.2.2.2.2.2.2.2.2, HX.out.2.2.2.2.2.2.2.2.2.2.2.2.2.1, ← HN.out.2.2.2.2.2.1], rfl, .inr ⟨by show (j : Int) + 1 ≠ 0; omega, rfl, .inr ⟨j, HN.out.2.2.2.2.2.2, rfl, rfl⟩⟩⟩⟩)⟩
      · have hme2 : mendF key must lack (consH sl) 0 = (consH sl', 0, d) := by
          rw [← hme, ← HX.out.2.2.2.2.2.1, List.drop_length]; rfl
        have HN := Lib.hid (And.intro hrk (And.intro hph (And.intro hpm (And.intro hcm (And.intro hkp hme2)))))
        clear hrk hph hpm hcm hkp hme hme2 Hr
        go_wp2
        go_ret2
        exact ⟨_, _, rfl, .inr (.inr ⟨HX.out.1, rfl, .inr ⟨t, s, sl', by rw [Int.toNat_natCast, Int.toNat_natCast, HTD.out]; exact HX.out.2.1, HN.out.1.lessZ HX.out.2.2.2.2.2.2.1, HN.out.2.1, HN.out.2.2.1, HN.out.2.2.2.1, HX.out.2.2.2.2.2.2.2.2.1 _ HN.out.2.2.2.2.1, _, by
          rw [Int.toNat_natCast, Int.toNat_natCast, HTD.out, HX.out.2.2.2.2.2.2.2.2.2.2.2.2.2.2, HX.out.2.2.2.2.2.2.2.2.2.2.2.2.2.1], by rw [HN.out.2.2.2.2.2], .inl ⟨by rw [HN.out.2.2.2.2.2], by rw [HN.out.2.2.2.2.2], rfl⟩⟩⟩)⟩
end
end Go.Proofs.YtolbdcmoblcakaaGreatDoor
