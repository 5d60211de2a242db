/- The walks of what groups looks for: a tag among groups, a place among shards. -/
import Derived.Test.YtabboioamdphmaaGreatDoorSCarryHears17
import Derived.Deep.QuietTactic
import Derived.Test.YtabboioamdphmaaGreatDoorSCarryHears13
import Derived.Shelf.Abstract
import Derived.Lib.QuietBelow
import Derived.BigQuiet
import Derived.Lib.AppendZeros
namespace Go.Proofs.YtabboioamdphmaaGreatDoor
section
open Go.RowKit Go.BigFrame

set_option maxRecDepth 100000 in
theorem gat_walk (x1 : Int) (x2 : ByteArray) (b : Nat) (s1 : Int) (w : World) (hb : w.cell? ⟨b, 3, none⟩ = some (.int .i64 s1)) :
    Calls Tryz.prog 97 #[.agg #[.int .i64 x1, .string x2], .pointer (some ⟨b, 0, none⟩)] w fun e w' => e = .returned (.bool (decide (x1 = s1))) ∧ Below w.heap.size w w' := by
  have hb2 : (w.alloc (.cells #[.int .i64 x1, .string x2] 74)).cell? ⟨b, 3, none⟩ = some (.int .i64 s1) := ((Below.refl _ w).alloc (Nat.le_refl _) _).cell (lt_of_cell hb) ▸ hb
  by_cases h : x1 = s1
  · subst h
    go_enter Tryz.func97, Tryz.ntmps97
    go_wp2
    go_ret
    exact ⟨by simp, (Below.refl _ w).alloc (Nat.le_refl _) _⟩
  · have h0 : (x1 == s1) = false := by simp [h]
    go_enter Tryz.func97, Tryz.ntmps97
    go_wp2
    go_ret
    exact ⟨by simp [h], (Below.refl _ w).alloc (Nat.le_refl _) _⟩
set_option maxRecDepth 100000 in
set_option maxHeartbeats 2000000 in
theorem gatI_walk (n₀ : Nat) (a : Option Addr) (cap b : Nat) (out : List Sh) (s1 : Int) (w : World) (hl : out.length ≤ maxLen) (hn : n₀ ≤ w.heap.size) (hI : ShR n₀ w a out) (hb : w.cell? ⟨b, 3, none⟩ = some (.int .i64 s1)) :
    Calls Tryz.prog 115 #[.slice a out.length cap, .func (.func 97) #[] #[.pointer (some ⟨b, 0, none⟩)]] w
      fun e w' => (((∀ x ∈ out, x.1 ≠ s1) ∧ e = .returned (.int .i64 (-1))) ∨ (∃ k : Nat, (∃ x ∈ out, x.1 = s1) ∧ e = .returned (.int .i64 k))) ∧ Below w.heap.size w w' := by
  obtain ⟨m, hm⟩ : ∃ m, out.length = m := ⟨_, rfl⟩
  have hm' : m ≤ 9223372036854775807 := by rw [← hm]; exact hl
  have Hm := Lib.hid hm
  have HI := Lib.hid hI
  have Hb := Lib.hid hb
  rw [hm]
  clear hm hI hl hb
  go_enter Tryz.func115, Tryz.ntmps115
  go_wp2
  go_loopw [8] (fun vi wr => ∃ k : Nat, k ≤ m ∧ vi = .int .i64 k ∧ Hid ((∀ j, j < k → (out[j]?.getD (0, ⟨#[]⟩)).1 ≠ s1) ∧ Below w.heap.size w wr)) (fun i _ => m - (intOf i).toNat)
  case atStart => exact ⟨0, by omega, rfl, Lib.hid ⟨fun j hj => by omega, Below.refl _ _⟩⟩
  case round =>
    obtain ⟨k, hk, rfl, H⟩ := hrel
    have hk2 : k < m ∨ k = m := by omega
    rcases hk2 with hlt | hkm
    · have hlt2 : (k : Int) < m := by omega
      rcases (HI.out.mono hn).below H.out.2 with he | ⟨g, off, rfl, hg, hc⟩
      · exfalso
        have := Hm.out
        rw [he] at this
        simp at this; omega
      obtain ⟨h1, h2⟩ := hc k (by have := Hm.out; omega)
      clear hc
      obtain ⟨x, hx⟩ : ∃ x, out[k]?.getD (0, ⟨#[]⟩) = x := ⟨_, rfl⟩
      rw [hx] at h1 h2
      have Hx := Lib.hid hx
      clear hx
      obtain ⟨x1, x2⟩ := x
      have Hp := Lib.hid (gat_walk x1 x2 b s1 wr ((H.out.2.cell (lt_of_cell Hb.out)).trans Hb.out))
      by_cases he : x1 = s1
      · have e1 : decide (x1 = s1) = true := by simp [he]
        rw [e1] at Hp
        have He := Lib.hid he
        clear he e1
        go_wp2_with fail
        refine Hp.out.mono ?_
        rintro e w' ⟨rfl, hb2⟩
        have HB := Lib.hid (H.out.2.trans (hb2.mono H.out.2.size))
        clear hb2
        go_wp2
        go_ret
        refine ⟨.inr ⟨k, ⟨(x1, x2), ?_, He.out⟩, rfl⟩, HB.out⟩
        have hkl : k < out.length := by have := Hm.out; omega
        have := Hx.out
        rw [List.getElem?_eq_getElem hkl] at this
        simp at this
        rw [← this]; exact List.getElem_mem hkl
      · have e1 : decide (x1 = s1) = false := by simp [he]
        rw [e1] at Hp
        have He := Lib.hid he
        clear he e1
        go_wp2_with fail
        refine Hp.out.mono ?_
        rintro e w' ⟨rfl, hb2⟩
        have HB := Lib.hid (H.out.2.trans (hb2.mono H.out.2.size))
        clear hb2
        go_wp2
        go_roundw
        case rel => exact ⟨k + 1, by omega, by go_num, Lib.hid ⟨fun j hj => by
          by_cases e : j = k
          · rw [e, Hx.out]; exact He.out
          · exact H.out.1 j (by omega), HB.out⟩⟩
        case measure => simp [intOf]; omega
    · subst hkm
      go_wp2
      go_ret
      refine ⟨.inl ⟨fun x hx => ?_, rfl⟩, H.out.2⟩
      obtain ⟨j, hj, rfl⟩ := List.getElem_of_mem hx
      have := H.out.1 j (by have := Hm.out; omega)
      rw [List.getElem?_eq_getElem hj] at this
      exact this
set_option maxRecDepth 100000 in
theorem gatC_walk (n₀ : Nat) (a : Option Addr) (cap b : Nat) (out : List Sh) (s1 : Int) (w : World) (hl : out.length ≤ maxLen) (hn : n₀ ≤ w.heap.size) (hI : ShR n₀ w a out) (hb : w.cell? ⟨b, 3, none⟩ = some (.int .i64 s1)) :
    Calls Tryz.prog 96 #[.slice a out.length cap, .func (.func 97) #[] #[.pointer (some ⟨b, 0, none⟩)]] w
      fun e w' => e = .returned (.bool (out.any (fun x => decide (x.1 = s1)))) ∧ Below w.heap.size w w' := by
  have H := Lib.hid (gatI_walk n₀ a cap b out s1 w hl hn hI hb)
  clear hI hb hl
  obtain ⟨r, hr⟩ : ∃ r, out.any (fun x => decide (x.1 = s1)) = r := ⟨_, rfl⟩
  have Hr := Lib.hid hr
  rw [hr]
  clear hr
  go_enter Tryz.func96, Tryz.ntmps96
  go_wp2_with fail
  refine H.out.mono ?_
  rintro e w' ⟨hres, hb⟩
  have HB := Lib.hid hb
  clear hb
  rcases hres with ⟨hz, rfl⟩ | ⟨k, hx, rfl⟩
  · have hrf : r = false := by
      rw [← Hr.out, List.any_eq_false]
      intro x hx
      simpa using hz x hx
    subst hrf
    clear hz
    go_wp2
    go_ret
    exact ⟨rfl, HB.out⟩
  · have hrt : r = true := by
      rw [← Hr.out, List.any_eq_true]
      obtain ⟨x, h1, h2⟩ := hx
      exact ⟨x, h1, by simpa using h2⟩
    subst hrt
    have hk0 : (0 : Int) ≤ (k : Int) := by omega
    clear hx
    go_wp2
    go_ret
    exact ⟨by simp, HB.out⟩
def PtR (w : World) (a : Option Addr) (bs : List Nat) : Prop :=
  bs = [] ∨ ∃ b off, a = some ⟨b, off, none⟩ ∧ b < w.heap.size ∧ ∀ j, j < bs.length → w.cell? ⟨b, off + j, none⟩ = some (.pointer (some ⟨bs[j]?.getD 0, 0, none⟩))
theorem PtR.below {A B : World} (h : Below A.heap.size A B) {a : Option Addr} {bs : List Nat} : PtR A a bs → PtR B a bs
  | .inl e => .inl e
  | .inr ⟨b, off, e, hb, hc⟩ => .inr ⟨b, off, e, Nat.lt_of_lt_of_le hb h.size, fun j hj => (h.cell (p := ⟨b, off + j, none⟩) hb).trans (hc j hj)⟩
def GTags (w : World) (bs : List Nat) (ts : List (Int × Int)) : Prop := ∀ j, j < bs.length → w.cell? ⟨bs[j]?.getD 0, 0, none⟩ = some (.int .i64 (ts[j]?.getD (0, 0)).1) ∧ w.cell? ⟨bs[j]?.getD 0, 1, none⟩ = some (.int .i64 (ts[j]?.getD (0, 0)).2)
theorem GTags.below {A B : World} (h : Below A.heap.size A B) {bs : List Nat} {ts : List (Int × Int)} (hg : GTags A bs ts) : GTags B bs ts := fun j hj =>
  ⟨(h.cell (p := ⟨bs[j]?.getD 0, 0, none⟩) (lt_of_cell (hg j hj).1)).trans (hg j hj).1, (h.cell (p := ⟨bs[j]?.getD 0, 1, none⟩) (lt_of_cell (hg j hj).2)).trans (hg j hj).2⟩
set_option maxRecDepth 100000 in
theorem gtag_walk (gb xb : Nat) (t1 t2 u1 u2 : Int) (w : World) (g0 : w.cell? ⟨gb, 0, none⟩ = some (.int .i64 t1)) (g1 : w.cell? ⟨gb, 1, none⟩ = some (.int .i64 t2)) (x0 : w.cell? ⟨xb, 0, none⟩ = some (.int .i64 u1)) (x1 : w.cell? ⟨xb, 1, none⟩ = some (.int .i64 u2)) :
    Calls Tryz.prog 95 #[.pointer (some ⟨gb, 0, none⟩), .pointer (some ⟨xb, 0, none⟩)] w fun e w' => e = .returned (.bool (decide ((t1, t2) = (u1, u2)))) ∧ Below w.heap.size w w' := by
  have k0 := cell_regrown g0
  have k1 := cell_regrown g1
  have l0 := cell_regrown x0
  have l1 := cell_regrown x1
  clear g0 g1 x0 x1
  by_cases h1 : t1 = u1
  · subst h1
    by_cases h2 : t2 = u2
    · subst h2
      go_enter Tryz.func95, Tryz.ntmps95
      go_wp2
      refine wp_region_quiet_below (by kernel_rfl) (by kernel_rfl) ?_
      repeat (go_big_quiet_step (fail))
      refine wpQuiet_nil ?_
      intro w5 hw'
      obtain ⟨⟨dq, osq⟩, hw5⟩ := hw'
      have HB := Lib.hid (show Below w.heap.size w w5 by rw [hw5]; exact below_regrown w dq osq)
      clear hw5 k0 k1 l0 l1
      go_wp2
      go_ret
      exact ⟨by simp, HB.out⟩
    · have e2 : (t2 == u2) = false := by simpa using h2
      have e3 : decide (t2 = u2) = false := decide_eq_false h2
      go_enter Tryz.func95, Tryz.ntmps95
      go_wp2
      refine wp_region_quiet_below (by kernel_rfl) (by kernel_rfl) ?_
      repeat (go_big_quiet_step (fail))
      refine wpQuiet_nil ?_
      intro w5 hw'
      obtain ⟨⟨dq, osq⟩, hw5⟩ := hw'
      have HB := Lib.hid (show Below w.heap.size w w5 by rw [hw5]; exact below_regrown w dq osq)
      clear hw5 k0 k1 l0 l1
      go_wp2
      go_ret
      exact ⟨by simp [h2], HB.out⟩
  · have e2 : (t1 == u1) = false := by simpa using h1
    have e3 : decide (t1 = u1) = false := decide_eq_false h1
    go_enter Tryz.func95, Tryz.ntmps95
    go_wp2
    refine wp_region_quiet_below (by kernel_rfl) (by kernel_rfl) ?_
    repeat (go_big_quiet_step (fail))
    refine wpQuiet_nil ?_
    intro w5 hw'
    obtain ⟨⟨dq, osq⟩, hw5⟩ := hw'
    have HB := Lib.hid (show Below w.heap.size w w5 by rw [hw5]; exact below_regrown w dq osq)
    clear hw5 k0 k1 l0 l1
    go_wp2
    go_ret
    exact ⟨by simp [h1], HB.out⟩
def IdxT (ts : List (Int × Int)) (t : Int × Int) (e : Ending) : Prop := (e = .returned (.int .i64 (-1)) ∧ t ∉ ts) ∨ ∃ k : Nat, k < ts.length ∧ e = .returned (.int .i64 k) ∧ ts[k]? = some t
set_option maxRecDepth 100000 in
set_option maxHeartbeats 2000000 in
theorem gidx_walk (a : Option Addr) (cap xb : Nat) (bs : List Nat) (ts : List (Int × Int)) (u1 u2 : Int) (w : World) (hts : ts.length = bs.length) (hl : bs.length ≤ maxLen) (hI : PtR w a bs) (hG : GTags w bs ts) (x0 : w.cell? ⟨xb, 0, none⟩ = some (.int .i64 u1)) (x1 : w.cell? ⟨xb, 1, none⟩ = some (.int .i64 u2)) :
    Calls Tryz.prog 94 #[.slice a bs.length cap, .func (.func 95) #[] #[.pointer (some ⟨xb, 0, none⟩)]] w
      fun e w' => IdxT ts (u1, u2) e ∧ Below w.heap.size w w' := by
  obtain ⟨m, hm⟩ : ∃ m, bs.length = m := ⟨_, rfl⟩
  have hm' : m ≤ 9223372036854775807 := by rw [← hm]; exact hl
  have Hm := Lib.hid (And.intro hm hts)
  have HI := Lib.hid (And.intro hI (And.intro hG (And.intro x0 x1)))
  rw [hm]
  clear hm hts hI hl hG x0 x1
  go_enter Tryz.func94, Tryz.ntmps94
  go_wp2
  go_loopw [8] (fun vi wr => ∃ k : Nat, k ≤ m ∧ vi = .int .i64 k ∧ Hid ((∀ j, j < k → ts[j]? ≠ some (u1, u2)) ∧ Below w.heap.size w wr)) (fun i _ => m - (intOf i).toNat)
  case atStart => exact ⟨0, by omega, rfl, Lib.hid ⟨fun j hj => by omega, Below.refl _ _⟩⟩
  case round =>
    obtain ⟨k, hk, rfl, H⟩ := hrel
    have hk2 : k < m ∨ m = k := by omega
    rcases hk2 with hlt | hkm
    · have hlt2 : (k : Int) < m := by omega
      rcases HI.out.1.below H.out.2 with he | ⟨g, off, rfl, hg, hc⟩
      · exfalso
        have := Hm.out.1
        rw [he] at this
        simp at this; omega
      have hkb : k < bs.length := by rw [Hm.out.1]; exact hlt
      have h1 := hc k hkb
      obtain ⟨g0, g1⟩ := (HI.out.2.1.below H.out.2) k hkb
      clear hc
      obtain ⟨gb, hgb⟩ : ∃ gb, bs[k]?.getD 0 = gb := ⟨_, rfl⟩
      obtain ⟨t, ht⟩ : ∃ t, ts[k]?.getD (0, 0) = t := ⟨_, rfl⟩
      rw [hgb] at h1 g0 g1
      rw [ht] at g0 g1
      have hkt : ts[k]? = some t := by
        have hkl : k < ts.length := by rw [Hm.out.2]; exact hkb
        rw [← ht, List.getElem?_eq_getElem hkl]; rfl
      have Hkt := Lib.hid (And.intro hkt (show k < ts.length by rw [Hm.out.2]; exact hkb))
      obtain ⟨t1, t2⟩ := t
      have Hp := Lib.hid (gtag_walk gb xb t1 t2 u1 u2 wr g0 g1 ((H.out.2.cell (lt_of_cell HI.out.2.2.1)).trans HI.out.2.2.1) ((H.out.2.cell (lt_of_cell HI.out.2.2.2)).trans HI.out.2.2.2))
      clear hgb ht hkt hkb g0 g1 hg
      by_cases he : (t1, t2) = (u1, u2)
      · rw [decide_eq_true he] at Hp
        have He := Lib.hid he
        clear he
        go_wp2_with fail
        refine Hp.out.mono ?_
        rintro e w' ⟨rfl, hb2⟩
        have HB := Lib.hid (H.out.2.trans (hb2.mono H.out.2.size))
        clear hb2
        go_wp2
        go_ret
        exact ⟨.inr ⟨k, Hkt.out.2, rfl, by rw [Hkt.out.1, He.out]⟩, HB.out⟩
      · rw [decide_eq_false he] at Hp
        have He := Lib.hid he
        clear he
        go_wp2_with fail
        refine Hp.out.mono ?_
        rintro e w' ⟨rfl, hb2⟩
        have HB := Lib.hid (H.out.2.trans (hb2.mono H.out.2.size))
        clear hb2
        go_wp2
        go_roundw
        case rel => exact ⟨k + 1, by omega, by go_num, Lib.hid ⟨fun j hj => by
          by_cases e : j = k
          · rw [e, Hkt.out.1]; exact fun h9 => He.out (Option.some.inj h9)
          · exact H.out.1 j (by omega), HB.out⟩⟩
        case measure => simp [intOf]; omega
    · subst hkm
      go_wp2
      go_ret
      refine ⟨.inl ⟨rfl, fun hx => ?_⟩, H.out.2⟩
      obtain ⟨j, hj, e⟩ := List.getElem_of_mem hx
      exact H.out.1 j (by rw [← Hm.out.1, ← Hm.out.2]; exact hj) (by rw [List.getElem?_eq_getElem hj, e])
end
end Go.Proofs.YtabboioamdphmaaGreatDoor
/- Walks: slices.Clone and slices.BinarySearchFunc of versions. -/
namespace Go.Proofs.YtabboioamdphmaaGreatDoor
section
open Go.RowKit

theorem OwnV.fresh (w : World) : OwnV w.heap.size (w.alloc (.cells #[] 76)) (.slice (some ⟨w.heap.size, 0, none⟩) 0 0) [] :=
  World.ownsRow_made w #[] 0 (Nat.le_refl _) (by simp [maxLen]) rfl
def VCloneOut (w w' : World) (M : List Ver) (e : Ending) : Prop := Below w.heap.size w w' ∧ ∃ v, e = .returned v ∧ OwnV w.heap.size w' v M
set_option maxRecDepth 100000 in
set_option maxHeartbeats 2000000 in
theorem vclone_walk (n₀ : Nat) (ad : Option Addr) (len cap : Nat) (M : List Ver) (w : World) (hlen : M.length = len) (hcap : len ≤ cap) (hl : len ≤ 1000000) (ha : ad = none → cap = 0) (hI : VrR n₀ w ad M) (hn : n₀ ≤ w.heap.size) :
    Calls Tryz.prog 67 #[.slice ad len cap] w fun e w' => VCloneOut w w' M e := by
  cases ad with
  | none =>
    obtain rfl := ha rfl
    obtain rfl : len = 0 := by omega
    obtain rfl : M = [] := List.length_eq_zero_iff.1 hlen
    have q := fun (w : World) (a : Option Addr) (n c n' c' : Nat) => Lib.run_eql_slice_nil (P := Tryz.prog) w 53 _ a n c n' c' Tryz.underlying53
    clear ha hI hlen hcap hl
    go_enter Tryz.func67, Tryz.ntmps67
    go_wp2
    go_ret
    exact ⟨Below.refl _ _, _, rfl, OwnV.nil _ _⟩
  | some x =>
    have hul : ([] : List Ver).length + M.length ≤ 1000000 := by simp; omega
    have hB : Below w.heap.size w (w.alloc (.cells #[] 76)) := (Below.refl _ w).alloc (Nat.le_refl _) _
    have hI2 : VrR w.heap.size (w.alloc (.cells #[] 76)) (some x) M := (hI.mono hn).below hB
    have hF := OwnV.fresh w
    have HI := Lib.hid (And.intro hI2 (And.intro hlen (And.intro hul (And.intro hB hF))))
    have q := fun (w : World) (a : Option Addr) (n c n' c' : Nat) => Lib.run_eql_slice_nil (P := Tryz.prog) w 53 _ a n c n' c' Tryz.underlying53
    clear hI hI2 hlen hul hB hF ha hcap hl
    go_enter Tryz.func67, Tryz.ntmps67
    go_wp2_with (at_builtin; refine append_vers 5 6 rfl rfl w.heap.size _ [] w.heap.size (some x) len cap M rfl rfl HI.out.2.2.2.2 HI.out.2.1 HI.out.2.2.1 (fun e => by cases e) HI.out.1 (by simp) ?_)
    intro v' w' k1 k2 _ k4
    have hb2 : Below w.heap.size w w' := HI.out.2.2.2.1.grown k2 (by simp) (fun k e => by simp [Value.ownBlock] at e; omega)
    have HR := Lib.hid (And.intro hb2 (show OwnV w.heap.size w' v' M by simpa using k1))
    clear k1 k2 k4 hb2
    go_wp2
    go_ret
    exact ⟨HR.out.1, _, rfl, HR.out.2⟩

/-! ### the search -/
end
section
open Go.RowKit Go.BigFrame

theorem VrR.at5 {w : World} {b off : Nat} {M : List Ver} (hc : ∀ i j, i < M.length → j < 5 → w.cell? ⟨b, off + i * 5 + j, none⟩ = (encVr (M[i]?.getD ver0))[j]?) {i : Nat} (hi : i < M.length) :
    w.cell? ⟨b, off + i * 5, none⟩ = some (.int .i64 (M[i]?.getD ver0).1) ∧ w.cell? ⟨b, off + i * 5 + 1, none⟩ = some (.int .i64 (M[i]?.getD ver0).2.1) ∧ w.cell? ⟨b, off + i * 5 + 2, none⟩ = some (.int .i64 (M[i]?.getD ver0).2.2.1) ∧
    w.cell? ⟨b, off + i * 5 + 3, none⟩ = some (.int .i64 (M[i]?.getD ver0).2.2.2.1) ∧ w.cell? ⟨b, off + i * 5 + 4, none⟩ = some (.string (M[i]?.getD ver0).2.2.2.2) :=
  ⟨hc i 0 hi (by omega), hc i 1 hi (by omega), hc i 2 hi (by omega), hc i 3 hi (by omega), hc i 4 hi (by omega)⟩
end
section
open Go.RowKit

def OneV (w : World) (gx : Nat) (x : Ver) : Prop := w.heap[gx]? = some (.cells (encVr x).toArray 76 (0, 0))
theorem OneV.lt {w : World} {gx : Nat} {x : Ver} (h : OneV w gx x) : gx < w.heap.size := (Array.getElem?_eq_some_iff.1 h).1
theorem OneV.read {w : World} {gx : Nat} {x : Ver} (h : OneV w gx x) : VrR w.heap.size w (some ⟨gx, 0, none⟩) [x] := by
  refine .inr ⟨gx, 0, rfl, h.lt, fun i j hi hj => ?_⟩
  obtain rfl : i = 0 := by simpa using hi
  unfold OneV at h
  simp only [World.cell?, h]
  rcases (show j = 0 ∨ j = 1 ∨ j = 2 ∨ j = 3 ∨ j = 4 by omega) with rfl | rfl | rfl | rfl | rfl <;> rfl
theorem OneV.new (w : World) (x : Ver) : OneV (w.alloc (.cells (encVr x).toArray 76)) w.heap.size x := Go.heap_alloc_new w _
end
end Go.Proofs.YtabboioamdphmaaGreatDoor
/- Lists of versions: slices.Grow of nil, slices.Concat. -/
namespace Go.Proofs.YtabboioamdphmaaGreatDoor
section
open Go.RowKit Go.BigFrame

def VssR (w : World) (a : Option Addr) (ls : List (List Ver)) : Prop :=
  ls = [] ∨ ∃ b off, a = some ⟨b, off, none⟩ ∧ b < w.heap.size ∧ ∀ i, i < ls.length → ∃ ad cp, w.cell? ⟨b, off + i, none⟩ = some (.slice ad (ls[i]?.getD []).length cp) ∧ (ls[i]?.getD []).length ≤ cp ∧ cp ≤ maxLen ∧ (ad = none → cp = 0) ∧ VrR w.heap.size w ad (ls[i]?.getD [])
theorem VssR.below {A B : World} (h : Below A.heap.size A B) {a : Option Addr} {ls : List (List Ver)} : VssR A a ls → VssR B a ls
  | .inl e => .inl e
  | .inr ⟨b, off, e, hb, hc⟩ => .inr ⟨b, off, e, Nat.lt_of_lt_of_le hb h.size, fun i hi => by
    obtain ⟨ad, cp, h1, h2, h3, h4, h5⟩ := hc i hi
    exact ⟨ad, cp, (h.cell (p := ⟨b, off + i, none⟩) hb).trans h1, h2, h3, h4, (h5.below h).mono h.size⟩⟩
def totV (ls : List (List Ver)) : Nat := (ls.map List.length).sum
theorem totV_take (ls : List (List Ver)) (i : Nat) (h : i < ls.length) : totV (ls.take (i + 1)) = totV (ls.take i) + (ls[i]?.getD []).length := by
  unfold totV
  rw [List.take_succ_eq_append_getElem h, List.map_append, List.sum_append, List.getElem?_eq_getElem h]
  simp
theorem totV_le (ls : List (List Ver)) (i : Nat) : totV (ls.take i) ≤ totV ls := by
  have e : totV ls = totV (ls.take i) + totV (ls.drop i) := by
    unfold totV
    rw [← List.sum_append, ← List.map_append, List.take_append_drop]
  omega
theorem flat_len (ls : List (List Ver)) : ls.flatten.length = totV ls := List.length_flatten
theorem flat_take (ls : List (List Ver)) (i : Nat) (h : i < ls.length) : (ls.take (i + 1)).flatten = (ls.take i).flatten ++ (ls[i]?.getD []) := by
  rw [List.take_succ_eq_append_getElem h, List.flatten_append, List.getElem?_eq_getElem h]
  simp
set_option maxRecDepth 100000 in
set_option maxHeartbeats 2000000 in
theorem grow_walk (n : Nat) (w : World) (hn : n ≤ 1000000) :
    Calls Tryz.prog 110 #[.slice none 0 0, .int .i64 n] w fun e w' => VCloneOut w w' [] e := by
  obtain ⟨i, hi, hz0, hz1, hz2⟩ := info_parts info_version
  have hcs : n = 0 ∨ 0 < n := by omega
  rcases hcs with rfl | h0
  · go_enter Tryz.func110, Tryz.ntmps110
    go_wp2
    go_ret
    exact ⟨Below.refl _ _, _, rfl, OwnV.nil _ _⟩
  · have h0i : (0 : Int) < n := by omega
    have hr := fun ty => Lib.run_append_nil_zeros (P := Tryz.prog) w 53 3 ty 76 i _ .i64 .i64 Tryz.underlying53 Tryz.underlying3 hi hz0 n h0 (by rw [hz1]; omega) (by omega) (by rw [hz2]; omega)
    have hge := grownCap_ge w n 0 76
    have hcm := grownCap_le_maxLen w n 0 76 (by unfold maxLen; omega)
    have Hr := Lib.hid hr
    clear hr
    obtain ⟨cp, hcp⟩ : ∃ cp, grownCap w n 0 76 = cp := ⟨_, rfl⟩
    rw [hcp] at Hr hge hcm
    have Hc := Lib.hid (And.intro hge hcm)
    unfold maxLen at hcm
    clear hi hz0 hz1 hz2 hcp
    go_enter Tryz.func110, Tryz.ntmps110
    go_wp2_with (at_builtin; refine Lib.wpList_append_run _ rfl _ _ _ _ rfl _ _ rfl rfl _ _ (Hr.out _) ?_)
    go_wp2
    go_ret
    refine ⟨((Below.refl w.heap.size w).drew).alloc (by simp) _, _, rfl, by simp [vrV], .inr ⟨w.heap.size, cp, _, rfl, Nat.le_refl _, heap_alloc_new w.drew _, Nat.zero_le _, Hc.out.2, ?_, by simp [vrV]⟩⟩
    rw [Array.size_append, size_zeroCells, size_zeroCells]
    have := Hc.out.1
    show n * 5 + (cp - n) * 5 = cp * 5
    omega
set_option maxRecDepth 100000 in
set_option maxHeartbeats 4000000 in
theorem concat_walk (a : Option Addr) (len cap : Nat) (ls : List (List Ver)) (w : World) (hlen : ls.length = len) (hm : len ≤ maxLen) (hR : VssR w a ls) (ht : totV ls ≤ 1000000) :
    Calls Tryz.prog 79 #[.slice a len cap] w fun e w' => VCloneOut w w' ls.flatten e := by
  have hm9 : len ≤ 9223372036854775807 := by unfold maxLen at hm; omega
  have H := Lib.hid (And.intro hlen (And.intro hR ht))
  clear hlen hm hR ht
  go_enter Tryz.func79, Tryz.ntmps79
  go_wp2
  go_loop [3, 11] (fun vs vi => ∃ i : Nat, i ≤ len ∧ vi = .int .i64 i ∧ vs = .int .i64 ((totV (ls.take i) : Nat) : Int)) (fun _ vi => len - (intOf vi).toNat)
  case atStart => exact ⟨0, by omega, rfl, rfl⟩
  case round =>
    obtain ⟨i, hi, rfl, rfl⟩ := hrel
    have hi2 : i < len ∨ len = i := by omega
    rcases hi2 with hilt | rfl
    · have hilt2 : (i : Int) < len := by omega
      have hil : i < ls.length := by rw [H.out.1]; exact hilt
      rcases H.out.2.1 with he | ⟨b, off, rfl, hb, hc⟩
      · exfalso
        rw [he] at hil; simp at hil
      obtain ⟨ad, cp, k0, q1, q2, q3, q4⟩ := hc i hil
      have htk := totV_take ls i hil
      have htl := totV_le ls (i + 1)
      have hts := H.out.2.2
      obtain ⟨n, hn⟩ : ∃ n, (ls[i]?.getD []).length = n := ⟨_, rfl⟩
      obtain ⟨S, hS⟩ : ∃ S, totV (ls.take i) = S := ⟨_, rfl⟩
      rw [hn] at k0 htk
      rw [hS] at htk ⊢
      have Htk := Lib.hid htk
      have hb1 : S + n ≤ 1000000 := by omega
      have hneg : ¬ ((S : Int) + (n : Int)) < 0 := by omega
      clear hc q1 q2 q3 q4 htk htl hts hil hn hS hb
      go_wp2
      go_round
      case rel => exact ⟨i + 1, by omega, by go_num, by rw [Htk.out]; go_num⟩
      case measure => simp [intOf]; omega
    · obtain ⟨S, hS⟩ : ∃ S, totV (ls.take len) = S := ⟨_, rfl⟩
      have hSl : S ≤ 1000000 := by rw [← hS]; exact Nat.le_trans (totV_le ls len) H.out.2.2
      rw [hS]
      clear hS
      have Hg := Lib.hid (grow_walk S w hSl)
      go_wp2_with fail
      refine Hg.out.mono ?_
      rintro e w2 ⟨hb2, v2, rfl, ho2⟩
      have H2 := Lib.hid (And.intro ho2 hb2)
      clear hb2 ho2
      go_wp2_with fail
      go_loopw [6, 27] (fun vl vi wr => ∃ (i : Nat) (v : Value), i ≤ len ∧ vi = .int .i64 i ∧ v = vl ∧ Hid (OwnV w.heap.size wr v (ls.take i).flatten ∧ Below w.heap.size w wr)) (fun _ vi _ => len - (intOf vi).toNat)
      case atStart => exact ⟨0, _, by omega, rfl, rfl, Lib.hid ⟨by simpa using H2.out.1, H2.out.2⟩⟩
      case round =>
        obtain ⟨i, v, hi, rfl, hv, Hr⟩ := hrel
        subst hv
        have hi2 : i < len ∨ len = i := by omega
        rcases hi2 with hilt | rfl
        · have hilt2 : (i : Int) < len := by omega
          have hil : i < ls.length := by rw [H.out.1]; exact hilt
          rcases H.out.2.1.below Hr.out.2 with he | ⟨b, off, rfl, hb, hc⟩
          · exfalso
            rw [he] at hil; simp at hil
          obtain ⟨ad, cp, k0, q1, q2, q3, q4⟩ := hc i hil
          have hft := flat_take ls i hil
          have hfl : (ls.take i).flatten.length + (ls[i]?.getD []).length ≤ 1000000 := by
            rw [flat_len, ← totV_take ls i hil]
            exact Nat.le_trans (totV_le ls (i + 1)) H.out.2.2
          have hszr : w.heap.size ≤ wr.heap.size := Hr.out.2.size
          have HQ := Lib.hid (And.intro q3 (And.intro q4 (And.intro hft hfl)))
          clear hc q1 q2 q3 q4 hft hfl hil hb
          go_wp2_with (at_builtin; refine append_vers 31 32 rfl rfl w.heap.size v (ls.take i).flatten wr.heap.size ad _ cp (ls[i]?.getD []) rfl rfl Hr.out.1 rfl HQ.out.2.2.2 HQ.out.1 HQ.out.2.1 hszr ?_)
          intro v' w5 h1 h2 _ _
          have HN : Hid (OwnV w.heap.size w5 v' (ls.take (i + 1)).flatten ∧ Below w.heap.size w w5) := Lib.hid ⟨by rw [HQ.out.2.2.1]; exact h1, Hr.out.2.trans (World.grownBy.below h2 hszr (fun k hk => (Hr.out.1.lt k hk).1))⟩
          clear h1 h2
          go_wp2
          go_roundw
          case rel =>
            first
            | exact ⟨i + 1, _, by omega, by go_num, rfl, HN⟩
            | (repeat apply Exists.intro); exact ⟨⟨i + 1, _, by omega, by go_num, rfl, HN⟩, rfl⟩
          case measure => simp [intOf]; omega
        · go_wp2
          go_ret
          have h9 := Hr.out.1
          rw [← H.out.1, List.take_length] at h9
          exact ⟨Hr.out.2, _, rfl, h9⟩
end
end Go.Proofs.YtabboioamdphmaaGreatDoor
