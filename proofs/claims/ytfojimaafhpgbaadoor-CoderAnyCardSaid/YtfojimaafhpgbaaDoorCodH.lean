/- Walks of coder.Agree's search. -/
import Derived.Test.YtfojimaafhpgbaaDoorCodG
import Derived.Test.YtfojimaafhpgbaaDoorOpen
namespace Go.Proofs.YtfojimaafhpgbaaDoor
open Go.RowKit

/-- the shards of all, read through their box. -/
structure AllS (w : World) (ba g n c : Nat) (t : Nat → ByteArray) : Prop where
  box : w.cell? ⟨ba, 0, none⟩ = some (.slice (some ⟨g, 0, none⟩) n c)
  num : ∀ i, i < n → w.cell? ⟨g, i * 2, none⟩ = some (.int .i64 (i : Int))
  txt : ∀ i, i < n → w.cell? ⟨g, i * 2 + 1, none⟩ = some (.string (t i))
theorem AllS.below {w w' : World} {ba g n c : Nat} {t : Nat → ByteArray} (h : AllS w ba g n c t) (hb : Below w.heap.size w w') : AllS w' ba g n c t :=
  ⟨(hb.cell (lt_of_cell h.box)).trans h.box, fun i hi => (hb.cell (lt_of_cell (h.num i hi))).trans (h.num i hi), fun i hi => (hb.cell (lt_of_cell (h.txt i hi))).trans (h.txt i hi)⟩
set_option maxRecDepth 100000 in
set_option maxHeartbeats 1000000 in
theorem agree1_walk (p n c ba g : Nat) (x2 : ByteArray) (t : Nat → ByteArray) (w : World) (hA : AllS w ba g n c t) (hp : p < n) :
    Calls Tryd.prog 89 #[.agg #[.int .i64 (p : Int), .string x2], .pointer (some ⟨ba, 0, none⟩)] w fun e w' => e = .returned (.bool (decide (t p ≠ x2))) ∧ Below w.heap.size w w' := by
  have hB : Below w.heap.size w (w.alloc (.cells #[.int .i64 (p : Int), .string x2] 85)) := (Below.refl _ w).alloc (Nat.le_refl _) _
  have hA2 := hA.below hB
  have h1 := hA2.box
  have h2 := hA2.num p hp
  have h3 := hA2.txt p hp
  have hp2 : (p : Int) < n := by omega
  obtain ⟨tp, htp⟩ : ∃ tp, t p = tp := ⟨_, rfl⟩
  rw [htp] at h3
  rw [htp]
  clear hA hA2 htp
  by_cases h : tp = x2
  · subst h
    go_enter Tryd.func89, Tryd.ntmps89
    go_wp2
    go_quiet (fail)
    go_wp2
    go_ret
    exact ⟨by simp, hB.trans (same_below' _ _)⟩
  · have h4 : (tp.toList == x2.toList) = false := ne_list h
    have h5 : (tp.toList != x2.toList) = true := by rw [bne, h4]; rfl
    go_enter Tryd.func89, Tryd.ntmps89
    go_wp2
    go_quiet (fail)
    go_wp2
    go_ret
    exact ⟨by simp [h], hB.trans (same_below' _ _)⟩

set_option maxRecDepth 100000 in
set_option maxHeartbeats 2000000 in
theorem agreeI_walk (n₀ : Nat) (a : Option Addr) (cap n c ba g : Nat) (l : List Sh) (t : Nat → ByteArray) (w : World) (hl : l.length ≤ maxLen) (hn : n₀ ≤ w.heap.size) (hI : ShR n₀ w a l) (hA : AllS w ba g n c t) (hg : ∀ s ∈ l, 0 ≤ s.1 ∧ s.1 < n) :
    Calls Tryd.prog 112 #[.slice a l.length cap, .func (.func 89) #[] #[.pointer (some ⟨ba, 0, none⟩)]] w
      fun e w' => (((∀ x ∈ l, t x.1.toNat = x.2) ∧ e = .returned (.int .i64 (-1))) ∨ (∃ k : Nat, (∃ x ∈ l, t x.1.toNat ≠ x.2) ∧ e = .returned (.int .i64 k))) ∧ Below w.heap.size w w' := by
  obtain ⟨m, hm⟩ : ∃ m, l.length = m := ⟨_, rfl⟩
  have hm' : m ≤ 9223372036854775807 := by rw [← hm]; exact hl
  have Hm := Lib.hid hm
  have HI := Lib.hid hI
  have HA := Lib.hid (And.intro hA hg)
  rw [hm]
  clear hm hI hl hA hg
  go_enter Tryd.func112, Tryd.ntmps112
  go_wp2
  go_loopw [8] (fun vi wr => ∃ k : Nat, k ≤ m ∧ vi = .int .i64 k ∧ Hid ((∀ j, j < k → t (l[j]?.getD (0, ⟨#[]⟩)).1.toNat = (l[j]?.getD (0, ⟨#[]⟩)).2) ∧ Below w.heap.size w wr)) (fun i _ => m - (intOf i).toNat)
  case atStart => exact ⟨0, by omega, rfl, Lib.hid ⟨fun j hj => by omega, Below.refl _ _⟩⟩
  case round =>
    obtain ⟨k, hk, rfl, H⟩ := hrel
    have hk2 : k < m ∨ k = m := by omega
    rcases hk2 with hlt | hkm
    · have hlt2 : (k : Int) < m := by omega
      rcases (HI.out.mono hn).below H.out.2 with he | ⟨g', off, rfl, hg', hc⟩
      · exfalso
        have := Hm.out
        rw [he] at this
        simp at this; omega
      have hkl : k < l.length := by have := Hm.out; omega
      obtain ⟨h1, h2⟩ := hc k hkl
      clear hc
      obtain ⟨x, hx⟩ : ∃ x, l[k]?.getD (0, ⟨#[]⟩) = x := ⟨_, rfl⟩
      rw [hx] at h1 h2
      have hmem : x ∈ l := by
        have := hx
        rw [List.getElem?_eq_getElem hkl] at this
        simp at this
        rw [← this]; exact List.getElem_mem hkl
      have hgx := HA.out.2 x hmem
      obtain ⟨x1, x2⟩ := x
      simp only at hgx h1 h2
      obtain ⟨p, rfl⟩ := Int.eq_ofNat_of_zero_le hgx.1
      have hp : p < n := by omega
      have Hx := Lib.hid (And.intro hx hmem)
      clear hx hmem hgx
      have Hp := Lib.hid (agree1_walk p n c ba g x2 t wr (HA.out.1.below H.out.2) hp)
      by_cases he : t p = x2
      · have e1 : decide (t p ≠ x2) = false := by simp [he]
        rw [e1] at Hp
        have He := Lib.hid he
        clear he e1
        go_wp2_with fail
        refine Hp.out.mono ?_
        rintro e w' ⟨rfl, hb2⟩
        have HB := Lib.hid (H.out.2.trans (hb2.mono H.out.2.size))
        clear hb2
        go_wp2
        go_roundw
        case rel => exact ⟨k + 1, by omega, by go_num, Lib.hid ⟨fun j hj => by
          by_cases e : j = k
          · rw [e, Hx.out.1]; exact He.out
          · exact H.out.1 j (by omega), HB.out⟩⟩
        case measure => simp [intOf]; omega
      · have e1 : decide (t p ≠ x2) = true := by simp [he]
        rw [e1] at Hp
        have He := Lib.hid he
        clear he e1
        go_wp2_with fail
        refine Hp.out.mono ?_
        rintro e w' ⟨rfl, hb2⟩
        have HB := Lib.hid (H.out.2.trans (hb2.mono H.out.2.size))
        clear hb2
        go_wp2
        go_ret
        exact ⟨.inr ⟨k, ⟨((p : Int), x2), Hx.out.2, He.out⟩, rfl⟩, HB.out⟩
    · subst hkm
      go_wp2
      go_ret
      refine ⟨.inl ⟨fun x hx => ?_, rfl⟩, H.out.2⟩
      obtain ⟨j, hj, rfl⟩ := List.getElem_of_mem hx
      have := H.out.1 j (by have := Hm.out; omega)
      rw [List.getElem?_eq_getElem hj] at this
      exact this
/-- do all shards agree with these? -/
def agreeB (l : List Sh) (t : Nat → ByteArray) : Bool := l.all fun x => decide (t x.1.toNat = x.2)
set_option maxRecDepth 100000 in
theorem agreeC_walk (n₀ : Nat) (a : Option Addr) (cap n c ba g : Nat) (l : List Sh) (t : Nat → ByteArray) (w : World) (hl : l.length ≤ maxLen) (hn : n₀ ≤ w.heap.size) (hI : ShR n₀ w a l) (hA : AllS w ba g n c t) (hg : ∀ s ∈ l, 0 ≤ s.1 ∧ s.1 < n) :
    Calls Tryd.prog 88 #[.slice a l.length cap, .func (.func 89) #[] #[.pointer (some ⟨ba, 0, none⟩)]] w
      fun e w' => e = .returned (.bool (!agreeB l t)) ∧ Below w.heap.size w w' := by
  have H := Lib.hid (agreeI_walk n₀ a cap n c ba g l t w hl hn hI hA hg)
  clear hI hA hg hl
  obtain ⟨r, hr⟩ : ∃ r, agreeB l t = r := ⟨_, rfl⟩
  have Hr := Lib.hid hr
  rw [hr]
  clear hr
  go_enter Tryd.func88, Tryd.ntmps88
  go_wp2_with fail
  refine H.out.mono ?_
  rintro e w' ⟨hres, hb⟩
  have HB := Lib.hid hb
  clear hb
  rcases hres with ⟨hz, rfl⟩ | ⟨k, hx, rfl⟩
  · have hrf : r = true := by
      rw [← Hr.out]
      unfold agreeB
      rw [List.all_eq_true]
      intro x hx
      simpa using hz x hx
    subst hrf
    clear hz
    go_wp2
    go_ret
    exact ⟨rfl, HB.out⟩
  · have hrt : r = false := by
      rw [← Hr.out]
      unfold agreeB
      rw [List.all_eq_false]
      obtain ⟨x, h1, h2⟩ := hx
      exact ⟨x, h1, by simpa using h2⟩
    subst hrt
    have hk0 : (0 : Int) ≤ (k : Int) := by omega
    clear hx
    go_wp2
    go_ret
    exact ⟨by simp, HB.out⟩
end Go.Proofs.YtfojimaafhpgbaaDoor
