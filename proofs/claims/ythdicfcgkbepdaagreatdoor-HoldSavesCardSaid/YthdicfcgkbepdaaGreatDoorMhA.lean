/- The document's model of a hold in memory; its Get; SameVersions. -/
import Derived.Test.YthdicfcgkbepdaaGreatDoorHld
import Derived.Test.YthdicfcgkbepdaaGreatDoorMsgS
import Derived.Test.YthdicfcgkbepdaaGreatDoorRec
import Derived.Deep.QuietTactic
import Derived.BigQuiet
namespace Go.Proofs.YthdicfcgkbepdaaGreatDoor
section
open Go.RowKit

/-- a version that is kept under a key. -/
abbrev Kp := ByteArray × Ver
def encKp (p : Kp) : List Value := .string p.1 :: encVr p.2
def kp0 : Kp := (⟨#[]⟩, ver0)
/-- rows of the model that are read. -/
def KpR (n₀ : Nat) (w : World) (a : Option Addr) (l : List Kp) : Prop :=
  l = [] ∨ ∃ b off, a = some ⟨b, off, none⟩ ∧ b < n₀ ∧ ∀ i, i < l.length → w.cell? ⟨b, off + i * 6, none⟩ = some (.string (l[i]?.getD kp0).1) ∧ w.cell? ⟨b, off + i * 6 + 1, none⟩ = some (.int .i64 (l[i]?.getD kp0).2.1) ∧
    w.cell? ⟨b, off + i * 6 + 1 + 1, none⟩ = some (.int .i64 (l[i]?.getD kp0).2.2.1) ∧ w.cell? ⟨b, off + i * 6 + 1 + 2, none⟩ = some (.int .i64 (l[i]?.getD kp0).2.2.2.1) ∧
    w.cell? ⟨b, off + i * 6 + 1 + 3, none⟩ = some (.int .i64 (l[i]?.getD kp0).2.2.2.2.1) ∧ w.cell? ⟨b, off + i * 6 + 1 + 4, none⟩ = some (.string (l[i]?.getD kp0).2.2.2.2.2)
theorem KpR.below {n₀ : Nat} {A B : World} (h : Below n₀ A B) {a : Option Addr} {l : List Kp} : KpR n₀ A a l → KpR n₀ B a l
  | .inl e => .inl e
  | .inr ⟨b, off, e, hb, hc⟩ => .inr ⟨b, off, e, hb, fun i hi => by
    obtain ⟨h0, h1, h2, h3, h4, h5⟩ := hc i hi
    exact ⟨(h.cell (p := ⟨b, _, none⟩) hb).trans h0, (h.cell (p := ⟨b, _, none⟩) hb).trans h1, (h.cell (p := ⟨b, _, none⟩) hb).trans h2, (h.cell (p := ⟨b, _, none⟩) hb).trans h3, (h.cell (p := ⟨b, _, none⟩) hb).trans h4, (h.cell (p := ⟨b, _, none⟩) hb).trans h5⟩⟩
theorem KpR.mono {n₀ n₁ : Nat} {A : World} (h : n₀ ≤ n₁) {a : Option Addr} {l : List Kp} : KpR n₀ A a l → KpR n₁ A a l
  | .inl e => .inl e
  | .inr ⟨b, off, e, hb, hc⟩ => .inr ⟨b, off, e, by omega, hc⟩
theorem KpR.of_rec {n₀ : Nat} {w : World} {a : Option Addr} {l : List Kp} (h : RecR 6 n₀ w a (l.map encKp)) : KpR n₀ w a l := by
  rcases h with he | ⟨b, off, e, hb, hc⟩
  · left
    simpa using he
  · refine .inr ⟨b, off, e, hb, fun i hi => ?_⟩
    have hi2 : i < (l.map encKp).length := by simpa using hi
    have hel : (l.map encKp)[i]?.getD [] = encKp (l[i]?.getD kp0) := by simp [List.getElem?_eq_getElem hi]
    have k0 := hc i 0 hi2 (by decide)
    have k1 := hc i 1 hi2 (by decide)
    have k2 := hc i 2 hi2 (by decide)
    have k3 := hc i 3 hi2 (by decide)
    have k4 := hc i 4 hi2 (by decide)
    have k5 := hc i 5 hi2 (by decide)
    rw [hel] at k0 k1 k2 k3 k4 k5
    exact ⟨k0, k1, k2, k3, k4, k5⟩
/-- the document's hold lies at mb. -/
structure MHAt (G : Nat → Prop) (w : World) (mb : Nat) (sd : Bool) (l : List Kp) : Prop where
  hG : G mb
  hlt : mb < w.heap.size
  c1 : w.cell? ⟨mb, 1, none⟩ = some (.bool sd)
  f0 : w.frozen? ⟨mb, 0, none⟩ = false
  f1 : w.frozen? ⟨mb, 1, none⟩ = false
  c0 : ∃ a cap, w.cell? ⟨mb, 0, none⟩ = some (.slice a l.length cap) ∧ l.length ≤ cap ∧ cap ≤ maxLen ∧ (a = none → cap = 0) ∧ (∀ x, a = some x → G x.block ∧ x.block ≠ mb) ∧ KpR w.heap.size w a l
theorem MHAt.kept {G F : Nat → Prop} {w w' : World} {mb : Nat} {sd : Bool} {l : List Kp} (h : MHAt G w mb sd l) (hk : KeptBut F w w') (hd : ∀ b, b < w.heap.size → G b → ¬ F b) : MHAt G w' mb sd l := by
  have eb : w'.heap[mb]? = w.heap[mb]? := hk.block mb h.hlt (hd mb h.hlt h.hG)
  have ec : ∀ j, w'.cell? ⟨mb, j, none⟩ = w.cell? ⟨mb, j, none⟩ := fun j => World.cell?_of_block (a := ⟨mb, j, none⟩) eb
  have ef : ∀ j, w'.frozen? ⟨mb, j, none⟩ = w.frozen? ⟨mb, j, none⟩ := fun j => World.frozen?_of_block (a := ⟨mb, j, none⟩) eb
  obtain ⟨a, cap, h1, h2, h3, h4, h5, h6⟩ := h.c0
  refine ⟨h.hG, Nat.lt_of_lt_of_le h.hlt hk.size, (ec 1).trans h.c1, (ef 0).trans h.f0, (ef 1).trans h.f1, a, cap, (ec 0).trans h1, h2, h3, h4, h5, ?_⟩
  rcases h6 with he | ⟨b, off, rfl, hb, hc⟩
  · exact .inl he
  · have hbb : w'.heap[b]? = w.heap[b]? := hk.block b hb (hd b hb (h5 _ rfl).1)
    have hcc : ∀ o, w'.cell? ⟨b, o, none⟩ = w.cell? ⟨b, o, none⟩ := fun o => World.cell?_of_block (a := ⟨b, o, none⟩) hbb
    refine .inr ⟨b, off, rfl, Nat.lt_of_lt_of_le hb hk.size, fun i hi => ?_⟩
    obtain ⟨k0, k1, k2, k3, k4, k5⟩ := hc i hi
    exact ⟨(hcc _).trans k0, (hcc _).trans k1, (hcc _).trans k2, (hcc _).trans k3, (hcc _).trans k4, (hcc _).trans k5⟩
theorem MHAt.below {G : Nat → Prop} {w w' : World} {mb : Nat} {sd : Bool} {l : List Kp} (h : MHAt G w mb sd l) {n : Nat} (hk : Below n w w') (hn : w.heap.size ≤ n) : MHAt G w' mb sd l :=
  h.kept (KeptBut.of_below (F := fun b => n ≤ b) hk (fun _ _ h => h)) (fun _ hb _ => Nat.not_le_of_lt (Nat.lt_of_lt_of_le hb hn))
/-- the versions of a key. -/
def getL (l : List Kp) (key : ByteArray) : List Ver := (l.filter fun p => decide (p.1 = key)).map (·.2)
theorem getL_take {l : List Kp} {key : ByteArray} {i : Nat} (hi : i < l.length) : getL (l.take (i + 1)) key = getL (l.take i) key ++ (if (l[i]?.getD kp0).1 = key then [(l[i]?.getD kp0).2] else []) := by
  unfold getL
  rw [List.take_succ_eq_append_getElem hi, List.filter_append, List.map_append, List.getElem?_eq_getElem hi]
  simp only [Option.getD_some, List.filter_cons, List.filter_nil]
  by_cases h : l[i].1 = key
  · rw [if_pos (by simpa using h), if_pos h]; rfl
  · rw [if_neg (by simpa using h), if_neg h]; rfl
theorem getL_le (l : List Kp) (key : ByteArray) : (getL l key).length ≤ l.length := by
  unfold getL; rw [List.length_map]; exact List.length_filter_le _ _
set_option maxRecDepth 100000 in
set_option maxHeartbeats 4000000 in
theorem mget_walk (G : Nat → Prop) (w : World) (mb : Nat) (sd : Bool) (l : List Kp) (key : ByteArray) (h : MHAt G w mb sd l) (hl : l.length ≤ 1000) :
    Calls Tryz.prog 36 #[.pointer (some ⟨mb, 0, none⟩), .string key] w fun e w' => VCloneOut w w' (getL l key) e := by
  have HM := Lib.hid h
  obtain ⟨n, hn⟩ : ∃ n, l.length = n := ⟨_, rfl⟩
  have Hn := Lib.hid hn
  rw [hn] at hl
  clear h hn
  go_enter Tryz.func36, Tryz.ntmps36
  go_wp2
  go_loopw [5, 6] (fun vo vi wr => ∃ i : Nat, i ≤ n ∧ vi = .int .i64 i ∧ Hid (OwnV w.heap.size wr vo (getL (l.take i) key) ∧ Below w.heap.size w wr)) (fun _ i _ => n - (intOf i).toNat)
  case atStart => exact ⟨0, by omega, rfl, Lib.hid ⟨by simpa [getL] using OwnV.nil _ _, Below.refl _ _⟩⟩
  case round =>
    obtain ⟨i, hi, rfl, Hr⟩ := hrel
    have hM := HM.out.below Hr.out.2 (Nat.le_refl _)
    obtain ⟨a, cap, c0, hc, hcm, ha, _, hR⟩ := hM.c0
    rw [Hn.out] at c0 hc
    have hi2 : i < n ∨ i = n := by omega
    rcases hi2 with hilt | rfl
    · have hilt2 : (i : Int) < n := by omega
      have hil : i < l.length := by have := Hn.out; omega
      rcases hR with he | ⟨b, off, rfl, hbl, hcx⟩
      · exfalso
        rw [he] at hil; simp at hil
      obtain ⟨k0, k1, k2, k3, k4, k5⟩ := hcx i hil
      have hgt := getL_take (key := key) hil
      obtain ⟨⟨x, y1, y2, y3, y4, y5⟩, hx⟩ : ∃ x, l[i]?.getD kp0 = x := ⟨_, rfl⟩
      rw [hx] at k0 k1 k2 k3 k4 k5 hgt
      dsimp only at k0 k1 k2 k3 k4 k5 hgt
      have Hgt := Lib.hid hgt
      clear hcx hx hgt hM ha hc hcm hbl hil
      by_cases hk : x = key
      · subst hk
        have hown := Lib.hid Hr.out.1
        have hB1 : Below wr.heap.size wr (wr.alloc (.cells #[.int .i64 y1, .int .i64 y2, .int .i64 y3, .int .i64 y4, .string y5] 49)) := (Below.refl _ _).alloc (Nat.le_refl _) _
        have hone : OneV (wr.alloc (.cells #[.int .i64 y1, .int .i64 y2, .int .i64 y3, .int .i64 y4, .string y5] 49)) wr.heap.size (y1, y2, y3, y4, y5) := OneV.new wr (y1, y2, y3, y4, y5)
        have HA := Lib.hid (And.intro (hown.out.below hB1 (Nat.le_refl _)) (And.intro hone.read (And.intro (show (getL (l.take i) x).length + [((y1, y2, y3, y4, y5) : Ver)].length ≤ 1000000 by
          have h1 := getL_le (l.take i) x
          have h2 := List.length_take_le i l
          simp; omega) (show w.heap.size ≤ (wr.alloc (.cells #[.int .i64 y1, .int .i64 y2, .int .i64 y3, .int .i64 y4, .string y5] 49)).heap.size by have := Hr.out.2.size; simp; omega))))
        have Hbb := Lib.hid (Hr.out.2.trans (hB1.mono Hr.out.2.size))
        clear hB1 hone
        go_wp2_with (at_builtin; refine append_vers 26 35 rfl rfl w.heap.size _ (getL (l.take i) x) _ (some ⟨wr.heap.size, 0, none⟩) 1 1 [(y1, y2, y3, y4, y5)] rfl rfl HA.out.1 rfl HA.out.2.2.1 (fun e => by cases e) HA.out.2.1 HA.out.2.2.2 ?_)
        intro v' w' q1 q2 _ _
        have HR : Hid (OwnV w.heap.size w' v' (getL (l.take (i + 1)) x) ∧ Below w.heap.size w w') := Lib.hid ⟨by rw [Hgt.out, if_pos (by trivial)]; exact q1, Hbb.out.grown q2 HA.out.2.2.2 (fun j e => (hown.out.lt j e).1)⟩
        clear q1 q2 hown k0 k1 k2 k3 k4 k5
        go_wp2
        go_roundw
        case rel => exact ⟨i + 1, by omega, by go_num, HR⟩
        case measure => simp [intOf]; omega
      · have e1 := txt_neV hk
        have HR : Hid (OwnV w.heap.size wr u5 (getL (l.take (i + 1)) key) ∧ Below w.heap.size w wr) := Lib.hid ⟨by rw [Hgt.out, if_neg hk, List.append_nil]; exact Hr.out.1, Hr.out.2⟩
        clear hk
        go_wp2
        go_roundw
        case rel => exact ⟨i + 1, by omega, by go_num, HR⟩
        case measure => simp [intOf]; omega
    · have hall : l.take i = l := List.take_of_length_le (by have := Hn.out; omega)
      have HR : Hid (OwnV w.heap.size wr u5 (getL l key) ∧ Below w.heap.size w wr) := Lib.hid (by have h := Hr.out; rw [hall] at h; exact h)
      clear hall hM hR ha hc hcm
      go_wp2
      go_ret
      exact ⟨HR.out.2, _, rfl, HR.out.1⟩
end
end Go.Proofs.YthdicfcgkbepdaaGreatDoor
