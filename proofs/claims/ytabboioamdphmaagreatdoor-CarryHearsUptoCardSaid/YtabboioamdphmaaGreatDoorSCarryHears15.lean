/- Slices of texts: that are read, that come in, that are the call's own. -/
import Derived.Test.YtabboioamdphmaaGreatDoorSCarryHears01
import Derived.SliceStrings
import Derived.Maps.AppendAt
import Derived.Laws.AppendOwnNone
import Derived.Test.YtabboioamdphmaaGreatDoorSCarryHears13
import Derived.Lib.ConvBytes
namespace Go.Proofs.YtabboioamdphmaaGreatDoor
open Go.RowKit Go.ChangeShapes Go.WideShapes

def TxsAt (n₀ : Nat) (w : World) (a : Option Addr) (L : List ByteArray) : Prop :=
  L = [] ∨ ∃ b off, a = some ⟨b, off, none⟩ ∧ b < n₀ ∧ ∀ j, j < L.length → w.cell? ⟨b, off + j, none⟩ = some (.string (L[j]?.getD ⟨#[]⟩))
theorem TxsAt.below {n₀ : Nat} {A B : World} (h : Below n₀ A B) {a : Option Addr} {L : List ByteArray} : TxsAt n₀ A a L → TxsAt n₀ B a L
  | .inl e => .inl e
  | .inr ⟨b, off, e, hb, hc⟩ => .inr ⟨b, off, e, hb, fun j hj => (h.cell (p := ⟨b, off + j, none⟩) hb).trans (hc j hj)⟩
theorem TxsAt.mono {n₀ n₁ : Nat} {A : World} (h : n₀ ≤ n₁) {a : Option Addr} {L : List ByteArray} : TxsAt n₀ A a L → TxsAt n₁ A a L
  | .inl e => .inl e
  | .inr ⟨b, off, e, hb, hc⟩ => .inr ⟨b, off, e, by omega, hc⟩
theorem TxsAt.take {n₀ : Nat} {A : World} {a : Option Addr} {L : List ByteArray} (k : Nat) : TxsAt n₀ A a L → TxsAt n₀ A a (L.take k)
  | .inl e => .inl (by rw [e]; simp)
  | .inr ⟨b, off, e, hb, hc⟩ => .inr ⟨b, off, e, hb, fun j hj => by
      have hj' : j < L.length := by simp at hj; omega
      have hk : j < k := by simp at hj; omega
      rw [hc j hj', List.getElem?_take, if_pos hk]⟩
structure TxsIn (w : World) (a : Option Addr) (len cap : Nat) (L : List ByteArray) : Prop where
  len_ : L.length = len
  cap_ : len ≤ cap
  max_ : cap ≤ maxLen
  nil_ : a = none → cap = 0
  siz_ : ∀ s ∈ L, s.size ≤ maxLen
  txs : TxsAt w.heap.size w a L
theorem TxsIn.sizeAt {w : World} {a : Option Addr} {len cap : Nat} {L : List ByteArray} (h : TxsIn w a len cap L) (j : Nat) : (L[j]?.getD ⟨#[]⟩).size ≤ maxLen := by
  by_cases hj : j < L.length
  · rw [List.getElem?_eq_getElem hj]; exact h.siz_ _ (List.getElem_mem hj)
  · rw [List.getElem?_eq_none (by omega)]; exact Nat.zero_le _
theorem cellsOfStr : Tryz.prog.cellsOf 9 = 1 := by kernel_rfl
theorem text_at {w : World} {x : Addr} {n : Nat} {V : Nat → Value} (h : ∀ i, i < n → w.cell? (x.add i) = some (V i)) (hp : 0 < n) : ∃ b off, x = ⟨b, off, none⟩ ∧ b < w.heap.size ∧ ∀ j, j < n → w.cell? ⟨b, off + j, none⟩ = some (V j) := by
  obtain ⟨b, off, spot⟩ := x
  have hspot : spot = none := by simpa [Addr.add] using World.cell?_spot (h 0 hp)
  subst hspot
  have hc : ∀ j, j < n → w.cell? ⟨b, off + j, none⟩ = some (V j) := fun j hj => by rw [← Go.WideShapes.add_plain]; exact h j hj
  refine ⟨b, off, rfl, ?_, hc⟩
  have h1 := hc 0 hp
  rcases Nat.lt_or_ge b w.heap.size with h | h
  · exact h
  · simp [World.cell?, Array.getElem?_eq_none h] at h1
theorem texts_of_trod {H : Type} {enc : TypeId × Value → H} {W : World} {v : Value} {fuel : Nat} {x : DataW H × List MemPlace} (h : DataW.trod enc Tryz.prog W 0 (fun _ => true) true fuel 22 [v] = some x) :
    ∃ a len cap L, v = .slice a len cap ∧ TxsIn W a len cap L := by
  rcases open_strings Tryz.underlying22 Tryz.underlying9 cellsOfStr h with ⟨hcs, _⟩ | ⟨x, l, c, ss, hcs, _, hl, hm, hz, _, hcell, hsz⟩
  · simp at hcs
    subst hcs
    exact ⟨none, 0, 0, [], rfl, rfl, Nat.le_refl _, by simp [maxLen], fun _ => rfl, (fun _ h => by cases h), .inl rfl⟩
  · simp at hcs
    subst hcs
    rw [if_pos rfl] at hz
    subst hz
    refine ⟨some x, l, ss.length, ss.take l, rfl, by simp; omega, hl, hm, (fun e => by cases e), fun s hs => hsz s (List.mem_of_mem_take hs), ?_⟩
    by_cases h0 : l = 0
    · left; subst h0; simp
    · obtain ⟨b, off, rfl, hb, hc⟩ := text_at hcell (by omega)
      refine .inr ⟨b, off, rfl, hb, fun j hj => ?_⟩
      have hj2 : j < l := by simp at hj; omega
      have hj3 : j < ss.length := by omega
      rw [hc j hj3, List.getElem?_take, if_pos hj2]
      simp [List.getD, List.getElem?_eq_getElem hj3]
def OwnT (B : Nat) (w : World) (v : Value) (L : List ByteArray) : Prop := Own1 9 B w v (L.map Value.string)
theorem OwnT.nil (B : Nat) (w : World) : OwnT B w (.slice none 0 0) [] := World.ownsRow_nil _ _ _ _
theorem OwnT.read {B : Nat} {w : World} {v : Value} {L : List ByteArray} (h : OwnT B w v L) : ∃ a cap, v = .slice a L.length cap ∧ L.length ≤ cap ∧ cap ≤ maxLen ∧ (a = none → cap = 0) ∧ TxsAt w.heap.size w a L := by
  rcases Own1.shape h with ⟨rfl, hl⟩ | ⟨g, cap, rfl, _, hg, hc, hm, _, hcell⟩
  · have : L = [] := by simpa using hl
    subst this
    exact ⟨none, 0, rfl, by simp, by simp [maxLen], fun _ => rfl, .inl rfl⟩
  · refine ⟨_, cap, by simp, by simpa using hc, hm, (fun e => by cases e), .inr ⟨g, 0, rfl, hg, fun j hj => ?_⟩⟩
    rw [Nat.zero_add, hcell j (by simpa using hj)]
    simp [hj]
theorem info_text : (Tryz.prog.info? 9).map (fun i => (i.zero, i.size, i.bytes)) = some (some (.string ⟨#[]⟩), 1, 16) := by kernel_rfl
theorem append_txts {ops : Array Oper} {rest : List Oper} {o : Oper} {a : Act} {Q : Exit → Act → World → Prop} {w : World} (s x : Nat) (hgd : o.guard = none)
    (ho : o.op = .call { callee := .builtin .append, args := #[.tmp s, .tmp x], argTypes := #[22, 22] }) (B : Nat) (v : Value) (L : List ByteArray) (n₀ : Nat) (ad : Option Addr) (len cap : Nat) (M : List ByteArray)
    (hs : a.eval (.tmp s) = v) (hx : a.eval (.tmp x) = .slice ad len cap) (hown : OwnT B w v L) (hlen : M.length = len) (hl : L.length + M.length ≤ 1000000) (ha : ad = none → cap = 0) (hI : TxsAt n₀ w ad M) (hB : B ≤ w.heap.size)
    (h : ∀ v' w', OwnT B w' v' (L ++ M) → w.grownBy w' v.ownBlock → (v'.ownBlock = v.ownBlock ∨ v'.ownBlock = some w.heap.size) → wpList Tryz.prog ops Q rest (a.put o.dst v') w') :
    wpList Tryz.prog ops Q (o :: rest) a w := by
  obtain ⟨i, hi, hz0, hz1, hz2⟩ := info_parts info_text
  subst hlen
  have hown' : w.ownsRow B 9 1 v L.length (L.map Value.string) := by
    have h0 := hown
    unfold OwnT Own1 at h0
    simpa using h0
  have at_ : ∀ y : Addr, ad = some y → (∀ j u, (M.map Value.string)[j]? = some u → w.cell? (y.add j) = some u) → wpList Tryz.prog ops Q (o :: rest) a w := fun y e hc => by
    refine wpList_append_own_at _ hgd (.tmp s) (.tmp x) 22 ho B 9 i _ 1 16 Tryz.underlying22 hi hz0 hz1 hz2 rfl (by decide) v L.length (L.map Value.string) hs hown' y M.length cap (M.map Value.string) (hx.trans (by rw [e])) (by simp) hc (fun u hu => ?_) (by unfold maxLen; omega) (by omega) hB ?_
    · obtain ⟨t, _, rfl⟩ := List.mem_map.1 hu
      rfl
    · intro v' w' h1 h2 _ h4
      refine h v' w' ?_ h2 h4
      unfold OwnT Own1
      rw [List.map_append]
      simpa using h1
  rcases hI with rfl | ⟨b, off, e, _, hcell⟩
  · cases ad with
    | none =>
      obtain rfl := ha rfl
      refine wpList_append_own_none hgd (.tmp s) (.tmp x) 22 ho B 9 i 1 Tryz.underlying22 hi v L.length (L.map Value.string) hs hown' hx ?_
      exact h v w (by simpa using hown) (World.grownBy.refl _ _) (.inl rfl)
    | some ad => exact at_ ad rfl (fun j u hj => by simp at hj)
  · refine at_ _ e (fun j u hj => ?_)
    have hj2 : j < M.length := by have := (List.getElem?_eq_some_iff.1 hj).1; simpa using this
    rw [Go.WideShapes.add_plain, hcell j hj2, ← hj]
    simp [List.getElem?_eq_getElem hj2]
end Go.Proofs.YtabboioamdphmaaGreatDoor
/- The walks of names: ring.Name, the document's IsName. -/
namespace Go.Proofs.YtabboioamdphmaaGreatDoor
open Go.RowKit

def letB (x : Int) : Bool := decide ((97 ≤ x ∧ x ≤ 122) ∨ (48 ≤ x ∧ x ≤ 57) ∨ x = 45)
theorem letB_of (c : UInt8) : letB (c.toNat : Int) = letterB c := by unfold letB letterB; rw [decide_eq_decide]; omega
theorem letB_no {x : Int} (h : ¬ ((97 ≤ x ∧ x ≤ 122) ∨ (48 ≤ x ∧ x ≤ 57) ∨ x = 45)) : letB x = false := decide_eq_false h
theorem letB_yes {x : Int} (h : (97 ≤ x ∧ x ≤ 122) ∨ (48 ≤ x ∧ x ≤ 57) ∨ x = 45) : letB x = true := decide_eq_true h
theorem bytesWorld_below (w : World) (e : TypeId) (s : ByteArray) : Below w.heap.size w (Lib.bytesWorld w e s) :=
  ⟨by simp [Lib.bytesWorld, World.freeze, World.alloc, World.drew, -World.alloc_eq, -World.drew_eq], by simp [Lib.bytesWorld, World.freeze, World.alloc, World.drew, -World.alloc_eq, -World.drew_eq],
    by simp [Lib.bytesWorld, World.freeze, World.alloc, World.drew, -World.alloc_eq, -World.drew_eq], by rw [Lib.bytesWorld_size]; omega, fun k hk => Lib.bytesWorld_at_old w e s k hk⟩

set_option maxRecDepth 100000 in
set_option maxHeartbeats 4000000 in
theorem letter_walk (x : Int) (w : World) :
    Calls Tryz.prog 60 #[.int .u8 x] w fun e w' => e = .returned (.bool (!letB x)) ∧ w = w' := by
  by_cases h5 : x = 45
  · subst h5
    go_enter Tryz.func60, Tryz.ntmps60
    go_wp2
    go_ret
    exact ⟨rfl, rfl⟩
  · have h5a : (x == 45) = false := by simpa using h5
    have h5b : (x != 45) = true := by simpa using h5
    rcases (show x < 48 ∨ (48 ≤ x ∧ x ≤ 57) ∨ (57 < x ∧ x < 97) ∨ (97 ≤ x ∧ x ≤ 122) ∨ 122 < x by omega) with h | h | h | h | h
    case' inl =>
      have h1 : x < 97 := by omega
      rw [letB_no (by omega)]
    case' inr.inl =>
      have h1 : x < 97 := by omega
      have h2 : ¬ x < 48 := by omega
      have h3 : ¬ 57 < x := by omega
      rw [letB_yes (by omega)]
    case' inr.inr.inl =>
      have h1 : x < 97 := by omega
      have h2 : ¬ x < 48 := by omega
      have h3 : 57 < x := by omega
      rw [letB_no (by omega)]
    case' inr.inr.inr.inl =>
      have h1 : ¬ x < 97 := by omega
      have h2 : ¬ 122 < x := by omega
      rw [letB_yes (by omega)]
    case' inr.inr.inr.inr =>
      have h1 : ¬ x < 97 := by omega
      have h2 : ¬ x < 48 := by omega
      have h3 : 57 < x := by omega
      rw [letB_no (by omega)]
    all_goals
      clear h5
      go_enter Tryz.func60, Tryz.ntmps60
      go_wp2
      go_ret
      exact ⟨rfl, rfl⟩
set_option maxRecDepth 100000 in
set_option maxHeartbeats 2000000 in
theorem nameI_walk (b cap m : Nat) (f : Nat → Int) (w : World) (hm : m ≤ maxLen) (hc : ∀ j, j < m → w.cell? ⟨b, j, none⟩ = some (.int .u8 (f j))) :
    Calls Tryz.prog 82 #[.slice (some ⟨b, 0, none⟩) m cap, .func (.func 60) #[] #[]] w
      fun e w' => (((∀ j, j < m → letB (f j) = true) ∧ e = .returned (.int .i64 (-1))) ∨ ∃ k, k < m ∧ letB (f k) = false ∧ e = .returned (.int .i64 (k : Nat))) ∧ w = w' := by
  have hm' : m ≤ 9223372036854775807 := hm
  have Hc := Lib.hid hc; clear hc
  go_enter Tryz.func82, Tryz.ntmps82
  go_wp2
  go_loop [8] (fun vi => ∃ k : Nat, k ≤ m ∧ vi = .int .i64 k ∧ ∀ j, j < k → letB (f j) = true) (fun i => m - (intOf i).toNat)
  case atStart => exact ⟨0, by omega, rfl, fun j hj => by omega⟩
  case round =>
    obtain ⟨k, hk, rfl, hz⟩ := hrel
    have Hz := Lib.hid hz; clear hz
    have hk2 : k < m ∨ k = m := by omega
    rcases hk2 with hlt | rfl
    · have hlt2 : (k : Int) < m := by omega
      have h1 := Hc.out k hlt
      have Hp := Lib.hid (letter_walk (f k) w)
      cases hx : letB (f k) with
      | true =>
        rw [hx] at Hp
        have Hx := Lib.hid hx; clear hx
        go_wp2_with (go_at_call 60; refine Hp.out.mono ?_; rintro e w' ⟨rfl, rfl⟩)
        go_round
        case rel => exact ⟨k + 1, by omega, by go_num, fun j hj => by
          by_cases e : j = k
          · rw [e, Hx.out]
          · exact Hz.out j (by omega)⟩
        case measure => simp [intOf]; omega
      | false =>
        rw [hx] at Hp
        have Hx := Lib.hid hx; clear hx
        go_wp2_with (go_at_call 60; refine Hp.out.mono ?_; rintro e w' ⟨rfl, rfl⟩)
        go_ret
        exact ⟨.inr ⟨k, hlt, Hx.out, rfl⟩, rfl⟩
    · go_wp2
      go_ret
      exact ⟨.inl ⟨Hz.out, rfl⟩, rfl⟩
theorem nameC_walk (b cap m : Nat) (f : Nat → Int) (w : World) (r : Bool) (hm : m ≤ maxLen) (hc : ∀ j, j < m → w.cell? ⟨b, j, none⟩ = some (.int .u8 (f j))) (hr : r = true ↔ ∀ j, j < m → letB (f j) = true) :
    Calls Tryz.prog 59 #[.slice (some ⟨b, 0, none⟩) m cap, .func (.func 60) #[] #[]] w fun e w' => e = .returned (.bool (!r)) ∧ w = w' := by
  have Hi := Lib.hid (nameI_walk b cap m f w hm hc)
  have Hr := Lib.hid hr
  clear hc hr
  go_enter Tryz.func59, Tryz.ntmps59
  go_wp2_with fail
  refine Hi.out.mono ?_
  rintro e w' ⟨⟨h, rfl⟩ | ⟨k, hk, hf, rfl⟩, rfl⟩
  · have hrt : r = true := Hr.out.2 h
    clear h
    subst hrt
    go_wp2
    go_ret
    exact ⟨rfl, rfl⟩
  · have hrf : r = false := by
      cases r with
      | false => rfl
      | true => exact absurd (Hr.out.1 rfl k hk) (by rw [hf]; decide)
    have hk0 : (0 : Int) ≤ (k : Int) := by omega
    clear hf
    subst hrf
    go_wp2
    go_ret
    exact ⟨by simp, rfl⟩
theorem nameB_iff (s : ByteArray) (h : 1 ≤ s.size ∧ s.size ≤ 16) : nameB s = true ↔ ∀ j, j < s.size → letB ((s.data.toList.getD j 0).toNat : Int) = true := by
  unfold nameB
  rw [decide_eq_true h, Bool.true_and, List.all_eq_true]
  constructor
  · intro ha j hj
    have hj2 : j < s.data.toList.length := by simpa using hj
    rw [letB_of, List.getD_eq_getElem?_getD, List.getElem?_eq_getElem hj2]
    exact ha _ (List.getElem_mem hj2)
  · intro ha c hc
    obtain ⟨j, hj, rfl⟩ := List.getElem_of_mem hc
    have := ha j (by simpa using hj)
    rw [letB_of, List.getD_eq_getElem?_getD, List.getElem?_eq_getElem hj] at this
    exact this
theorem nameB_size {s : ByteArray} (h : ¬ (1 ≤ s.size ∧ s.size ≤ 16)) : nameB s = false := by
  unfold nameB
  rw [decide_eq_false h]; rfl
theorem empty_of_size {s : ByteArray} (h : s.size = 0) : s = ⟨#[]⟩ := by
  obtain ⟨a⟩ := s
  exact congrArg ByteArray.mk (Array.size_eq_zero_iff.1 h)
theorem ne_empty {s : ByteArray} (h : s.size ≠ 0) : (s.toList == ([] : List UInt8)) = false ∧ (s.toList != ([] : List UInt8)) = true ∧ s.toList.isEmpty = false := by
  have hl : s.toList ≠ [] := by
    rw [ByteArray.toList_eq]
    intro e
    apply h
    have : s.data.toList.length = 0 := by rw [e]; rfl
    simpa using this
  refine ⟨by simpa using hl, by simpa using hl, ?_⟩
  cases hs : s.toList with
  | nil => exact absurd hs hl
  | cons _ _ => rfl
set_option maxRecDepth 100000 in
set_option maxHeartbeats 2000000 in
theorem name_walk (s : ByteArray) (w : World) (hs : s.size ≤ maxLen) :
    Calls Tryz.prog 34 #[.string s] w fun e w' => e = .returned (.bool (nameB s)) ∧ Below w.heap.size w w' := by
  by_cases h0 : s.size = 0
  · rw [nameB_size (by omega)]
    have := empty_of_size h0
    subst this
    go_enter Tryz.func34, Tryz.ntmps34
    go_wp2
    go_ret
    exact ⟨rfl, Below.refl _ _⟩
  obtain ⟨e1, e2, e3⟩ := ne_empty h0
  by_cases h1 : 16 < s.size
  · rw [nameB_size (by omega)]
    have h2 : ¬ (s.size : Int) ≤ 16 := by omega
    have h3 : decide (s.size ≤ 16) = false := by simp; omega
    clear h0 h1
    go_enter Tryz.func34, Tryz.ntmps34
    go_wp2
    go_ret
    exact ⟨rfl, Below.refl _ _⟩
  · have h2 : (s.size : Int) ≤ 16 := by omega
    have h3 : decide (s.size ≤ 16) = true := by simp; omega
    have hcv := Lib.run_convert_string_bytes (P := Tryz.prog) w 9 112 5 s Tryz.underlying9 Tryz.underlying112 Tryz.underlying5
    have Hi := Lib.hid (nameB_iff s (by omega))
    obtain ⟨r, hr⟩ : ∃ r, nameB s = r := ⟨_, rfl⟩
    rw [hr] at Hi ⊢
    have Hc := Lib.hid (nameC_walk w.heap.size (grownCap w s.size 0 5) s.size (fun j => ((s.data.toList.getD j 0).toNat : Int)) (Lib.bytesWorld w 5 s) r hs (fun j hj => Lib.bytesWorld_cell w _ s j hj) Hi.out)
    have Hb := Lib.hid (bytesWorld_below w 5 s)
    obtain ⟨W, hW⟩ : ∃ W, Lib.bytesWorld w 5 s = W := ⟨_, rfl⟩
    obtain ⟨cp, hcp⟩ : ∃ cp, grownCap w s.size 0 5 = cp := ⟨_, rfl⟩
    rw [hW] at hcv Hc Hb
    rw [hcp] at hcv Hc
    clear h0 h1 hr hW hcp
    go_enter Tryz.func34, Tryz.ntmps34
    go_wp2_with fail
    refine Hc.out.mono ?_
    rintro e w' ⟨rfl, rfl⟩
    go_wp2
    go_ret
    exact ⟨by simp, Hb.out⟩
set_option maxRecDepth 100000 in
set_option maxHeartbeats 4000000 in
theorem rname_walk (s : ByteArray) (w : World) (hs : s.size ≤ maxLen) :
    Calls Tryz.prog 11 #[.string s] w fun e w' => e = .returned (.bool (nameB s)) ∧ w = w' := by
  by_cases h0 : s.size = 0
  · rw [nameB_size (by omega)]
    have := empty_of_size h0
    subst this
    go_enter Tryz.func11, Tryz.ntmps11
    go_wp2
    go_ret
    exact ⟨rfl, rfl⟩
  have g1 : ¬ (s.size : Int) < 1 := by omega
  have g1d : decide (s.size < 1) = false := decide_eq_false (by omega)
  by_cases h1 : 16 < s.size
  · rw [nameB_size (by omega)]
    have h2 : (16 : Int) < s.size := by omega
    have h3 : decide (16 < s.size) = true := by simp; omega
    clear h0 h1
    go_enter Tryz.func11, Tryz.ntmps11
    go_wp2
    go_ret
    exact ⟨rfl, rfl⟩
  · have h2 : ¬ (16 : Int) < s.size := by omega
    have h3 : decide (16 < s.size) = false := by simp; omega
    have Hi := Lib.hid (nameB_iff s (by omega))
    obtain ⟨r, hr⟩ : ∃ r, nameB s = r := ⟨_, rfl⟩
    rw [hr] at Hi ⊢
    clear h0 h1 hr
    go_enter Tryz.func11, Tryz.ntmps11
    go_wp2
    go_loop [3] (fun vi => ∃ k : Nat, k ≤ s.size ∧ vi = .int .i64 k ∧ Hid (∀ j, j < k → letB ((s.data.toList.getD j 0).toNat : Int) = true)) (fun i => s.size - (intOf i).toNat)
    case atStart => exact ⟨0, by omega, rfl, Lib.hid (fun j hj => by omega)⟩
    case round =>
      obtain ⟨k, hk, rfl, Hz⟩ := hrel
      have hk2 : k < s.size ∨ k = s.size := by omega
      rcases hk2 with hlt | rfl
      · have hlt2 : (k : Int) < s.size := by omega
        have hx : (((s[k]'hlt).toNat : Nat) : Int) = ((s.data.toList.getD k 0).toNat : Int) := by
          have hj2 : k < s.data.toList.length := by simpa using hlt
          rw [List.getD_eq_getElem?_getD, List.getElem?_eq_getElem hj2]
          rfl
        obtain ⟨x, hxx⟩ : ∃ x, ((s.data.toList.getD k 0).toNat : Int) = x := ⟨_, rfl⟩
        have Hx := Lib.hid hxx
        rw [hxx] at hx
        clear hxx
        by_cases h5 : x = 45
        case' pos =>
          have h5a : (x == 45) = true := by simpa using h5
          have hl : letB x = true := letB_yes (by omega)
          have a1 : ¬ 97 ≤ x := by omega
          have a2 : ¬ 48 ≤ x := by omega
        case' neg =>
          have h5a : (x == 45) = false := by simpa using h5
          rcases (show x < 48 ∨ (48 ≤ x ∧ x ≤ 57) ∨ (57 < x ∧ x < 97) ∨ (97 ≤ x ∧ x ≤ 122) ∨ 122 < x by omega) with h | h | h | h | h
          case' inl =>
            have a1 : ¬ 97 ≤ x := by omega
            have a2 : ¬ 48 ≤ x := by omega
            have hl : letB x = false := letB_no (by omega)
          case' inr.inl =>
            have a1 : ¬ 97 ≤ x := by omega
            have a2 : 48 ≤ x := by omega
            have a3 : x ≤ 57 := by omega
            have hl : letB x = true := letB_yes (by omega)
          case' inr.inr.inl =>
            have a1 : ¬ 97 ≤ x := by omega
            have a2 : 48 ≤ x := by omega
            have a3 : ¬ x ≤ 57 := by omega
            have hl : letB x = false := letB_no (by omega)
          case' inr.inr.inr.inl =>
            have a1 : 97 ≤ x := by omega
            have a2 : x ≤ 122 := by omega
            have hl : letB x = true := letB_yes (by omega)
          case' inr.inr.inr.inr =>
            have a1 : 97 ≤ x := by omega
            have a2 : ¬ x ≤ 122 := by omega
            have a3 : 48 ≤ x := by omega
            have a4 : ¬ x ≤ 57 := by omega
            have hl : letB x = false := letB_no (by omega)
        all_goals
          have Hl := Lib.hid hl
          clear hl h5
          go_wp2
          first
          | (go_round
             case rel => exact ⟨k + 1, by omega, by go_num, Lib.hid (fun j hj => by
              by_cases e : j = k
              · rw [e, Hx.out]; exact Hl.out
              · exact Hz.out j (by omega))⟩
             case measure => simp [intOf]; omega)
          | (have hrf : r = false := by
              cases r with
              | false => rfl
              | true =>
                have h9 := Hi.out.1 rfl k hlt
                rw [Hx.out, Hl.out] at h9
                cases h9
             subst hrf
             go_ret
             exact ⟨rfl, rfl⟩)
      · have hrt : r = true := Hi.out.2 Hz.out
        subst hrt
        go_wp2
        go_ret
        exact ⟨rfl, rfl⟩
end Go.Proofs.YtabboioamdphmaaGreatDoor
