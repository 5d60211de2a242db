/- The walk of the document's send. -/
import Derived.Test.YtabboioamdphmaaGreatDoorSCarryHears30
import Derived.Test.YtabboioamdphmaaGreatDoorSCarryHears28
import Derived.Test.YtabboioamdphmaaGreatDoorSCarryHears17
namespace Go.Proofs.YtabboioamdphmaaGreatDoor
section
open Go.RowKit Go.Maps Go.BigFrame

def MsgsM (B : Nat) (w : World) (v : Value) (l : List Msg) : Prop :=
  ∃ us : List (List Value), OwnRec 57 8 B w v us ∧ us.length = l.length ∧ ∀ j, j < l.length → ∃ ad cap, us[j]?.getD [] = encM (l[j]?.getD msg0) ad cap ∧ (l[j]?.getD msg0).L.length ≤ cap ∧ cap ≤ maxLen ∧ (ad = none → cap = 0) ∧ VrS (fun b => B ≤ b ∧ v.ownBlock ≠ some b) w ad (l[j]?.getD msg0).L
theorem MsgsM.nil (B : Nat) (w : World) : MsgsM B w (.slice none 0 0) [] := ⟨[], OwnRec.nil _ _ _ _, rfl, fun j hj => by simp at hj⟩
theorem MsgsM.read {B : Nat} {w : World} {v : Value} {l : List Msg} (h : MsgsM B w v l) : RetMsgs (fun b => B ≤ b) w (.returned v) l := by
  obtain ⟨us, ho, hl, hj⟩ := h
  obtain ⟨a, cap, rfl, h1, h2, h3, h4, h5⟩ := ho.read
  rw [hl] at h1
  refine ⟨a, cap, by rw [hl], h1, h2, h3, ?_⟩
  rcases h5 with e | ⟨b, off, rfl, hb, hc⟩
  · left
    rw [e] at hl
    exact List.length_eq_zero_iff.1 hl.symm
  · refine .inr ⟨b, off, rfl, (h4 _ rfl).1, hb, fun i hi => ?_⟩
    obtain ⟨ad, cp, e, e1, e2, e3, e4⟩ := hj i hi
    have hcc : ∀ j, j < 8 → w.cell? ⟨b, off + i * 8 + j, none⟩ = (encM (l[i]?.getD msg0) ad cp)[j]? := fun j hj8 => by rw [← e]; exact hc i j (by omega) hj8
    exact ⟨hcc 0 (by omega), hcc 1 (by omega), hcc 2 (by omega), hcc 3 (by omega), hcc 4 (by omega), hcc 5 (by omega), hcc 6 (by omega), ad, cp, hcc 7 (by omega), e1, e2, e3, e4.mono (fun _ h => h.1)⟩
theorem MsgsM.snoc {B : Nat} {w w3 w7 : World} {v v' : Value} {l : List Msg} {us : List (List Value)} {m : Msg} {ad : Option Addr} {cap : Nat} {o : Obj} (hul : us.length = l.length)
    (hus : ∀ j, j < l.length → ∃ ad cap, us[j]?.getD [] = encM (l[j]?.getD msg0) ad cap ∧ (l[j]?.getD msg0).L.length ≤ cap ∧ cap ≤ maxLen ∧ (ad = none → cap = 0) ∧ VrS (fun b => B ≤ b ∧ v.ownBlock ≠ some b) w ad (l[j]?.getD msg0).L)
    (hb3 : Below w.heap.size w w3) (h1 : OwnRec 57 8 B w7 v' (us ++ [encM m ad cap])) (h2 : (w3.alloc o).grownBy w7 v.ownBlock) (hv' : v'.ownBlock = v.ownBlock ∨ v'.ownBlock = some (w3.heap.size + 1))
    (q1 : m.L.length ≤ cap) (q2 : cap ≤ maxLen) (q3 : ad = none → cap = 0) (q4 : VrS (fun b => B ≤ b ∧ v.ownBlock ≠ some b) w3 ad m.L) : MsgsM B w7 v' (l ++ [m]) := by
  have k3 : KeptBut (fun b => v.ownBlock = some b) w3 w7 := ((KeptBut.refl _ w3).alloc1 o).trans (KeptBut.of_grown h2 (fun k e => e))
  have key : ∀ {ad : Option Addr} {L : List Ver}, VrS (fun b => B ≤ b ∧ v.ownBlock ≠ some b) w3 ad L → VrS (fun b => B ≤ b ∧ v'.ownBlock ≠ some b) w7 ad L := fun {ad L} h => by
    rcases h with e | ⟨b, off, e, hb, hl, hc⟩
    · exact .inl e
    · refine .inr ⟨b, off, e, ⟨hb.1, fun e2 => ?_⟩, Nat.lt_of_lt_of_le hl k3.size, fun i j hi hj => (World.cell?_of_block (a := ⟨b, off + i * 5 + j, none⟩) (k3.block b hl hb.2)).trans (hc i j hi hj)⟩
      rcases hv' with e3 | e3
      · exact hb.2 (e3.symm.trans e2)
      · rw [e3] at e2
        have := Option.some.inj e2
        omega
  refine ⟨_, h1, by simp [hul], fun j hj => ?_⟩
  by_cases hjl : j < l.length
  · have e1 : (us ++ [encM m ad cap])[j]?.getD [] = us[j]?.getD [] := by rw [List.getElem?_append_left (by omega)]
    have e2 : (l ++ [m])[j]?.getD msg0 = l[j]?.getD msg0 := by rw [List.getElem?_append_left hjl]
    rw [e1, e2]
    obtain ⟨ad, cp, g0, g1, g2, g3, g4⟩ := hus j hjl
    exact ⟨ad, cp, g0, g1, g2, g3, key (g4.kept (KeptBut.of_below (F := fun b => w.heap.size ≤ b) hb3 (fun _ _ h => h)) (fun b hb _ => by omega))⟩
  · have hie : j = l.length := by simp at hj; omega
    have e1 : (us ++ [encM m ad cap])[j]?.getD [] = encM m ad cap := by rw [hie, ← hul]; simp
    have e2 : (l ++ [m])[j]?.getD msg0 = m := by rw [hie]; simp
    rw [e1, e2]
    exact ⟨ad, cap, rfl, q1, q2, q3, key q4⟩
set_option maxRecDepth 100000 in
set_option maxHeartbeats 8000000 in
theorem rsend_nil (S F : Nat → Prop) (w : World) (mo : Nat) (ma : Option Addr) (mc : Nat) (na : Option Addr) (nc : Nat) (fv lv : Value) (us : List Value) (a : AskS) (kind : ByteArray) (h : RAskAt S F w mo ma mc na nc fv lv us a) (hok : TalkOk a.t) :
    Calls Tryz.prog 43 #[.pointer (some ⟨mo, 0, none⟩), .string kind, .bool false] w fun e w' => Below w.heap.size w w' ∧ RetMsgs (fun b => w.heap.size ≤ b) w' e (sendT a.t kind (fun _ => [])) := by
  obtain ⟨⟨name, tkey, top, tcf, n, k, mem, wait, got⟩, who, put, moves, n2, k2, mem2, st, tag, text, found⟩ := a
  unfold sendT
  dsimp only at h hok ⊢
  have hn12 : mem.length ≤ 12 := by
    have := talk_cfg hok
    dsimp only at this
    omega
  have hkk := talk_cfg hok
  dsimp only at hkk
  have hmn : mem.length = n := hkk.2.2.2.1
  have hms := mem_size hok
  dsimp only at hms
  obtain ⟨m, hm⟩ : ∃ m, mem.length = m := ⟨_, rfl⟩
  have c0 : w.cell? ⟨mo, 0, none⟩ = some (.string name) := h.cs.cell 0 (by show 0 < 20; decide)
  have c1 : w.cell? ⟨mo, 1, none⟩ = some (.string tkey) := h.cs.cell 1 (by show 1 < 20; decide)
  have c3 : w.cell? ⟨mo, 3, none⟩ = some (.int .i64 top) := h.cs.cell 3 (by show 3 < 20; decide)
  have c4 : w.cell? ⟨mo, 4, none⟩ = some (.int .i64 tcf) := h.cs.cell 4 (by show 4 < 20; decide)
  have c5 : w.cell? ⟨mo, 5, none⟩ = some (.int .i64 (n : Nat)) := h.cs.cell 5 (by show 5 < 20; decide)
  have c6 : w.cell? ⟨mo, 6, none⟩ = some (.int .i64 (k : Nat)) := h.cs.cell 6 (by show 6 < 20; decide)
  have c7 : w.cell? ⟨mo, 7, none⟩ = some (.slice ma mem.length mc) := h.cs.cell 7 (by show 7 < 20; decide)
  have c16 : w.cell? ⟨mo, 16, none⟩ = some (.int .i64 tag.1) := h.cs.cell 16 (by show 16 < 20; decide)
  have c17 : w.cell? ⟨mo, 17, none⟩ = some (.int .i64 tag.2) := h.cs.cell 17 (by show 17 < 20; decide)
  have c18 : w.cell? ⟨mo, 18, none⟩ = some (.string text) := h.cs.cell 18 (by show 18 < 20; decide)
  rw [hm] at c7 hn12 hmn
  rw [hm]
  subst hmn
  have hm9 : m ≤ 9223372036854775807 := by omega
  have KC : Hid (∀ W, Below w.heap.size w W → W.cell? ⟨mo, 0, none⟩ = some (.string name) ∧ W.cell? ⟨mo, 1, none⟩ = some (.string tkey) ∧ W.cell? ⟨mo, 3, none⟩ = some (.int .i64 top) ∧ W.cell? ⟨mo, 4, none⟩ = some (.int .i64 tcf) ∧ W.cell? ⟨mo, 7, none⟩ = some (.slice ma m mc) ∧ W.cell? ⟨mo, 16, none⟩ = some (.int .i64 tag.1) ∧ W.cell? ⟨mo, 17, none⟩ = some (.int .i64 tag.2) ∧ W.cell? ⟨mo, 18, none⟩ = some (.string text) ∧ W.cell? ⟨mo, 5, none⟩ = some (.int .i64 (m : Nat)) ∧ W.cell? ⟨mo, 6, none⟩ = some (.int .i64 (k : Nat))) := Lib.hid fun W hb => by
    have c : ∀ {p : Addr} {v}, w.cell? p = some v → W.cell? p = some v := fun {p v} h => (hb.cell (lt_of_cell h)).trans h
    exact ⟨c c0, c c1, c c3, c c4, c c7, c c16, c c17, c c18, c c5, c c6⟩
  have H := Lib.hid (And.intro h (And.intro hm (And.intro hms (And.intro hn12 hkk))))
  have hlt := h.cs.lt
  clear h hok hm hms hn12 hkk c0 c1 c3 c4 c5 c6 c7 c16 c17 c18
  go_enter Tryz.func43, Tryz.ntmps43
  go_wp2
  go_loopw [8, 9] (fun vl vi wr => ∃ (i : Nat) (v : Value), i ≤ m ∧ vi = .int .i64 i ∧ v = vl ∧ Hid (Below w.heap.size w wr ∧ MsgsM w.heap.size wr v ((List.range i).map fun i => (⟨name, mem[i]?.getD ⟨#[]⟩, kind, tkey, top, tcf, false, (fun _ => []) i⟩ : Msg)))) (fun _ vi _ => m - (intOf vi).toNat)
  case atStart => exact ⟨0, _, by omega, rfl, rfl, Lib.hid ⟨Below.refl _ _, MsgsM.nil _ _⟩⟩
  case round =>
    obtain ⟨i, v, hi, rfl, hv, Hr⟩ := hrel
    subst hv
    obtain ⟨c0, c1, c3, c4, c7, c16, c17, c18, -, -⟩ := KC.out wr Hr.out.1
    have hi2 : i < m ∨ m = i := by omega
    rcases hi2 with hilt | rfl
    · have hilt2 : (i : Int) < m := by omega
      have hil : i < mem.length := by rw [H.out.2.1]; exact hilt
      obtain ⟨b, off, rfl, hbl, hcx0⟩ : ∃ b off, ma = some ⟨b, off, none⟩ ∧ b < w.heap.size ∧ w.cell? ⟨b, off + i, none⟩ = some (.string (mem[i]?.getD ⟨#[]⟩)) := by
        rcases H.out.1.mem with he | ⟨b, off, e, _, hl, hc⟩
        · exfalso; dsimp only at he; rw [he] at hil; simp at hil
        · exact ⟨b, off, e, hl, hc i hil⟩
      have hcx := (Hr.out.1.cell (p := ⟨b, off + i, none⟩) hbl).trans hcx0
      obtain ⟨s, hs⟩ : ∃ s, mem[i]?.getD (⟨#[]⟩ : ByteArray) = s := ⟨_, rfl⟩
      rw [hs] at hcx hcx0
      have Hs := Lib.hid hs
      have hwr : w.heap.size ≤ wr.heap.size := Hr.out.1.size
      have hm12 := H.out.2.2.2.1
      have KD : Hid (∀ W, Below w.heap.size w W → W.cell? ⟨mo, 0, none⟩ = some (.string name) ∧ W.cell? ⟨mo, 7, none⟩ = some (.slice (some ⟨b, off, none⟩) m mc) ∧ W.cell? ⟨b, off + i, none⟩ = some (.string s) ∧ W.cell? ⟨mo, 1, none⟩ = some (.string tkey) ∧ W.cell? ⟨mo, 3, none⟩ = some (.int .i64 top) ∧ W.cell? ⟨mo, 4, none⟩ = some (.int .i64 tcf)) := Lib.hid fun W hb => by
        obtain ⟨c0, c1, c3, c4, c7, -⟩ := KC.out W hb
        exact ⟨c0, c7, (hb.cell (p := ⟨b, off + i, none⟩) hbl).trans hcx0, c1, c3, c4⟩
      clear hil hs hbl hcx0
      go_wp2
      go_region_held3 (fun W => W.cell? ⟨mo, 0, none⟩ = some (.string name) ∧ W.cell? ⟨mo, 7, none⟩ = some (.slice (some ⟨b, off, none⟩) m mc) ∧ W.cell? ⟨b, off + i, none⟩ = some (.string s) ∧ W.cell? ⟨mo, 1, none⟩ = some (.string tkey) ∧ W.cell? ⟨mo, 3, none⟩ = some (.int .i64 top) ∧ W.cell? ⟨mo, 4, none⟩ = some (.int .i64 tcf))
        ((refine KD.out _ ?_; repeat (first | exact Hr.out.1 | apply Below.drew | refine Below.alloc ?_ hwr _ | refine Below.setCell ?_ hwr _)))
        (fail)
      rename_i hHeld
      obtain ⟨W4, hW4⟩ : ∃ W4, (wr.alloc (.cells #[.string name, .string s, .string kind, .string tkey, .int .i64 top, .int .i64 tcf, .bool false, .slice none 0 0] 57)).drew = W4 := ⟨_, rfl⟩
      obtain ⟨ob, hob⟩ : ∃ ob, wr.heap.size = ob := ⟨_, rfl⟩
      have hb4 : Below wr.heap.size wr W4 := by rw [← hW4]; exact ((Below.refl _ _).alloc (Nat.le_refl _) _).drew
      have hs4 : W4.heap.size = ob + 1 := by rw [← hW4, ← hob]; simp
      have gm : W4.heap[ob]? = some (.cells #[.string name, .string s, .string kind, .string tkey, .int .i64 top, .int .i64 tcf, .bool false, .slice none 0 0] 57 (0, 0)) := by rw [← hW4, ← hob]; exact heap_alloc_new _ _
      rw [hW4, hob]
      clear hHeld c0 c1 c3 c4 c7 c16 c17 c18 hcx
      have m0 : W4.cell? ⟨ob, 0, none⟩ = some (.string name) := (cell_of_heap gm 0).trans rfl
      have m1 : W4.cell? ⟨ob, 1, none⟩ = some (.string s) := (cell_of_heap gm 1).trans rfl
      have m2 : W4.cell? ⟨ob, 2, none⟩ = some (.string kind) := (cell_of_heap gm 2).trans rfl
      have m3 : W4.cell? ⟨ob, 3, none⟩ = some (.string tkey) := (cell_of_heap gm 3).trans rfl
      have m4 : W4.cell? ⟨ob, 4, none⟩ = some (.int .i64 top) := (cell_of_heap gm 4).trans rfl
      have m5 : W4.cell? ⟨ob, 5, none⟩ = some (.int .i64 tcf) := (cell_of_heap gm 5).trans rfl
      have m6 : W4.cell? ⟨ob, 6, none⟩ = some (.bool false) := (cell_of_heap gm 6).trans rfl
      have m7 : W4.cell? ⟨ob, 7, none⟩ = some (.slice none 0 0) := (cell_of_heap gm 7).trans rfl
      obtain ⟨us, ho, hul, hus⟩ := Hr.out.2
      have ho6 := ho.below hb4
      rw [List.length_map, List.length_range] at hul
      have H6 := Lib.hid (And.intro hb4 (And.intro ho6 (And.intro hul hus)))
      have hszB : w.heap.size ≤ W4.heap.size := Nat.le_trans hwr hb4.size
      clear hb4 hs4 gm hW4 hob ho ho6 hul hus
      go_wp2_with (at_builtin; (refine append_rec (w0 := W4) 25 57 _ 8 112 Tryz.underlying25 info_mess rfl (by omega) 80 82 rfl rfl w.heap.size v us [.string name, .string s, .string kind, .string tkey, .int .i64 top, .int .i64 tcf, .bool false, .slice none 0 0] rfl (encM_one ⟨name, s, kind, tkey, top, tcf, false, []⟩ none 0) rfl rfl H6.out.2.1 (by rw [H6.out.2.2.1]; omega) (by rw [H6.out.2.2.1]; unfold maxLen; omega) hszB ?_))
      intro v7 w7 h1 h2 hv7
      have hb7 : Below w.heap.size w w7 := (Hr.out.1.trans (H6.out.1.mono hwr)).trans (((Below.refl _ _).alloc hszB _).trans (World.grownBy.below h2 (Nat.le_trans hszB (by simp)) (fun k hk => (H6.out.2.1.lt k hk).1)))
      have HN : Hid (Below w.heap.size w w7 ∧ MsgsM w.heap.size w7 v7 ((List.range (i + 1)).map fun i => (⟨name, mem[i]?.getD ⟨#[]⟩, kind, tkey, top, tcf, false, []⟩ : Msg))) := Lib.hid ⟨hb7, by
        rw [range_snoc, Hs.out]
        exact MsgsM.snoc (by rw [H6.out.2.2.1]; simp) H6.out.2.2.2 H6.out.1 h1 h2 hv7 (Nat.le_refl _) (by simp [maxLen]) (fun _ => rfl) (.inl rfl)⟩
      clear h1 h2 hv7 hb7 m0 m1 m2 m3 m4 m5 m6 m7
      go_wp2
      go_roundw
      case rel =>
        first
        | exact ⟨i + 1, _, by omega, by go_num, rfl, HN⟩
        | (repeat apply Exists.intro); exact ⟨⟨i + 1, _, by omega, by go_num, rfl, HN⟩, rfl⟩
      case measure => simp [intOf]; omega
    · go_wp2
      go_ret
      exact ⟨Hr.out.1, Hr.out.2.read⟩
set_option maxRecDepth 100000 in
set_option maxHeartbeats 8000000 in
theorem rsend_keep (S F : Nat → Prop) (w : World) (mo : Nat) (ma : Option Addr) (mc : Nat) (na : Option Addr) (nc : Nat) (fv lv : Value) (us : List Value) (a : AskS) (h : RAskAt S F w mo ma mc na nc fv lv us a) (hok : TalkOk a.t) (htx : a.text.size ≤ 1000) :
    Calls Tryz.prog 43 #[.pointer (some ⟨mo, 0, none⟩), .string kKeep, .bool true] w fun e w' => Below w.heap.size w w' ∧ RetMsgs (fun b => w.heap.size ≤ b) w' e (sendT a.t kKeep (keepV a.t.k a.tag a.text)) := by
  obtain ⟨⟨name, tkey, top, tcf, n, k, mem, wait, got⟩, who, put, moves, n2, k2, mem2, st, tag, text, found⟩ := a
  unfold sendT
  dsimp only at h hok ⊢
  have hn12 : mem.length ≤ 12 := by
    have := talk_cfg hok
    dsimp only at this
    omega
  have hkk := talk_cfg hok
  dsimp only at hkk
  have hmn : mem.length = n := hkk.2.2.2.1
  have hms := mem_size hok
  dsimp only at hms
  obtain ⟨m, hm⟩ : ∃ m, mem.length = m := ⟨_, rfl⟩
  have c0 : w.cell? ⟨mo, 0, none⟩ = some (.string name) := h.cs.cell 0 (by show 0 < 20; decide)
  have c1 : w.cell? ⟨mo, 1, none⟩ = some (.string tkey) := h.cs.cell 1 (by show 1 < 20; decide)
  have c3 : w.cell? ⟨mo, 3, none⟩ = some (.int .i64 top) := h.cs.cell 3 (by show 3 < 20; decide)
  have c4 : w.cell? ⟨mo, 4, none⟩ = some (.int .i64 tcf) := h.cs.cell 4 (by show 4 < 20; decide)
  have c5 : w.cell? ⟨mo, 5, none⟩ = some (.int .i64 (n : Nat)) := h.cs.cell 5 (by show 5 < 20; decide)
  have c6 : w.cell? ⟨mo, 6, none⟩ = some (.int .i64 (k : Nat)) := h.cs.cell 6 (by show 6 < 20; decide)
  have c7 : w.cell? ⟨mo, 7, none⟩ = some (.slice ma mem.length mc) := h.cs.cell 7 (by show 7 < 20; decide)
  have c16 : w.cell? ⟨mo, 16, none⟩ = some (.int .i64 tag.1) := h.cs.cell 16 (by show 16 < 20; decide)
  have c17 : w.cell? ⟨mo, 17, none⟩ = some (.int .i64 tag.2) := h.cs.cell 17 (by show 17 < 20; decide)
  have c18 : w.cell? ⟨mo, 18, none⟩ = some (.string text) := h.cs.cell 18 (by show 18 < 20; decide)
  rw [hm] at c7 hn12 hmn
  rw [hm]
  subst hmn
  have hm9 : m ≤ 9223372036854775807 := by omega
  have KC : Hid (∀ W, Below w.heap.size w W → W.cell? ⟨mo, 0, none⟩ = some (.string name) ∧ W.cell? ⟨mo, 1, none⟩ = some (.string tkey) ∧ W.cell? ⟨mo, 3, none⟩ = some (.int .i64 top) ∧ W.cell? ⟨mo, 4, none⟩ = some (.int .i64 tcf) ∧ W.cell? ⟨mo, 7, none⟩ = some (.slice ma m mc) ∧ W.cell? ⟨mo, 16, none⟩ = some (.int .i64 tag.1) ∧ W.cell? ⟨mo, 17, none⟩ = some (.int .i64 tag.2) ∧ W.cell? ⟨mo, 18, none⟩ = some (.string text) ∧ W.cell? ⟨mo, 5, none⟩ = some (.int .i64 (m : Nat)) ∧ W.cell? ⟨mo, 6, none⟩ = some (.int .i64 (k : Nat))) := Lib.hid fun W hb => by
    have c : ∀ {p : Addr} {v}, w.cell? p = some v → W.cell? p = some v := fun {p v} h => (hb.cell (lt_of_cell h)).trans h
    exact ⟨c c0, c c1, c c3, c c4, c c7, c c16, c c17, c c18, c c5, c c6⟩
  have H := Lib.hid (And.intro h (And.intro hm (And.intro hms (And.intro hn12 hkk))))
  have hlt := h.cs.lt
  dsimp only at htx
  have Hen := Lib.hid (rencode_walk m k text w.drew hkk.1 hkk.2.1 hkk.2.2.1 htx)
  have hts : (text.size : Int) ≤ 9223372036854775807 := by omega
  have Htx := Lib.hid htx
  unfold kKeep
  clear h hok hm hms hn12 hkk htx
  go_enter Tryz.func43, Tryz.ntmps43
  go_wp2
  go_region_held3 (fun W => W.cell? ⟨mo, 5, none⟩ = some (.int .i64 (m : Nat)) ∧ W.cell? ⟨mo, 6, none⟩ = some (.int .i64 (k : Nat)) ∧ W.cell? ⟨mo, 18, none⟩ = some (.string text))
    (first | exact ⟨c5, c6, c18⟩ | exact ⟨d5, d6, d18⟩)
    (first | (go_at_call 65; refine Hen.out.mono ?_; rintro e w5 ⟨⟨v5, rfl, ho5⟩, hb5⟩; obtain ⟨_, _, _, _, _, _, _, d18, d5, d6⟩ := KC.out w5 ((Below.refl _ _).drew.trans hb5); have H5 := Lib.hid (And.intro (show Below w.heap.size w w5 from (Below.refl _ _).drew.trans hb5) ho5); clear hb5 ho5))
  rename_i hHeld
  obtain ⟨a5, cp5, rfl, _, _, r3⟩ := H5.out.2.read
  rw [encL_length] at *
  have HR := Lib.hid r3
  have hszw : w.heap.size ≤ w5.heap.size := H5.out.1.size
  clear hHeld r3 c0 c1 c3 c4 c5 c6 c7 c16 c17 c18 d5 d6 d18
  go_wp2
  go_loopw [8, 9] (fun vl vi wr => ∃ (i : Nat) (v : Value), i ≤ m ∧ vi = .int .i64 i ∧ v = vl ∧ Hid (Below w.heap.size w wr ∧ MsgsM w5.heap.size wr v ((List.range i).map fun i => (⟨name, mem[i]?.getD ⟨#[]⟩, (⟨#[107, 101, 101, 112]⟩ : ByteArray), tkey, top, tcf, false, (keepV k tag text) i⟩ : Msg)) ∧ Below w5.heap.size w5 wr)) (fun _ vi _ => m - (intOf vi).toNat)
  case atStart => exact ⟨0, _, by omega, rfl, rfl, Lib.hid ⟨H5.out.1, MsgsM.nil _ _, Below.refl _ _⟩⟩
  case round =>
    obtain ⟨i, v, hi, rfl, hv, Hr⟩ := hrel
    subst hv
    obtain ⟨c0, c1, c3, c4, c7, c16, c17, c18, -, -⟩ := KC.out wr Hr.out.1
    have hi2 : i < m ∨ m = i := by omega
    rcases hi2 with hilt | rfl
    · have hilt2 : (i : Int) < m := by omega
      have hil : i < mem.length := by rw [H.out.2.1]; exact hilt
      obtain ⟨b, off, rfl, hbl, hcx0⟩ : ∃ b off, ma = some ⟨b, off, none⟩ ∧ b < w.heap.size ∧ w.cell? ⟨b, off + i, none⟩ = some (.string (mem[i]?.getD ⟨#[]⟩)) := by
        rcases H.out.1.mem with he | ⟨b, off, e, _, hl, hc⟩
        · exfalso; dsimp only at he; rw [he] at hil; simp at hil
        · exact ⟨b, off, e, hl, hc i hil⟩
      have hcx := (Hr.out.1.cell (p := ⟨b, off + i, none⟩) hbl).trans hcx0
      obtain ⟨s, hs⟩ : ∃ s, mem[i]?.getD (⟨#[]⟩ : ByteArray) = s := ⟨_, rfl⟩
      rw [hs] at hcx hcx0
      have Hs := Lib.hid hs
      have hwr : w.heap.size ≤ wr.heap.size := Hr.out.1.size
      have hm12 := H.out.2.2.2.1
      have KD : Hid (∀ W, Below w.heap.size w W → W.cell? ⟨mo, 0, none⟩ = some (.string name) ∧ W.cell? ⟨mo, 7, none⟩ = some (.slice (some ⟨b, off, none⟩) m mc) ∧ W.cell? ⟨b, off + i, none⟩ = some (.string s) ∧ W.cell? ⟨mo, 1, none⟩ = some (.string tkey) ∧ W.cell? ⟨mo, 3, none⟩ = some (.int .i64 top) ∧ W.cell? ⟨mo, 4, none⟩ = some (.int .i64 tcf)) := Lib.hid fun W hb => by
        obtain ⟨c0, c1, c3, c4, c7, -⟩ := KC.out W hb
        exact ⟨c0, c7, (hb.cell (p := ⟨b, off + i, none⟩) hbl).trans hcx0, c1, c3, c4⟩
      clear hil hs hbl hcx0
      go_wp2
      go_region_held3 (fun W => W.cell? ⟨mo, 0, none⟩ = some (.string name) ∧ W.cell? ⟨mo, 7, none⟩ = some (.slice (some ⟨b, off, none⟩) m mc) ∧ W.cell? ⟨b, off + i, none⟩ = some (.string s) ∧ W.cell? ⟨mo, 1, none⟩ = some (.string tkey) ∧ W.cell? ⟨mo, 3, none⟩ = some (.int .i64 top) ∧ W.cell? ⟨mo, 4, none⟩ = some (.int .i64 tcf))
        ((refine KD.out _ ?_; repeat (first | exact Hr.out.1 | apply Below.drew | refine Below.alloc ?_ hwr _ | refine Below.setCell ?_ hwr _)))
        (fail)
      rename_i hHeld
      obtain ⟨W4, hW4⟩ : ∃ W4, (wr.alloc (.cells #[.string name, .string s, .string (⟨#[107, 101, 101, 112]⟩ : ByteArray), .string tkey, .int .i64 top, .int .i64 tcf, .bool false, .slice none 0 0] 57)).drew = W4 := ⟨_, rfl⟩
      obtain ⟨ob, hob⟩ : ∃ ob, wr.heap.size = ob := ⟨_, rfl⟩
      have hb4 : Below wr.heap.size wr W4 := by rw [← hW4]; exact ((Below.refl _ _).alloc (Nat.le_refl _) _).drew
      have hs4 : W4.heap.size = ob + 1 := by rw [← hW4, ← hob]; simp
      have gm : W4.heap[ob]? = some (.cells #[.string name, .string s, .string (⟨#[107, 101, 101, 112]⟩ : ByteArray), .string tkey, .int .i64 top, .int .i64 tcf, .bool false, .slice none 0 0] 57 (0, 0)) := by rw [← hW4, ← hob]; exact heap_alloc_new _ _
      rw [hW4, hob]
      clear hHeld c0 c1 c3 c4 c7 c16 c17 c18 hcx
      rcases HR.out with he | ⟨sb, so, rfl, hsb, hsc⟩
      · exfalso
        have := encL_length m k text
        rw [he] at this
        simp at this
        omega
      have hsi := hsc i (by rw [encL_length]; exact hilt)
      have es : (encL m k text)[i]?.getD (0, ⟨#[]⟩) = ((i : Int), encT k text i) := by simp [encL, hilt]
      rw [es] at hsi
      dsimp only at hsi
      have hbw4 : Below w.heap.size w W4 := Hr.out.1.trans (hb4.mono hwr)
      have hb54 : Below w5.heap.size w5 W4 := Hr.out.2.2.trans (hb4.mono Hr.out.2.2.size)
      have hob5 : w.heap.size ≤ ob := by rw [← hob]; exact hwr
      have KE : Hid (∀ W, Below w.heap.size w W ∧ Below w5.heap.size w5 W → W.cell? ⟨mo, 16, none⟩ = some (.int .i64 tag.1) ∧ W.cell? ⟨mo, 17, none⟩ = some (.int .i64 tag.2) ∧ W.cell? ⟨mo, 18, none⟩ = some (.string text) ∧ W.cell? ⟨sb, so + i * 2, none⟩ = some (.int .i64 (i : Nat)) ∧ W.cell? ⟨sb, so + i * 2 + 1, none⟩ = some (.string (encT k text i))) := Lib.hid fun W hb => by
        obtain ⟨_, _, _, _, _, c16, c17, c18, -⟩ := KC.out W hb.1
        exact ⟨c16, c17, c18, (hb.2.cell (p := ⟨sb, so + i * 2, none⟩) hsb).trans hsi.1, (hb.2.cell (p := ⟨sb, so + i * 2 + 1, none⟩) hsb).trans hsi.2⟩
      have hW4n : w5.heap.size ≤ W4.heap.size := hb54.size
      have hobn : w5.heap.size ≤ ob := by rw [← hob]; exact Hr.out.2.2.size
      have hww4 : w.heap.size ≤ W4.heap.size := hbw4.size
      have hobl : ob < W4.heap.size := by omega
      obtain ⟨e16, e17, e18, es0, es1⟩ := KE.out W4 ⟨hbw4, hb54⟩
      have m7 := (cell_of_heap gm 7).trans rfl
      have f7 := frozen_of_heap gm 7
      have H4 := Lib.hid (And.intro hb4 (And.intro hs4 (And.intro gm (And.intro hbw4 (And.intro hb54 hob)))))
      clear hb4 hs4 gm hW4 hob hsc hsi es hsb
      go_wp2
      go_region_held3 (fun W => W.cell? ⟨mo, 16, none⟩ = some (.int .i64 tag.1) ∧ W.cell? ⟨mo, 17, none⟩ = some (.int .i64 tag.2) ∧ W.cell? ⟨mo, 18, none⟩ = some (.string text) ∧ W.cell? ⟨sb, so + i * 2, none⟩ = some (.int .i64 (i : Nat)) ∧ W.cell? ⟨sb, so + i * 2 + 1, none⟩ = some (.string (encT k text i)))
        ((refine KE.out _ ⟨?_, ?_⟩ <;> (repeat (first | exact hbw4 | exact hb54 | apply Below.drew | refine Below.alloc ?_ hww4 _ | refine Below.alloc ?_ hW4n _ | refine Below.alloc ?_ (by rw [setCell_size]; exact hww4) _ | refine Below.alloc ?_ (by rw [setCell_size]; exact hW4n) _ | refine Below.setCell ?_ hob5 _ | refine Below.setCell ?_ hobn _))))
        (fail)
      rename_i hHeld
      obtain ⟨W5, hW5⟩ : ∃ W5, W4.setCell ⟨ob, 7, none⟩ (.slice (some ⟨W4.heap.size, 0, none⟩) 1 1) = W5 := ⟨_, rfl⟩
      obtain ⟨W6, hW6⟩ : ∃ W6, (W5.alloc (.cells #[.int .i64 tag.1, .int .i64 tag.2, .int .i64 (text.size : Nat), .int .i64 (i : Nat), .string (encT k text i)] 76)).drew = W6 := ⟨_, rfl⟩
      have hs5 : W5.heap.size = W4.heap.size := by rw [← hW5, setCell_size]
      have g5 := heap_setCell_same W4 ob 7 _ _ (.slice (some ⟨W4.heap.size, 0, none⟩) 1 1) H4.out.2.2.1
      rw [hW5] at g5
      have hb56 : Below W5.heap.size W5 W6 := by rw [← hW6]; exact ((Below.refl _ _).alloc (Nat.le_refl _) _).drew
      have g6 := (hb56.block ob (by rw [hs5]; exact hobl)).trans g5
      have gv : W6.heap[W4.heap.size]? = some (.cells #[.int .i64 tag.1, .int .i64 tag.2, .int .i64 (text.size : Nat), .int .i64 (i : Nat), .string (encT k text i)] 76 (0, 0)) := by rw [← hW6, ← hs5]; exact heap_alloc_new _ _
      have hb6 : Below wr.heap.size wr W6 := (by rw [← hW5]; exact H4.out.1.setCell (Nat.le_of_eq H4.out.2.2.2.2.2) _ : Below wr.heap.size wr W5).trans (hb56.mono (by rw [hs5]; exact H4.out.1.size))
      have hb6w : Below w5.heap.size w5 W6 := Hr.out.2.2.trans (hb6.mono Hr.out.2.2.size)
      rw [hW5, hW6]
      have hq : VrS (fun b => w5.heap.size ≤ b ∧ v.ownBlock ≠ some b) W6 (some ⟨W4.heap.size, 0, none⟩) (keepV k tag text i) := by
        obtain ⟨us, ho, _⟩ := Hr.out.2.1
        refine .inr ⟨_, _, rfl, ⟨by have := H4.out.1.size; omega, fun e => ?_⟩, (Array.getElem?_eq_some_iff.1 gv).1, fun r j hr hj => ?_⟩
        · have h8 := ho.lt _ e
          have := H4.out.1.size
          rw [H4.out.2.1, ← H4.out.2.2.2.2.2] at h8
          omega
        · have hr0 : r = 0 := by simp [keepV] at hr; omega
          subst hr0
          show W6.cell? ⟨W4.heap.size, 0 + 0 * 5 + j, none⟩ = _
          rw [show 0 + 0 * 5 + j = j by omega, cell_of_heap gv j]
          match j, hj with
          | 0, _ => rfl
          | 1, _ => rfl
          | 2, _ => rfl
          | 3, _ => rfl
          | 4, _ => rfl
      have m0 : W6.cell? ⟨ob, 0, none⟩ = some (.string name) := (cell_of_heap g6 0).trans (by simp)
      have m1 : W6.cell? ⟨ob, 1, none⟩ = some (.string s) := (cell_of_heap g6 1).trans (by simp)
      have m2 : W6.cell? ⟨ob, 2, none⟩ = some (.string ⟨#[107, 101, 101, 112]⟩) := (cell_of_heap g6 2).trans (by simp)
      have m3 : W6.cell? ⟨ob, 3, none⟩ = some (.string tkey) := (cell_of_heap g6 3).trans (by simp)
      have m4 : W6.cell? ⟨ob, 4, none⟩ = some (.int .i64 top) := (cell_of_heap g6 4).trans (by simp)
      have m5 : W6.cell? ⟨ob, 5, none⟩ = some (.int .i64 tcf) := (cell_of_heap g6 5).trans (by simp)
      have m6 : W6.cell? ⟨ob, 6, none⟩ = some (.bool false) := (cell_of_heap g6 6).trans (by simp)
      have q7 : W6.cell? ⟨ob, 7, none⟩ = some (.slice (some ⟨W4.heap.size, 0, none⟩) 1 1) := (cell_of_heap g6 7).trans (by simp)
      obtain ⟨us, ho, hul, hus⟩ := Hr.out.2.1
      have ho6 := ho.below hb6
      rw [List.length_map, List.length_range] at hul
      have H6 := Lib.hid (And.intro hb6 (And.intro hq (And.intro ho6 (And.intro hul (And.intro hus hb6w)))))
      have hszB : w5.heap.size ≤ W6.heap.size := hb6w.size
      clear hHeld g5 g6 gv hb56 hs5 hW5 hW6 hb6 hb6w hq ho ho6 hul hus m7 f7 e16 e17 e18 es0 es1 hbw4 hb54 hobl
      go_wp2_with (at_builtin; (refine append_rec (w0 := W6) 25 57 _ 8 112 Tryz.underlying25 info_mess rfl (by omega) 80 82 rfl rfl w5.heap.size v us [.string name, .string s, .string ⟨#[107, 101, 101, 112]⟩, .string tkey, .int .i64 top, .int .i64 tcf, .bool false, .slice (some ⟨W4.heap.size, 0, none⟩) 1 1] rfl (encM_one ⟨name, s, ⟨#[107, 101, 101, 112]⟩, tkey, top, tcf, false, keepV k tag text i⟩ (some ⟨W4.heap.size, 0, none⟩) 1) rfl rfl H6.out.2.2.1 (by rw [H6.out.2.2.2.1]; omega) (by rw [H6.out.2.2.2.1]; unfold maxLen; omega) hszB ?_))
      intro v7 w7 h1 h2 hv7
      have hb67 : Below W6.heap.size W6 (W6.alloc (.cells #[.string name, .string s, .string ⟨#[107, 101, 101, 112]⟩, .string tkey, .int .i64 top, .int .i64 tcf, .bool false, .slice (some ⟨W4.heap.size, 0, none⟩) 1 1] 57)) := (Below.refl _ _).alloc (Nat.le_refl _) _
      have hbz : Below w5.heap.size w5 w7 := (H6.out.2.2.2.2.2.trans (hb67.mono H6.out.2.2.2.2.2.size)).trans (World.grownBy.below h2 (Nat.le_trans hszB (by simp)) (fun k hk => (H6.out.2.2.1.lt k hk).1))
      have hb7 : Below w.heap.size w w7 := H5.out.1.trans (hbz.mono hszw)
      have HN : Hid (Below w.heap.size w w7 ∧ MsgsM w5.heap.size w7 v7 ((List.range (i + 1)).map fun i => (⟨name, mem[i]?.getD ⟨#[]⟩, ⟨#[107, 101, 101, 112]⟩, tkey, top, tcf, false, keepV k tag text i⟩ : Msg)) ∧ Below w5.heap.size w5 w7) := Lib.hid ⟨hb7, by
        rw [range_snoc, Hs.out]
        exact MsgsM.snoc (by rw [H6.out.2.2.2.1]; simp) H6.out.2.2.2.2.1 H6.out.1 h1 h2 hv7 (Nat.le_refl _) (by simp [maxLen]) (fun e => by cases e) H6.out.2.1, hbz⟩
      clear h1 h2 hv7 hb7 hb67 hbz m0 m1 m2 m3 m4 m5 m6 q7
      go_wp2
      go_roundw
      case rel =>
        first
        | exact ⟨i + 1, _, by omega, by go_num, rfl, HN⟩
        | (repeat apply Exists.intro); exact ⟨⟨i + 1, _, by omega, by go_num, rfl, HN⟩, rfl⟩
      case measure => simp [intOf]; omega
    · go_wp2
      go_ret
      obtain ⟨a7, cp7, e7, z1, z2, z3, z4⟩ := Hr.out.2.1.read
      exact ⟨Hr.out.1, a7, cp7, e7, z1, z2, z3, z4.mono (fun b _ hb => Nat.le_trans hszw hb)⟩
end
end Go.Proofs.YtabboioamdphmaaGreatDoor

