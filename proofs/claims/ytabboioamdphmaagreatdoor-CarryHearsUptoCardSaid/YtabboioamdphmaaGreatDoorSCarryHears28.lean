/- Walks of a talk's Send and Keep. -/
import Derived.Test.YtabboioamdphmaaGreatDoorSCarryHears25
import Derived.Test.YtabboioamdphmaaGreatDoorSCarryHears11
import Derived.Test.YtabboioamdphmaaGreatDoorSCarryHears27
namespace Go.Proofs.YtabboioamdphmaaGreatDoor
section
open Go.RowKit Go.Maps Go.BigFrame

def MsgsW (B : Nat) (w : World) (v : Value) (l : List Msg) : Prop :=
  ∃ us : List (List Value), OwnRec 55 8 B w v us ∧ us.length = l.length ∧ ∀ j, j < l.length → ∃ ad cap, us[j]?.getD [] = encM (l[j]?.getD msg0) ad cap ∧ (l[j]?.getD msg0).L.length ≤ cap ∧ cap ≤ maxLen ∧ (ad = none → cap = 0) ∧ VrS (fun b => B ≤ b ∧ v.ownBlock ≠ some b) w ad (l[j]?.getD msg0).L
theorem MsgsW.nil (B : Nat) (w : World) : MsgsW B w (.slice none 0 0) [] := ⟨[], OwnRec.nil _ _ _ _, rfl, fun j hj => by simp at hj⟩
theorem info_wmess : (Tryz.prog.info? 55).map (fun i => (i.zero, i.size, i.bytes)) = some (some (.agg #[.string ⟨#[]⟩, .string ⟨#[]⟩, .string ⟨#[]⟩, .string ⟨#[]⟩, .int .i64 0, .int .i64 0, .bool false, .slice none 0 0]), 8, 112) := by kernel_rfl
theorem MsgsW.read {B : Nat} {w : World} {v : Value} {l : List Msg} (h : MsgsW B w v l) : RetMsgs (fun b => B ≤ b) w (.returned v) l := by
  obtain ⟨us, ho, hl, hj⟩ := h
  obtain ⟨a, cap, rfl, h1, h2, h3, h4, h5⟩ := ho.read
  rw [hl] at h1
  refine ⟨a, cap, by rw [hl], h1, h2, h3, ?_⟩
  rcases h5 with e | ⟨b, off, rfl, hb, hc⟩
  · left
    rw [e] at hl
    exact List.length_eq_zero_iff.1 hl.symm
  · refine .inr ⟨b, off, rfl, (h4 _ rfl).1, hb, fun i hi => ?_⟩
    obtain ⟨ad, cp, e, e1, e2, e3, e4⟩ := hj i hi
    have hcc : ∀ j, j < 8 → w.cell? ⟨b, off + i * 8 + j, none⟩ = (encM (l[i]?.getD msg0) ad cp)[j]? := fun j hj8 => by rw [← e]; exact hc i j (by omega) hj8
    exact ⟨hcc 0 (by omega), hcc 1 (by omega), hcc 2 (by omega), hcc 3 (by omega), hcc 4 (by omega), hcc 5 (by omega), hcc 6 (by omega), ad, cp, hcc 7 (by omega), e1, e2, e3, e4.mono (fun _ h => h.1)⟩
theorem MsgsW.snoc {B : Nat} {w w3 w7 : World} {v v' : Value} {l : List Msg} {us : List (List Value)} {m : Msg} {ad : Option Addr} {cap : Nat} {o : Obj} (hul : us.length = l.length)
    (hus : ∀ j, j < l.length → ∃ ad cap, us[j]?.getD [] = encM (l[j]?.getD msg0) ad cap ∧ (l[j]?.getD msg0).L.length ≤ cap ∧ cap ≤ maxLen ∧ (ad = none → cap = 0) ∧ VrS (fun b => B ≤ b ∧ v.ownBlock ≠ some b) w ad (l[j]?.getD msg0).L)
    (hb3 : Below w.heap.size w w3) (h1 : OwnRec 55 8 B w7 v' (us ++ [encM m ad cap])) (h2 : (w3.alloc o).grownBy w7 v.ownBlock) (hv' : v'.ownBlock = v.ownBlock ∨ v'.ownBlock = some (w3.heap.size + 1))
    (q1 : m.L.length ≤ cap) (q2 : cap ≤ maxLen) (q3 : ad = none → cap = 0) (q4 : VrS (fun b => B ≤ b ∧ v.ownBlock ≠ some b) w3 ad m.L) : MsgsW B w7 v' (l ++ [m]) := by
  have k3 : KeptBut (fun b => v.ownBlock = some b) w3 w7 := ((KeptBut.refl _ w3).alloc1 o).trans (KeptBut.of_grown h2 (fun k e => e))
  have key : ∀ {ad : Option Addr} {L : List Ver}, VrS (fun b => B ≤ b ∧ v.ownBlock ≠ some b) w3 ad L → VrS (fun b => B ≤ b ∧ v'.ownBlock ≠ some b) w7 ad L := fun {ad L} h => by
    rcases h with e | ⟨b, off, e, hb, hl, hc⟩
    · exact .inl e
    · refine .inr ⟨b, off, e, ⟨hb.1, fun e2 => ?_⟩, Nat.lt_of_lt_of_le hl k3.size, fun i j hi hj => (World.cell?_of_block (a := ⟨b, off + i * 5 + j, none⟩) (k3.block b hl hb.2)).trans (hc i j hi hj)⟩
      rcases hv' with e3 | e3
      · exact hb.2 (e3.symm.trans e2)
      · rw [e3] at e2
        have := Option.some.inj e2
        omega
  refine ⟨_, h1, by simp [hul], fun j hj => ?_⟩
  by_cases hjl : j < l.length
  · have e1 : (us ++ [encM m ad cap])[j]?.getD [] = us[j]?.getD [] := by rw [List.getElem?_append_left (by omega)]
    have e2 : (l ++ [m])[j]?.getD msg0 = l[j]?.getD msg0 := by rw [List.getElem?_append_left hjl]
    rw [e1, e2]
    obtain ⟨ad, cp, g0, g1, g2, g3, g4⟩ := hus j hjl
    exact ⟨ad, cp, g0, g1, g2, g3, key (g4.kept (KeptBut.of_below (F := fun b => w.heap.size ≤ b) hb3 (fun _ _ h => h)) (fun b hb _ => by omega))⟩
  · have hie : j = l.length := by simp at hj; omega
    have e1 : (us ++ [encM m ad cap])[j]?.getD [] = encM m ad cap := by rw [hie, ← hul]; simp
    have e2 : (l ++ [m])[j]?.getD msg0 = m := by rw [hie]; simp
    rw [e1, e2]
    exact ⟨ad, cap, rfl, q1, q2, q3, key q4⟩
theorem range_snoc {α : Type} (f : Nat → α) (i : Nat) : (List.range (i + 1)).map f = (List.range i).map f ++ [f i] := by rw [List.range_succ, List.map_append]; rfl
set_option maxRecDepth 100000 in
set_option maxHeartbeats 4000000 in
theorem keep1_walk (i tb xb lb b off n cap : Nat) (t1 t2 s1 : Int) (text s2 : ByteArray) (w : World) (h0 : w.cell? ⟨tb, 0, none⟩ = some (.int .i64 t1)) (h1 : w.cell? ⟨tb, 1, none⟩ = some (.int .i64 t2)) (hx : w.cell? ⟨xb, 0, none⟩ = some (.string text)) (hl : w.cell? ⟨lb, 0, none⟩ = some (.slice (some ⟨b, off, none⟩) n cap))
    (k0 : w.cell? ⟨b, off + i * 2, none⟩ = some (.int .i64 s1)) (k1 : w.cell? ⟨b, off + i * 2 + 1, none⟩ = some (.string s2)) (hi : i < n) (htx : text.size ≤ maxLen) :
    Calls Tryz.prog 73 #[.int .i64 i, .pointer (some ⟨tb, 0, none⟩), .pointer (some ⟨xb, 0, none⟩), .pointer (some ⟨lb, 0, none⟩)] w
      fun e w' => e = .returned (.slice (some ⟨w.heap.size, 0, none⟩) 1 1) ∧ Below w.heap.size w w' ∧ w'.heap.size = w.heap.size + 1 ∧ w'.heap[w.heap.size]? = some (.cells #[.int .i64 t1, .int .i64 t2, .int .i64 (text.size : Nat), .int .i64 s1, .string s2] 76 (0, 0)) := by
  have hi2 : (i : Int) < n := by omega
  have hts : (text.size : Int) ≤ 9223372036854775807 := by unfold maxLen at htx; omega
  have KA : Hid (∀ W, Below w.heap.size w W → W.cell? ⟨tb, 0, none⟩ = some (.int .i64 t1) ∧ W.cell? ⟨tb, 1, none⟩ = some (.int .i64 t2) ∧ W.cell? ⟨xb, 0, none⟩ = some (.string text) ∧ W.cell? ⟨lb, 0, none⟩ = some (.slice (some ⟨b, off, none⟩) n cap) ∧ W.cell? ⟨b, off + i * 2, none⟩ = some (.int .i64 s1) ∧ W.cell? ⟨b, off + i * 2 + 1, none⟩ = some (.string s2)) := Lib.hid fun W hb => by
    have c : ∀ {p : Addr} {v}, w.cell? p = some v → W.cell? p = some v := fun {p v} h => (hb.cell (lt_of_cell h)).trans h
    exact ⟨c h0, c h1, c hx, c hl, c k0, c k1⟩
  go_enter Tryz.func73, Tryz.ntmps73
  go_wp2
  go_region_held3 (fun W => W.cell? ⟨tb, 0, none⟩ = some (.int .i64 t1) ∧ W.cell? ⟨tb, 1, none⟩ = some (.int .i64 t2) ∧ W.cell? ⟨xb, 0, none⟩ = some (.string text) ∧ W.cell? ⟨lb, 0, none⟩ = some (.slice (some ⟨b, off, none⟩) n cap) ∧ W.cell? ⟨b, off + i * 2, none⟩ = some (.int .i64 s1) ∧ W.cell? ⟨b, off + i * 2 + 1, none⟩ = some (.string s2))
    ((refine KA.out _ ?_; repeat (first | exact Below.refl _ _ | apply Below.drew | refine Below.alloc ?_ (Nat.le_refl _) _ | refine Below.setCell ?_ (Nat.le_refl _) _)))
    (fail)
  go_wp2
  go_ret
  exact ⟨rfl, ((Below.refl _ _).alloc (Nat.le_refl _) _).drew, by simp, heap_alloc_new _ _⟩
/-! ### Send -/
theorem run_equalIn_nilFunc (w : World) (d : Nat) : (Op.equalIn (d + 1) 124 .nilFunc .nilFunc).run Tryz.prog w = .ok true w := by
  simp [Op.equalIn, run_underlying Tryz.underlying124]
theorem run_equalIn_func (w : World) (d : Nat) (f : Fn) (x y : Array Value) : (Op.equalIn (d + 1) 124 (.func f x y) .nilFunc).run Tryz.prog w = .ok false w := by
  simp [Op.equalIn, run_underlying Tryz.underlying124]
theorem run_neq_nilFunc (w : World) : (binOp .neq 124 .nilFunc .nilFunc).run Tryz.prog w = .ok (.bool false) w := by
  simp only [binOp]
  simp [Op.equal, Op.maxDepth, run_equalIn_nilFunc w 9999]
theorem run_neq_func (w : World) (f : Fn) (x y : Array Value) : (binOp .neq 124 (.func f x y) .nilFunc).run Tryz.prog w = .ok (.bool true) w := by
  simp only [binOp]
  simp [Op.equal, Op.maxDepth, run_equalIn_func w 9999]
set_option maxRecDepth 100000 in
set_option maxHeartbeats 8000000 in
theorem send_nil (F : Nat → Prop) (w : World) (tb bm : Nat) (ma : Option Addr) (mc : Nat) (t : TalkS) (kind : ByteArray) (h : TalkAt F w tb bm ma mc t) (hok : TalkOk t) :
    Calls Tryz.prog 42 #[.pointer (some ⟨tb, 0, none⟩), .string kind, .nilFunc] w fun e w' => Below w.heap.size w w' ∧ RetMsgs (fun b => w.heap.size ≤ b) w' e (sendT t kind (fun _ => [])) := by
  obtain ⟨name, tkey, top, tcf, n, k, mem, wait, got⟩ := t
  unfold sendT
  dsimp only
  have hn12 : mem.length ≤ 12 := by
    have := talk_cfg hok
    dsimp only at this
    omega
  have hmn : mem.length = n := (talk_cfg hok).2.2.2.1
  have hms := mem_size hok
  dsimp only at hms
  obtain ⟨m, hm⟩ : ∃ m, mem.length = m := ⟨_, rfl⟩
  have c6 := h.c6
  dsimp only at c6
  rw [hm] at c6 hn12 hmn
  rw [hm]
  subst hmn
  have hm9 : m ≤ 9223372036854775807 := by omega
  have H := Lib.hid (And.intro h (And.intro hm (And.intro hms hn12)))
  have hlt := h.lt tb h.hF
  have KT : Hid (∀ W, Below w.heap.size w W → W.cell? ⟨tb, 0, none⟩ = some (.string name) ∧ W.cell? ⟨tb, 1, none⟩ = some (.string tkey) ∧ W.cell? ⟨tb, 2, none⟩ = some (.int .i64 top) ∧ W.cell? ⟨tb, 3, none⟩ = some (.int .i64 tcf)) := Lib.hid fun W hb => by
    have hT := H.out.1.below hb (Nat.le_refl _)
    exact ⟨hT.c0, hT.c1, hT.c2, hT.c3⟩
  have hnf := run_neq_nilFunc
  clear h hok hm hms hn12
  go_enter Tryz.func42, Tryz.ntmps42
  go_wp2
  go_loopw [7, 17] (fun vl vi wr => ∃ (i : Nat) (v : Value), i ≤ m ∧ vi = .int .i64 i ∧ v = vl ∧ Hid (Below w.heap.size w wr ∧ MsgsW w.heap.size wr v ((List.range i).map fun i => (⟨name, mem[i]?.getD ⟨#[]⟩, kind, tkey, top, tcf, false, (fun _ => []) i⟩ : Msg)))) (fun _ vi _ => m - (intOf vi).toNat)
  case atStart => exact ⟨0, _, by omega, rfl, rfl, Lib.hid ⟨Below.refl _ _, MsgsW.nil _ _⟩⟩
  case round =>
    obtain ⟨i, v, hi, rfl, hv, Hr⟩ := hrel
    subst hv
    have hi2 : i < m ∨ m = i := by omega
    rcases hi2 with hilt | rfl
    · have hilt2 : (i : Int) < m := by omega
      have hil : i < mem.length := by rw [H.out.2.1]; exact hilt
      have hT := H.out.1.below Hr.out.1 (Nat.le_refl _)
      obtain ⟨b, off, rfl, hcx⟩ : ∃ b off, ma = some ⟨b, off, none⟩ ∧ wr.cell? ⟨b, off + i, none⟩ = some (.string (mem[i]?.getD ⟨#[]⟩)) := by
        rcases hT.mem with he | ⟨b, off, e, _, _, hc⟩
        · exfalso; dsimp only at he; rw [he] at hil; simp at hil
        · exact ⟨b, off, e, hc i hil⟩
      obtain ⟨s, hs⟩ : ∃ s, mem[i]?.getD (⟨#[]⟩ : ByteArray) = s := ⟨_, rfl⟩
      rw [hs] at hcx
      have Hs := Lib.hid hs
      have hwr : w.heap.size ≤ wr.heap.size := Hr.out.1.size
      have hm12 := H.out.2.2.2
      clear hT hil hs
      go_wp2
      go_region_held3 (fun W => W.cell? ⟨tb, 0, none⟩ = some (.string name) ∧ W.cell? ⟨tb, 1, none⟩ = some (.string tkey) ∧ W.cell? ⟨tb, 2, none⟩ = some (.int .i64 top) ∧ W.cell? ⟨tb, 3, none⟩ = some (.int .i64 tcf))
        ((refine KT.out _ ?_; repeat (first | exact Hr.out.1 | apply Below.drew | refine Below.alloc ?_ hwr _ | refine Below.setCell ?_ hwr _)))
        (fail)
      rename_i hHeld
      clear hHeld
      obtain ⟨W4, hW4⟩ : ∃ W4, (wr.alloc (.cells #[.string name, .string s, .string kind, .string tkey, .int .i64 top, .int .i64 tcf, .bool false, .slice none 0 0] 55)).drew = W4 := ⟨_, rfl⟩
      obtain ⟨ob, hob⟩ : ∃ ob, wr.heap.size = ob := ⟨_, rfl⟩
      have hb4 : Below wr.heap.size wr W4 := by rw [← hW4]; exact ((Below.refl _ _).alloc (Nat.le_refl _) _).drew
      have hs4 : W4.heap.size = ob + 1 := by rw [← hW4, ← hob]; simp
      have gm : W4.heap[ob]? = some (.cells #[.string name, .string s, .string kind, .string tkey, .int .i64 top, .int .i64 tcf, .bool false, .slice none 0 0] 55 (0, 0)) := by rw [← hW4, ← hob]; exact heap_alloc_new _ _
      rw [hW4, hob]
      have m0 : W4.cell? ⟨ob, 0, none⟩ = some (.string name) := (cell_of_heap gm 0).trans rfl
      have m1 : W4.cell? ⟨ob, 1, none⟩ = some (.string s) := (cell_of_heap gm 1).trans rfl
      have m2 : W4.cell? ⟨ob, 2, none⟩ = some (.string kind) := (cell_of_heap gm 2).trans rfl
      have m3 : W4.cell? ⟨ob, 3, none⟩ = some (.string tkey) := (cell_of_heap gm 3).trans rfl
      have m4 : W4.cell? ⟨ob, 4, none⟩ = some (.int .i64 top) := (cell_of_heap gm 4).trans rfl
      have m5 : W4.cell? ⟨ob, 5, none⟩ = some (.int .i64 tcf) := (cell_of_heap gm 5).trans rfl
      have m6 : W4.cell? ⟨ob, 6, none⟩ = some (.bool false) := (cell_of_heap gm 6).trans rfl
      have m7 : W4.cell? ⟨ob, 7, none⟩ = some (.slice none 0 0) := (cell_of_heap gm 7).trans rfl
      obtain ⟨us, ho, hul, hus⟩ := Hr.out.2
      have ho6 := ho.below hb4
      rw [List.length_map, List.length_range] at hul
      have H6 := Lib.hid (And.intro hb4 (And.intro ho6 (And.intro hul hus)))
      have hszB : w.heap.size ≤ W4.heap.size := Nat.le_trans hwr hb4.size
      clear hb4 hs4 gm hW4 hob ho ho6 hul hus
      go_wp2_with (at_builtin; (refine append_rec (w0 := W4) 49 55 _ 8 112 Tryz.underlying49 info_wmess rfl (by omega) 47 49 rfl rfl w.heap.size v us [.string name, .string s, .string kind, .string tkey, .int .i64 top, .int .i64 tcf, .bool false, .slice none 0 0] rfl (encM_one ⟨name, s, kind, tkey, top, tcf, false, []⟩ none 0) rfl rfl H6.out.2.1 (by rw [H6.out.2.2.1]; omega) (by rw [H6.out.2.2.1]; unfold maxLen; omega) hszB ?_))
      intro v7 w7 h1 h2 hv7
      have hb7 : Below w.heap.size w w7 := (Hr.out.1.trans (H6.out.1.mono hwr)).trans (((Below.refl _ _).alloc hszB _).trans (World.grownBy.below h2 (Nat.le_trans hszB (by simp)) (fun k hk => (H6.out.2.1.lt k hk).1)))
      have HN : Hid (Below w.heap.size w w7 ∧ MsgsW w.heap.size w7 v7 ((List.range (i + 1)).map fun i => (⟨name, mem[i]?.getD ⟨#[]⟩, kind, tkey, top, tcf, false, []⟩ : Msg))) := Lib.hid ⟨hb7, by
        rw [range_snoc, Hs.out]
        exact MsgsW.snoc (by rw [H6.out.2.2.1]; simp) H6.out.2.2.2 H6.out.1 h1 h2 hv7 (Nat.le_refl _) (by simp [maxLen]) (fun _ => rfl) (.inl rfl)⟩
      clear h1 h2 hv7 hb7 m0 m1 m2 m3 m4 m5 m6 m7
      go_wp2
      go_roundw
      case rel =>
        first
        | exact ⟨i + 1, _, by omega, by go_num, rfl, HN⟩
        | (repeat apply Exists.intro); exact ⟨⟨i + 1, _, by omega, by go_num, rfl, HN⟩, rfl⟩
      case measure => simp [intOf]; omega
    · go_wp2
      go_ret
      exact ⟨Hr.out.1, Hr.out.2.read⟩
set_option maxRecDepth 100000 in
set_option maxHeartbeats 8000000 in
theorem send_keep (F : Nat → Prop) (w : World) (tb bm : Nat) (ma : Option Addr) (mc : Nat) (t : TalkS) (h : TalkAt F w tb bm ma mc t) (hok : TalkOk t) (tag : Int × Int) (text : ByteArray) (gb xb lb sb so sc : Nat) (g0 : w.cell? ⟨gb, 0, none⟩ = some (.int .i64 tag.1)) (g1 : w.cell? ⟨gb, 1, none⟩ = some (.int .i64 tag.2)) (hx : w.cell? ⟨xb, 0, none⟩ = some (.string text)) (hl : w.cell? ⟨lb, 0, none⟩ = some (.slice (some ⟨sb, so, none⟩) t.n sc)) (hsh : ∀ i, i < t.n → w.cell? ⟨sb, so + i * 2, none⟩ = some (.int .i64 (i : Nat)) ∧ w.cell? ⟨sb, so + i * 2 + 1, none⟩ = some (.string (encT t.k text i))) (htx : text.size ≤ 1000) :
    Calls Tryz.prog 42 #[.pointer (some ⟨tb, 0, none⟩), .string kKeep, .func (.func 73) #[] #[.pointer (some ⟨gb, 0, none⟩), .pointer (some ⟨xb, 0, none⟩), .pointer (some ⟨lb, 0, none⟩)]] w fun e w' => Below w.heap.size w w' ∧ RetMsgs (fun b => w.heap.size ≤ b) w' e (sendT t kKeep (keepV t.k tag text)) := by
  obtain ⟨name, tkey, top, tcf, n, k, mem, wait, got⟩ := t
  unfold sendT
  dsimp only
  have hn12 : mem.length ≤ 12 := by
    have := talk_cfg hok
    dsimp only at this
    omega
  have hmn : mem.length = n := (talk_cfg hok).2.2.2.1
  have hms := mem_size hok
  dsimp only at hms
  dsimp only at hl hsh
  obtain ⟨m, hm⟩ : ∃ m, mem.length = m := ⟨_, rfl⟩
  have c6 := h.c6
  dsimp only at c6
  rw [hm] at c6 hn12 hmn
  rw [hm]
  subst hmn
  have hm9 : m ≤ 9223372036854775807 := by omega
  have H := Lib.hid (And.intro h (And.intro hm (And.intro hms hn12)))
  have hlt := h.lt tb h.hF
  have HG : Hid (∀ W, Below w.heap.size w W → W.cell? ⟨gb, 0, none⟩ = some (.int .i64 tag.1) ∧ W.cell? ⟨gb, 1, none⟩ = some (.int .i64 tag.2) ∧ W.cell? ⟨xb, 0, none⟩ = some (.string text) ∧ W.cell? ⟨lb, 0, none⟩ = some (.slice (some ⟨sb, so, none⟩) m sc) ∧ ∀ i, i < m → W.cell? ⟨sb, so + i * 2, none⟩ = some (.int .i64 (i : Nat)) ∧ W.cell? ⟨sb, so + i * 2 + 1, none⟩ = some (.string (encT k text i))) := Lib.hid fun W hb => by
    have c : ∀ {p : Addr} {v}, w.cell? p = some v → W.cell? p = some v := fun {p v} h => (hb.cell (lt_of_cell h)).trans h
    exact ⟨c g0, c g1, c hx, c hl, fun i hi => ⟨c (hsh i hi).1, c (hsh i hi).2⟩⟩
  have Htx := Lib.hid htx
  clear g0 g1 hx hl hsh htx
  have KT : Hid (∀ W, Below w.heap.size w W → W.cell? ⟨tb, 0, none⟩ = some (.string name) ∧ W.cell? ⟨tb, 1, none⟩ = some (.string tkey) ∧ W.cell? ⟨tb, 2, none⟩ = some (.int .i64 top) ∧ W.cell? ⟨tb, 3, none⟩ = some (.int .i64 tcf)) := Lib.hid fun W hb => by
    have hT := H.out.1.below hb (Nat.le_refl _)
    exact ⟨hT.c0, hT.c1, hT.c2, hT.c3⟩
  unfold kKeep
  have hnf := run_neq_func
  clear h hok hm hms hn12
  go_enter Tryz.func42, Tryz.ntmps42
  go_wp2
  go_loopw [7, 17] (fun vl vi wr => ∃ (i : Nat) (v : Value), i ≤ m ∧ vi = .int .i64 i ∧ v = vl ∧ Hid (Below w.heap.size w wr ∧ MsgsW w.heap.size wr v ((List.range i).map fun i => (⟨name, mem[i]?.getD ⟨#[]⟩, (⟨#[107, 101, 101, 112]⟩ : ByteArray), tkey, top, tcf, false, (keepV k tag text) i⟩ : Msg)))) (fun _ vi _ => m - (intOf vi).toNat)
  case atStart => exact ⟨0, _, by omega, rfl, rfl, Lib.hid ⟨Below.refl _ _, MsgsW.nil _ _⟩⟩
  case round =>
    obtain ⟨i, v, hi, rfl, hv, Hr⟩ := hrel
    subst hv
    have hi2 : i < m ∨ m = i := by omega
    rcases hi2 with hilt | rfl
    · have hilt2 : (i : Int) < m := by omega
      have hil : i < mem.length := by rw [H.out.2.1]; exact hilt
      have hT := H.out.1.below Hr.out.1 (Nat.le_refl _)
      obtain ⟨b, off, rfl, hcx⟩ : ∃ b off, ma = some ⟨b, off, none⟩ ∧ wr.cell? ⟨b, off + i, none⟩ = some (.string (mem[i]?.getD ⟨#[]⟩)) := by
        rcases hT.mem with he | ⟨b, off, e, _, _, hc⟩
        · exfalso; dsimp only at he; rw [he] at hil; simp at hil
        · exact ⟨b, off, e, hc i hil⟩
      obtain ⟨s, hs⟩ : ∃ s, mem[i]?.getD (⟨#[]⟩ : ByteArray) = s := ⟨_, rfl⟩
      rw [hs] at hcx
      have Hs := Lib.hid hs
      have hwr : w.heap.size ≤ wr.heap.size := Hr.out.1.size
      have hm12 := H.out.2.2.2
      clear hT hil hs
      go_wp2
      go_region_held3 (fun W => W.cell? ⟨tb, 0, none⟩ = some (.string name) ∧ W.cell? ⟨tb, 1, none⟩ = some (.string tkey) ∧ W.cell? ⟨tb, 2, none⟩ = some (.int .i64 top) ∧ W.cell? ⟨tb, 3, none⟩ = some (.int .i64 tcf))
        ((refine KT.out _ ?_; repeat (first | exact Hr.out.1 | apply Below.drew | refine Below.alloc ?_ hwr _ | refine Below.setCell ?_ hwr _)))
        (fail)
      rename_i hHeld
      clear hHeld
      obtain ⟨W4, hW4⟩ : ∃ W4, (wr.alloc (.cells #[.string name, .string s, .string (⟨#[107, 101, 101, 112]⟩ : ByteArray), .string tkey, .int .i64 top, .int .i64 tcf, .bool false, .slice none 0 0] 55)).drew = W4 := ⟨_, rfl⟩
      obtain ⟨ob, hob⟩ : ∃ ob, wr.heap.size = ob := ⟨_, rfl⟩
      have hb4 : Below wr.heap.size wr W4 := by rw [← hW4]; exact ((Below.refl _ _).alloc (Nat.le_refl _) _).drew
      have hs4 : W4.heap.size = ob + 1 := by rw [← hW4, ← hob]; simp
      have gm : W4.heap[ob]? = some (.cells #[.string name, .string s, .string (⟨#[107, 101, 101, 112]⟩ : ByteArray), .string tkey, .int .i64 top, .int .i64 tcf, .bool false, .slice none 0 0] 55 (0, 0)) := by rw [← hW4, ← hob]; exact heap_alloc_new _ _
      rw [hW4, hob]
      obtain ⟨g0, g1, gx, gl, gs⟩ := HG.out W4 (Hr.out.1.trans (hb4.mono hwr))
      obtain ⟨s0, s1⟩ := gs i hilt
      have Hk := Lib.hid (keep1_walk i gb xb lb sb so m sc tag.1 tag.2 (i : Nat) text (encT k text i) W4 g0 g1 gx gl s0 s1 hilt (by have := Htx.out; unfold maxLen; omega))
      have H4 := Lib.hid (And.intro hb4 (And.intro hs4 (And.intro gm (And.intro hW4 hob))))
      have m7 := (cell_of_heap gm 7).trans rfl
      have f7 := frozen_of_heap gm 7
      clear hb4 hs4 gm hW4 hob g0 g1 gx gl gs s0 s1
      go_wp2_with fail
      refine Hk.out.mono ?_
      rintro e w5 ⟨rfl, hb5, hs5, g5⟩
      have hg5 := (hb5.block ob (by rw [H4.out.2.1]; omega)).trans H4.out.2.2.1
      obtain ⟨W6, hW6⟩ : ∃ W6, w5.setCell ⟨ob, 7, none⟩ (.slice (some ⟨W4.heap.size, 0, none⟩) 1 1) = W6 := ⟨_, rfl⟩
      have gm6 := heap_setCell_same w5 ob 7 _ _ (.slice (some ⟨W4.heap.size, 0, none⟩) 1 1) hg5
      have hsz6 : W6.heap.size = w5.heap.size := by rw [← hW6]; simp [World.setCell]
      have g6 : W6.heap[W4.heap.size]? = some (.cells #[.int .i64 tag.1, .int .i64 tag.2, .int .i64 (text.size : Nat), .int .i64 (i : Nat), .string (encT k text i)] 76 (0, 0)) := by
        rw [← hW6]
        exact (Below.heap_setCell _ _ _ _ (by show W4.heap.size ≠ ob; rw [H4.out.2.1]; omega)).trans g5
      have m0 : (w5.setCell ⟨ob, 7, none⟩ (.slice (some ⟨W4.heap.size, 0, none⟩) 1 1)).cell? ⟨ob, 0, none⟩ = some (.string name) := (cell_of_heap gm6 0).trans (by simp)
      have m1 : (w5.setCell ⟨ob, 7, none⟩ (.slice (some ⟨W4.heap.size, 0, none⟩) 1 1)).cell? ⟨ob, 1, none⟩ = some (.string s) := (cell_of_heap gm6 1).trans (by simp)
      have m2 : (w5.setCell ⟨ob, 7, none⟩ (.slice (some ⟨W4.heap.size, 0, none⟩) 1 1)).cell? ⟨ob, 2, none⟩ = some (.string ⟨#[107, 101, 101, 112]⟩) := (cell_of_heap gm6 2).trans (by simp)
      have m3 : (w5.setCell ⟨ob, 7, none⟩ (.slice (some ⟨W4.heap.size, 0, none⟩) 1 1)).cell? ⟨ob, 3, none⟩ = some (.string tkey) := (cell_of_heap gm6 3).trans (by simp)
      have m4 : (w5.setCell ⟨ob, 7, none⟩ (.slice (some ⟨W4.heap.size, 0, none⟩) 1 1)).cell? ⟨ob, 4, none⟩ = some (.int .i64 top) := (cell_of_heap gm6 4).trans (by simp)
      have m5 : (w5.setCell ⟨ob, 7, none⟩ (.slice (some ⟨W4.heap.size, 0, none⟩) 1 1)).cell? ⟨ob, 5, none⟩ = some (.int .i64 tcf) := (cell_of_heap gm6 5).trans (by simp)
      have m6 : (w5.setCell ⟨ob, 7, none⟩ (.slice (some ⟨W4.heap.size, 0, none⟩) 1 1)).cell? ⟨ob, 6, none⟩ = some (.bool false) := (cell_of_heap gm6 6).trans (by simp)
      have q7 : (w5.setCell ⟨ob, 7, none⟩ (.slice (some ⟨W4.heap.size, 0, none⟩) 1 1)).cell? ⟨ob, 7, none⟩ = some (.slice (some ⟨W4.heap.size, 0, none⟩) 1 1) := (cell_of_heap gm6 7).trans (by simp)
      rw [hW6] at gm6
      have hb6 : Below wr.heap.size wr W6 := by
        rw [← hW6]
        exact (H4.out.1.trans (hb5.mono H4.out.1.size)).setCell (Nat.le_of_eq H4.out.2.2.2.2) _
      have hq : VrS (fun b => w.heap.size ≤ b ∧ v.ownBlock ≠ some b) W6 (some ⟨W4.heap.size, 0, none⟩) (keepV k tag text i) := by
        obtain ⟨us, ho, _⟩ := Hr.out.2
        refine .inr ⟨_, _, rfl, ⟨by have := H4.out.1.size; omega, fun e => ?_⟩, (Array.getElem?_eq_some_iff.1 g6).1, fun r j hr hj => ?_⟩
        · have h8 := ho.lt _ e
          have := H4.out.1.size
          rw [H4.out.2.1, ← H4.out.2.2.2.2] at h8
          omega
        · have hr0 : r = 0 := by simp [keepV] at hr; omega
          subst hr0
          show W6.cell? ⟨W4.heap.size, 0 + 0 * 5 + j, none⟩ = _
          rw [show 0 + 0 * 5 + j = j by omega, cell_of_heap g6 j]
          match j, hj with
          | 0, _ => rfl
          | 1, _ => rfl
          | 2, _ => rfl
          | 3, _ => rfl
          | 4, _ => rfl
      have p7 := (hb5.cell (p := ⟨ob, 7, none⟩) (lt_of_cell m7)).trans m7
      have pf7 : w5.frozen? ⟨ob, 7, none⟩ = false := frozen_of_heap hg5 7
      obtain ⟨us, ho, hul, hus⟩ := Hr.out.2
      have ho6 := ho.below hb6
      rw [List.length_map, List.length_range] at hul
      have H6 := Lib.hid (And.intro hW6 (And.intro hb6 (And.intro hq (And.intro ho6 (And.intro hul (And.intro hus hsz6))))))
      have hszB : w.heap.size ≤ W6.heap.size := Nat.le_trans hwr hb6.size
      clear hb5 hs5 g5 hg5 hsz6 g6 hb6 hq gm6 hW6 ho ho6 hul hus m7 f7
      go_wp2_with (at_builtin; (rw [H6.out.1]; refine append_rec (w0 := W6) 49 55 _ 8 112 Tryz.underlying49 info_wmess rfl (by omega) 47 49 rfl rfl w.heap.size v us [.string name, .string s, .string ⟨#[107, 101, 101, 112]⟩, .string tkey, .int .i64 top, .int .i64 tcf, .bool false, .slice (some ⟨W4.heap.size, 0, none⟩) 1 1] rfl (encM_one ⟨name, s, ⟨#[107, 101, 101, 112]⟩, tkey, top, tcf, false, keepV k tag text i⟩ (some ⟨W4.heap.size, 0, none⟩) 1) rfl (congrArg (fun z => Value.slice (some ⟨z, 0, none⟩) 1 1) H6.out.2.2.2.2.2.2.symm) H6.out.2.2.2.1 (by rw [H6.out.2.2.2.2.1]; omega) (by rw [H6.out.2.2.2.2.1]; unfold maxLen; omega) hszB ?_))
      intro v7 w7 h1 h2 hv7
      have hb7 : Below w.heap.size w w7 := (Hr.out.1.trans (H6.out.2.1.mono hwr)).trans (((Below.refl _ _).alloc hszB _).trans (World.grownBy.below h2 (Nat.le_trans hszB (by simp)) (fun k hk => (H6.out.2.2.2.1.lt k hk).1)))
      have HN : Hid (Below w.heap.size w w7 ∧ MsgsW w.heap.size w7 v7 ((List.range (i + 1)).map fun i => (⟨name, mem[i]?.getD ⟨#[]⟩, ⟨#[107, 101, 101, 112]⟩, tkey, top, tcf, false, keepV k tag text i⟩ : Msg))) := Lib.hid ⟨hb7, by
        rw [range_snoc, Hs.out]
        exact MsgsW.snoc (by rw [H6.out.2.2.2.2.1]; simp) H6.out.2.2.2.2.2.1 H6.out.2.1 h1 h2 hv7 (Nat.le_refl _) (by simp [maxLen]) (fun e => by cases e) H6.out.2.2.1⟩
      clear h1 h2 hv7 hb7 m0 m1 m2 m3 m4 m5 m6 q7 p7 pf7
      go_wp2
      go_roundw
      case rel =>
        first
        | exact ⟨i + 1, _, by omega, by go_num, rfl, HN⟩
        | (repeat apply Exists.intro); exact ⟨⟨i + 1, _, by omega, by go_num, rfl, HN⟩, rfl⟩
      case measure => simp [intOf]; omega
    · go_wp2
      go_ret
      exact ⟨Hr.out.1, Hr.out.2.read⟩
end
end Go.Proofs.YtabboioamdphmaaGreatDoor

