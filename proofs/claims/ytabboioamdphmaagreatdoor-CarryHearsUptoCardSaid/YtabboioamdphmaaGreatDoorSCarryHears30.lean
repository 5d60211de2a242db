/- The document's ask in memory; the walks of waits and told. -/
import Derived.Test.YtabboioamdphmaaGreatDoorSCarryHears27
import Derived.Test.YtabboioamdphmaaGreatDoorSCarryHears29
namespace Go.Proofs.YtabboioamdphmaaGreatDoor
section
open Go.RowKit Go.Maps Go.BigFrame

structure CellsAt (w : World) (mo : Nat) (vs : List Value) : Prop where
  lt : mo < w.heap.size
  cell : ∀ j, j < vs.length → w.cell? ⟨mo, j, none⟩ = some (vs[j]?.getD undef)
  z : ∀ j, w.frozen? ⟨mo, j, none⟩ = false
theorem CellsAt.kept {G : Nat → Prop} {w w' : World} {mo : Nat} {vs : List Value} (h : CellsAt w mo vs) (hk : KeptBut G w w') (hG : ¬ G mo) : CellsAt w' mo vs :=
  ⟨Nat.lt_of_lt_of_le h.lt hk.size, fun j hj => hk.cell (h.cell j hj) hG, fun j => (hk.frozen (p := ⟨mo, j, none⟩) h.lt hG).trans (h.z j)⟩
theorem CellsAt.below {n : Nat} {w w' : World} {mo : Nat} {vs : List Value} (h : CellsAt w mo vs) (hb : Below n w w') (hn : mo < n) : CellsAt w' mo vs :=
  h.kept (KeptBut.of_below (F := fun b => n ≤ b) hb (fun _ _ h => h)) (by omega)
theorem CellsAt.set {w : World} {mo : Nat} {vs : List Value} (h : CellsAt w mo vs) (i : Nat) (hi : i < vs.length) (v : Value) : CellsAt (w.setCell ⟨mo, i, none⟩ v) mo (vs.set i v) := by
  refine ⟨by rw [setCell_size]; exact h.lt, fun j hj => ?_, fun j => by rw [World.frozen?_setCell]; exact h.z j⟩
  rw [List.length_set] at hj
  by_cases e : j = i
  · subst e
    rw [World.cell?_setCell_same _ _ _ (h.cell j hj)]
    simp [hj]
  · rw [World.cell?_setCell_other _ _ _ _ (by intro e2; have := congrArg Addr.off e2; simp at this; omega), h.cell j hj, List.getElem?_set_ne (by omega)]
def rAskV (a : AskS) (cv nv fv lv : Value) : List Value := [.string a.t.name, .string a.t.key, .int .i64 a.who, .int .i64 a.t.op, .int .i64 a.t.cf, .int .i64 (a.t.n : Nat), .int .i64 (a.t.k : Nat), cv, .int .i64 (a.n2 : Nat), .int .i64 (a.k2 : Nat), nv, .bool a.put, .bool a.moves, .string (stT a), fv, lv, .int .i64 a.tag.1, .int .i64 a.tag.2, .string a.text, .bool a.found]
structure RAskAt (S F : Nat → Prop) (w : World) (mo : Nat) (ma : Option Addr) (mc : Nat) (na : Option Addr) (nc : Nat) (fv lv : Value) (us : List Value) (a : AskS) : Prop where
  hF : F mo
  lt : ∀ b, F b → b < w.heap.size
  cs : CellsAt w mo (rAskV a (.slice ma a.t.mem.length mc) (.slice na a.mem2.length nc) fv lv)
  fr : OwnT 0 w fv (a.t.got.map (·.1))
  L : OwnVs 0 w lv (a.t.got.map (·.2)) us
  frF : ∀ g, fv.ownBlock = some g → F g ∧ g ≠ mo
  lF : ∀ g, lv.ownBlock = some g → F g ∧ g ≠ mo
  uF : ∀ i, i < us.length → ∀ g, (us[i]?.getD undef).ownBlock = some g → F g ∧ g ≠ mo
  mcap : a.t.mem.length ≤ mc ∧ mc ≤ maxLen ∧ (ma = none → mc = 0)
  mem : TxsS S w ma a.t.mem
  ncap : a.mem2.length ≤ nc ∧ nc ≤ maxLen ∧ (na = none → nc = 0)
  mem2 : TxsS S w na a.mem2
  dis : ∀ b, S b → ¬ F b
theorem OwnT.heapK {B : Nat} {w w' : World} {v : Value} {L : List ByteArray} (h : OwnT B w v L) (hg : ∀ g, v.ownBlock = some g → w'.heap[g]? = w.heap[g]?) : OwnT B w' v L := by
  refine ⟨h.1, ?_⟩
  rcases h.2 with hn | ⟨g, cap, cur, rfl, hb, hgg, rest⟩
  · exact .inl hn
  · exact .inr ⟨g, cap, cur, rfl, hb, (hg g rfl).trans hgg, rest⟩
theorem OwnVs.kept' {B : Nat} {G : Nat → Prop} {w w' : World} {v : Value} {ls : List (List Ver)} {us : List Value} (h : OwnVs B w v ls us) (hk : KeptBut G w w') (hv : ∀ g, v.ownBlock = some g → ¬ G g) (hu : ∀ i, i < us.length → ∀ g, (us[i]?.getD undef).ownBlock = some g → ¬ G g) : OwnVs B w' v ls us :=
  ⟨h.lenu, h.own.heapK (fun g e => hk.block g (h.own.lt g e).2 (hv g e)), fun i hi => (h.row i hi).heapK (fun g e => hk.block g ((h.row i hi).lt g e).2 (hu i (by rw [h.lenu]; exact hi) g e))⟩
theorem grownF_lt' {F : Nat → Prop} {w w' : World} (h : ∀ b, F b → b < w.heap.size) (hs : w.heap.size ≤ w'.heap.size) : ∀ b, grownF F w w' b → b < w'.heap.size := fun b hb => by
  rcases hb with hb | hb
  · exact Nat.lt_of_lt_of_le (h b hb) hs
  · exact hb.2
theorem RAskAt.kept {S F G : Nat → Prop} {w w' : World} {mo : Nat} {ma : Option Addr} {mc : Nat} {na : Option Addr} {nc : Nat} {fv lv : Value} {us : List Value} {a : AskS} (h : RAskAt S F w mo ma mc na nc fv lv us a) (hk : KeptBut G w w') (hG : ∀ b, F b → ¬ G b) (hS : ∀ b, b < w.heap.size → S b → ¬ G b) : RAskAt S F w' mo ma mc na nc fv lv us a :=
  ⟨h.hF, fun b hb => Nat.lt_of_lt_of_le (h.lt b hb) hk.size, h.cs.kept hk (hG mo h.hF), h.fr.heapK (fun g e => hk.block g (h.fr.lt g e).2 (hG g (h.frF g e).1)), h.L.kept' hk (fun g e => hG g (h.lF g e).1) (fun i hi g e => hG g (h.uF i hi g e).1), h.frF, h.lF, h.uF, h.mcap, h.mem.kept hk hS, h.ncap, h.mem2.kept hk hS, h.dis⟩
theorem RAskAt.below {S F : Nat → Prop} {w w' : World} {mo : Nat} {ma : Option Addr} {mc : Nat} {na : Option Addr} {nc : Nat} {fv lv : Value} {us : List Value} {a : AskS} (h : RAskAt S F w mo ma mc na nc fv lv us a) {n : Nat} (hb : Below n w w') (hn : w.heap.size ≤ n) : RAskAt S F w' mo ma mc na nc fv lv us a :=
  h.kept (KeptBut.of_below (F := fun b => w.heap.size ≤ b) (hb.mono hn) (fun _ _ h => h)) (fun b hb h9 => by have := h.lt b hb; omega) (fun b hb _ => by omega)
def rwaitT (a : AskS) : ByteArray := if a.st < 2 then waitT a else ⟨#[]⟩
set_option maxHeartbeats 1000000 in
theorem rwaits_walk (w : World) (mo : Nat) (a : AskS) (hst : a.st ≤ 3) (hc : w.cell? ⟨mo, 13, none⟩ = some (.string (stT a))) :
    Calls Tryz.prog 49 #[.pointer (some ⟨mo, 0, none⟩)] w fun e w' => e = .returned (.string (rwaitT a)) ∧ w = w' := by
  have hcs : (stT a = ⟨#[108, 111, 111, 107, 105, 110, 103]⟩ ∧ rwaitT a = kTold) ∨ (stT a = ⟨#[115, 101, 97, 108, 105, 110, 103]⟩ ∧ rwaitT a = kSealed) ∨ (stT a = ⟨#[107, 101, 101, 112, 105, 110, 103]⟩ ∧ rwaitT a = kKept) ∨ (stT a = ⟨#[100, 111, 110, 101]⟩ ∧ rwaitT a = ⟨#[]⟩) ∨ (stT a = ⟨#[114, 101, 102, 117, 115, 101, 100]⟩ ∧ rwaitT a = ⟨#[]⟩) := by
    unfold stT rwaitT waitT
    obtain ⟨t, who, put, moves, n2, k2, mem2, st, tag, text, found⟩ := a
    dsimp only at hst ⊢
    have : st = 0 ∨ st = 1 ∨ st = 2 ∨ st = 3 := by omega
    rcases this with rfl | rfl | rfl | rfl
    · cases moves
      · exact .inl ⟨rfl, rfl⟩
      · exact .inr (.inl ⟨rfl, rfl⟩)
    · exact .inr (.inr (.inl ⟨rfl, rfl⟩))
    · exact .inr (.inr (.inr (.inl ⟨rfl, rfl⟩)))
    · exact .inr (.inr (.inr (.inr ⟨rfl, rfl⟩)))
  clear hst
  rcases hcs with ⟨e1, e2⟩ | ⟨e1, e2⟩ | ⟨e1, e2⟩ | ⟨e1, e2⟩ | ⟨e1, e2⟩
  all_goals
    rw [e1] at hc
    rw [e2]
    clear e1 e2
    go_enter Tryz.func49, Tryz.ntmps49
    go_wp2
    go_ret
    exact ⟨rfl, rfl⟩
theorem idxT_hit {L : List ByteArray} {s : ByteArray} (h : 0 ≤ idxT L s) : ∃ i : Nat, idxT L s = i ∧ i < L.length ∧ L[i]? = some s := by
  unfold idxT at h ⊢
  cases hf : (List.range L.length).find? (fun i => decide ((L[i]?.getD ⟨#[]⟩) = s)) with
  | none => rw [hf] at h; simp at h
  | some i =>
    have h1 := List.find?_some hf
    have h2 := List.mem_range.1 (List.mem_of_find?_eq_some hf)
    simp only [decide_eq_true_eq] at h1
    rw [List.getElem?_eq_getElem h2] at h1
    exact ⟨i, rfl, h2, by rw [List.getElem?_eq_getElem h2]; exact congrArg some h1⟩
theorem idx_getT {g : Got} {s : ByteArray} (hn : (g.map (·.1)).Nodup) : (idxT (g.map (·.1)) s = -1 ∧ getT g s = none) ∨ ∃ i : Nat, i < g.length ∧ idxT (g.map (·.1)) s = i ∧ getT g s = some ((g.map (·.2))[i]?.getD []) := by
  by_cases hs : 0 ≤ idxT (g.map (·.1)) s
  · right
    obtain ⟨i, h1, h2, h3⟩ := idxT_hit hs
    rw [List.length_map] at h2
    refine ⟨i, h2, h1, ?_⟩
    rw [List.getElem?_map, List.getElem?_eq_getElem h2] at h3
    have h4 : g[i].1 = s := by simpa using h3
    have h5 := getT_mem hn (List.getElem_mem h2)
    rw [h4] at h5
    rw [h5, List.getElem?_map, List.getElem?_eq_getElem h2]
    rfl
  · left
    have hr := idxT_range (g.map (·.1)) s
    refine ⟨by omega, getT_none.2 (fun h9 => hs (hr.2.2.2 h9))⟩
set_option maxRecDepth 100000 in
set_option maxHeartbeats 4000000 in
theorem rtold_walk (S F : Nat → Prop) (w : World) (mo : Nat) (ma : Option Addr) (mc : Nat) (na : Option Addr) (nc : Nat) (fv lv : Value) (us : List Value) (a : AskS) (h : RAskAt S F w mo ma mc na nc fv lv us a) (hok : TalkOk a.t) :
    Calls Tryz.prog 53 #[.pointer (some ⟨mo, 0, none⟩)] w fun e w' => Below w.heap.size w w' ∧ ∃ a' cap, e = .returned (.slice a' (toldT a.t).length cap) ∧ VssR w' a' (toldT a.t) := by
  obtain ⟨⟨name, tkey, top, tcf, n, k, mem, wait, got⟩, who, put, moves, n2, k2, mem2, st, tag, text, found⟩ := a
  unfold toldT
  dsimp only at h hok ⊢
  have hn12 : mem.length ≤ 12 := by
    have := talk_cfg hok
    dsimp only at this
    omega
  have hg12 := Nat.le_trans (got_len hok) hn12
  have hnd := hok.nd
  dsimp only at hg12 hnd
  have hms := mem_size hok
  dsimp only at hms
  obtain ⟨m, hm⟩ : ∃ m, mem.length = m := ⟨_, rfl⟩
  obtain ⟨fa, fc, hfv, f1, f2, f3, f4⟩ := h.fr.read
  obtain ⟨la, lc, hlv, l4⟩ := h.L.read
  rw [List.length_map] at hfv hlv
  obtain ⟨g, hg⟩ : ∃ g, got.length = g := ⟨_, rfl⟩
  rw [hg] at hfv hlv hg12
  have c7 : w.cell? ⟨mo, 7, none⟩ = some (.slice ma mem.length mc) := h.cs.cell 7 (by show 7 < 20; decide)
  have c14 : w.cell? ⟨mo, 14, none⟩ = some fv := h.cs.cell 14 (by show 14 < 20; decide)
  have c15 : w.cell? ⟨mo, 15, none⟩ = some lv := h.cs.cell 15 (by show 15 < 20; decide)
  rw [hm] at c7 hn12
  rw [hfv] at c14
  rw [hlv] at c15
  have hm9 : m ≤ 9223372036854775807 := by omega
  have H := Lib.hid (And.intro h (And.intro hm (And.intro hms (And.intro hn12 (And.intro hnd (And.intro hg (And.intro f4 (And.intro l4 hg12))))))))
  have hlt := h.cs.lt
  have KC : Hid (∀ W, Below w.heap.size w W → W.cell? ⟨mo, 7, none⟩ = some (.slice ma m mc) ∧ W.cell? ⟨mo, 14, none⟩ = some (.slice fa g fc) ∧ W.cell? ⟨mo, 15, none⟩ = some (.slice la g lc)) := Lib.hid fun W hb => by
    have c : ∀ {p : Addr} {v}, w.cell? p = some v → W.cell? p = some v := fun {p v} h => (hb.cell (lt_of_cell h)).trans h
    exact ⟨c c7, c c14, c c15⟩
  clear h hok hm hms hn12 hnd f1 f2 f3 f4 l4 hfv hlv hg hg12
  go_enter Tryz.func53, Tryz.ntmps53
  go_wp2
  go_loopw [3, 4] (fun vl vi wr => ∃ (i : Nat) (v : Value), i ≤ m ∧ vi = .int .i64 i ∧ v = vl ∧ Hid (Below w.heap.size w wr ∧ ∃ us, OwnHs w.heap.size (fun b => b < w.heap.size) wr v ((mem.take i).filterMap (getT got)) us)) (fun _ vi _ => m - (intOf vi).toNat)
  case atStart => exact ⟨0, _, by omega, rfl, rfl, Lib.hid ⟨Below.refl _ _, [], OwnHs.nil _ _ _⟩⟩
  case round =>
    obtain ⟨i, v, hi, rfl, hv, Hr⟩ := hrel
    subst hv
    obtain ⟨hbr, us2, hus⟩ := Hr.out
    obtain ⟨d7, d14, d15⟩ := KC.out wr hbr
    have hi2 : i < m ∨ m = i := by omega
    rcases hi2 with hilt | rfl
    · have hilt2 : (i : Int) < m := by omega
      have hil : i < mem.length := by rw [H.out.2.1]; exact hilt
      obtain ⟨b, off, rfl, hcx⟩ : ∃ b off, ma = some ⟨b, off, none⟩ ∧ wr.cell? ⟨b, off + i, none⟩ = some (.string (mem[i]?.getD ⟨#[]⟩)) := by
        rcases H.out.1.mem with he | ⟨b, off, e, _, hl, hc⟩
        · exfalso; dsimp only at he; rw [he] at hil; simp at hil
        · exact ⟨b, off, e, (hbr.cell (p := ⟨b, off + i, none⟩) hl).trans (hc i hil)⟩
      have hsn := told_snoc got mem i hil
      obtain ⟨s, hs⟩ : ∃ s, mem[i]?.getD (⟨#[]⟩ : ByteArray) = s := ⟨_, rfl⟩
      rw [hs] at hcx hsn
      have hszr : w.heap.size ≤ wr.heap.size := hbr.size
      have Ci := fun d os => Calls.regrown_of ((ridx_walk w.heap.size fa g fc (got.map (·.1)) s (Go.Sort.grow (redrawn wr d) os) (by rw [List.length_map]; exact H.out.2.2.2.2.2.1) (by have := H.out.2.2.2.2.2.2.2.2; unfold maxLen; omega) ((H.out.2.2.2.2.2.2.1.below hbr).below ((below_regrown wr d os).mono hszr))).mono fun e w' h => ⟨h.1, h.2 ▸ Below.refl _ _⟩)
      have k7 := cell_regrown d7
      have k14 := cell_regrown d14
      have kx := cell_regrown hcx
      have HX := Lib.hid (And.intro hbr (And.intro hus (And.intro hsn hszr)))
      rcases idx_getT (s := s) H.out.2.2.2.2.1 with ⟨hx, hgt⟩ | ⟨q, hq, hx, hgt⟩
      · rw [hx] at Ci
        have Hgt := Lib.hid hgt
        clear hx hgt hsn hil hbr hus hs Hr
        go_wp2
        refine wp_region_quiet_below (by kernel_rfl) (by kernel_rfl) ?_
        repeat (go_big_quiet_step (first | exact Ci _ _))
        refine wpQuiet_nil ?_
        intro w2 hw'
        obtain ⟨⟨dq, osq⟩, hw2⟩ := hw'
        have hb2 : Below wr.heap.size wr w2 := by rw [hw2]; exact below_regrown wr dq osq
        have HN : Hid (Below w.heap.size w w2 ∧ ∃ us, OwnHs w.heap.size (fun b => b < w.heap.size) w2 v ((mem.take (i + 1)).filterMap (getT got)) us) := Lib.hid ⟨HX.out.1.trans (hb2.mono hszr), us2, by rw [HX.out.2.2.1, Hgt.out]; simpa using HX.out.2.1.heapK hb2⟩
        clear hw2 hb2 k7 k14 kx Ci d7 d14 d15 hcx
        go_wp2
        go_roundw
        case rel =>
          first
          | exact ⟨i + 1, _, by omega, by go_num, rfl, HN⟩
          | (repeat apply Exists.intro); exact ⟨⟨i + 1, _, by omega, by go_num, rfl, HN⟩, rfl⟩
        case measure => simp [intOf]; omega
      · rw [hx] at Ci
        have Hgt := Lib.hid (And.intro hgt hq)
        clear hx hgt hq hsn hil hbr hus hs Hr
        go_wp2
        refine wp_region_quiet_below (by kernel_rfl) (by kernel_rfl) ?_
        repeat (go_big_quiet_step (first | exact Ci _ _))
        refine wpQuiet_nil ?_
        intro w2 hw'
        obtain ⟨⟨dq, osq⟩, hw2⟩ := hw'
        have hb2 : Below wr.heap.size wr w2 := by rw [hw2]; exact below_regrown wr dq osq
        have hbw2 := HX.out.1.trans (hb2.mono hszr)
        obtain ⟨e7, e14, e15⟩ := KC.out w2 hbw2
        obtain ⟨lb, lo, rfl, hlc⟩ : ∃ lb lo, la = some ⟨lb, lo, none⟩ ∧ ∃ ad cp, w2.cell? ⟨lb, lo + q, none⟩ = some (.slice ad ((got.map (·.2))[q]?.getD []).length cp) ∧ RowOk (fun b => b < w.heap.size) w2 (.slice ad ((got.map (·.2))[q]?.getD []).length cp) ((got.map (·.2))[q]?.getD []) := by
          rcases H.out.2.2.2.2.2.2.2.1 with he | ⟨lb, lo, e, hlb, hc⟩
          · exfalso
            have h9 := congrArg List.length he
            rw [List.length_map, List.length_nil] at h9
            have := Hgt.out.2
            omega
          · obtain ⟨ad, cp, h1, h2, h3, h4, h5⟩ := hc q (by rw [List.length_map]; exact Hgt.out.2)
            refine ⟨lb, lo, e, ad, cp, (hbw2.cell (p := ⟨lb, lo + q, none⟩) hlb).trans h1, ad, cp, rfl, h2, h3, h4, ?_⟩
            exact (VrR.toS h5 (Nat.le_refl _) (fun b hb => hb)).kept (KeptBut.of_below (F := fun b => w.heap.size ≤ b) hbw2 (fun _ _ h => h)) (fun b hb _ => by omega)
        obtain ⟨ad, cp, cx, hro⟩ := hlc
        have hlu : us2.length ≤ 2000000 := by
          rw [HX.out.2.1.lenu]
          have h1 := List.length_filterMap_le (getT got) (mem.take i)
          rw [List.length_take] at h1
          have := H.out.2.2.2.1
          have := H.out.2.1
          omega
        have hqi : (q : Int) < g := by have := Hgt.out.2; have := H.out.2.2.2.2.2.1; omega
        obtain ⟨l, hl⟩ : ∃ l, (got.map (·.2))[q]?.getD [] = l := ⟨_, rfl⟩
        rw [hl] at cx hro
        have HQ := Lib.hid (And.intro hbw2 (And.intro (HX.out.2.1.heapK hb2) (And.intro hro (And.intro hlu hl))))
        clear hw2 hb2 k7 k14 kx Ci d7 d14 d15 hcx hro hlu hl hbw2
        go_wp2_with (at_builtin; refine append_one 42 53 (.slice none 0 0) 24 Tryz.underlying42 info_vers rfl 31 39 rfl rfl w.heap.size v us2 _ rfl rfl rfl HQ.out.2.1.own (by have := HQ.out.2.2.2.1; omega) (by have := HQ.out.2.2.2.1; unfold maxLen; omega) HQ.out.1.size ?_)
        intro v6 w6 h1 h2 _
        have HN : Hid (Below w.heap.size w w6 ∧ ∃ us, OwnHs w.heap.size (fun b => b < w.heap.size) w6 v6 ((mem.take (i + 1)).filterMap (getT got)) us) := Lib.hid ⟨HQ.out.1.trans (((Below.refl _ _).alloc HQ.out.1.size _).trans (World.grownBy.below h2 (by simp; have := HQ.out.1.size; omega) (fun k e => (HQ.out.2.1.own.lt k e).1))), _, by
          rw [HX.out.2.2.1, Hgt.out.1, HQ.out.2.2.2.2]; exact OwnHs.snoc HQ.out.2.1 HQ.out.2.2.1 (fun b hb => hb) h1 h2⟩
        clear h1 h2
        go_wp2
        go_roundw
        case rel =>
          first
          | exact ⟨i + 1, _, by omega, by go_num, rfl, HN⟩
          | (repeat apply Exists.intro); exact ⟨⟨i + 1, _, by omega, by go_num, rfl, HN⟩, rfl⟩
        case measure => simp [intOf]; omega
    · rw [← H.out.2.1, List.take_length] at hus
      obtain ⟨a', cap', hv, hrd⟩ := hus.read
      subst hv
      have HE := Lib.hid (And.intro hbr hrd)
      clear hbr hrd hus
      go_wp2
      go_ret
      exact ⟨HE.out.1, _, _, rfl, HE.out.2⟩
end
end Go.Proofs.YtabboioamdphmaaGreatDoor

