/- The walk of groups. -/
import Derived.Test.YtolbdcmoblcakaaGreatDoorKRepairAll26
import Derived.Deep.RegionHeld
namespace Go.Proofs.YtolbdcmoblcakaaGreatDoor
section
open Go.RowKit Go.BigFrame

/-- append(s, x) of a shard, in a region that draws. -/
theorem step_append_shard {ops : Array Oper} {o : Oper} {a : Act} {K : Act → World → Prop} {Q : Exit → Act → World → Prop} {E : Prop} {w : World} (s x : Nat) (hgd : o.guard = none)
    (ho : o.op = .call { callee := .builtin .append, args := #[.tmp s, .tmp x], argTypes := #[64, 64] }) (B : Nat) (v : Value) (l : List Sh) (n : Int) (t : ByteArray) (nb : Nat)
    (hs : a.eval (.tmp s) = v) (hx : a.eval (.tmp x) = .slice (some ⟨nb, 0, none⟩) 1 1) (hn0 : w.cell? ⟨nb, 0, none⟩ = some (.int .i64 n)) (hn1 : w.cell? ⟨nb, 1, none⟩ = some (.string t)) (hown : OwnS B w v l) (hl : l.length ≤ 1000000) (hB : B ≤ w.heap.size)
    (h : ∀ g cap w', OwnS B w' (.slice (some ⟨g, 0, none⟩) (l.length + 1) cap) (l ++ [(n, t)]) → w.grownBy w' v.ownBlock → (v.ownBlock = some g ∨ g = w.heap.size) → K (a.put o.dst (.slice (some ⟨g, 0, none⟩) (l.length + 1) cap)) w') :
    if Region.wanted o (yielded ops a.tmps) = true then Oper.wp Tryz.prog o a w K Q else E := by
  obtain ⟨i, hi, hz0, hz1, hz2⟩ := info_parts info_shard
  refine step_append_lies w hgd (.tmp s) (.tmp x) 64 ho B 56 i _ 2 24 Tryz.underlying64 hi hz0 hz1 hz2 rfl (by decide) v l.length (shV l) hs hown ⟨nb, 0, none⟩ 1 1 [.int .i64 n, .string t] hx rfl (fun j u hj => ?_) (fun u hu => ?_) (by decide) (by unfold maxLen; omega) (by omega) hB _ rfl ?_
  · match j, hj with
    | 0, hj => simp at hj; subst hj; simpa [Addr.add] using hn0
    | 1, hj => simp at hj; subst hj; simpa [Addr.add] using hn1
  · simp at hu
    rcases hu with rfl | rfl <;> rfl
  · intro g cap w' h1 h2 h3 _
    refine h g cap w' ?_ h2 h3
    unfold OwnS
    rw [shV_append, List.length_append]
    exact h1
theorem groupsL_len (n k : Nat) (xs : List Ver) : (groupsL n k xs).length ≤ xs.length := by
  suffices h : ∀ ys : List Ver, (groupsL n k ys.reverse).length ≤ ys.length by
    have := h xs.reverse
    rwa [List.reverse_reverse, List.length_reverse] at this
  intro ys
  induction ys with
  | nil => exact Nat.le_refl _
  | cons x ys ih =>
    rw [List.reverse_cons, groupsL_snoc]
    unfold stepG
    split
    · split
      · simp; omega
      · simp; omega
    · simp; omega
theorem groupsL_shards (n k : Nat) (xs : List Ver) : ∀ g ∈ groupsL n k xs, g.2.2.length ≤ xs.length := by
  suffices h : ∀ ys : List Ver, ∀ g ∈ groupsL n k ys.reverse, g.2.2.length ≤ ys.length by
    have := h xs.reverse
    rwa [List.reverse_reverse, List.length_reverse] at this
  have ha : ∀ (g : Grp) (x : Ver), (addG g x).2.2.length ≤ g.2.2.length + 1 := fun g x => by unfold addG; split <;> simp
  intro ys
  induction ys with
  | nil => intro g hg; cases hg
  | cons x ys ih =>
    rw [List.reverse_cons, groupsL_snoc]
    intro g hg
    unfold stepG at hg
    rw [List.length_cons]
    split at hg
    · split at hg
      · obtain ⟨g0, h0, rfl⟩ := List.mem_map.1 hg
        have h1 := ih g0 h0
        split
        · have := ha g0 x; omega
        · omega
      · rcases List.mem_append.1 hg with h0 | h0
        · have := ih g h0; omega
        · rw [List.mem_singleton.1 h0]
          have := ha (tg x, x.2.2.1, []) x
          simp at this; omega
    · have := ih g hg; omega
theorem map_set_at (l : List Grp) (t : Int × Int) (f : Grp → Grp) : ∀ (i : Nat), (l.map (·.1)).Nodup → i < l.length → (l[i]?.getD grp0).1 = t → l.map (fun g => if g.1 = t then f g else g) = l.set i (f (l[i]?.getD grp0)) := by
  induction l with
  | nil => intro i _ hi; simp at hi
  | cons y l ih =>
    intro i hn hi ht
    rw [List.map_cons, List.nodup_cons] at hn
    cases i with
    | zero =>
      have ht' : y.1 = t := by simpa using ht
      rw [List.map_cons, if_pos ht']
      have e : l.map (fun g => if g.1 = t then f g else g) = l := by
        conv => rhs; rw [← List.map_id l]
        refine List.map_congr_left fun g hg => ?_
        rw [if_neg (fun e => hn.1 (List.mem_map.2 ⟨g, hg, e.trans ht'.symm⟩))]; rfl
      rw [e]; rfl
    | succ i =>
      have hi' : i < l.length := by simpa using hi
      have ht2 : (l[i]?.getD grp0).1 = t := by simpa using ht
      have hne : ¬ y.1 = t := fun e => hn.1 (by
        refine List.mem_map.2 ⟨l[i]?.getD grp0, ?_, ht2.trans e.symm⟩
        rw [List.getElem?_eq_getElem hi']; exact List.getElem_mem hi')
      rw [List.map_cons, if_neg hne, ih i hn.2 hi' ht2]
      rfl
/-- the step, where the tag's group is known: in gs1 at i. -/
def AtG (n k : Nat) (gs : List Grp) (x : Ver) (gs1 : List Grp) (i : Nat) : Prop := i < gs1.length ∧ (gs1[i]?.getD grp0).1 = tg x ∧ stepG n k gs x = gs1.set i (addG (gs1[i]?.getD grp0) x)
theorem atG_old {n k : Nat} {gs : List Grp} {x : Ver} {i : Nat} (hc : canB n k x = true) (hn : (gs.map (·.1)).Nodup) (hi : i < (gs.map (·.1)).length) (ht : (gs.map (·.1))[i]? = some (tg x)) : AtG n k gs x gs i := by
  have hi' : i < gs.length := by simpa using hi
  have ht' : (gs[i]?.getD grp0).1 = tg x := by
    rw [List.getElem?_eq_getElem hi']
    rw [List.getElem?_map, List.getElem?_eq_getElem hi'] at ht
    simpa using ht
  refine ⟨hi', ht', ?_⟩
  rw [stepG_map hc (hasG_mem.2 ⟨gs[i]?.getD grp0, by rw [List.getElem?_eq_getElem hi']; exact List.getElem_mem hi', ht'⟩)]
  exact map_set_at gs (tg x) (fun g => addG g x) i hn hi' ht'
theorem atG_new {n k : Nat} {gs : List Grp} {x : Ver} (hc : canB n k x = true) (ht : tg x ∉ gs.map (·.1)) : AtG n k gs x (gs ++ [(tg x, x.2.2.1, [])]) gs.length := by
  have e : (gs ++ [(tg x, x.2.2.1, ([] : List Sh))])[gs.length]?.getD grp0 = (tg x, x.2.2.1, []) := by simp
  refine ⟨by simp, by rw [e], ?_⟩
  have hf : hasG gs (tg x) = false := by
    cases h : hasG gs (tg x) with
    | false => rfl
    | true =>
      obtain ⟨g, hg, h2⟩ := hasG_mem.1 h
      exact absurd (List.mem_map.2 ⟨g, hg, h2⟩) ht
  rw [stepG_new hc hf, e]
  simp
theorem AtG.no {n k : Nat} {gs gs1 : List Grp} {x : Ver} {i : Nat} (h : AtG n k gs x gs1 i) (hno : addG (gs1[i]?.getD grp0) x = gs1[i]?.getD grp0) : stepG n k gs x = gs1 := by
  rw [h.2.2, hno, List.getElem?_eq_getElem h.1]
  exact List.set_getElem_self h.1
theorem take_snoc {α : Type} (l : List α) (z : α) (i : Nat) (h : i < l.length) : l.take (i + 1) = l.take i ++ [l[i]?.getD z] := by
  rw [List.take_succ_eq_append_getElem h, List.getElem?_eq_getElem h]; rfl
theorem GrpsAt.group {B : Nat} {w : World} {v : Value} {gs : List Grp} {bs : List Nat} {vs : List Value} (h : GrpsAt B w v gs bs vs) {i : Nat} (hi : i < gs.length) : ∃ gb sv, bs[i]?.getD 0 = gb ∧ vs[i]?.getD undef = sv ∧ w.heap[gb]? = some (grpC (gs[i]?.getD grp0) sv) ∧ OwnS B w sv (gs[i]?.getD grp0).2.2 :=
  ⟨_, _, rfl, rfl, (h.blk i hi).1, (h.blk i hi).2.2⟩
/-- append(s, &group{..}). -/
theorem info_grp : (Tryz.prog.info? 131).map (fun i => (i.zero, i.size, i.bytes)) = some (some (.pointer none), 1, 8) := by kernel_rfl
theorem append_grp {ops : Array Oper} {rest : List Oper} {o : Oper} {a : Act} {Q : Exit → Act → World → Prop} {w0 : World} (s x : Nat) (hgd : o.guard = none)
    (ho : o.op = .call { callee := .builtin .append, args := #[.tmp s, .tmp x], argTypes := #[132, 132] }) (B : Nat) (v : Value) (us : List Value) (p : Addr)
    (hs : a.eval (.tmp s) = v) (hx : a.eval (.tmp x) = .slice (some ⟨w0.heap.size, 0, none⟩) 1 1) (hown : Own1 131 B w0 v us) (hl : us.length ≤ 1000000) (hB : B ≤ w0.heap.size)
    (h : ∀ v' w', Own1 131 B w' v' (us ++ [.pointer (some p)]) → (w0.alloc (.cells #[.pointer (some p)] 131)).grownBy w' v.ownBlock → (v'.ownBlock = v.ownBlock ∨ v'.ownBlock = some (w0.heap.size + 1)) → wpList Tryz.prog ops Q rest (a.put o.dst v') w') :
    wpList Tryz.prog ops Q (o :: rest) a (w0.alloc (.cells #[.pointer (some p)] 131)) :=
  append_one 132 131 (.pointer none) 8 Tryz.underlying132 info_grp rfl s x hgd ho B v us _ rfl hs hx hown (by omega) (by unfold maxLen; omega) hB h
end
end Go.Proofs.YtolbdcmoblcakaaGreatDoor
/- The walk of groups. -/
namespace Go.Proofs.YtolbdcmoblcakaaGreatDoor
section
open Go.RowKit Go.BigFrame

theorem OwnS.ne_grp {B : Nat} {w : World} {v : Value} {l : List Sh} (h : OwnS B w v l) {gb : Nat} {cs : Array Value} (hg : w.heap[gb]? = some (.cells cs 135 (0, 0))) : v.ownBlock ≠ some gb := fun e => by
  obtain ⟨cs', e4⟩ := owns_heap h e
  rw [hg] at e4
  simp at e4
set_option maxRecDepth 100000 in
set_option maxHeartbeats 8000000 in
theorem groups_walk (n k : Nat) (ca : Option Addr) (cl cc : Nat) (a : Option Addr) (len cap : Nat) (ls : List (List Ver)) (w : World) (hk : 1 ≤ k) (hkn : k ≤ n) (hn : n ≤ 12) (hlen : ls.length = len) (hm : len ≤ maxLen) (hR : VssR w a ls) (ht : totV ls ≤ 1000000) :
    Calls Tryz.prog 66 #[.agg #[.int .i64 n, .int .i64 k, .slice ca cl cc], .slice a len cap] w fun e w' => Below w.heap.size w w' ∧ ∃ v B bs vs, e = .returned v ∧ w.heap.size ≤ B ∧ GrpsAt B w' v (groupsL n k ls.flatten) bs vs := by
  obtain ⟨W1, hW1⟩ : ∃ W1, w.alloc (.cells #[.int .i64 n, .int .i64 k, .slice ca cl cc] 24) = W1 := ⟨_, rfl⟩
  obtain ⟨cb, hcb⟩ : ∃ cb, w.heap.size = cb := ⟨_, rfl⟩
  have hs1 : W1.heap.size = cb + 1 := by rw [← hW1, ← hcb]; simp
  have hb1 : Below w.heap.size w W1 := by rw [← hW1]; exact (Below.refl _ w).alloc (Nat.le_refl _) _
  have g1 : W1.heap[cb]? = some (.cells #[.int .i64 n, .int .i64 k, .slice ca cl cc] 24 (0, 0)) := by rw [← hW1, ← hcb]; exact heap_alloc_new _ _
  have Hc := Lib.hid (concat_walk a len cap ls W1 hlen hm (hR.below hb1) ht)
  have hfl : ls.flatten.length ≤ 1000000 := by rw [flat_len]; exact ht
  have H1 := Lib.hid (And.intro hW1 (And.intro hcb (And.intro hs1 (And.intro hb1 g1))))
  have Hk := Lib.hid (And.intro hk (And.intro hkn hn))
  clear hW1 hcb hs1 hb1 g1 hlen hm hR ht hk hkn hn
  obtain ⟨xs, hxs⟩ : ∃ xs, ls.flatten = xs := ⟨_, rfl⟩
  rw [hxs] at Hc hfl ⊢
  have Hfl := Lib.hid hfl
  obtain ⟨m, hm⟩ : ∃ m, xs.length = m := ⟨_, rfl⟩
  have Hm := Lib.hid hm
  rw [hm] at hfl
  clear hxs hm
  go_enter Tryz.func66, Tryz.ntmps66
  go_wp2_with fail
  rw [H1.out.1, H1.out.2.1]
  refine Hc.out.mono ?_
  rintro e w2 ⟨hb2, v2, rfl, ho2⟩
  obtain ⟨a2, cap2, rfl, _, _, _, hr2⟩ := ho2.read
  rw [Hm.out]
  obtain ⟨B, hB⟩ : ∃ B, w2.heap.size = B := ⟨_, rfl⟩
  have hcB : cb < B := by rw [← hB]; have := hb2.size; have := H1.out.2.2.1; omega
  have hg2 : w2.heap[cb]? = some (.cells #[.int .i64 n, .int .i64 k, .slice ca cl cc] 24 (0, 0)) := (hb2.block cb (by rw [H1.out.2.2.1]; omega)).trans H1.out.2.2.2.2
  have H2 := Lib.hid (And.intro hB (And.intro (H1.out.2.2.2.1.trans (hb2.mono H1.out.2.2.2.1.size)) (And.intro hr2 hg2)))
  have HcB := Lib.hid hcB
  clear ho2 hb2 hr2 hg2 hB hcB
  go_wp2_with fail
  go_loopw [5, 13] (fun vl vi wr => ∃ (i : Nat) (v : Value), i ≤ m ∧ vi = .int .i64 i ∧ v = vl ∧ Hid (Below B w2 wr ∧ ∃ bs vs, GrpsAt B wr v (groupsL n k (xs.take i)) bs vs)) (fun _ vi _ => m - (intOf vi).toNat)
  case atStart => exact ⟨0, _, by omega, rfl, rfl, Lib.hid ⟨Below.refl _ _, [], [], GrpsAt.nil _ _⟩⟩
  case round =>
    obtain ⟨i, v, hi, rfl, hv, H⟩ := hrel
    subst hv
    have hi2 : i < m ∨ m = i := by omega
    rcases hi2 with hilt | rfl
    · have hilt2 : (i : Int) < m := by omega
      have hix : i < xs.length := by rw [Hm.out]; exact hilt
      obtain ⟨hbr, bs, vs, hG⟩ := H.out
      have hszr : B ≤ wr.heap.size := by rw [← H2.out.1]; exact hbr.size
      have hst := groupsL_snoc n k (xs.take i) (xs[i]?.getD ver0)
      rw [← take_snoc xs ver0 i hix] at hst
      have hok := (groups_ok n k (xs.take i)).nodup
      have hgl : (groupsL n k (xs.take i)).length ≤ 1000000 := Nat.le_trans (groupsL_len n k _) (by rw [List.length_take]; omega)
      have hgs : ∀ g ∈ groupsL n k (xs.take i), g.2.2.length ≤ 1000000 := fun g hg => Nat.le_trans (groupsL_shards n k _ g hg) (by rw [List.length_take]; omega)
      obtain ⟨gs, hgsv⟩ : ∃ gs, groupsL n k (xs.take i) = gs := ⟨_, rfl⟩
      rw [hgsv] at hst hok hgl hgs hG
      obtain ⟨a2b, off2, rfl, hb2b, hcx⟩ : ∃ b off, a2 = some ⟨b, off, none⟩ ∧ b < B ∧ ∀ i j, i < xs.length → j < 5 → w2.cell? ⟨b, off + i * 5 + j, none⟩ = (encVr (xs[i]?.getD ver0))[j]? := by
        rcases H2.out.2.2.1 with he | ⟨b, off, rfl, hb, hc⟩
        · exfalso; rw [he] at hix; simp at hix
        · exact ⟨b, off, rfl, by rw [← H2.out.1]; exact hb, hc⟩
      obtain ⟨f0, f1, f2, f3, f4⟩ := VrR.at5 hcx hix
      obtain ⟨⟨x1, x2, x3, x4, x5⟩, hx⟩ : ∃ x, xs[i]?.getD ver0 = x := ⟨_, rfl⟩
      rw [hx] at f0 f1 f2 f3 f4 hst
      dsimp only at f0 f1 f2 f3 f4
      replace f0 := (hbr.cell (p := ⟨a2b, off2 + i * 5, none⟩) hb2b).trans f0
      replace f1 := (hbr.cell (p := ⟨a2b, off2 + i * 5 + 1, none⟩) hb2b).trans f1
      replace f2 := (hbr.cell (p := ⟨a2b, off2 + i * 5 + 2, none⟩) hb2b).trans f2
      replace f3 := (hbr.cell (p := ⟨a2b, off2 + i * 5 + 3, none⟩) hb2b).trans f3
      replace f4 := (hbr.cell (p := ⟨a2b, off2 + i * 5 + 4, none⟩) hb2b).trans f4
      have hgc : wr.heap[cb]? = some (.cells #[.int .i64 n, .int .i64 k, .slice ca cl cc] 24 (0, 0)) := (hbr.block cb HcB.out).trans H2.out.2.2.2
      have hgx : (wr.alloc (.cells #[.int .i64 x1, .int .i64 x2, .int .i64 x3, .int .i64 x4, .string x5] 58)).heap[cb]? = some (.cells #[.int .i64 n, .int .i64 k, .slice ca cl cc] 24 (0, 0)) := (Below.heap_alloc _ _ _ (Nat.lt_of_lt_of_le HcB.out hszr)).trans hgc
      have c0 : (wr.alloc (.cells #[.int .i64 x1, .int .i64 x2, .int .i64 x3, .int .i64 x4, .string x5] 58)).cell? ⟨cb, 0, none⟩ = some (.int .i64 n) := cell_of_heap hgx 0
      have c1 : (wr.alloc (.cells #[.int .i64 x1, .int .i64 x2, .int .i64 x3, .int .i64 x4, .string x5] 58)).cell? ⟨cb, 1, none⟩ = some (.int .i64 k) := cell_of_heap hgx 1
      have c2 : (wr.alloc (.cells #[.int .i64 x1, .int .i64 x2, .int .i64 x3, .int .i64 x4, .string x5] 58)).cell? ⟨cb, 2, none⟩ = some (.slice ca cl cc) := cell_of_heap hgx 2
      have HL := Lib.hid (And.intro hst (And.intro hok (And.intro hgl (And.intro hgs (And.intro hG (And.intro hbr (And.intro hszr hgc)))))))
      clear hst hok hgl hgs hG hbr hszr hgc hgx hcx hx hb2b hix hgsv
      go_wp2_with fail
      obtain ⟨bl, hbl⟩ : ∃ bl, bs.length = bl := ⟨_, rfl⟩
      obtain ⟨xb, hxb⟩ : ∃ xb, wr.heap.size = xb := ⟨_, rfl⟩
      obtain ⟨wx, hwx⟩ : ∃ wx, wr.alloc (.cells #[.int .i64 x1, .int .i64 x2, .int .i64 x3, .int .i64 x4, .string x5] 58) = wx := ⟨_, rfl⟩
      rw [hwx, hxb]
      have Hcan := Lib.hid (can_walk n k ca cl cc x1 x2 x3 x4 x5 wx Hk.out.1 Hk.out.2.1 Hk.out.2.2)
      obtain ⟨c, hc⟩ : ∃ c, canB n k (x1, x2, x3, x4, x5) = c := ⟨_, rfl⟩
      rw [hc] at Hcan
      have Hcc := Lib.hid hc
      have hbx : Below wr.heap.size wr wx := by rw [← hwx]; exact (Below.refl _ wr).alloc (Nat.le_refl _) _
      have hgx : wx.heap[xb]? = some (.cells #[.int .i64 x1, .int .i64 x2, .int .i64 x3, .int .i64 x4, .string x5] 58 (0, 0)) := by rw [← hwx, ← hxb]; exact heap_alloc_new _ _
      have HX := Lib.hid (And.intro hbx (And.intro hgx (And.intro hxb hbl)))
      clear hc hbx hgx hxb hbl hwx c0 c1 c2 f0 f1 f2 f3 f4
      cases c
      · refine Hcan.out.mono ?_
        rintro e w4 ⟨rfl, hb4⟩
        have HN : Hid (Below B w2 w4 ∧ GrpsAt B w4 v gs bs vs) := Lib.hid ⟨HL.out.2.2.2.2.2.1.trans ((HX.out.1.mono HL.out.2.2.2.2.2.2.1).trans (hb4.mono (Nat.le_trans HL.out.2.2.2.2.2.2.1 HX.out.1.size))), (HL.out.2.2.2.2.1.below HX.out.1).below hb4⟩
        clear hb4
        go_wp2
        go_roundw
        case rel => exact ⟨i + 1, _, by omega, by go_num, rfl, Lib.hid ⟨HN.out.1, bs, vs, by rw [HL.out.1, stepG_no Hcc.out]; exact HN.out.2⟩⟩
        case measure => simp [intOf]; omega
      · refine Hcan.out.mono ?_
        rintro e w4 ⟨rfl, hb4⟩
        have hG4 : GrpsAt B w4 v gs bs vs := (HL.out.2.2.2.2.1.below HX.out.1).below hb4
        have hb24 : Below B w2 w4 := HL.out.2.2.2.2.2.1.trans ((HX.out.1.mono HL.out.2.2.2.2.2.2.1).trans (hb4.mono (Nat.le_trans HL.out.2.2.2.2.2.2.1 HX.out.1.size)))
        have hg4 : wx.heap[xb]? = some (.cells #[.int .i64 x1, .int .i64 x2, .int .i64 x3, .int .i64 x4, .string x5] 58 (0, 0)) := HX.out.2.1
        have hxlt := (Array.getElem?_eq_some_iff.1 hg4).1
        have hg4' : w4.heap[xb]? = some (.cells #[.int .i64 x1, .int .i64 x2, .int .i64 x3, .int .i64 x4, .string x5] 58 (0, 0)) := (hb4.block xb hxlt).trans hg4
        obtain ⟨pa, pc, hv, hpc, hpm, hptr⟩ := hG4.ptrs
        have Hgi := Lib.hid (gidx_walk pa pc xb bs (gs.map (·.1)) x1 x2 w4 (by simp [hG4.lenb]) (Nat.le_trans hpc hpm) hptr hG4.tags (cell_of_heap hg4' 0) (cell_of_heap hg4' 1))
        rw [HX.out.2.2.2] at hv Hgi hpc
        subst hv
        have hblm : bl ≤ 1000000 := by rw [← HX.out.2.2.2, hG4.lenb]; exact HL.out.2.2.1
        have H4 := Lib.hid (And.intro hG4 (And.intro hb24 (And.intro hg4' hptr)))
        clear hb4 hG4 hb24 hg4 hg4' hxlt hptr hpc hpm
        go_wp2_with fail
        refine Hgi.out.mono ?_
        rintro e w5 ⟨hix, hb5⟩
        have hG5 := H4.out.1.below hb5
        have hb25 := H4.out.2.1.trans (hb5.mono (by rw [← H2.out.1]; exact H4.out.2.1.size))
        have hg5 : w5.heap[xb]? = some (.cells #[.int .i64 x1, .int .i64 x2, .int .i64 x3, .int .i64 x4, .string x5] 58 (0, 0)) := (hb5.block xb (Array.getElem?_eq_some_iff.1 H4.out.2.2.1).1).trans H4.out.2.2.1
        have hB5 : B ≤ w5.heap.size := by rw [← H2.out.1]; exact hb25.size
        have c0 := (cell_of_heap hg5 0)
        have c1 := (cell_of_heap hg5 1)
        have c2 := (cell_of_heap hg5 2)
        have H5 := Lib.hid (And.intro hG5 (And.intro hb25 (And.intro hg5 hB5)))
        have hptr5 := H4.out.2.2.2.below hb5
        clear hG5 hb25 hg5 hB5 hb5
        rcases hix with ⟨rfl, hno⟩ | ⟨ii, hii, rfl, hat⟩
        · have HA := Lib.hid (atG_new (n := n) (k := k) (gs := gs) (x := (x1, x2, x3, x4, x5)) Hcc.out hno)
          clear hno hptr5
          have hx6 : (w5.alloc (.cells #[.int .i64 x1, .int .i64 x2, .int .i64 x3, .slice none 0 0] 135)).heap.size = w5.heap.size + 1 := by simp
          have hown6 : Own1 131 B (w5.alloc (.cells #[.int .i64 x1, .int .i64 x2, .int .i64 x3, .slice none 0 0] 135)) (.slice pa bl pc) (bs.map fun b => .pointer (some ⟨b, 0, none⟩)) := Own1.alloc H5.out.1.ptr _
          have hbl6 : (bs.map fun b => Value.pointer (some ⟨b, 0, none⟩)).length ≤ 1000000 := by simp [HX.out.2.2.2]; exact hblm
          have H6 := Lib.hid (And.intro hx6 (And.intro hown6 hbl6))
          clear hx6 hown6 hbl6
          go_wp2_with (at_builtin; refine append_grp 28 35 rfl rfl B _ _ ⟨w5.heap.size, 0, none⟩ rfl (congrArg (fun z => Value.slice (some ⟨z, 0, none⟩) 1 1) H6.out.1.symm) H6.out.2.1 H6.out.2.2 (by rw [H6.out.1]; exact Nat.le_succ_of_le H5.out.2.2.2) ?_)
          intro v6 w6 h1 h2 h3
          obtain ⟨hG6, hb56, hk6⟩ := GrpsAt.new H5.out.1 H5.out.2.2.2 (x1, x2) x3 h1 h2
          have hx6 := hk6 xb _ _ H5.out.2.2.1 (by decide)
          have hB6 : B ≤ w6.heap.size := Nat.le_trans H5.out.2.2.2 hb56.size
          have hsh : ∀ g ∈ gs ++ [(((x1, x2), x3, []) : Grp)], g.2.2.length ≤ 1000000 := fun g hg => by
            rcases List.mem_append.1 hg with h | h
            · exact HL.out.2.2.2.1 g h
            · rw [List.mem_singleton.1 h]; simp
          obtain ⟨gs6, hgs6⟩ : ∃ gs6, gs ++ [(((x1, x2), x3, []) : Grp)] = gs6 := ⟨_, rfl⟩
          obtain ⟨bs6, hbs6⟩ : ∃ bs6, bs ++ [w5.heap.size] = bs6 := ⟨_, rfl⟩
          obtain ⟨vs6, hvs6⟩ : ∃ vs6, vs ++ [Value.slice none 0 0] = vs6 := ⟨_, rfl⟩
          have hgl : gs.length = bl := by rw [← HX.out.2.2.2, H5.out.1.lenb]
          have hat6 := HA.out
          simp only [tg] at hat6
          rw [hgs6, hgl] at hat6
          rw [hgs6] at hsh
          have hbl1 : bs6.length = bl + 1 := by rw [← hbs6]; simp [HX.out.2.2.2]
          rw [hgs6, hbs6, hvs6] at hG6
          have HT : Hid (GrpsAt B w6 v6 gs6 bs6 vs6 ∧ AtG n k gs (x1, x2, x3, x4, x5) gs6 bl ∧ Below B w2 w6 ∧ w6.heap[xb]? = some (.cells #[.int .i64 x1, .int .i64 x2, .int .i64 x3, .int .i64 x4, .string x5] 58 (0, 0)) ∧ B ≤ w6.heap.size ∧ ∀ g ∈ gs6, g.2.2.length ≤ 1000000) := Lib.hid ⟨hG6, hat6, H5.out.2.1.trans hb56, hx6, hB6, hsh⟩
          obtain ⟨pa6, pc6, hv6, _, _, hptr6⟩ := hG6.ptrs
          obtain ⟨bl1, hbl2⟩ : ∃ bl1, bl + 1 = bl1 := ⟨_, rfl⟩
          rw [hbl1, hbl2] at hv6
          subst hv6
          obtain ⟨pg, po, rfl, hcell⟩ : ∃ b off, pa6 = some ⟨b, off, none⟩ ∧ w6.cell? ⟨b, off + bl, none⟩ = some (.pointer (some ⟨bs6[bl]?.getD 0, 0, none⟩)) := by
            rcases hptr6 with he | ⟨b, off, h, _, hc⟩
            · exfalso
              rw [he] at hbl1; simp at hbl1
            · exact ⟨b, off, h, hc bl (by omega)⟩
          have hil2 : (bl : Int) < bl1 := by omega
          have hi1 : (0 : Int) ≤ bl := by omega
          clear h1 h2 h3 hG6 hb56 hk6 hx6 hB6 hsh hat6 hgl hbl1 hbl2 hptr6 hgs6 hbs6 hvs6 c0 c1 c2
          obtain ⟨gb, sv, hgb, hsv, hblk, hos⟩ := HT.out.1.group HT.out.2.1.1
          rw [hgb] at hcell
          obtain ⟨⟨⟨t1, t2⟩, sz, out⟩, hgv⟩ : ∃ g, gs6[bl]?.getD grp0 = g := ⟨_, rfl⟩
          have hol : out.length ≤ 1000000 := by
            have h9 := HT.out.2.2.2.2.2 (gs6[bl]?.getD grp0) (by rw [List.getElem?_eq_getElem HT.out.2.1.1]; exact List.getElem_mem _)
            rw [hgv] at h9; exact h9
          rw [hgv] at hblk hos
          unfold grpC at hblk
          dsimp only at hblk hos
          obtain ⟨sa, scap, hsv2, hsc, hsm, hshr⟩ := hos.read
          rw [hsv2] at hblk hos hsv
          clear hsv2
          have k2 := cell_regrown (show w6.cell? ⟨gb, 2, none⟩ = some (.int .i64 sz) from cell_of_heap hblk 2)
          have k3 := cell_regrown (show w6.cell? ⟨gb, 3, none⟩ = some (.slice sa out.length scap) from cell_of_heap hblk 3)
          have l2 := cell_regrown (show w6.cell? ⟨xb, 2, none⟩ = some (.int .i64 x3) from cell_of_heap HT.out.2.2.2.1 2)
          have Ct := fun d os => Calls.regrown_of (gatC_walk w6.heap.size sa scap xb out x4 (Go.Sort.grow (redrawn w6 d) os) (by unfold maxLen; omega) (below_regrown w6 d os).size (hshr.below (below_regrown w6 d os)) (cell_regrown (show w6.cell? ⟨xb, 3, none⟩ = some (.int .i64 x4) from cell_of_heap HT.out.2.2.2.1 3) d os))
          obtain ⟨r, hr⟩ : ∃ r, out.any (fun x => decide (x.1 = x4)) = r := ⟨_, rfl⟩
          rw [hr] at Ct
          have HQ := Lib.hid (And.intro hgb (And.intro hsv (And.intro hgv (And.intro hblk (And.intro hos (And.intro hol hr))))))
          clear hgb hsv hgv hblk hos hsc hsm hshr hr hol
          go_wp2_with fail
          by_cases hsz : sz = x3
          · have e2 : (sz == x3) = true := by simpa using hsz
            have e3 : decide (sz = x3) = true := decide_eq_true hsz
            have Hsz := Lib.hid hsz
            clear hsz
            refine wp_region_quiet_below (by kernel_rfl) (by kernel_rfl) ?_
            repeat (go_big_quiet_step (first | (with_reducible exact Ct _ _)))
            refine wpQuiet_nil ?_
            intro w7 hw'
            have HB7 := Lib.hid (show Below w6.heap.size w6 w7 by obtain ⟨⟨dq, osq⟩, hw7⟩ := hw'; rw [hw7]; exact below_regrown w6 dq osq)
            clear hw' k2 k3 l2 Ct
            cases r
            · have hblk7 : w7.heap[gb]? = some (.cells #[.int .i64 t1, .int .i64 t2, .int .i64 sz, .slice sa out.length scap] 135 (0, 0)) := (HB7.out.block gb (Array.getElem?_eq_some_iff.1 HQ.out.2.2.2.1).1).trans HQ.out.2.2.2.1
              have hx7 : w7.heap[xb]? = some (.cells #[.int .i64 x1, .int .i64 x2, .int .i64 x3, .int .i64 x4, .string x5] 58 (0, 0)) := (HB7.out.block xb (Array.getElem?_eq_some_iff.1 HT.out.2.2.2.1).1).trans HT.out.2.2.2.1
              have hos7 := OwnS.below HQ.out.2.2.2.2.1 HB7.out (Nat.le_refl _)
              have hB7 : B ≤ w7.heap.size := Nat.le_trans HT.out.2.2.2.2.1 HB7.out.size
              obtain ⟨A, hA⟩ : ∃ A, w7.alloc (.cells #[.int .i64 x4, .string x5] 56) = A := ⟨_, rfl⟩
              have hbA : Below w7.heap.size w7 A.drew := by rw [← hA]; exact ((Below.refl _ _).alloc (Nat.le_refl _) _).drew
              have n0 : A.drew.cell? ⟨w7.heap.size, 0, none⟩ = some (.int .i64 x4) := by rw [← hA]; exact cell_of_heap (heap_alloc_new w7 _) 0
              have n1 : A.drew.cell? ⟨w7.heap.size, 1, none⟩ = some (.string x5) := by rw [← hA]; exact cell_of_heap (heap_alloc_new w7 _) 1
              have hgA : A.drew.heap[gb]? = some (.cells #[.int .i64 t1, .int .i64 t2, .int .i64 sz, .slice sa out.length scap] 135 (0, 0)) := (hbA.block gb (Array.getElem?_eq_some_iff.1 hblk7).1).trans hblk7
              have hoA := OwnS.below hos7 hbA (Nat.le_refl _)
              have hBA : B ≤ A.drew.heap.size := Nat.le_trans hB7 hbA.size
              have p3 : w7.cell? ⟨gb, 3, none⟩ = some (.slice sa out.length scap) := cell_of_heap hblk7 3
              have q3 : w7.cell? ⟨xb, 3, none⟩ = some (.int .i64 x4) := cell_of_heap hx7 3
              have q4 : w7.cell? ⟨xb, 4, none⟩ = some (.string x5) := cell_of_heap hx7 4
              have p3a : A.cell? ⟨gb, 3, none⟩ = some (.slice sa out.length scap) := cell_of_heap hgA 3
              have hx := World.new_ne w7 ⟨gb, 3, none⟩ p3
              have HY := Lib.hid (And.intro hgA (And.intro hoA (And.intro hbA (And.intro hBA (And.intro n0 (And.intro n1 hB7))))))
              clear hgA hoA hbA hBA n0 n1 hB7 hblk7 hx7 hos7
              subst hA
              go_wp2_with fail
              go_region_law ((refine step_append_shard 61 64 (by rfl) (by rfl) B _ out x4 x5 w7.heap.size (by rfl) (by rfl) HY.out.2.2.2.2.1 HY.out.2.2.2.2.2.1 HY.out.2.1 HQ.out.2.2.2.2.2.1 HY.out.2.2.2.1 ?_; intro g9 c9 w9 k1 k2 k3; have HK := Lib.hid (And.intro k1 (And.intro k2 k3)); have kg : w9.heap[gb]? = some (.cells #[.int .i64 t1, .int .i64 t2, .int .i64 sz, .slice sa out.length scap] 135 (0, 0)) := (k2.block gb (Array.getElem?_eq_some_iff.1 HY.out.1).1 (fun e => OwnS.ne_grp HY.out.2.1 HY.out.1 e.symm)).trans HY.out.1; have kc : w9.cell? ⟨gb, 3, none⟩ = some (.slice sa out.length scap) := cell_of_heap kg 3; have kz := frozen_of_heap kg 3; clear k1 k2 k3 kg))
              all_goals
                have hp9 : OwnS B w9 (.slice (some ⟨g9, 0, none⟩) (out.length + 1) c9) ((gs6[bl]?.getD grp0).2.2 ++ [(x4, x5)]) := by rw [HQ.out.2.2.1]; exact HK.out.1
                have hadd := GrpsAt.add (HT.out.1.below HB7.out) HT.out.2.1.1 HY.out.2.2.2.2.2.2 HY.out.2.2.1 hp9 (by rw [HQ.out.2.1]; exact HK.out.2.1) (by
                  rw [HQ.out.2.1]
                  rcases HK.out.2.2 with h9 | h9
                  · exact .inl h9.symm
                  · refine .inr (fun g e => ?_)
                    have e9 : g9 = g := by simpa [Value.ownBlock] using e
                    rw [← e9, h9]
                    exact HY.out.2.2.1.size)
                rw [HQ.out.1, HQ.out.2.2.1] at hadd
                dsimp only at hadd
                have hyes : addG (gs6[bl]?.getD grp0) (x1, x2, x3, x4, x5) = ((t1, t2), sz, out ++ [(x4, x5)]) := by
                  rw [HQ.out.2.2.1]
                  exact if_pos ⟨Hsz.out, HQ.out.2.2.2.2.2.2⟩
                have hstep := HT.out.2.1.2.2
                rw [hyes] at hstep
                have HS := Lib.hid (And.intro hstep (And.intro hadd.1 ((HT.out.2.2.1.trans (HB7.out.mono HT.out.2.2.2.2.1)).trans hadd.2)))
                clear hp9 hadd hyes hstep kc kz p3 p3a q3 q4 hx HK
                go_wp2
                go_roundw
                case rel => exact ⟨i + 1, _, by omega, by go_num, rfl, Lib.hid ⟨HS.out.2.2, bs6, _, by rw [HL.out.1, HS.out.1]; exact HS.out.2.1⟩⟩
                case measure => simp [intOf]; omega
            · have HN : Hid (Below B w2 w7 ∧ GrpsAt B w7 _ gs6 bs6 vs6) := Lib.hid ⟨HT.out.2.2.1.trans (HB7.out.mono HT.out.2.2.2.2.1), HT.out.1.below HB7.out⟩
              have hno : addG (gs6[bl]?.getD grp0) (x1, x2, x3, x4, x5) = gs6[bl]?.getD grp0 := by
                rw [HQ.out.2.2.1]
                exact if_neg (fun h9 => by
                  have h8 := h9.2
                  unfold hasAt at h8
                  rw [HQ.out.2.2.2.2.2.2] at h8
                  cases h8)
              have HS := Lib.hid (HT.out.2.1.no hno)
              clear hno
              go_wp2
              go_roundw
              case rel => exact ⟨i + 1, _, by omega, by go_num, rfl, Lib.hid ⟨HN.out.1, bs6, vs6, by rw [HL.out.1, HS.out]; exact HN.out.2⟩⟩
              case measure => simp [intOf]; omega
          · have e2 : (sz == x3) = false := by simpa using hsz
            have e3 : decide (sz = x3) = false := decide_eq_false hsz
            have Hsz := Lib.hid hsz
            clear hsz
            refine wp_region_quiet_below (by kernel_rfl) (by kernel_rfl) ?_
            repeat (go_big_quiet_step (first | (with_reducible exact Ct _ _)))
            refine wpQuiet_nil ?_
            intro w7 hw'
            have HB7 := Lib.hid (show Below w6.heap.size w6 w7 by obtain ⟨⟨dq, osq⟩, hw7⟩ := hw'; rw [hw7]; exact below_regrown w6 dq osq)
            clear hw' k2 k3 l2 Ct
            have HN : Hid (Below B w2 w7 ∧ GrpsAt B w7 _ gs6 bs6 vs6) := Lib.hid ⟨HT.out.2.2.1.trans (HB7.out.mono HT.out.2.2.2.2.1), HT.out.1.below HB7.out⟩
            have hno : addG (gs6[bl]?.getD grp0) (x1, x2, x3, x4, x5) = gs6[bl]?.getD grp0 := by
              rw [HQ.out.2.2.1]
              exact if_neg (fun h9 => Hsz.out h9.1)
            have HS := Lib.hid (HT.out.2.1.no hno)
            clear hno
            go_wp2
            go_roundw
            case rel => exact ⟨i + 1, _, by omega, by go_num, rfl, Lib.hid ⟨HN.out.1, bs6, vs6, by rw [HL.out.1, HS.out]; exact HN.out.2⟩⟩
            case measure => simp [intOf]; omega
        · have HA := Lib.hid (atG_old (n := n) (k := k) (gs := gs) (x := (x1, x2, x3, x4, x5)) Hcc.out HL.out.2.1 hii hat)
          have hil : ii < bl := by rw [← HX.out.2.2.2, H5.out.1.lenb]; exact HA.out.1
          have hil2 : (ii : Int) < bl := by omega
          have hi0 : ¬ (ii : Int) < 0 := by omega
          have hi1 : (0 : Int) ≤ ii := by omega
          obtain ⟨pg, po, rfl, hpg, hpc⟩ : ∃ b off, pa = some ⟨b, off, none⟩ ∧ b < w5.heap.size ∧ ∀ j, j < bs.length → w5.cell? ⟨b, off + j, none⟩ = some (.pointer (some ⟨bs[j]?.getD 0, 0, none⟩)) := by
            rcases hptr5 with he | h
            · exfalso
              rw [he] at HX; have := HX.out.2.2.2; simp at this; omega
            · exact h
          have hcell := hpc ii (by rw [HX.out.2.2.2]; exact hil)
          have HT : Hid (GrpsAt B w5 _ gs bs vs ∧ AtG n k gs (x1, x2, x3, x4, x5) gs ii ∧ Below B w2 w5 ∧ w5.heap[xb]? = some (.cells #[.int .i64 x1, .int .i64 x2, .int .i64 x3, .int .i64 x4, .string x5] 58 (0, 0)) ∧ B ≤ w5.heap.size ∧ ∀ g ∈ gs, g.2.2.length ≤ 1000000) := Lib.hid ⟨H5.out.1, HA.out, H5.out.2.1, H5.out.2.2.1, H5.out.2.2.2, HL.out.2.2.2.1⟩
          clear hii hat hptr5 hpc hpg c0 c1 c2
          obtain ⟨gb, sv, hgb, hsv, hblk, hos⟩ := HT.out.1.group HT.out.2.1.1
          rw [hgb] at hcell
          obtain ⟨⟨⟨t1, t2⟩, sz, out⟩, hgv⟩ : ∃ g, gs[ii]?.getD grp0 = g := ⟨_, rfl⟩
          have hol : out.length ≤ 1000000 := by
            have h9 := HT.out.2.2.2.2.2 (gs[ii]?.getD grp0) (by rw [List.getElem?_eq_getElem HT.out.2.1.1]; exact List.getElem_mem _)
            rw [hgv] at h9; exact h9
          rw [hgv] at hblk hos
          unfold grpC at hblk
          dsimp only at hblk hos
          obtain ⟨sa, scap, hsv2, hsc, hsm, hshr⟩ := hos.read
          rw [hsv2] at hblk hos hsv
          clear hsv2
          have k2 := cell_regrown (show w5.cell? ⟨gb, 2, none⟩ = some (.int .i64 sz) from cell_of_heap hblk 2)
          have k3 := cell_regrown (show w5.cell? ⟨gb, 3, none⟩ = some (.slice sa out.length scap) from cell_of_heap hblk 3)
          have l2 := cell_regrown (show w5.cell? ⟨xb, 2, none⟩ = some (.int .i64 x3) from cell_of_heap HT.out.2.2.2.1 2)
          have Ct := fun d os => Calls.regrown_of (gatC_walk w5.heap.size sa scap xb out x4 (Go.Sort.grow (redrawn w5 d) os) (by unfold maxLen; omega) (below_regrown w5 d os).size (hshr.below (below_regrown w5 d os)) (cell_regrown (show w5.cell? ⟨xb, 3, none⟩ = some (.int .i64 x4) from cell_of_heap HT.out.2.2.2.1 3) d os))
          obtain ⟨r, hr⟩ : ∃ r, out.any (fun x => decide (x.1 = x4)) = r := ⟨_, rfl⟩
          rw [hr] at Ct
          have HQ := Lib.hid (And.intro hgb (And.intro hsv (And.intro hgv (And.intro hblk (And.intro hos (And.intro hol hr))))))
          clear hgb hsv hgv hblk hos hsc hsm hshr hr hol
          go_wp2_with fail
          by_cases hsz : sz = x3
          · have e2 : (sz == x3) = true := by simpa using hsz
            have e3 : decide (sz = x3) = true := decide_eq_true hsz
            have Hsz := Lib.hid hsz
            clear hsz
            refine wp_region_quiet_below (by kernel_rfl) (by kernel_rfl) ?_
            repeat (go_big_quiet_step (first | (with_reducible exact Ct _ _)))
            refine wpQuiet_nil ?_
            intro w7 hw'
            have HB7 := Lib.hid (show Below w5.heap.size w5 w7 by obtain ⟨⟨dq, osq⟩, hw7⟩ := hw'; rw [hw7]; exact below_regrown w5 dq osq)
            clear hw' k2 k3 l2 Ct
            cases r
            · have hblk7 : w7.heap[gb]? = some (.cells #[.int .i64 t1, .int .i64 t2, .int .i64 sz, .slice sa out.length scap] 135 (0, 0)) := (HB7.out.block gb (Array.getElem?_eq_some_iff.1 HQ.out.2.2.2.1).1).trans HQ.out.2.2.2.1
              have hx7 : w7.heap[xb]? = some (.cells #[.int .i64 x1, .int .i64 x2, .int .i64 x3, .int .i64 x4, .string x5] 58 (0, 0)) := (HB7.out.block xb (Array.getElem?_eq_some_iff.1 HT.out.2.2.2.1).1).trans HT.out.2.2.2.1
              have hos7 := OwnS.below HQ.out.2.2.2.2.1 HB7.out (Nat.le_refl _)
              have hB7 : B ≤ w7.heap.size := Nat.le_trans HT.out.2.2.2.2.1 HB7.out.size
              obtain ⟨A, hA⟩ : ∃ A, w7.alloc (.cells #[.int .i64 x4, .string x5] 56) = A := ⟨_, rfl⟩
              have hbA : Below w7.heap.size w7 A.drew := by rw [← hA]; exact ((Below.refl _ _).alloc (Nat.le_refl _) _).drew
              have n0 : A.drew.cell? ⟨w7.heap.size, 0, none⟩ = some (.int .i64 x4) := by rw [← hA]; exact cell_of_heap (heap_alloc_new w7 _) 0
              have n1 : A.drew.cell? ⟨w7.heap.size, 1, none⟩ = some (.string x5) := by rw [← hA]; exact cell_of_heap (heap_alloc_new w7 _) 1
              have hgA : A.drew.heap[gb]? = some (.cells #[.int .i64 t1, .int .i64 t2, .int .i64 sz, .slice sa out.length scap] 135 (0, 0)) := (hbA.block gb (Array.getElem?_eq_some_iff.1 hblk7).1).trans hblk7
              have hoA := OwnS.below hos7 hbA (Nat.le_refl _)
              have hBA : B ≤ A.drew.heap.size := Nat.le_trans hB7 hbA.size
              have p3 : w7.cell? ⟨gb, 3, none⟩ = some (.slice sa out.length scap) := cell_of_heap hblk7 3
              have q3 : w7.cell? ⟨xb, 3, none⟩ = some (.int .i64 x4) := cell_of_heap hx7 3
              have q4 : w7.cell? ⟨xb, 4, none⟩ = some (.string x5) := cell_of_heap hx7 4
              have p3a : A.cell? ⟨gb, 3, none⟩ = some (.slice sa out.length scap) := cell_of_heap hgA 3
              have hx := World.new_ne w7 ⟨gb, 3, none⟩ p3
              have HY := Lib.hid (And.intro hgA (And.intro hoA (And.intro hbA (And.intro hBA (And.intro n0 (And.intro n1 hB7))))))
              clear hgA hoA hbA hBA n0 n1 hB7 hblk7 hx7 hos7
              subst hA
              go_wp2_with fail
              go_region_law ((refine step_append_shard 61 64 (by rfl) (by rfl) B _ out x4 x5 w7.heap.size (by rfl) (by rfl) HY.out.2.2.2.2.1 HY.out.2.2.2.2.2.1 HY.out.2.1 HQ.out.2.2.2.2.2.1 HY.out.2.2.2.1 ?_; intro g9 c9 w9 k1 k2 k3; have HK := Lib.hid (And.intro k1 (And.intro k2 k3)); have kg : w9.heap[gb]? = some (.cells #[.int .i64 t1, .int .i64 t2, .int .i64 sz, .slice sa out.length scap] 135 (0, 0)) := (k2.block gb (Array.getElem?_eq_some_iff.1 HY.out.1).1 (fun e => OwnS.ne_grp HY.out.2.1 HY.out.1 e.symm)).trans HY.out.1; have kc : w9.cell? ⟨gb, 3, none⟩ = some (.slice sa out.length scap) := cell_of_heap kg 3; have kz := frozen_of_heap kg 3; clear k1 k2 k3 kg))
              all_goals
                have hp9 : OwnS B w9 (.slice (some ⟨g9, 0, none⟩) (out.length + 1) c9) ((gs[ii]?.getD grp0).2.2 ++ [(x4, x5)]) := by rw [HQ.out.2.2.1]; exact HK.out.1
                have hadd := GrpsAt.add (HT.out.1.below HB7.out) HT.out.2.1.1 HY.out.2.2.2.2.2.2 HY.out.2.2.1 hp9 (by rw [HQ.out.2.1]; exact HK.out.2.1) (by
                  rw [HQ.out.2.1]
                  rcases HK.out.2.2 with h9 | h9
                  · exact .inl h9.symm
                  · refine .inr (fun g e => ?_)
                    have e9 : g9 = g := by simpa [Value.ownBlock] using e
                    rw [← e9, h9]
                    exact HY.out.2.2.1.size)
                rw [HQ.out.1, HQ.out.2.2.1] at hadd
                dsimp only at hadd
                have hyes : addG (gs[ii]?.getD grp0) (x1, x2, x3, x4, x5) = ((t1, t2), sz, out ++ [(x4, x5)]) := by
                  rw [HQ.out.2.2.1]
                  exact if_pos ⟨Hsz.out, HQ.out.2.2.2.2.2.2⟩
                have hstep := HT.out.2.1.2.2
                rw [hyes] at hstep
                have HS := Lib.hid (And.intro hstep (And.intro hadd.1 ((HT.out.2.2.1.trans (HB7.out.mono HT.out.2.2.2.2.1)).trans hadd.2)))
                clear hp9 hadd hyes hstep kc kz p3 p3a q3 q4 hx HK
                go_wp2
                go_roundw
                case rel => exact ⟨i + 1, _, by omega, by go_num, rfl, Lib.hid ⟨HS.out.2.2, bs, _, by rw [HL.out.1, HS.out.1]; exact HS.out.2.1⟩⟩
                case measure => simp [intOf]; omega
            · have HN : Hid (Below B w2 w7 ∧ GrpsAt B w7 _ gs bs vs) := Lib.hid ⟨HT.out.2.2.1.trans (HB7.out.mono HT.out.2.2.2.2.1), HT.out.1.below HB7.out⟩
              have hno : addG (gs[ii]?.getD grp0) (x1, x2, x3, x4, x5) = gs[ii]?.getD grp0 := by
                rw [HQ.out.2.2.1]
                exact if_neg (fun h9 => by
                  have h8 := h9.2
                  unfold hasAt at h8
                  rw [HQ.out.2.2.2.2.2.2] at h8
                  cases h8)
              have HS := Lib.hid (HT.out.2.1.no hno)
              clear hno
              go_wp2
              go_roundw
              case rel => exact ⟨i + 1, _, by omega, by go_num, rfl, Lib.hid ⟨HN.out.1, bs, vs, by rw [HL.out.1, HS.out]; exact HN.out.2⟩⟩
              case measure => simp [intOf]; omega
          · have e2 : (sz == x3) = false := by simpa using hsz
            have e3 : decide (sz = x3) = false := decide_eq_false hsz
            have Hsz := Lib.hid hsz
            clear hsz
            refine wp_region_quiet_below (by kernel_rfl) (by kernel_rfl) ?_
            repeat (go_big_quiet_step (first | (with_reducible exact Ct _ _)))
            refine wpQuiet_nil ?_
            intro w7 hw'
            have HB7 := Lib.hid (show Below w5.heap.size w5 w7 by obtain ⟨⟨dq, osq⟩, hw7⟩ := hw'; rw [hw7]; exact below_regrown w5 dq osq)
            clear hw' k2 k3 l2 Ct
            have HN : Hid (Below B w2 w7 ∧ GrpsAt B w7 _ gs bs vs) := Lib.hid ⟨HT.out.2.2.1.trans (HB7.out.mono HT.out.2.2.2.2.1), HT.out.1.below HB7.out⟩
            have hno : addG (gs[ii]?.getD grp0) (x1, x2, x3, x4, x5) = gs[ii]?.getD grp0 := by
              rw [HQ.out.2.2.1]
              exact if_neg (fun h9 => Hsz.out h9.1)
            have HS := Lib.hid (HT.out.2.1.no hno)
            clear hno
            go_wp2
            go_roundw
            case rel => exact ⟨i + 1, _, by omega, by go_num, rfl, Lib.hid ⟨HN.out.1, bs, vs, by rw [HL.out.1, HS.out]; exact HN.out.2⟩⟩
            case measure => simp [intOf]; omega
    · go_wp2
      go_ret
      obtain ⟨hbr, bs, vs, hG⟩ := H.out
      rw [← Hm.out, List.take_length] at hG
      exact ⟨H2.out.2.1.trans (hbr.mono (by rw [← H2.out.1]; exact H2.out.2.1.size)), _, B, bs, vs, rfl, by rw [← H2.out.1]; exact H2.out.2.1.size, hG⟩
end
end Go.Proofs.YtolbdcmoblcakaaGreatDoor
