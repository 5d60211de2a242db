/- The walk of groups. -/
import Derived.Test.YtjhjpijjfpfjeaaGreatDoorKQuorumBest29
import Derived.Deep.RegionHeld
namespace Go.Proofs.YtjhjpijjfpfjeaaGreatDoor
section
open Go.RowKit Go.BigFrame

/-- append(s, x) of a shard, in a region that draws. -/
theorem step_append_shard {ops : Array Oper} {o : Oper} {a : Act} {K : Act → World → Prop} {Q : Exit → Act → World → Prop} {E : Prop} {w : World} (s x : Nat) (hgd : o.guard = none)
    (ho : o.op = .call { callee := .builtin .append, args := #[.tmp s, .tmp x], argTypes := #[56, 56] }) (B : Nat) (v : Value) (l : List Sh) (n : Int) (t : ByteArray) (nb : Nat)
    (hs : a.eval (.tmp s) = v) (hx : a.eval (.tmp x) = .slice (some ⟨nb, 0, none⟩) 1 1) (hn0 : w.cell? ⟨nb, 0, none⟩ = some (.int .i64 n)) (hn1 : w.cell? ⟨nb, 1, none⟩ = some (.string t)) (hown : OwnS B w v l) (hl : l.length ≤ 1000000) (hB : B ≤ w.heap.size)
    (h : ∀ g cap w', OwnS B w' (.slice (some ⟨g, 0, none⟩) (l.length + 1) cap) (l ++ [(n, t)]) → w.grownBy w' v.ownBlock → (v.ownBlock = some g ∨ g = w.heap.size) → K (a.put o.dst (.slice (some ⟨g, 0, none⟩) (l.length + 1) cap)) w') :
    if Region.wanted o (yielded ops a.tmps) = true then Oper.wp Tryz.prog o a w K Q else E := by
  obtain ⟨i, hi, hz0, hz1, hz2⟩ := info_parts info_shard
  refine step_append_lies w hgd (.tmp s) (.tmp x) 56 ho B 49 i _ 2 24 Tryz.underlying56 hi hz0 hz1 hz2 rfl (by decide) v l.length (shV l) hs hown ⟨nb, 0, none⟩ 1 1 [.int .i64 n, .string t] hx rfl (fun j u hj => ?_) (fun u hu => ?_) (by decide) (by unfold maxLen; omega) (by omega) hB _ rfl ?_
  · match j, hj with
    | 0, hj => simp at hj; subst hj; simpa [Addr.add] using hn0
    | 1, hj => simp at hj; subst hj; simpa [Addr.add] using hn1
  · simp at hu
    rcases hu with rfl | rfl <;> rfl
  · intro g cap w' h1 h2 h3 _
    refine h g cap w' ?_ h2 h3
    unfold OwnS
    rw [shV_append, List.length_append]
    exact h1
theorem groupsL_len (n k : Nat) (xs : List Ver) : (groupsL n k xs).length ≤ xs.length := by
  suffices h : ∀ ys : List Ver, (groupsL n k ys.reverse).length ≤ ys.length by
    have := h xs.reverse
    rwa [List.reverse_reverse, List.length_reverse] at this
  intro ys
  induction ys with
  | nil => exact Nat.le_refl _
  | cons x ys ih =>
    rw [List.reverse_cons, groupsL_snoc]
    unfold stepG
    split
    · split
      · simp; omega
      · simp; omega
    · simp; omega
theorem groupsL_shards (n k : Nat) (xs : List Ver) : ∀ g ∈ groupsL n k xs, g.2.2.length ≤ xs.length := by
  suffices h : ∀ ys : List Ver, ∀ g ∈ groupsL n k ys.reverse, g.2.2.length ≤ ys.length by
    have := h xs.reverse
    rwa [List.reverse_reverse, List.length_reverse] at this
  have ha : ∀ (g : Grp) (x : Ver), (addG g x).2.2.length ≤ g.2.2.length + 1 := fun g x => by unfold addG; split <;> simp
  intro ys
  induction ys with
  | nil => intro g hg; cases hg
  | cons x ys ih =>
    rw [List.reverse_cons, groupsL_snoc]
    intro g hg
    unfold stepG at hg
    rw [List.length_cons]
    split at hg
    · split at hg
      · obtain ⟨g0, h0, rfl⟩ := List.mem_map.1 hg
        have h1 := ih g0 h0
        split
        · have := ha g0 x; omega
        · omega
      · rcases List.mem_append.1 hg with h0 | h0
        · have := ih g h0; omega
        · rw [List.mem_singleton.1 h0]
          have := ha (tg x, x.2.2.1, []) x
          simp at this; omega
    · have := ih g hg; omega
theorem map_set_at (l : List Grp) (t : Int × Int) (f : Grp → Grp) : ∀ (i : Nat), (l.map (·.1)).Nodup → i < l.length → (l[i]?.getD grp0).1 = t → l.map (fun g => if g.1 = t then f g else g) = l.set i (f (l[i]?.getD grp0)) := by
  induction l with
  | nil => intro i _ hi; simp at hi
  | cons y l ih =>
    intro i hn hi ht
    rw [List.map_cons, List.nodup_cons] at hn
    cases i with
    | zero =>
      have ht' : y.1 = t := by simpa using ht
      rw [List.map_cons, if_pos ht']
      have e : l.map (fun g => if g.1 = t then f g else g) = l := by
        conv => rhs; rw [← List.map_id l]
        refine List.map_congr_left fun g hg => ?_
        rw [if_neg (fun e => hn.1 (List.mem_map.2 ⟨g, hg, e.trans ht'.symm⟩))]; rfl
      rw [e]; rfl
    | succ i =>
      have hi' : i < l.length := by simpa using hi
      have ht2 : (l[i]?.getD grp0).1 = t := by simpa using ht
      have hne : ¬ y.1 = t := fun e => hn.1 (by
        refine List.mem_map.2 ⟨l[i]?.getD grp0, ?_, ht2.trans e.symm⟩
        rw [List.getElem?_eq_getElem hi']; exact List.getElem_mem hi')
      rw [List.map_cons, if_neg hne, ih i hn.2 hi' ht2]
      rfl
/-- the step, where the tag's group is known: in gs1 at i. -/
def AtG (n k : Nat) (gs : List Grp) (x : Ver) (gs1 : List Grp) (i : Nat) : Prop := i < gs1.length ∧ (gs1[i]?.getD grp0).1 = tg x ∧ stepG n k gs x = gs1.set i (addG (gs1[i]?.getD grp0) x)
theorem atG_old {n k : Nat} {gs : List Grp} {x : Ver} {i : Nat} (hc : canB n k x = true) (hn : (gs.map (·.1)).Nodup) (hi : i < (gs.map (·.1)).length) (ht : (gs.map (·.1))[i]? = some (tg x)) : AtG n k gs x gs i := by
  have hi' : i < gs.length := by simpa using hi
  have ht' : (gs[i]?.getD grp0).1 = tg x := by
    rw [List.getElem?_eq_getElem hi']
    rw [List.getElem?_map, List.getElem?_eq_getElem hi'] at ht
    simpa using ht
  refine ⟨hi', ht', ?_⟩
  rw [stepG_map hc (hasG_mem.2 ⟨gs[i]?.getD grp0, by rw [List.getElem?_eq_getElem hi']; exact List.getElem_mem hi', ht'⟩)]
  exact map_set_at gs (tg x) (fun g => addG g x) i hn hi' ht'
theorem atG_new {n k : Nat} {gs : List Grp} {x : Ver} (hc : canB n k x = true) (ht : tg x ∉ gs.map (·.1)) : AtG n k gs x (gs ++ [(tg x, x.2.2.1, [])]) gs.length := by
  have e : (gs ++ [(tg x, x.2.2.1, ([] : List Sh))])[gs.length]?.getD grp0 = (tg x, x.2.2.1, []) := by simp
  refine ⟨by simp, by rw [e], ?_⟩
  have hf : hasG gs (tg x) = false := by
    cases h : hasG gs (tg x) with
    | false => rfl
    | true =>
      obtain ⟨g, hg, h2⟩ := hasG_mem.1 h
      exact absurd (List.mem_map.2 ⟨g, hg, h2⟩) ht
  rw [stepG_new hc hf, e]
  simp
theorem AtG.no {n k : Nat} {gs gs1 : List Grp} {x : Ver} {i : Nat} (h : AtG n k gs x gs1 i) (hno : addG (gs1[i]?.getD grp0) x = gs1[i]?.getD grp0) : stepG n k gs x = gs1 := by
  rw [h.2.2, hno, List.getElem?_eq_getElem h.1]
  exact List.set_getElem_self h.1
theorem take_snoc {α : Type} (l : List α) (z : α) (i : Nat) (h : i < l.length) : l.take (i + 1) = l.take i ++ [l[i]?.getD z] := by
  rw [List.take_succ_eq_append_getElem h, List.getElem?_eq_getElem h]; rfl
theorem GrpsAt.group {B : Nat} {w : World} {v : Value} {gs : List Grp} {bs : List Nat} {vs : List Value} (h : GrpsAt B w v gs bs vs) {i : Nat} (hi : i < gs.length) : ∃ gb sv, bs[i]?.getD 0 = gb ∧ vs[i]?.getD undef = sv ∧ w.heap[gb]? = some (grpC (gs[i]?.getD grp0) sv) ∧ OwnS B w sv (gs[i]?.getD grp0).2.2 :=
  ⟨_, _, rfl, rfl, (h.blk i hi).1, (h.blk i hi).2.2⟩
/-- append(s, &group{..}). -/
theorem info_grp : (Tryz.prog.info? 53).map (fun i => (i.zero, i.size, i.bytes)) = some (some (.pointer none), 1, 8) := by kernel_rfl
theorem append_grp {ops : Array Oper} {rest : List Oper} {o : Oper} {a : Act} {Q : Exit → Act → World → Prop} {w0 : World} (s x : Nat) (hgd : o.guard = none)
    (ho : o.op = .call { callee := .builtin .append, args := #[.tmp s, .tmp x], argTypes := #[54, 54] }) (B : Nat) (v : Value) (us : List Value) (p : Addr)
    (hs : a.eval (.tmp s) = v) (hx : a.eval (.tmp x) = .slice (some ⟨w0.heap.size, 0, none⟩) 1 1) (hown : Own1 53 B w0 v us) (hl : us.length ≤ 1000000) (hB : B ≤ w0.heap.size)
    (h : ∀ v' w', Own1 53 B w' v' (us ++ [.pointer (some p)]) → (w0.alloc (.cells #[.pointer (some p)] 53)).grownBy w' v.ownBlock → (v'.ownBlock = v.ownBlock ∨ v'.ownBlock = some (w0.heap.size + 1)) → wpList Tryz.prog ops Q rest (a.put o.dst v') w') :
    wpList Tryz.prog ops Q (o :: rest) a (w0.alloc (.cells #[.pointer (some p)] 53)) :=
  append_one 54 53 (.pointer none) 8 Tryz.underlying54 info_grp rfl s x hgd ho B v us _ rfl hs hx hown (by omega) (by unfold maxLen; omega) hB h
end
end Go.Proofs.YtjhjpijjfpfjeaaGreatDoor

