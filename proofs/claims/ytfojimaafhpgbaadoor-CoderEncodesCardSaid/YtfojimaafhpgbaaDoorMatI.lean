/- Walks: a copy of a row; matrix.Rank. -/
import Derived.Test.YtfojimaafhpgbaaDoorMatH
namespace Go.Proofs.YtfojimaafhpgbaaDoor
open Go.RowKit

theorem Own1.lower {E : TypeId} {B B' : Nat} {w : World} {v : Value} {us : List Value} (h : Own1 E B w v us) (hB : B' ≤ B) : Own1 E B' w v us := by
  unfold Own1 World.ownsRow at *
  refine ⟨h.1, ?_⟩
  rcases h.2 with h2 | ⟨g, cap, cur, e, hb, h3⟩
  · exact .inl h2
  · exact .inr ⟨g, cap, cur, e, Nat.le_trans hB hb, h3⟩
theorem OwnM.lower {B B' : Nat} {w : World} {v : Value} {n C : Nat} {bs caps : Nat → Nat} {M : Nat → Nat → Nat} (h : OwnM B w v n C bs caps M) (hB : B' ≤ B) : OwnM B' w v n C bs caps M :=
  ⟨h.own.lower hB, h.row, h.inj, fun i hi => Nat.le_trans hB (h.low i hi), h.lt, h.off, h.cap⟩
theorem MatV.lower {B B' : Nat} {w : World} {g n C : Nat} {bs caps : Nat → Nat} {M : Nat → Nat → Nat} (h : MatV B w g n C bs caps M) (hB : B' ≤ B) : MatV B' w g n C bs caps M :=
  ⟨h.head, h.free, h.row, h.inj, h.off, fun i hi => Nat.le_trans hB (h.low i hi), Nat.le_trans hB h.lowg, h.cap⟩

/-- append(s, r) of a row, in a world whose size the walk spells otherwise. -/
theorem append_rowvH {ops : Array Oper} {rest : List Oper} {o : Oper} {a : Act} {Q : Exit → Act → World → Prop} {w0 : World} (s x : Nat) (hgd : o.guard = none)
    (ho : o.op = .call { callee := .builtin .append, args := #[.tmp s, .tmp x], argTypes := #[33, 33] }) (B H : Nat) (v : Value) (us : List Value) (ad : Option Addr) (n c : Nat) (hH : w0.heap.size = H)
    (hs : a.eval (.tmp s) = v) (hx : a.eval (.tmp x) = .slice (some ⟨H, 0, none⟩) 1 1) (hown : Own1 28 B w0 v us) (hl : us.length ≤ 1000000) (hB : B ≤ w0.heap.size)
    (h : ∀ v' w', Own1 28 B w' v' (us ++ [.slice ad n c]) → (w0.alloc (.cells #[.slice ad n c] 28)).grownBy w' v.ownBlock → (v'.ownBlock = v.ownBlock ∨ v'.ownBlock = some (w0.heap.size + 1)) → wpList Tryd.prog ops Q rest (a.put o.dst v') w') :
    wpList Tryd.prog ops Q (o :: rest) a (w0.alloc (.cells #[.slice ad n c] 28)) := by
  subst hH
  exact append_rowv s x hgd ho B v us ad n c hs hx hown hl hB h

/-- slices.Clone of a row of C bytes. -/
theorem clone_row (n₀ p o C c : Nat) (f : Nat → Nat) (w : World) (hp : p < n₀) (hn : n₀ ≤ w.heap.size) (hC : 1 ≤ C) (hC2 : C ≤ 1000) (hc : ∀ j, j < C → w.cell? ⟨p, o + j, none⟩ = some (.int .u8 (f j : Nat))) :
    Calls Tryd.prog 74 #[.slice (some ⟨p, o, none⟩) C c] w fun e w' => (∃ v, e = .returned v ∧ OwnB w.heap.size w' v ((List.range C).map f)) ∧ Below w.heap.size w w' := by
  have hl : ((List.range C).map f).length = C := by simp
  have h := clone_walk n₀ ⟨p, o, none⟩ c ((List.range C).map f) w (.inr ⟨p, o, rfl, hp, fun j hj => by rw [hl] at hj; rw [hc j hj]; simp [hj]⟩) hn (by rw [hl]; omega)
  rw [hl] at h
  exact h
/-- what is known of it then. -/
theorem OwnB.copy {B C : Nat} {w : World} {v : Value} {f : Nat → Nat} (h : OwnB B w v ((List.range C).map f)) (hC : 1 ≤ C) : ∃ g cap, v = .slice (some ⟨g, 0, none⟩) C cap ∧ B ≤ g ∧ g < w.heap.size ∧ C ≤ cap ∧ cap ≤ maxLen ∧ RowV w g C f := by
  have hl : ((List.range C).map f).length = C := by simp
  obtain ⟨g, cap, e, h1, h2, h3, h4, h5⟩ := h.rowV (by rw [hl]; omega)
  rw [hl] at e h3 h5
  exact ⟨g, cap, e, h1, h2, h3, h4, h5.congr fun j hj => by simp [hj]⟩

/-- what matrix.Rank answers. -/
def RankOut (w w' : World) (n C : Nat) (M : Nat → Nat → Nat) (e : Ending) : Prop := ∃ done L G, e = .returned (.tuple #[.int .i64 (done : Nat), .nilIface]) ∧ Mx.ByM G ∧ Mx.RR G n C done L ∧ (∀ v, Mx.By v → (Mx.Ker G n C v ↔ Mx.Ker M n C v)) ∧ Below w.heap.size w w'
set_option maxRecDepth 100000 in
set_option maxHeartbeats 4000000 in
theorem rank_walk (n₀ b off n C cap : Nat) (p o caps : Nat → Nat) (M : Nat → Nat → Nat) (w : World) (z : Value) (hn₀ : n₀ ≤ w.heap.size) (hz : w.cell? ⟨2, 0, none⟩ = some z)
    (hM : MatR n₀ w b off n C p o caps M) (bM : Mx.ByM M) (hn : 1 ≤ n) (hn2 : n ≤ 16) (hC : 1 ≤ C) (hC2 : C ≤ 16) :
    Calls Tryd.prog 27 #[.slice (some ⟨b, off, none⟩) n cap] w fun e w' => RankOut w w' n C M e := by
  have HM := Lib.hid hM
  have Hz := Lib.hid hz
  clear hM hz
  go_enter Tryd.func27, Tryd.ntmps27
  go_wp2_with fail
  refine (check_mat n₀ b off n C cap p o caps M w z Hz.out HM.out hn hn2 hC hC2).mono ?_
  rintro e w1 ⟨rfl, hb1⟩
  have Hb1 := Lib.hid hb1
  clear hb1
  go_wp2
  go_loopw [5, 15] (fun vo vi wr => ∃ (i : Nat) (bs cps : Nat → Nat), i ≤ n ∧ vi = .int .i64 i ∧ Hid (OwnM w.heap.size wr vo i C bs cps M ∧ Below w.heap.size w wr)) (fun _ i _ => n - (intOf i).toNat)
  case atStart => exact ⟨0, fun _ => 0, fun _ => 0, by omega, rfl, Lib.hid ⟨OwnM.nil _ _ _ _ _ _, Hb1.out⟩⟩
  case round =>
    obtain ⟨i, bs, cps, hi, rfl, H⟩ := hrel
    have hi2 : i < n ∨ i = n := by omega
    rcases hi2 with hlt | rfl
    · have hlt2 : (i : Int) < n := by omega
      have hR := HM.out.below (H.out.2.mono hn₀)
      have hsz := H.out.2.size
      have h1 := hR.head i hlt
      have hcl := Lib.hid (clone_row n₀ (p i) (o i) C (caps i) (M i) wr (hR.plo i hlt) (by omega) hC (by omega) (hR.cell i hlt))
      clear hR
      go_wp2_with fail
      refine hcl.out.mono ?_
      rintro e w2 ⟨⟨v, rfl, hv⟩, hb2⟩
      obtain ⟨g, cg, hve, hg1, hg2, hg3, hg4, hrow⟩ := OwnB.copy hv hC
      rw [hve]
      have hb3 : Below w.heap.size w w2 := H.out.2.trans (hb2.mono hsz)
      have hm2 : OwnM w.heap.size w2 u5 i C bs cps M := H.out.1.below hb2 (Nat.le_refl _)
      have hne : ∀ i', i' < i → bs i' ≠ g := fun i' h e => by have := H.out.1.lt i' h; omega
      have hoff : u5.ownBlock ≠ some g := fun e => by have := (H.out.1.own.lt _ e).2; omega
      have hsz2 := hb3.size
      have hown := Lib.hid hm2.own
      have hul : ((List.range i).map fun i => Value.slice (some ⟨bs i, 0, none⟩) C (cps i)).length ≤ 1000000 := by simp; omega
      have Hx := Lib.hid (And.intro hm2 (And.intro hb3 (And.intro hne (And.intro hoff (And.intro hg1 (And.intro hg2 (And.intro hg3 (And.intro hg4 hrow))))))))
      clear hve hv hb2 hb3 hm2 hne hoff hg1 hg2 hg3 hg4 hrow hcl h1
      go_wp2_with (at_builtin; refine append_rowv 19 22 rfl rfl w.heap.size _ _ (some ⟨g, 0, none⟩) C cg rfl rfl hown.out hul hsz2 ?_)
      intro v' w' k1 k2 k3
      obtain ⟨hm2, hb3, hne, hoff, hg1, hg2, hg3, hg4, hrow⟩ := Hx.out
      have hm3 := hm2.snoc hrow (by omega) hg2 hne hoff ⟨hg3, hg4⟩ k1 k2 k3
      have hb4 : Below w.heap.size w w' := (hb3.alloc hsz2 _).grown k2 (by simp; omega) (fun j e => (hm2.own.lt j e).1)
      have hm4 := hm3.congr (M' := M) (fun i' hi' j hj => by
        unfold Mx.putR
        by_cases e : i' = i
        · rw [if_pos e, e]
        · rw [if_neg e])
      have HR := Lib.hid (And.intro hm4 hb4)
      clear hm2 hb3 hne hoff hg1 hg2 hg3 hg4 hrow hm3 hb4 hm4 k1 k2 k3 Hx hown
      go_wp2
      go_roundw
      case rel => exact ⟨i + 1, _, _, by omega, by go_num, HR⟩
      case measure => simp [intOf]; omega
    · obtain ⟨g, cg, hve, hg3, hg4, hV⟩ := H.out.1.mat (by omega)
      rw [hve]
      have hB := H.out.2
      have h1 := hV.head 0 (by omega)
      have hn3 : (0 : Int) < i := by omega
      have hred := Lib.hid (reduced_walk w.heap.size g i C C cg bs cps M wr hB.size (by omega) (by omega) (by omega) (by omega) (Nat.le_refl _) hg3 bM hV)
      have HB := Lib.hid hB
      clear hve hV hB
      go_wp2_with fail
      refine hred.out.mono ?_
      rintro e w' ⟨done, L, bs', caps', G, rfl, hb, _, hby, hrr, hk⟩
      have Hy := Lib.hid (And.intro hb (And.intro hby (And.intro hrr hk)))
      clear hb hby hrr hk
      go_wp2
      go_ret2
      obtain ⟨hb, hby, hrr, hk⟩ := Hy.out
      exact ⟨done, L, G, rfl, hby, hrr, fun v hv => hk C v hv, HB.out.trans hb⟩
end Go.Proofs.YtfojimaafhpgbaaDoor
