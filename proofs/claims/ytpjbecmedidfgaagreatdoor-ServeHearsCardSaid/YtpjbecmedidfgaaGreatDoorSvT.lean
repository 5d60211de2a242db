/- The document's member in memory: its holds by configuration. -/
import Derived.Test.YtpjbecmedidfgaaGreatDoorSvC
import Derived.Test.YtpjbecmedidfgaaGreatDoorRec
import Derived.Test.YtpjbecmedidfgaaGreatDoorNam
import Derived.Deep.CutRange
import Derived.Lib.QuietBelow
import Derived.BigQuiet
import Derived.Deep.RegionHeld3
namespace Go.Proofs.YtpjbecmedidfgaaGreatDoor
section
open Go.RowKit Go.Maps

/-- a hold of the document's member: where it lies, and what it has. -/
structure RSt where
  mb : Nat
  G : Nat → Prop
  sd : Bool
  l : List Kp
def RSt.At (h : RSt) (w : World) : Prop := MHAt h.G w h.mb h.sd h.l
def encOf (K : Int → RSt) (c : Int) : List Value := [.int .i64 c, .pointer (some ⟨(K c).mb, 0, none⟩)]
def absR (cs : List Int) (K : Int → RSt) : MS := cs.map fun c => (c, (K c).sd, (K c).l)
/-- the document's member lies at ob. -/
structure RMemAt (Q : Nat → Prop) (w : World) (ob : Nat) (name : ByteArray) (cs : List Int) (K : Int → RSt) : Prop where
  oQ : Q ob
  lt : ob < w.heap.size
  c0 : w.cell? ⟨ob, 0, none⟩ = some (.string name)
  f1 : w.frozen? ⟨ob, 1, none⟩ = false
  new : ∀ b, w.heap.size ≤ b → Q b
  row : ∃ v, w.cell? ⟨ob, 1, none⟩ = some v ∧ OwnRec 50 2 0 w v (cs.map (encOf K)) ∧ ∀ g, v.ownBlock = some g → Q g ∧ g ≠ ob ∧ ∀ c ∈ cs, ¬ (K c).G g
  hold : ∀ c ∈ cs, (K c).At w
  inQ : ∀ c ∈ cs, ∀ b, (K c).G b → Q b ∧ b < w.heap.size ∧ b ≠ ob
  apart : ∀ c ∈ cs, ∀ c' ∈ cs, c ≠ c' → ∀ b, (K c).G b → ¬ (K c').G b
  fine : ∀ c ∈ cs, Srt (K c).l ∧ (K c).l.length ≤ 60
  len : cs.length ≤ 12
  nodup : cs.Nodup
/-- blocks more, and turns of blocks that are none of its. -/
theorem RMemAt.keptBut {Q G : Nat → Prop} {w w' : World} {ob : Nat} {name : ByteArray} {cs : List Int} {K : Int → RSt} (h : RMemAt Q w ob name cs K) (hk : KeptBut G w w') (hG : ∀ b, b < w.heap.size → Q b → ¬ G b) : RMemAt (fun b => Q b ∧ (b < w.heap.size ∨ w'.heap.size ≤ b)) w' ob name cs K := by
  have eb : w'.heap[ob]? = w.heap[ob]? := hk.block ob h.lt (hG ob h.lt h.oQ)
  obtain ⟨v, v1, v2, v3⟩ := h.row
  have hlt := v2.lt
  refine ⟨⟨h.oQ, .inl h.lt⟩, Nat.lt_of_lt_of_le h.lt hk.size, (World.cell?_of_block (a := ⟨ob, 0, none⟩) eb).trans h.c0, (World.frozen?_of_block (a := ⟨ob, 1, none⟩) eb).trans h.f1, fun b hb => ⟨h.new b (Nat.le_trans hk.size hb), .inr hb⟩, ⟨v, (World.cell?_of_block (a := ⟨ob, 1, none⟩) eb).trans v1, v2.heap (fun g hg => hk.block g (hlt g hg).2 (hG g (hlt g hg).2 (v3 g hg).1)), fun g hg => ⟨⟨(v3 g hg).1, .inl (hlt g hg).2⟩, (v3 g hg).2⟩⟩,
    fun c hc => MHAt.kept (h.hold c hc) hk (fun b hb hg => hG b hb (h.inQ c hc b hg).1), fun c hc b hb => ?_, h.apart, h.fine, h.len, h.nodup⟩
  obtain ⟨i1, i2, i3⟩ := h.inQ c hc b hb
  exact ⟨⟨i1, .inl i2⟩, Nat.lt_of_lt_of_le i2 hk.size, i3⟩
theorem RMemAt.kept {Q : Nat → Prop} {w w' : World} {ob : Nat} {name : ByteArray} {cs : List Int} {K : Int → RSt} (h : RMemAt Q w ob name cs K) (hk : Below w.heap.size w w') : RMemAt Q w' ob name cs K := by
  have h' := h.keptBut (KeptBut.of_below (F := fun b => w.heap.size ≤ b) hk (fun _ _ h => h)) (fun _ hb _ => Nat.not_le_of_lt hb)
  exact ⟨h.oQ, h'.lt, h'.c0, h'.f1, fun b hb => (h'.new b hb).1, by
    obtain ⟨v, v1, v2, v3⟩ := h'.row
    exact ⟨v, v1, v2, fun g hg => ⟨(v3 g hg).1.1, (v3 g hg).2⟩⟩, h'.hold, fun c hc b hb => ⟨(h'.inQ c hc b hb).1.1, (h'.inQ c hc b hb).2⟩, h'.apart, h'.fine, h'.len, h'.nodup⟩
theorem RMemAt.past {Q : Nat → Prop} {w w' : World} {ob : Nat} {name : ByteArray} {cs : List Int} {K : Int → RSt} (h : RMemAt Q w ob name cs K) (hk : Below w.heap.size w w') : RMemAt (fun b => Q b ∧ (b < w.heap.size ∨ w'.heap.size ≤ b)) w' ob name cs K :=
  h.keptBut (KeptBut.of_below (F := fun b => w.heap.size ≤ b) hk (fun _ _ h => h)) (fun _ hb _ => Nat.not_le_of_lt hb)
def updK (K : Int → RSt) (c : Int) (x : RSt) : Int → RSt := fun k => if k = c then x else K k
theorem updK_same (K : Int → RSt) (c : Int) (x : RSt) : updK K c x c = x := by unfold updK; rw [if_pos rfl]
theorem updK_other (K : Int → RSt) {c k : Int} (x : RSt) (h : k ≠ c) : updK K c x k = K k := by unfold updK; rw [if_neg h]
/-- an act on one of its holds. -/
theorem RMemAt.turn {Q : Nat → Prop} {w w' : World} {ob : Nat} {name : ByteArray} {cs : List Int} {K : Int → RSt} {c : Int} {G' : Nat → Prop} {sd' : Bool} {l' : List Kp} (h : RMemAt Q w ob name cs K) (hc : c ∈ cs) (hk : KeptBut (K c).G w w') (hG : ∀ b, G' b → ((K c).G b ∨ w.heap.size ≤ b) ∧ b < w'.heap.size) (hh : MHAt G' w' (K c).mb sd' l') (hf : Srt l' ∧ l'.length ≤ 60) :
    RMemAt Q w' ob name cs (updK K c ⟨(K c).mb, G', sd', l'⟩) ∧ KeptBut Q w w' := by
  have hob : ¬ (K c).G ob := fun h9 => (h.inQ c hc ob h9).2.2 rfl
  have eb : w'.heap[ob]? = w.heap[ob]? := hk.block ob h.lt hob
  obtain ⟨v, v1, v2, v3⟩ := h.row
  have hlt := v2.lt
  have hNG : ∀ b, b < w.heap.size → G' b → (K c).G b := fun b hb h9 => by
    rcases (hG b h9).1 with h9 | h9
    · exact h9
    · omega
  have emap : cs.map (encOf (updK K c ⟨(K c).mb, G', sd', l'⟩)) = cs.map (encOf K) := List.map_congr_left fun k _ => by
    unfold encOf
    by_cases e : k = c
    · subst e; rw [updK_same]
    · rw [updK_other _ _ e]
  refine ⟨⟨h.oQ, Nat.lt_of_lt_of_le h.lt hk.size, (World.cell?_of_block (a := ⟨ob, 0, none⟩) eb).trans h.c0, (World.frozen?_of_block (a := ⟨ob, 1, none⟩) eb).trans h.f1, fun b hb => h.new b (Nat.le_trans hk.size hb), ⟨v, (World.cell?_of_block (a := ⟨ob, 1, none⟩) eb).trans v1, ?_, fun g hg => ⟨(v3 g hg).1, (v3 g hg).2.1, fun k hkc => ?_⟩⟩, ?_, ?_, ?_, ?_, h.len, h.nodup⟩, hk.mono (fun k _ h9 => (h.inQ c hc k h9).1)⟩
  · rw [emap]
    exact v2.heap (fun g hg => hk.block g (hlt g hg).2 ((v3 g hg).2.2 c hc))
  · by_cases e : k = c
    · subst e; rw [updK_same]
      exact fun h9 => (v3 g hg).2.2 k hc (hNG g (hlt g hg).2 h9)
    · rw [updK_other _ _ e]; exact (v3 g hg).2.2 k hkc
  · intro k hkc
    by_cases e : k = c
    · subst e; rw [updK_same]; exact hh
    · rw [updK_other _ _ e]
      exact MHAt.kept (h.hold k hkc) hk (fun b _ h1 h2 => h.apart k hkc c hc e b h1 h2)
  · intro k hkc b hb
    by_cases e : k = c
    · subst e; rw [updK_same] at hb
      refine ⟨?_, (hG b hb).2, ?_⟩
      · rcases (hG b hb).1 with h9 | h9
        · exact (h.inQ k hc b h9).1
        · exact h.new b h9
      · rcases (hG b hb).1 with h9 | h9
        · exact (h.inQ k hc b h9).2.2
        · have := h.lt; omega
    · rw [updK_other _ _ e] at hb
      obtain ⟨i1, i2, i3⟩ := h.inQ k hkc b hb
      exact ⟨i1, Nat.lt_of_lt_of_le i2 hk.size, i3⟩
  · intro k hkc k' hkc' hne b h1 h2
    by_cases e : k = c
    · subst e
      rw [updK_same] at h1
      rw [updK_other _ _ (fun e2 => hne e2.symm)] at h2
      have hb := (h.inQ k' hkc' b h2).2.1
      exact h.apart k hc k' hkc' hne b (hNG b hb h1) h2
    · rw [updK_other _ _ e] at h1
      by_cases e2 : k' = c
      · subst e2
        rw [updK_same] at h2
        have hb := (h.inQ k hkc b h1).2.1
        exact h.apart k hkc k' hc hne b h1 (hNG b hb h2)
      · rw [updK_other _ _ e2] at h2
        exact h.apart k hkc k' hkc' hne b h1 h2
  · intro k hkc
    by_cases e : k = c
    · subst e; rw [updK_same]; exact hf
    · rw [updK_other _ _ e]; exact h.fine k hkc
def newK (b : Nat) : RSt := ⟨b, fun k => k = b, false, []⟩
theorem MHAt.empty {w : World} {mb : Nat} (h : w.heap[mb]? = some (.cells #[.slice none 0 0, .bool false] 91 (0, 0))) : MHAt (fun k => k = mb) w mb false [] :=
  ⟨rfl, (Array.getElem?_eq_some_iff.1 h).1, by simp [World.cell?, h], by simp [World.frozen?, h], by simp [World.frozen?, h], none, 0, by simp [World.cell?, h], Nat.le_refl _, by simp [maxLen], fun _ => rfl, (fun x e => by cases e), .inl rfl⟩
/-- a new hold is put behind the others. -/
theorem RMemAt.add {Q : Nat → Prop} {w w3 : World} {ob : Nat} {name : ByteArray} {cs : List Int} {K : Int → RSt} {c : Int} {v v' : Value} {o : Obj} (h : RMemAt Q w ob name cs K) (h1 : w.cell? ⟨ob, 1, none⟩ = some v) (h2 : OwnRec 50 2 0 w v (cs.map (encOf K))) (h3 : ∀ g, v.ownBlock = some g → Q g ∧ g ≠ ob ∧ ∀ c ∈ cs, ¬ (K c).G g) (hc : c ∉ cs) (hl : cs.length < 12)
    (hown : OwnRec 50 2 0 w3 v' (cs.map (encOf K) ++ [[.int .i64 c, .pointer (some ⟨w.heap.size, 0, none⟩)]])) (hg3 : ((w.alloc (.cells #[.slice none 0 0, .bool false] 91)).alloc o).grownBy w3 v.ownBlock) (hat : v'.ownBlock = v.ownBlock ∨ v'.ownBlock = some (w.heap.size + 1 + 1)) :
    RMemAt Q (w3.setCell ⟨ob, 1, none⟩ v') ob name (cs ++ [c]) (updK K c (newK w.heap.size)) ∧ KeptBut Q w (w3.setCell ⟨ob, 1, none⟩ v') := by
  have hlt := h2.lt
  obtain ⟨w2, hw2⟩ : ∃ w2, (w.alloc (.cells #[.slice none 0 0, .bool false] 91)).alloc o = w2 := ⟨_, rfl⟩
  have hs2 : w2.heap.size = w.heap.size + 1 + 1 := by rw [← hw2]; simp
  have hB : Below w.heap.size w w2 := by rw [← hw2]; exact ((Below.refl _ w).alloc (Nat.le_refl _) _).alloc (by simp) _
  have hnew2 : w2.heap[w.heap.size]? = some (.cells #[.slice none 0 0, .bool false] 91 (0, 0)) := by
    rw [← hw2, Below.heap_alloc _ _ _ (by simp)]
    exact heap_alloc_new _ _
  rw [hw2] at hg3
  have hk1 : KeptBut (fun b => v.ownBlock = some b) w2 w3 := KeptBut.of_grown hg3 (fun k e => e)
  have hk2 : KeptBut (fun b => b = ob) w3 (w3.setCell ⟨ob, 1, none⟩ v') := (KeptBut.refl (fun b => b = ob) w3).set1 rfl v'
  have hk : KeptBut (fun b => v.ownBlock = some b ∨ b = ob) w (w3.setCell ⟨ob, 1, none⟩ v') :=
    ((KeptBut.of_below hB (fun k h1 h2 => by omega)).trans (hk1.mono (fun k _ e => .inl e))).trans (hk2.mono (fun k _ e => .inr e))
  have hsz3 : w.heap.size + 1 + 1 ≤ w3.heap.size := by rw [← hs2]; exact hk1.size
  have hsz4 : (w3.setCell ⟨ob, 1, none⟩ v').heap.size = w3.heap.size := by simp [World.setCell]
  have hvob : v.ownBlock ≠ some ob := fun e => (h3 ob e).2.1 rfl
  have hvn : v.ownBlock ≠ some w.heap.size := fun e => by have := (hlt _ e).2; omega
  have hv'ob : v'.ownBlock ≠ some ob := fun e => by
    rcases hat with e2 | e2
    · exact hvob (e2.symm.trans e)
    · rw [e] at e2
      have := Option.some.inj e2
      have := h.lt
      omega
  have hob2 : w2.heap[ob]? = w.heap[ob]? := hB.block ob h.lt
  have hob3 : w3.heap[ob]? = w.heap[ob]? := (hk1.block ob (by have := h.lt; omega) hvob).trans hob2
  have hnew : MHAt (fun k => k = w.heap.size) (w3.setCell ⟨ob, 1, none⟩ v') w.heap.size false [] := by
    have h0 := MHAt.empty hnew2
    refine (h0.kept hk1 (fun b _ e1 e2 => hvn (by rw [← e1]; exact e2))).kept hk2 (fun b _ e1 e2 => ?_)
    have := h.lt
    omega
  have hne : ∀ k ∈ cs, k ≠ c := fun k hk e => hc (by rw [← e]; exact hk)
  have hmem : ∀ k, k ∈ cs ++ [c] ↔ k ∈ cs ∨ k = c := fun k => by simp
  have emap : (cs ++ [c]).map (encOf (updK K c (newK w.heap.size))) = cs.map (encOf K) ++ [[.int .i64 c, .pointer (some ⟨w.heap.size, 0, none⟩)]] := by
    rw [List.map_append, List.map_singleton]
    congr 1
    · exact List.map_congr_left fun k hk => by unfold encOf; rw [updK_other _ _ (hne k hk)]
    · unfold encOf; rw [updK_same]; rfl
  have hkq : ∀ b, (v.ownBlock = some b ∨ b = ob) → Q b := fun b e => by
    rcases e with e | e
    · exact (h3 b e).1
    · rw [e]; exact h.oQ
  refine ⟨⟨h.oQ, by rw [hsz4]; have := h.lt; omega, ?_, ?_, fun b hb => h.new b (by rw [hsz4] at hb; omega), ⟨v', ?_, ?_, fun g hg => ?_⟩, ?_, ?_, ?_, ?_, by simp; omega, ?_⟩, hk.mono (fun k _ e => hkq k e)⟩
  · rw [World.cell?_setCell_other _ _ _ _ (by simp)]
    exact (World.cell?_of_block (a := ⟨ob, 0, none⟩) hob3).trans h.c0
  · rw [World.frozen?_setCell]
    exact (World.frozen?_of_block (a := ⟨ob, 1, none⟩) hob3).trans h.f1
  · exact World.cell?_setCell_same _ _ _ ((World.cell?_of_block (a := ⟨ob, 1, none⟩) hob3).trans h1)
  · rw [emap]
    exact hown.heap (fun g hg => Below.heap_setCell _ _ _ _ (fun e => hv'ob (by rw [hg, e])))
  · have hgne : g ≠ ob := fun e => hv'ob (by rw [hg, e])
    refine ⟨?_, hgne, fun k hkc => ?_⟩
    · rcases hat with e | e
      · rw [hg] at e; exact (h3 g e.symm).1
      · rw [hg] at e
        have := Option.some.inj e
        exact h.new g (by omega)
    · have hg2 : (v.ownBlock = some g) ∨ g = w.heap.size + 1 + 1 := by
        rcases hat with e | e
        · rw [hg] at e; exact .inl e.symm
        · rw [hg] at e; exact .inr (Option.some.inj e)
      by_cases e : k = c
      · rw [e, updK_same]
        show ¬ g = w.heap.size
        rcases hg2 with h9 | h9
        · have := (hlt g h9).2; omega
        · omega
      · rw [updK_other _ _ e]
        have hk2 := ((hmem k).1 hkc).resolve_right e
        rcases hg2 with h9 | h9
        · exact (h3 g h9).2.2 k hk2
        · exact fun h8 => by have := (h.inQ k hk2 g h8).2.1; omega
  · intro k hkc
    by_cases e : k = c
    · rw [e, updK_same]; exact hnew
    · have hk2 := ((hmem k).1 hkc).resolve_right e
      rw [updK_other _ _ e]
      refine MHAt.kept (h.hold k hk2) hk (fun b _ e1 e2 => ?_)
      rcases e2 with e2 | e2
      · exact (h3 b e2).2.2 k hk2 e1
      · exact (h.inQ k hk2 b e1).2.2 e2
  · intro k hkc b hb
    rw [hsz4]
    by_cases e : k = c
    · rw [e, updK_same] at hb
      have hb2 : b = w.heap.size := hb
      rw [hb2]
      exact ⟨h.new _ (Nat.le_refl _), by omega, by have := h.lt; omega⟩
    · rw [updK_other _ _ e] at hb
      obtain ⟨i1, i2, i3⟩ := h.inQ k (((hmem k).1 hkc).resolve_right e) b hb
      exact ⟨i1, by omega, i3⟩
  · intro k hkc k' hkc' hkk b e1 e2
    by_cases e : k = c
    · rw [e, updK_same] at e1
      have hb2 : b = w.heap.size := e1
      have e3 : k' ≠ c := fun e3 => hkk (e.trans e3.symm)
      rw [updK_other _ _ e3] at e2
      have h9 := (h.inQ k' (((hmem k').1 hkc').resolve_right e3) b e2).2.1
      omega
    · rw [updK_other _ _ e] at e1
      have hk2 := ((hmem k).1 hkc).resolve_right e
      by_cases e3 : k' = c
      · rw [e3, updK_same] at e2
        have hb2 : b = w.heap.size := e2
        have h9 := (h.inQ k hk2 b e1).2.1
        omega
      · rw [updK_other _ _ e3] at e2
        exact h.apart k hk2 k' (((hmem k').1 hkc').resolve_right e3) hkk b e1 e2
  · intro k hkc
    by_cases e : k = c
    · rw [e, updK_same]; exact ⟨List.Pairwise.nil, Nat.zero_le _⟩
    · rw [updK_other _ _ e]; exact h.fine k (((hmem k).1 hkc).resolve_right e)
  · rw [List.nodup_append]
    exact ⟨h.nodup, by simp, fun a ha b hb => by rw [List.mem_singleton.1 hb]; exact hne a ha⟩
end
end Go.Proofs.YtpjbecmedidfgaaGreatDoor
/- The document's member: its hold of a configuration. -/
namespace Go.Proofs.YtpjbecmedidfgaaGreatDoor
section
open Go.RowKit Go.Maps Go.BigFrame

theorem absR_length (cs : List Int) (K : Int → RSt) : (absR cs K).length = cs.length := List.length_map ..
theorem hasS_absR (cs : List Int) (K : Int → RSt) (c : Int) : hasS (absR cs K) c = decide (c ∈ cs) := by
  unfold hasS absR
  rw [Bool.eq_iff_iff, List.any_eq_true, decide_eq_true_iff]
  constructor
  · rintro ⟨p, hp, h⟩
    obtain ⟨k, hk, rfl⟩ := List.mem_map.1 hp
    have e : k = c := of_decide_eq_true h
    rw [← e]; exact hk
  · intro h
    exact ⟨_, List.mem_map.2 ⟨c, h, rfl⟩, decide_eq_true rfl⟩
theorem getS_absR : ∀ (cs : List Int) (K : Int → RSt) (c : Int), c ∈ cs → getS (absR cs K) c = ((K c).sd, (K c).l)
  | k :: r, K, c, h => by
    by_cases e : k = c
    · subst e
      unfold getS absR
      simp
    · have hr : c ∈ r := (List.mem_cons.1 h).resolve_left (fun e2 => e e2.symm)
      have := getS_absR r K c hr
      unfold getS absR at *
      rw [List.map_cons, List.find?_cons_of_neg (by simpa using e)]
      exact this
theorem setS_absR (cs : List Int) (K : Int → RSt) (c : Int) (x : RSt) : setS (absR cs K) c (x.sd, x.l) = absR cs (updK K c x) := by
  unfold setS absR
  rw [List.map_map]
  refine List.map_congr_left fun k _ => ?_
  show (if k = c then _ else _) = _
  by_cases e : k = c
  · rw [if_pos e, e, updK_same]
  · rw [if_neg e, updK_other _ _ e]
/-- what 'hold' leaves. -/
def ROfPost (Q : Nat → Prop) (w w' : World) (ob : Nat) (name : ByteArray) (cs : List Int) (K : Int → RSt) (c : Int) (e : Ending) : Prop :=
  KeptBut Q w w' ∧
  ((ofS (absR cs K) c = none ∧ e = .returned (.pointer none) ∧ RMemAt Q w' ob name cs K) ∨
   ∃ cs' K', ofS (absR cs K) c = some (absR cs' K') ∧ c ∈ cs' ∧ e = .returned (.pointer (some ⟨(K' c).mb, 0, none⟩)) ∧ RMemAt Q w' ob name cs' K')
theorem ROfPost.found {Q : Nat → Prop} {w : World} {ob : Nat} {name : ByteArray} {cs : List Int} {K : Int → RSt} {c : Int} (h : RMemAt Q w ob name cs K) (hc : c ∈ cs) : ROfPost Q w w ob name cs K c (.returned (.pointer (some ⟨(K c).mb, 0, none⟩))) := by
  refine ⟨KeptBut.refl _ _, .inr ⟨cs, K, ?_, hc, rfl, h⟩⟩
  unfold ofS
  rw [hasS_absR, decide_eq_true hc, if_pos rfl]
theorem ROfPost.full {Q : Nat → Prop} {w : World} {ob : Nat} {name : ByteArray} {cs : List Int} {K : Int → RSt} {c : Int} (h : RMemAt Q w ob name cs K) (hc : c ∉ cs) (hl : ¬ cs.length < 12) : ROfPost Q w w ob name cs K c (.returned (.pointer none)) := by
  refine ⟨KeptBut.refl _ _, .inl ⟨?_, rfl, h⟩⟩
  unfold ofS
  rw [hasS_absR, decide_eq_false hc, if_neg (by decide), absR_length, if_neg hl]
theorem ROfPost.made {Q : Nat → Prop} {w w' : World} {ob : Nat} {name : ByteArray} {cs : List Int} {K : Int → RSt} {c : Int} {hb : Nat} (h : RMemAt Q w' ob name (cs ++ [c]) (updK K c (newK hb))) (hk : KeptBut Q w w') (hc : c ∉ cs) (hl : cs.length < 12) : ROfPost Q w w' ob name cs K c (.returned (.pointer (some ⟨hb, 0, none⟩))) := by
  refine ⟨hk, .inr ⟨cs ++ [c], updK K c (newK hb), ?_, by simp, by rw [updK_same]; rfl, h⟩⟩
  unfold ofS
  rw [hasS_absR, decide_eq_false hc, if_neg (by decide), absR_length, if_pos hl]
  congr 1
  unfold absR
  rw [List.map_append, List.map_singleton, updK_same]
  congr 1
  exact List.map_congr_left fun k hk => by rw [updK_other _ _ (fun e => hc (by rw [← e]; exact hk))]
theorem info_of : (Tryz.prog.info? 50).map (fun i => (i.zero, i.size, i.bytes)) = some (some (.agg #[.int .i64 0, .pointer none]), 2, 16) := by kernel_rfl
theorem encOf_at (cs : List Int) (K : Int → RSt) (i : Nat) (h : i < cs.length) : (cs.map (encOf K))[i]?.getD [] = [.int .i64 cs[i], .pointer (some ⟨(K cs[i]).mb, 0, none⟩)] := by
  simp [h, encOf]
set_option maxRecDepth 100000 in
set_option maxHeartbeats 4000000 in
theorem mhold_walk (Q : Nat → Prop) (w : World) (ob : Nat) (name : ByteArray) (cs : List Int) (K : Int → RSt) (c : Int) (h : RMemAt Q w ob name cs K) :
    Calls Tryz.prog 39 #[.pointer (some ⟨ob, 0, none⟩), .int .i64 c] w fun e w' => ROfPost Q w w' ob name cs K c e := by
  obtain ⟨v, v1, v2, v3⟩ := h.row
  obtain ⟨a, cap, rfl, h1, h2, h3, h4, h5⟩ := v2.read
  rw [List.length_map] at h1 v1 v2 v3
  have hl12 := h.len
  have HM := Lib.hid (And.intro h (And.intro v1 (And.intro v2 v3)))
  obtain ⟨n, hn⟩ : ∃ n, cs.length = n := ⟨_, rfl⟩
  have Hn := Lib.hid hn
  rw [hn] at h1 v1 hl12
  have H5 := Lib.hid h5
  clear h v2 v3 h2 h3 h4 h5 hn
  go_enter Tryz.func39, Tryz.ntmps39
  go_wp2
  go_loop [5] (fun vi => ∃ i : Nat, i ≤ n ∧ vi = .int .i64 i ∧ Hid (∀ j, j < i → cs[j]? ≠ some c)) (fun vi => n - (intOf vi).toNat)
  case atStart => exact ⟨0, by omega, rfl, Lib.hid (fun j hj => by omega)⟩
  case round =>
    obtain ⟨i, hi, rfl, Hr⟩ := hrel
    have hi2 : i < n ∨ n = i := by omega
    rcases hi2 with hilt | rfl
    · have hilt2 : (i : Int) < n := by omega
      have hil : i < cs.length := by rw [Hn.out]; exact hilt
      rcases H5.out with he | ⟨b, off, rfl, hb, hc⟩
      · exfalso
        have := congrArg List.length he
        simp at this
        rw [this] at hil; simp at hil
      have j0 := hc i 0 (by rw [List.length_map]; exact hil) (by omega)
      have j1 := hc i 1 (by rw [List.length_map]; exact hil) (by omega)
      rw [encOf_at cs K i hil] at j0 j1
      have k0 : w.cell? ⟨b, off + i * 2, none⟩ = some (.int .i64 cs[i]) := j0
      have k1 : w.cell? ⟨b, off + i * 2 + 1, none⟩ = some (.pointer (some ⟨(K cs[i]).mb, 0, none⟩)) := j1
      clear j0 j1
      have hmem : cs[i] ∈ cs := List.getElem_mem hil
      have hget : cs[i]? = some cs[i] := List.getElem?_eq_getElem hil
      obtain ⟨x, hx⟩ : ∃ x, cs[i] = x := ⟨_, rfl⟩
      rw [hx] at k0 k1 hmem hget
      have HX := Lib.hid (And.intro hmem hget)
      clear hc hx hmem hget hil
      by_cases e : x = c
      · subst e
        go_wp2
        go_ret
        exact ROfPost.found HM.out.1 HX.out.1
      · have e2 : (x == c) = false := by simpa using e
        have HN : Hid (∀ j, j < i + 1 → cs[j]? ≠ some c) := Lib.hid (fun j hj => by
          by_cases hji : j = i
          · rw [hji, HX.out.2]; intro h9; exact e (Option.some.inj h9)
          · exact Hr.out j (by omega))
        go_wp2
        go_round
        case rel => exact ⟨i + 1, by omega, by go_num, HN⟩
        case measure => simp [intOf]; omega
    · have hnc : c ∉ cs := fun h9 => by
        obtain ⟨j, hj, e⟩ := List.getElem_of_mem h9
        exact Hr.out j (by rw [← Hn.out]; exact hj) (by rw [List.getElem?_eq_getElem hj, e])
      have HC := Lib.hid hnc
      clear hnc
      have hcs : n < 12 ∨ ¬ n < 12 := by omega
      rcases hcs with h12 | h12
      · have h12i : ¬ (12 : Int) ≤ n := by omega
        obtain ⟨W1, hW1⟩ : ∃ W1, w.alloc (.cells #[.slice none 0 0, .bool false] 91) = W1 := ⟨_, rfl⟩
        have hs1 : W1.heap.size = w.heap.size + 1 := by rw [← hW1]; simp
        have hb1 : Below w.heap.size w W1 := by rw [← hW1]; exact (Below.refl _ _).alloc (Nat.le_refl _) _
        have ho1 := HM.out.2.2.1.below hb1
        have c1 := (hb1.cell (p := ⟨ob, 1, none⟩) HM.out.1.lt).trans v1
        have H1 := Lib.hid (And.intro hW1 (And.intro hs1 (And.intro ho1 hb1)))
        have hlen : (cs.map (encOf K)).length = n := by rw [List.length_map]; exact Hn.out
        have Hlen := Lib.hid hlen
        clear hW1 hs1 hb1 ho1 hlen
        go_upto_region 9 with fail
        rw [H1.out.1]
        go_wp2_with (at_builtin; (refine append_rec (w0 := W1) 33 50 _ 2 16 Tryz.underlying33 info_of rfl (by omega) 46 50 rfl rfl 0 _ (cs.map (encOf K)) [.int .i64 c, .pointer (some ⟨w.heap.size, 0, none⟩)] rfl (fun u hu => by simp at hu; rcases hu with rfl | rfl <;> rfl) (by rw [← Hn.out]; rfl) rfl H1.out.2.2.1 (by rw [Hlen.out]; omega) (by rw [Hlen.out]; unfold maxLen; omega) (Nat.zero_le _) ?_))
        intro v' w3 g1 g2 g3
        obtain ⟨a', cap', rfl, _⟩ := g1.read
        have hl1 : (cs.map (encOf K) ++ [[Value.int .i64 c, Value.pointer (some ⟨w.heap.size, 0, none⟩)]]).length = n + 1 := by rw [List.length_append, Hlen.out]; rfl
        rw [hl1] at g1 g3 ⊢
        obtain ⟨w2, hw2⟩ : ∃ w2, W1.alloc (.cells #[.int .i64 c, .pointer (some ⟨w.heap.size, 0, none⟩)] 50) = w2 := ⟨_, rfl⟩
        have hob : w3.heap[ob]? = w.heap[ob]? := by
          have h9 := g2.block ob (by simp; have := HM.out.1.lt; have := H1.out.2.1; omega) (fun e => (HM.out.2.2.2 ob e.symm).2.1 rfl)
          rw [h9, Below.heap_alloc _ _ _ (by have := HM.out.1.lt; have := H1.out.2.1; omega)]
          exact H1.out.2.2.2.block ob HM.out.1.lt
        have c1' := (World.cell?_of_block (a := ⟨ob, 1, none⟩) hob).trans HM.out.2.1
        have f1' := (World.frozen?_of_block (a := ⟨ob, 1, none⟩) hob).trans HM.out.1.f1
        have hadd := RMemAt.add HM.out.1 HM.out.2.1 HM.out.2.2.1 HM.out.2.2.2 HC.out (by rw [Hn.out]; exact h12) g1 (by rw [H1.out.1]; exact g2) (by rw [← H1.out.2.1]; exact g3)
        have HA := Lib.hid hadd
        clear g1 g2 g3 hl1 hw2 hob hadd
        go_wp2
        go_ret
        exact ROfPost.made HA.out.1 HA.out.2 HC.out (by rw [Hn.out]; exact h12)
      · have h12i : (12 : Int) ≤ n := by omega
        go_wp2
        go_ret
        exact ROfPost.full HM.out.1 HC.out (by rw [Hn.out]; exact h12)
end
end Go.Proofs.YtpjbecmedidfgaaGreatDoor
/- The walk of the document's member's Hear. -/
namespace Go.Proofs.YtpjbecmedidfgaaGreatDoor
section
open Go.RowKit Go.Maps Go.BigFrame

def RHearPost (P : Nat → Prop) (w w' : World) (mo : Nat) (name : ByteArray) (s : MS) (m : Msg) (e : Ending) : Prop :=
  ∃ (cs' : List Int) (K' : Int → RSt) (P' : Nat → Prop), (∀ b, P' b → P b) ∧ KeptBut P w w' ∧ RMemAt P' w' mo name cs' K' ∧ absR cs' K' = (hearT s name m).1 ∧ RetMsgs (fun b => w.heap.size ≤ b ∧ ¬ P' b) w' e (((hearT s name m).2.map (ansMsg name m)).toList)
theorem RHearPost.silent {P : Nat → Prop} {w w' : World} {mo : Nat} {name : ByteArray} {cs : List Int} {K : Int → RSt} {m : Msg} (h : RMemAt P w mo name cs K) (hb : Below w.heap.size w w') (hn : hearsB name m = false) : RHearPost P w w' mo name (absR cs K) m (.returned (.slice none 0 0)) := by
  unfold RHearPost hearT
  rw [if_neg (by rw [hn]; decide)]
  exact ⟨cs, K, P, fun _ h => h, KeptBut.of_below hb (fun k h1 h2 => h.new k h2), h.kept hb, rfl, RetMsgs.nil _ _⟩
theorem RHearPost.full {P P1 : Nat → Prop} {w w' : World} {mo : Nat} {name : ByteArray} {cs : List Int} {K : Int → RSt} {m : Msg} (h : RMemAt P1 w' mo name cs K) (hP : ∀ b, P1 b → P b) (hk : KeptBut P w w') (hn : hearsB name m = true) (hof : ofS (absR cs K) m.cf = none) : RHearPost P w w' mo name (absR cs K) m (.returned (.slice none 0 0)) := by
  unfold RHearPost hearT
  rw [if_pos hn, hof]
  exact ⟨cs, K, P1, hP, hk, h, rfl, RetMsgs.nil _ _⟩
theorem RHearPost.refuse {P P1 : Nat → Prop} {w w' : World} {mo : Nat} {name : ByteArray} {cs : List Int} {K : Int → RSt} {s s1 : MS} {m : Msg} (h : RMemAt P1 w' mo name cs K) (hP : ∀ b, P1 b → P b) (hk : KeptBut P w w') (hn : hearsB name m = true) (hof : ofS s m.cf = some s1) (hs : absR cs K = setS s1 m.cf (actT m (getS s1 m.cf)).1) (ha : (actT m (getS s1 m.cf)).2 = none) : RHearPost P w w' mo name s m (.returned (.slice none 0 0)) := by
  unfold RHearPost hearT
  rw [if_pos hn, hof]
  dsimp only
  rw [ha]
  exact ⟨cs, K, P1, hP, hk, h, hs, RetMsgs.nil _ _⟩
theorem RHearPost.answer {P P1 : Nat → Prop} {w w5 wf : World} {mo ob rb : Nat} {name : ByteArray} {cs : List Int} {K : Int → RSt} {s s1 : MS} {m : Msg} {x : Ans} {e : Ending} (h : RMemAt P1 w5 mo name cs K) (hP : ∀ b, P1 b → P b) (hk : KeptBut P w w5) (hkf : KeptBut (fun b => b = ob) w5 wf) (hob : ¬ P1 ob) (hob2 : w.heap.size ≤ ob) (hPn : ∀ b, w.heap.size ≤ b → P b)
    (hn : hearsB name m = true) (hof : ofS s m.cf = some s1) (hs : absR cs K = setS s1 m.cf (actT m (getS s1 m.cf)).1) (ha : (actT m (getS s1 m.cf)).2 = some x) (he : e = .returned (.slice (some ⟨rb, 0, none⟩) 1 1)) (hr1 : w5.heap.size ≤ rb) (hr2 : rb < wf.heap.size) (hc : MsgAtS (fun b => w5.heap.size ≤ b) wf rb 0 (ansMsg name m x)) : RHearPost P w wf mo name s m e := by
  unfold RHearPost hearT
  rw [if_pos hn, hof]
  dsimp only
  rw [ha]
  refine ⟨cs, K, _, fun b hb => hP b hb.1, hk.trans (hkf.mono fun k _ e => by rw [e]; exact hPn ob hob2), h.keptBut hkf (fun b _ h1 h2 => hob (by rw [← h2]; exact h1)), hs, ?_⟩
  refine ⟨_, 1, he, Nat.le_refl _, by simp [maxLen], (fun e => by cases e), .inr ⟨rb, 0, rfl, ⟨Nat.le_trans hk.size hr1, fun h9 => by omega⟩, hr2, fun i hi => ?_⟩⟩
  have hi0 : i = 0 := by simp at hi; omega
  subst hi0
  obtain ⟨h0, h1, h2, h3, h4, h5, h6, ad, cap, h7, h8, h9, h10, h11⟩ := hc
  refine ⟨h0, h1, h2, h3, h4, h5, h6, ad, cap, h7, h8, h9, h10, ?_⟩
  rcases h11 with e | ⟨b, off, e, hb, hl, hcx⟩
  · exact .inl e
  · exact .inr ⟨b, off, e, ⟨Nat.le_trans hk.size hb, fun h9 => by omega⟩, hl, hcx⟩
theorem RHearPost.answer' {P P1 : Nat → Prop} {w w5 W7 : World} {mo ob : Nat} {name : ByteArray} {cs : List Int} {K : Int → RSt} {s s1 : MS} {m : Msg} (x : Ans) {ad : Option Addr} {cap : Nat} (h : RMemAt P1 w5 mo name cs K) (hP : ∀ b, P1 b → P b) (hk : KeptBut P w w5) (hkf : KeptBut (fun b => b = ob) w5 W7) (hob : ¬ P1 ob) (hob2 : w.heap.size ≤ ob) (hPn : ∀ b, w.heap.size ≤ b → P b)
    (hn : hearsB name m = true) (hof : ofS s m.cf = some s1) (hs : absR cs K = setS s1 m.cf (actT m (getS s1 m.cf)).1) (ha : (actT m (getS s1 m.cf)).2 = some x) (h8 : x.2.2.length ≤ cap) (h9 : cap ≤ maxLen) (h10 : ad = none → cap = 0) (h11 : VrS (fun b => w5.heap.size ≤ b) W7 ad x.2.2) {rb : Nat} (hrb : rb = W7.heap.size) :
    RHearPost P w (W7.alloc (.cells #[.string name, .string m.fr, .string x.1, .string m.key, .int .i64 m.op, .int .i64 m.cf, .bool x.2.1, .slice ad x.2.2.length cap] 44)) mo name s m (.returned (.slice (some ⟨rb, 0, none⟩) 1 1)) := by
  subst hrb
  refine RHearPost.answer (rb := W7.heap.size) (x := x) h hP hk (hkf.alloc1 _) hob hob2 hPn hn hof hs ha rfl hkf.size (by simp) ?_
  refine ⟨by simp [ansMsg], by simp [ansMsg], by simp [ansMsg], by simp [ansMsg], by simp [ansMsg], by simp [ansMsg], by simp [ansMsg], ad, cap, by simp [ansMsg], h8, h9, h10, h11.below ((Below.refl _ _).alloc (Nat.le_refl _) _)⟩
theorem RHearPost.drew {P : Nat → Prop} {w w' : World} {mo : Nat} {name : ByteArray} {s : MS} {m : Msg} {e : Ending} (h : RHearPost P w w' mo name s m e) : RHearPost P w w'.drew mo name s m e := by
  obtain ⟨cs, K, P', h1, h2, h3, h4, a, cap, h5, h6, h7, h8, h9⟩ := h
  exact ⟨cs, K, P', h1, h2.drew1, h3.kept (Below.refl _ _).drew, h4, a, cap, h5, h6, h7, h8, h9.below (Below.refl _ _).drew⟩
theorem MHAt.mseal {G : Nat → Prop} {w : World} {mb : Nat} {sd : Bool} {l : List Kp} (h2 : MHAt G w mb sd l) (b : Bool) : MHAt G (w.setCell ⟨mb, 1, none⟩ (.bool b)) mb b l := by
  have hsz : (w.setCell ⟨mb, 1, none⟩ (.bool b)).heap.size = w.heap.size := by simp [World.setCell]
  obtain ⟨a, cap, c0, h6, h7, h8, h9, h10⟩ := h2.c0
  refine ⟨h2.hG, by rw [hsz]; exact h2.hlt, World.cell?_setCell_same _ _ _ h2.c1, by rw [World.frozen?_setCell]; exact h2.f0, by rw [World.frozen?_setCell]; exact h2.f1, a, cap, ?_, h6, h7, h8, h9, ?_⟩
  · rw [World.cell?_setCell_other _ _ _ _ (by simp)]; exact c0
  · rw [hsz]; exact h10.set (fun x e => (h9 x e).2)
theorem rmem_put {Q : Nat → Prop} {w : World} {mo : Nat} {name : ByteArray} {cs : List Int} {K : Int → RSt} {c : Int} (h : RMemAt Q w mo name cs K) (hc : c ∈ cs) (key : ByteArray) (x1 x2 x3 x4 : Int) (x5 : ByteArray) (hk : key.size ≤ maxLen) (hx5 : x5.size ≤ maxLen) :
    Calls Tryz.prog 41 #[.pointer (some ⟨(K c).mb, 0, none⟩), .string key, .agg #[.int .i64 x1, .int .i64 x2, .int .i64 x3, .int .i64 x4, .string x5]] w fun e w' => e = .returned (.int .i64 (putM (errM (K c).sd (K c).l key (x1, x2, x3, x4, x5)))) ∧
      ∃ h' : RSt, RMemAt Q w' mo name cs (updK K c h') ∧ KeptBut Q w w' ∧ h'.sd = (K c).sd ∧ h'.l = afterP (K c).sd (K c).l key (x1, x2, x3, x4, x5) := by
  have h1 := h.hold c hc
  have hf : Fine (K c).l := h.fine c hc
  unfold RSt.At at h1
  refine (mput_walk (K c).G w (K c).mb (K c).sd (K c).l key x1 x2 x3 x4 x5 h1 (by have := hf.2; omega) hk hx5).mono fun e w' hp => ?_
  obtain ⟨he, hkp, hcs⟩ := hp
  have hKG : ∀ b, b = (K c).mb → (K c).G b := fun b e => by rw [e]; exact h1.hG
  have hkg : KeptBut (K c).G w w' := hkp.mono (fun b _ e => hKG b e)
  refine ⟨he, ?_⟩
  have hfp : Fine (afterP (K c).sd (K c).l key (x1, x2, x3, x4, x5)) := hf.put
  unfold afterP at hfp ⊢
  rcases hcs with ⟨h6, h7⟩ | ⟨h6, h7⟩
  · rw [if_neg h6] at hfp ⊢
    obtain ⟨q1, q2⟩ := h.turn hc hkg (fun b hb => ⟨.inl hb, Nat.lt_of_lt_of_le (h.inQ c hc b hb).2.1 hkp.size⟩) h7 hfp
    exact ⟨_, q1, q2, rfl, rfl⟩
  · rw [if_pos h6] at hfp ⊢
    obtain ⟨q1, q2⟩ := h.turn hc hkg (fun b hb => by
      rcases hb with rfl | hb
      · exact ⟨.inl h1.hG, h7.hlt⟩
      · exact ⟨.inr hb.1, hb.2⟩) h7 hfp
    exact ⟨_, q1, q2, rfl, rfl⟩
theorem rmem_seal {Q : Nat → Prop} {w : World} {mo : Nat} {name : ByteArray} {cs : List Int} {K : Int → RSt} {c : Int} (h : RMemAt Q w mo name cs K) (hc : c ∈ cs) :
    ∃ h' : RSt, RMemAt Q (w.setCell ⟨(K c).mb, 1, none⟩ (.bool true)) mo name cs (updK K c h') ∧ KeptBut Q w (w.setCell ⟨(K c).mb, 1, none⟩ (.bool true)) ∧ h'.sd = true ∧ h'.l = (K c).l ∧ h'.mb = (K c).mb := by
  have h1 := h.hold c hc
  unfold RSt.At at h1
  have hk : KeptBut (K c).G w (w.setCell ⟨(K c).mb, 1, none⟩ (.bool true)) := (KeptBut.refl (K c).G w).set1 h1.hG _
  obtain ⟨q1, q2⟩ := h.turn hc hk (fun b hb => ⟨.inl hb, Nat.lt_of_lt_of_le (h.inQ c hc b hb).2.1 hk.size⟩) (h1.mseal true) (h.fine c hc)
  exact ⟨_, q1, q2, rfl, rfl, rfl⟩
theorem rmem_get {Q : Nat → Prop} {w : World} {mo : Nat} {name : ByteArray} {cs : List Int} {K : Int → RSt} {c : Int} (h : RMemAt Q w mo name cs K) (hc : c ∈ cs) (k : ByteArray) :
    Calls Tryz.prog 40 #[.pointer (some ⟨(K c).mb, 0, none⟩), .string k] w fun e w' => VCloneOut w w' (getL (K c).l k) e := by
  have h1 := h.hold c hc
  unfold RSt.At at h1
  exact mget_walk (K c).G w (K c).mb (K c).sd (K c).l k h1 (by have := (h.fine c hc).2; omega)
theorem KeptBut.heapH {F : Nat → Prop} {a b : World} (h : KeptBut F a b) {k : Nat} {o : Obj} (hk : a.heap[k]? = some o) (hf : ¬ F k) : b.heap[k]? = some o := (h.block k (Array.getElem?_eq_some_iff.1 hk).1 hf).trans hk
theorem heap_set1 {w : World} {p i : Nat} {cs : Array Value} {t : TypeId} {v : Value} (h : w.heap[p]? = some (.cells cs t (0, 0))) : (w.setCell ⟨p, i, none⟩ v).heap[p]? = some (.cells (cs.setIfInBounds i v) t (0, 0)) :=
  (heap_setCell_same w p i _ _ _ h).trans (by simp)
set_option maxRecDepth 100000 in
set_option maxHeartbeats 8000000 in
theorem mhear_walk (Q : Nat → Prop) (w : World) (mo : Nat) (name : ByteArray) (cs : List Int) (K : Int → RSt) (fr dst kind key : ByteArray) (op cf : Int) (sl : Bool) (a : Option Addr) (len cap : Nat) (L : List Ver) (h : RMemAt Q w mo name cs K) (hk : key.size ≤ maxLen)
    (hlen : L.length = len) (hlm : len ≤ maxLen) (hok : ∀ x ∈ L, VerOk x) (hL : VrS (fun b => ¬ Q b) w a L) :
    Calls Tryz.prog 14 #[.pointer (some ⟨mo, 0, none⟩), .agg #[.string fr, .string dst, .string kind, .string key, .int .i64 op, .int .i64 cf, .bool sl, .slice a len cap]] w fun e w' => RHearPost Q w w' mo name (absR cs K) ⟨fr, dst, kind, key, op, cf, sl, L⟩ e := by
  obtain ⟨W1, hW1⟩ : ∃ W1, w.alloc (.cells #[.string fr, .string dst, .string kind, .string key, .int .i64 op, .int .i64 cf, .bool sl, .slice a len cap] 44) = W1 := ⟨_, rfl⟩
  obtain ⟨ab, hab⟩ : ∃ ab, w.heap.size = ab := ⟨_, rfl⟩
  have hb1 : Below w.heap.size w W1 := by rw [← hW1]; exact (Below.refl _ _).alloc (Nat.le_refl _) _
  have r0 : W1.cell? ⟨ab, 0, none⟩ = some (.string fr) := by rw [← hW1, ← hab]; simp
  have r1 : W1.cell? ⟨ab, 1, none⟩ = some (.string dst) := by rw [← hW1, ← hab]; simp
  have r2 : W1.cell? ⟨ab, 2, none⟩ = some (.string kind) := by rw [← hW1, ← hab]; simp
  have r3 : W1.cell? ⟨ab, 3, none⟩ = some (.string key) := by rw [← hW1, ← hab]; simp
  have r4 : W1.cell? ⟨ab, 4, none⟩ = some (.int .i64 op) := by rw [← hW1, ← hab]; simp
  have r5 : W1.cell? ⟨ab, 5, none⟩ = some (.int .i64 cf) := by rw [← hW1, ← hab]; simp
  have r7 : W1.cell? ⟨ab, 7, none⟩ = some (.slice a len cap) := by rw [← hW1, ← hab]; simp
  have hs1 : W1.heap.size = ab + 1 := by rw [← hW1, ← hab]; simp
  have n0 : W1.cell? ⟨mo, 0, none⟩ = some (.string name) := (hb1.cell (p := ⟨mo, 0, none⟩) h.lt).trans h.c0
  have HM := Lib.hid (And.intro h (And.intro hb1 (And.intro hW1 hab)))
  obtain ⟨P1, hP1, hP1e, hP1ab, hL1⟩ : ∃ P1 : Nat → Prop, RMemAt P1 W1 mo name cs K ∧ (∀ b, P1 b → Q b) ∧ ¬ P1 ab ∧ VrS (fun b => ¬ P1 b) W1 a L := by
    refine ⟨_, h.past hb1, fun b hb => hb.1, fun hb => ?_, (hL.below hb1).mono fun b hb h9 => hb h9.1⟩
    have h2 := hb.2
    omega
  have hPn : ∀ b, ab ≤ b → Q b := fun b hb => h.new b (by omega)
  have HP := Lib.hid (And.intro hP1 (And.intro hP1e (And.intro hP1ab (And.intro hL1 (And.intro hPn (And.intro hs1 (And.intro hlen hok)))))))
  have Hcells : Hid (∀ W, KeptBut P1 W1 W → W.cell? ⟨ab, 0, none⟩ = some (.string fr) ∧ W.cell? ⟨ab, 2, none⟩ = some (.string kind) ∧ W.cell? ⟨ab, 3, none⟩ = some (.string key) ∧ W.cell? ⟨ab, 4, none⟩ = some (.int .i64 op) ∧ W.cell? ⟨ab, 5, none⟩ = some (.int .i64 cf) ∧ W.cell? ⟨ab, 7, none⟩ = some (.slice a len cap) ∧ KeptBut Q w W) :=
    Lib.hid fun W hk => by
      have hkW : KeptBut Q w W := (KeptBut.of_below HM.out.2.1 (fun k h1 h2 => HM.out.1.new k h2)).trans (hk.mono fun k _ hp => HP.out.2.1 k hp)
      exact ⟨hk.cell r0 HP.out.2.2.1, hk.cell r2 HP.out.2.2.1, hk.cell r3 HP.out.2.2.1, hk.cell r4 HP.out.2.2.1, hk.cell r5 HP.out.2.2.1, hk.cell r7 HP.out.2.2.1, hkW⟩
  have k1 := cell_regrown r1
  have k5 := cell_regrown r5
  have kn := cell_regrown n0
  have Cn := Lib.hid (rname_walk key W1 hk)
  obtain ⟨nb, hnb⟩ : ∃ nb, nameB key = nb := ⟨_, rfl⟩
  rw [hnb] at Cn
  have hcs : ((dst.toList == name.toList) = false ∧ dst ≠ name) ∨ (dst = name ∧ cf < 0) ∨ (dst = name ∧ ¬ cf < 0 ∧ nb = false) ∨ (dst = name ∧ ¬ cf < 0 ∧ nb = true) := by
    by_cases e1 : dst = name
    · by_cases e2 : cf < 0
      · exact .inr (.inl ⟨e1, e2⟩)
      · cases nb
        · exact .inr (.inr (.inl ⟨e1, e2, rfl⟩))
        · exact .inr (.inr (.inr ⟨e1, e2, rfl⟩))
    · exact .inl ⟨txt_neV e1, e1⟩
  have Hnb := Lib.hid hnb
  have R3 := Lib.hid r3
  clear r0 r1 r2 r4 r5 r7 n0 hb1 h hL hnb hW1 hab hP1 hP1e hP1ab hL1 hPn hs1 hlen hok
  go_enter Tryz.func14, Tryz.ntmps14
  go_wp2_with fail
  rw [HM.out.2.2.1, HM.out.2.2.2]
  refine Cn.out.mono ?_
  rintro e W1' ⟨rfl, hww⟩
  rw [← hww]
  clear hww r3
  go_wp2
  rcases hcs with ⟨e1, e2⟩ | ⟨rfl, e2⟩ | ⟨rfl, e2, rfl⟩ | ⟨rfl, e2, rfl⟩
  · refine wp_region_quiet_below (by kernel_rfl) (by kernel_rfl) ?_
    repeat (go_big_quiet_step (fail))
    refine wpQuiet_nil ?_
    intro w2 hw'
    obtain ⟨⟨dq, osq⟩, hw2⟩ := hw'
    have H2 := Lib.hid (show Below W1.heap.size W1 w2 by rw [hw2]; exact below_regrown W1 dq osq)
    clear hw2 k1 k5 kn
    go_wp2
    go_ret
    exact RHearPost.silent HM.out.1 (HM.out.2.1.trans (H2.out.mono HM.out.2.1.size)) (by unfold hearsB; simp [e2])
  · have e3 : decide (cf < 0) = true := decide_eq_true e2
    refine wp_region_quiet_below (by kernel_rfl) (by kernel_rfl) ?_
    repeat (go_big_quiet_step (fail))
    refine wpQuiet_nil ?_
    intro w2 hw'
    obtain ⟨⟨dq, osq⟩, hw2⟩ := hw'
    have H2 := Lib.hid (show Below W1.heap.size W1 w2 by rw [hw2]; exact below_regrown W1 dq osq)
    clear hw2 k1 k5 kn
    go_wp2
    go_ret
    exact RHearPost.silent HM.out.1 (HM.out.2.1.trans (H2.out.mono HM.out.2.1.size)) (by unfold hearsB; rw [decide_eq_false (by simp; omega)]; rfl)
  · have e3 : decide (cf < 0) = false := decide_eq_false (by omega)
    refine wp_region_quiet_below (by kernel_rfl) (by kernel_rfl) ?_
    repeat (go_big_quiet_step (fail))
    refine wpQuiet_nil ?_
    intro w2 hw'
    obtain ⟨⟨dq, osq⟩, hw2⟩ := hw'
    have H2 := Lib.hid (show Below W1.heap.size W1 w2 by rw [hw2]; exact below_regrown W1 dq osq)
    clear hw2 k1 k5 kn
    go_wp2
    go_ret
    exact RHearPost.silent HM.out.1 (HM.out.2.1.trans (H2.out.mono HM.out.2.1.size)) (by unfold hearsB; dsimp only; rw [Hnb.out]; simp)
  · have e3 : decide (cf < 0) = false := decide_eq_false (by omega)
    refine wp_region_quiet_below (by kernel_rfl) (by kernel_rfl) ?_
    repeat (go_big_quiet_step (fail))
    refine wpQuiet_nil ?_
    intro w2 hw'
    obtain ⟨⟨dq, osq⟩, hw2⟩ := hw'
    have H2 := Lib.hid (show Below W1.heap.size W1 w2 by rw [hw2]; exact below_regrown W1 dq osq)
    clear hw2 k1 k5 kn
    have hk2 : KeptBut P1 W1 w2 := KeptBut.of_below H2.out (fun k h1 h2 => HP.out.1.new k h2)
    have hm2 : RMemAt P1 w2 mo dst cs K := HP.out.1.kept H2.out
    obtain ⟨c0, c2, c3, c4, c5, c7, -⟩ := Hcells.out w2 hk2
    have HM2 := Lib.hid (And.intro hk2 hm2)
    clear hk2 hm2
    have hks : kind = kLook ∨ kind = kSeal' ∨ (kind = kKeep ∧ len = 1) ∨ ((kind.toList == [108, 111, 111, 107]) = false ∧ (kind.toList == [115, 101, 97, 108]) = false ∧ ((kind.toList == [107, 101, 101, 112]) = false ∨ (kind = kKeep ∧ ((len : Int) == 1) = false)) ∧ hearsB dst ⟨fr, dst, kind, key, op, cf, sl, L⟩ = false) := by
      have l1 : kLook.toList = [108, 111, 111, 107] := by rw [ByteArray.toList_eq]; rfl
      have l2 : kSeal'.toList = [115, 101, 97, 108] := by rw [ByteArray.toList_eq]; rfl
      have l3 : kKeep.toList = [107, 101, 101, 112] := by rw [ByteArray.toList_eq]; rfl
      by_cases e1 : kind = kLook
      · exact .inl e1
      · by_cases e4 : kind = kSeal'
        · exact .inr (.inl e4)
        · by_cases e5 : kind = kKeep
          · by_cases e6 : len = 1
            · exact .inr (.inr (.inl ⟨e5, e6⟩))
            · refine .inr (.inr (.inr ⟨by rw [← l1]; exact txt_neV e1, by rw [← l2]; exact txt_neV e4, .inr ⟨e5, by simp; omega⟩, ?_⟩))
              unfold hearsB
              dsimp only
              rw [HP.out.2.2.2.2.2.2.1, decide_eq_false (p := kind = kLook ∨ _) (fun h9 => by rcases h9 with h9 | h9 | h9; exact e1 h9; exact e4 h9; exact e6 h9.2)]
              simp
          · refine .inr (.inr (.inr ⟨by rw [← l1]; exact txt_neV e1, by rw [← l2]; exact txt_neV e4, .inl (by rw [← l3]; exact txt_neV e5), ?_⟩))
            unfold hearsB
            dsimp only
            rw [decide_eq_false (p := kind = kLook ∨ _) (fun h9 => by rcases h9 with h9 | h9 | h9; exact e1 h9; exact e4 h9; exact e5 h9.1)]
            simp
    have hgood : (kind = kLook ∨ kind = kSeal' ∨ (kind = kKeep ∧ len = 1)) → hearsB dst ⟨fr, dst, kind, key, op, cf, sl, L⟩ = true := fun h9 => by
      unfold hearsB
      dsimp only
      rw [Hnb.out, HP.out.2.2.2.2.2.2.1, decide_eq_true h9, decide_eq_true (show dst = dst ∧ 0 ≤ cf from ⟨rfl, by omega⟩)]
      rfl
    rcases hks with rfl | rfl | ⟨rfl, rfl⟩ | ⟨g1, g2, g3, g4⟩
    · have Hg := Lib.hid (hgood (.inl rfl))
      clear hgood
      have Hof := Lib.hid (mhold_walk P1 w2 mo dst cs K cf HM2.out.2)
      unfold kLook at c2
      go_wp2_with fail
      refine Hof.out.mono ?_
      rintro e w3 ⟨hk3, (⟨hof, rfl, hm3⟩ | ⟨cs', K', hof, hcc, rfl, hm3⟩)⟩
      · have H3 := Lib.hid (And.intro (HM2.out.1.trans hk3) (And.intro hof hm3))
        clear hof hm3 hk3
        go_wp2
        go_ret
        exact RHearPost.full H3.out.2.2 HP.out.2.1 (Hcells.out w3 H3.out.1).2.2.2.2.2.2 Hg.out H3.out.2.1
      · have H3 := Lib.hid (And.intro (HM2.out.1.trans hk3) (And.intro hof (And.intro hcc hm3)))
        clear hof hm3 hk3 hcc c0 c2 c3 c4 c5 c7 Hof
        have KA : Hid (∀ W, Below w3.heap.size w3 W → W.cell? ⟨ab, 0, none⟩ = some (.string fr) ∧ W.cell? ⟨ab, 3, none⟩ = some (.string key) ∧ W.cell? ⟨ab, 4, none⟩ = some (.int .i64 op) ∧ W.cell? ⟨ab, 5, none⟩ = some (.int .i64 cf) ∧ W.cell? ⟨mo, 0, none⟩ = some (.string dst)) := Lib.hid fun W hb => by
          obtain ⟨c0, c2, c3, c4, c5, c7, -⟩ := Hcells.out W (H3.out.1.trans (KeptBut.of_below hb (fun k h1 h2 => H3.out.2.2.2.new k h2)))
          exact ⟨c0, c3, c4, c5, (H3.out.2.2.2.kept hb).c0⟩
        obtain ⟨c0, c3, c4, c5, cn⟩ := KA.out w3 (Below.refl _ _)
        go_wp2
        go_region_held3 (fun W => W.cell? ⟨ab, 0, none⟩ = some (.string fr) ∧ W.cell? ⟨ab, 3, none⟩ = some (.string key) ∧ W.cell? ⟨ab, 4, none⟩ = some (.int .i64 op) ∧ W.cell? ⟨ab, 5, none⟩ = some (.int .i64 cf) ∧ W.cell? ⟨mo, 0, none⟩ = some (.string dst))
          ((refine KA.out _ ?_; repeat (first | exact Below.refl _ _ | apply Below.drew | refine Below.alloc ?_ (Nat.le_refl _) _ | refine Below.setCell ?_ (Nat.le_refl _) _)))
          (fail)
        obtain ⟨W4, hW4⟩ : ∃ W4, (w3.alloc (.cells #[.string dst, .string fr, .string ⟨#[]⟩, .string key, .int .i64 op, .int .i64 cf, .bool false, .slice none 0 0] 44)).drew = W4 := ⟨_, rfl⟩
        obtain ⟨tb, htb⟩ : ∃ tb, w3.heap.size = tb := ⟨_, rfl⟩
        have hb4 : Below w3.heap.size w3 W4 := by rw [← hW4]; exact ((Below.refl _ _).alloc (Nat.le_refl _) _).drew
        have hs4 : W4.heap.size = tb + 1 := by rw [← hW4, ← htb]; simp
        have gt4 : W4.heap[tb]? = some (.cells #[.string dst, .string fr, .string ⟨#[]⟩, .string key, .int .i64 op, .int .i64 cf, .bool false, .slice none 0 0] 44 (0, 0)) := by rw [← hW4, ← htb]; exact heap_alloc_new w3 _
        obtain ⟨P2, hP2, hP2e, hP2t⟩ : ∃ P2 : Nat → Prop, RMemAt P2 W4 mo dst cs' K' ∧ (∀ b, P2 b → P1 b) ∧ ¬ P2 tb := by
          refine ⟨_, H3.out.2.2.2.past hb4, fun b hb => hb.1, fun hb => ?_⟩
          have h2 := hb.2
          omega
        have hk4 : KeptBut P1 W1 W4 := H3.out.1.trans (KeptBut.of_below hb4 (fun k h1 h2 => H3.out.2.2.2.new k h2))
        have H4 := Lib.hid (And.intro hP2 (And.intro hP2e (And.intro hP2t (And.intro hk4 (And.intro htb (And.intro hs4 gt4))))))
        have Hat : Hid (ab < tb) := Lib.hid (by have := HP.out.2.2.2.2.2.1; have := H3.out.1.size; omega)
        have Hc4 : Hid (∀ W, KeptBut P2 W4 W → W.cell? ⟨ab, 2, none⟩ = some (.string kLook) ∧ W.cell? ⟨ab, 3, none⟩ = some (.string key) ∧ W.cell? ⟨ab, 7, none⟩ = some (.slice a len cap) ∧ KeptBut Q w W) := Lib.hid fun W hk => by
          obtain ⟨_, c2, c3, _, _, c7, ck⟩ := Hcells.out W (H4.out.2.2.2.1.trans (hk.mono fun b _ hb => H4.out.2.1 b hb))
          exact ⟨c2, c3, c7, ck⟩
        have hmh := hP2.hold cf H3.out.2.2.1
        have hmi := hP2.inQ cf H3.out.2.2.1
        unfold RSt.At at hmh
        have hmt : (K' cf).mb ≠ tb := fun e => hP2t (by rw [← e]; exact (hmi _ hmh.hG).1)
        have Hmb := Lib.hid (And.intro hmh hmt)
        rw [hW4, htb]
        rename_i hHeld
        clear hHeld hb4 hs4 gt4 hP2 hP2e hP2t hk4 hW4 htb KA c0 c3 c4 c5 cn hmh hmi hmt
        have hgs : getS (absR cs' K') cf = ((K' cf).sd, (K' cf).l) := getS_absR _ _ _ H3.out.2.2.1
        have Hgs := Lib.hid hgs
        clear hgs
        have hat : ab ≠ tb := Nat.ne_of_lt Hat.out
        have hat2 : tb ≠ ab := fun e => hat e.symm
        obtain ⟨W5, hW5⟩ : ∃ W5, (W4.setCell ⟨tb, 2, none⟩ (.string ⟨#[116, 111, 108, 100]⟩)).setCell ⟨tb, 6, none⟩ (.bool (K' cf).sd) = W5 := ⟨_, rfl⟩
        have hk5 : KeptBut (fun b => b = tb) W4 W5 := by rw [← hW5]; exact ((KeptBut.refl (fun b => b = tb) W4).set1 (p := ⟨tb, 2, none⟩) rfl _).set1 (p := ⟨tb, 6, none⟩) rfl _
        have hs5 : W5.heap.size = W4.heap.size := by rw [← hW5]; simp [World.setCell]
        have gt5 : W5.heap[tb]? = some (.cells #[.string dst, .string fr, .string ⟨#[116, 111, 108, 100]⟩, .string key, .int .i64 op, .int .i64 cf, .bool (K' cf).sd, .slice none 0 0] 44 (0, 0)) := by
          rw [← hW5]
          exact (heap_set1 (heap_set1 H4.out.2.2.2.2.2.2)).trans (by simp)
        have hm5 := H4.out.1.keptBut hk5 (fun b _ h1 h2 => H4.out.2.2.1 (by rw [← h2]; exact h1))
        have Hget := Lib.hid (rmem_get hm5 H3.out.2.2.1 key)
        have H5 := Lib.hid (And.intro hW5 (And.intro hk5 (And.intro hs5 gt5)))
        obtain ⟨c2, c3, c7, -⟩ := Hc4.out W4 (KeptBut.refl _ _)
        unfold kLook at c2
        have o2 := (cell_of_heap H4.out.2.2.2.2.2.2 2).trans rfl
        have o6 := (cell_of_heap H4.out.2.2.2.2.2.2 6).trans rfl
        have z2 := frozen_of_heap H4.out.2.2.2.2.2.2 2
        have z6 := frozen_of_heap H4.out.2.2.2.2.2.2 6
        have m1 := Hmb.out.1.c1
        have hmt := Hmb.out.2
        have hmt2 : tb ≠ (K' cf).mb := fun e => hmt e.symm
        clear hW5 hk5 hs5 gt5 hm5
        go_wp2_with fail
        rw [H5.out.1]
        refine Hget.out.mono ?_
        rintro e w6 ⟨hb6, v6, rfl, ho6⟩
        obtain ⟨a6, cap6, rfl, hv1, hv2, hv3, hv4⟩ := ho6.readS
        have gt6 := (hb6.block tb (Array.getElem?_eq_some_iff.1 H5.out.2.2.2).1).trans H5.out.2.2.2
        have kr6 : Hid (KeptBut (fun b => b = tb) W4 w6) := Lib.hid (H5.out.2.1.trans (KeptBut.of_below hb6 (fun k h1 h2 => by omega)))
        have H6 := Lib.hid (And.intro hb6 (And.intro hv1 (And.intro hv2 (And.intro hv3 hv4))))
        clear hb6 ho6 hv1 hv2 hv3 hv4 c2 c3 c7 o2 o6 z2 z6 m1 hmt hmt2 hat hat2 Hget
        have o0 := (cell_of_heap gt6 0).trans rfl
        have o1 := (cell_of_heap gt6 1).trans rfl
        have o2 := (cell_of_heap gt6 2).trans rfl
        have o3 := (cell_of_heap gt6 3).trans rfl
        have o4 := (cell_of_heap gt6 4).trans rfl
        have o5 := (cell_of_heap gt6 5).trans rfl
        have o6 := (cell_of_heap gt6 6).trans rfl
        have o7 := (cell_of_heap gt6 7).trans rfl
        have z7 := frozen_of_heap gt6 7
        clear gt6
        go_wp2
        go_ret
        exact RHearPost.answer' (ob := tb) (kTold, (K' cf).sd, getL (K' cf).l key) H4.out.1 (fun b hb => HP.out.2.1 b (H4.out.2.1 b hb)) (Hc4.out W4 (KeptBut.refl _ _)).2.2.2 (kr6.out.set1 (p := ⟨tb, 7, none⟩) rfl _) H4.out.2.2.1 (by rw [HM.out.2.2.2]; exact Nat.le_of_lt Hat.out) (fun b hb => HP.out.2.2.2.2.1 b (by rw [← HM.out.2.2.2]; exact hb)) Hg.out H3.out.2.1
          (by
            rw [Hgs.out]
            show _ = setS _ cf ((K' cf).sd, (K' cf).l)
            rw [setS_absR cs' K' cf (K' cf)]
            unfold absR
            exact List.map_congr_left fun k _ => by
              by_cases e : k = cf
              · rw [e, updK_same]
              · rw [updK_other _ _ e])
          (by rw [Hgs.out]; rfl) H6.out.2.1 H6.out.2.2.1 H6.out.2.2.2.1 ((H6.out.2.2.2.2.kept ((KeptBut.refl (fun b => b = tb) w6).set1 (p := ⟨tb, 7, none⟩) rfl _) (fun b _ h1 h2 => by have h1' : W5.heap.size ≤ b := h1; have := H5.out.2.2.1; have := H4.out.2.2.2.2.2.1; omega)).mono (fun b hb => by have h1' : W5.heap.size ≤ b := hb; have := H5.out.2.2.1; omega)) (by simp [World.setCell])
    · have Hg := Lib.hid (hgood (.inr (.inl rfl)))
      clear hgood
      have Hof := Lib.hid (mhold_walk P1 w2 mo dst cs K cf HM2.out.2)
      unfold kSeal' at c2
      go_wp2_with fail
      refine Hof.out.mono ?_
      rintro e w3 ⟨hk3, (⟨hof, rfl, hm3⟩ | ⟨cs', K', hof, hcc, rfl, hm3⟩)⟩
      · have H3 := Lib.hid (And.intro (HM2.out.1.trans hk3) (And.intro hof hm3))
        clear hof hm3 hk3
        go_wp2
        go_ret
        exact RHearPost.full H3.out.2.2 HP.out.2.1 (Hcells.out w3 H3.out.1).2.2.2.2.2.2 Hg.out H3.out.2.1
      · have H3 := Lib.hid (And.intro (HM2.out.1.trans hk3) (And.intro hof (And.intro hcc hm3)))
        clear hof hm3 hk3 hcc c0 c2 c3 c4 c5 c7 Hof
        have KA : Hid (∀ W, Below w3.heap.size w3 W → W.cell? ⟨ab, 0, none⟩ = some (.string fr) ∧ W.cell? ⟨ab, 3, none⟩ = some (.string key) ∧ W.cell? ⟨ab, 4, none⟩ = some (.int .i64 op) ∧ W.cell? ⟨ab, 5, none⟩ = some (.int .i64 cf) ∧ W.cell? ⟨mo, 0, none⟩ = some (.string dst)) := Lib.hid fun W hb => by
          obtain ⟨c0, c2, c3, c4, c5, c7, -⟩ := Hcells.out W (H3.out.1.trans (KeptBut.of_below hb (fun k h1 h2 => H3.out.2.2.2.new k h2)))
          exact ⟨c0, c3, c4, c5, (H3.out.2.2.2.kept hb).c0⟩
        obtain ⟨c0, c3, c4, c5, cn⟩ := KA.out w3 (Below.refl _ _)
        go_wp2
        go_region_held3 (fun W => W.cell? ⟨ab, 0, none⟩ = some (.string fr) ∧ W.cell? ⟨ab, 3, none⟩ = some (.string key) ∧ W.cell? ⟨ab, 4, none⟩ = some (.int .i64 op) ∧ W.cell? ⟨ab, 5, none⟩ = some (.int .i64 cf) ∧ W.cell? ⟨mo, 0, none⟩ = some (.string dst))
          ((refine KA.out _ ?_; repeat (first | exact Below.refl _ _ | apply Below.drew | refine Below.alloc ?_ (Nat.le_refl _) _ | refine Below.setCell ?_ (Nat.le_refl _) _)))
          (fail)
        obtain ⟨W4, hW4⟩ : ∃ W4, (w3.alloc (.cells #[.string dst, .string fr, .string ⟨#[]⟩, .string key, .int .i64 op, .int .i64 cf, .bool false, .slice none 0 0] 44)).drew = W4 := ⟨_, rfl⟩
        obtain ⟨tb, htb⟩ : ∃ tb, w3.heap.size = tb := ⟨_, rfl⟩
        have hb4 : Below w3.heap.size w3 W4 := by rw [← hW4]; exact ((Below.refl _ _).alloc (Nat.le_refl _) _).drew
        have hs4 : W4.heap.size = tb + 1 := by rw [← hW4, ← htb]; simp
        have gt4 : W4.heap[tb]? = some (.cells #[.string dst, .string fr, .string ⟨#[]⟩, .string key, .int .i64 op, .int .i64 cf, .bool false, .slice none 0 0] 44 (0, 0)) := by rw [← hW4, ← htb]; exact heap_alloc_new w3 _
        obtain ⟨P2, hP2, hP2e, hP2t⟩ : ∃ P2 : Nat → Prop, RMemAt P2 W4 mo dst cs' K' ∧ (∀ b, P2 b → P1 b) ∧ ¬ P2 tb := by
          refine ⟨_, H3.out.2.2.2.past hb4, fun b hb => hb.1, fun hb => ?_⟩
          have h2 := hb.2
          omega
        have hk4 : KeptBut P1 W1 W4 := H3.out.1.trans (KeptBut.of_below hb4 (fun k h1 h2 => H3.out.2.2.2.new k h2))
        have H4 := Lib.hid (And.intro hP2 (And.intro hP2e (And.intro hP2t (And.intro hk4 (And.intro htb (And.intro hs4 gt4))))))
        have Hat : Hid (ab < tb) := Lib.hid (by have := HP.out.2.2.2.2.2.1; have := H3.out.1.size; omega)
        have Hc4 : Hid (∀ W, KeptBut P2 W4 W → W.cell? ⟨ab, 2, none⟩ = some (.string kSeal') ∧ W.cell? ⟨ab, 3, none⟩ = some (.string key) ∧ W.cell? ⟨ab, 7, none⟩ = some (.slice a len cap) ∧ KeptBut Q w W) := Lib.hid fun W hk => by
          obtain ⟨_, c2, c3, _, _, c7, ck⟩ := Hcells.out W (H4.out.2.2.2.1.trans (hk.mono fun b _ hb => H4.out.2.1 b hb))
          exact ⟨c2, c3, c7, ck⟩
        have hmh := hP2.hold cf H3.out.2.2.1
        have hmi := hP2.inQ cf H3.out.2.2.1
        unfold RSt.At at hmh
        have hmt : (K' cf).mb ≠ tb := fun e => hP2t (by rw [← e]; exact (hmi _ hmh.hG).1)
        have Hmb := Lib.hid (And.intro hmh hmt)
        rw [hW4, htb]
        rename_i hHeld
        clear hHeld hb4 hs4 gt4 hP2 hP2e hP2t hk4 hW4 htb KA c0 c3 c4 c5 cn hmh hmi hmt
        have hgs : getS (absR cs' K') cf = ((K' cf).sd, (K' cf).l) := getS_absR _ _ _ H3.out.2.2.1
        have Hgs := Lib.hid hgs
        clear hgs
        have hat : ab ≠ tb := Nat.ne_of_lt Hat.out
        have hat2 : tb ≠ ab := fun e => hat e.symm
        obtain ⟨h5, hm5, hk5, q1, q2, q3⟩ := rmem_seal H4.out.1 H3.out.2.2.1
        obtain ⟨W5, hW5⟩ : ∃ W5, W4.setCell ⟨(K' cf).mb, 1, none⟩ (.bool true) = W5 := ⟨_, rfl⟩
        obtain ⟨W6, hW6⟩ : ∃ W6, W5.setCell ⟨tb, 2, none⟩ (.string ⟨#[115, 101, 97, 108, 101, 100]⟩) = W6 := ⟨_, rfl⟩
        have gt5 : W5.heap[tb]? = some (.cells #[.string dst, .string fr, .string ⟨#[]⟩, .string key, .int .i64 op, .int .i64 cf, .bool false, .slice none 0 0] 44 (0, 0)) := by
          rw [← hW5, Below.heap_setCell _ _ _ _ (fun e => Hmb.out.2 e.symm)]
          exact H4.out.2.2.2.2.2.2
        rw [hW5] at hm5 hk5
        have hk6 : KeptBut (fun b => b = tb) W5 W6 := by rw [← hW6]; exact (KeptBut.refl (fun b => b = tb) W5).set1 (p := ⟨tb, 2, none⟩) rfl _
        have hs6 : W6.heap.size = W4.heap.size := by rw [← hW6, ← hW5]; simp [World.setCell]
        have hs5 : W5.heap.size = W4.heap.size := by rw [← hW5]; simp [World.setCell]
        have gt6 : W6.heap[tb]? = some (.cells #[.string dst, .string fr, .string ⟨#[115, 101, 97, 108, 101, 100]⟩, .string key, .int .i64 op, .int .i64 cf, .bool false, .slice none 0 0] 44 (0, 0)) := by
          rw [← hW6]
          exact (heap_set1 gt5).trans (by simp)
        have hm6 := hm5.keptBut hk6 (fun b _ h1 h2 => H4.out.2.2.1 (by rw [← h2]; exact h1))
        have hget := rmem_get hm6 H3.out.2.2.1 key
        rw [updK_same, q3, q2] at hget
        have Hget := Lib.hid hget
        have H5 := Lib.hid (And.intro hW5 (And.intro hW6 (And.intro hm5 (And.intro hk5 (And.intro q1 (And.intro q2 (And.intro hk6 (And.intro hs6 (And.intro gt6 hs5)))))))))
        obtain ⟨c2, c3, c7, -⟩ := Hc4.out W4 (KeptBut.refl _ _)
        unfold kSeal' at c2
        have c3' : W5.cell? ⟨ab, 3, none⟩ = some (.string key) := (Hc4.out W5 hk5).2.1
        have o2 := (cell_of_heap gt5 2).trans rfl
        have z2 := frozen_of_heap gt5 2
        have m1 := Hmb.out.1.c1
        have mf1 := Hmb.out.1.f1
        clear hW5 hW6 hk5 hk6 hs6 gt5 gt6 hm5 hm6 hget q1 q2 q3 hs5
        go_upto_region 22 with fail
        rw [H5.out.1]
        clear c2 c3 c7 m1 mf1
        go_wp2_with fail
        rw [H5.out.2.1]
        refine Hget.out.mono ?_
        rintro e w7 ⟨hb7, v6, rfl, ho6⟩
        obtain ⟨a6, cap6, rfl, hv1, hv2, hv3, hv4⟩ := ho6.readS
        have gt7 := (hb7.block tb (Array.getElem?_eq_some_iff.1 H5.out.2.2.2.2.2.2.2.2.1).1).trans H5.out.2.2.2.2.2.2.2.2.1
        have kr7 : Hid (KeptBut (fun b => b = tb) W5 w7) := Lib.hid (H5.out.2.2.2.2.2.2.1.trans (KeptBut.of_below hb7 (fun k h1 h2 => by omega)))
        have H6 := Lib.hid (And.intro hb7 (And.intro hv1 (And.intro hv2 (And.intro hv3 hv4))))
        clear hb7 ho6 hv1 hv2 hv3 hv4 c3' o2 z2 hat hat2 Hget
        have o0 := (cell_of_heap gt7 0).trans rfl
        have o1 := (cell_of_heap gt7 1).trans rfl
        have o2 := (cell_of_heap gt7 2).trans rfl
        have o3 := (cell_of_heap gt7 3).trans rfl
        have o4 := (cell_of_heap gt7 4).trans rfl
        have o5 := (cell_of_heap gt7 5).trans rfl
        have o6 := (cell_of_heap gt7 6).trans rfl
        have o7 := (cell_of_heap gt7 7).trans rfl
        have z7 := frozen_of_heap gt7 7
        clear gt7
        go_wp2
        go_ret
        exact RHearPost.answer' (ob := tb) (kSealed, false, getL (K' cf).l key) H5.out.2.2.1 (fun b hb => HP.out.2.1 b (H4.out.2.1 b hb)) (Hc4.out W5 H5.out.2.2.2.1).2.2.2 (kr7.out.set1 (p := ⟨tb, 7, none⟩) rfl _) H4.out.2.2.1 (by rw [HM.out.2.2.2]; exact Nat.le_of_lt Hat.out) (fun b hb => HP.out.2.2.2.2.1 b (by rw [← HM.out.2.2.2]; exact hb)) Hg.out H3.out.2.1
          (by
            rw [Hgs.out]
            show _ = setS _ cf (true, (K' cf).l)
            rw [← setS_absR, H5.out.2.2.2.2.1, H5.out.2.2.2.2.2.1])
          (by rw [Hgs.out]; rfl) H6.out.2.1 H6.out.2.2.1 H6.out.2.2.2.1 ((H6.out.2.2.2.2.kept ((KeptBut.refl (fun b => b = tb) w7).set1 (p := ⟨tb, 7, none⟩) rfl _) (fun b _ h1 h2 => by have h1' : W6.heap.size ≤ b := h1; have := H5.out.2.2.2.2.2.2.2.1; have := H4.out.2.2.2.2.2.1; omega)).mono (fun b hb => by have h1' : W6.heap.size ≤ b := hb; have := H5.out.2.2.2.2.2.2.2.1; have := H5.out.2.2.2.2.2.2.2.2.2; show W5.heap.size ≤ b; omega)) (by simp [World.setCell])
    · have Hg := Lib.hid (hgood (.inr (.inr ⟨rfl, rfl⟩)))
      clear hgood
      have Hof := Lib.hid (mhold_walk P1 w2 mo dst cs K cf HM2.out.2)
      unfold kKeep at c2
      go_wp2_with fail
      refine Hof.out.mono ?_
      rintro e w3 ⟨hk3, (⟨hof, rfl, hm3⟩ | ⟨cs', K', hof, hcc, rfl, hm3⟩)⟩
      · have H3 := Lib.hid (And.intro (HM2.out.1.trans hk3) (And.intro hof hm3))
        clear hof hm3 hk3
        go_wp2
        go_ret
        exact RHearPost.full H3.out.2.2 HP.out.2.1 (Hcells.out w3 H3.out.1).2.2.2.2.2.2 Hg.out H3.out.2.1
      · have H3 := Lib.hid (And.intro (HM2.out.1.trans hk3) (And.intro hof (And.intro hcc hm3)))
        clear hof hm3 hk3 hcc c0 c2 c3 c4 c5 c7 Hof
        have KA : Hid (∀ W, Below w3.heap.size w3 W → W.cell? ⟨ab, 0, none⟩ = some (.string fr) ∧ W.cell? ⟨ab, 3, none⟩ = some (.string key) ∧ W.cell? ⟨ab, 4, none⟩ = some (.int .i64 op) ∧ W.cell? ⟨ab, 5, none⟩ = some (.int .i64 cf) ∧ W.cell? ⟨mo, 0, none⟩ = some (.string dst)) := Lib.hid fun W hb => by
          obtain ⟨c0, c2, c3, c4, c5, c7, -⟩ := Hcells.out W (H3.out.1.trans (KeptBut.of_below hb (fun k h1 h2 => H3.out.2.2.2.new k h2)))
          exact ⟨c0, c3, c4, c5, (H3.out.2.2.2.kept hb).c0⟩
        obtain ⟨c0, c3, c4, c5, cn⟩ := KA.out w3 (Below.refl _ _)
        go_wp2
        go_region_held3 (fun W => W.cell? ⟨ab, 0, none⟩ = some (.string fr) ∧ W.cell? ⟨ab, 3, none⟩ = some (.string key) ∧ W.cell? ⟨ab, 4, none⟩ = some (.int .i64 op) ∧ W.cell? ⟨ab, 5, none⟩ = some (.int .i64 cf) ∧ W.cell? ⟨mo, 0, none⟩ = some (.string dst))
          ((refine KA.out _ ?_; repeat (first | exact Below.refl _ _ | apply Below.drew | refine Below.alloc ?_ (Nat.le_refl _) _ | refine Below.setCell ?_ (Nat.le_refl _) _)))
          (fail)
        obtain ⟨W4, hW4⟩ : ∃ W4, (w3.alloc (.cells #[.string dst, .string fr, .string ⟨#[]⟩, .string key, .int .i64 op, .int .i64 cf, .bool false, .slice none 0 0] 44)).drew = W4 := ⟨_, rfl⟩
        obtain ⟨tb, htb⟩ : ∃ tb, w3.heap.size = tb := ⟨_, rfl⟩
        have hb4 : Below w3.heap.size w3 W4 := by rw [← hW4]; exact ((Below.refl _ _).alloc (Nat.le_refl _) _).drew
        have hs4 : W4.heap.size = tb + 1 := by rw [← hW4, ← htb]; simp
        have gt4 : W4.heap[tb]? = some (.cells #[.string dst, .string fr, .string ⟨#[]⟩, .string key, .int .i64 op, .int .i64 cf, .bool false, .slice none 0 0] 44 (0, 0)) := by rw [← hW4, ← htb]; exact heap_alloc_new w3 _
        obtain ⟨P2, hP2, hP2e, hP2t⟩ : ∃ P2 : Nat → Prop, RMemAt P2 W4 mo dst cs' K' ∧ (∀ b, P2 b → P1 b) ∧ ¬ P2 tb := by
          refine ⟨_, H3.out.2.2.2.past hb4, fun b hb => hb.1, fun hb => ?_⟩
          have h2 := hb.2
          omega
        have hk4 : KeptBut P1 W1 W4 := H3.out.1.trans (KeptBut.of_below hb4 (fun k h1 h2 => H3.out.2.2.2.new k h2))
        have H4 := Lib.hid (And.intro hP2 (And.intro hP2e (And.intro hP2t (And.intro hk4 (And.intro htb (And.intro hs4 gt4))))))
        have Hat : Hid (ab < tb) := Lib.hid (by have := HP.out.2.2.2.2.2.1; have := H3.out.1.size; omega)
        have Hc4 : Hid (∀ W, KeptBut P2 W4 W → W.cell? ⟨ab, 2, none⟩ = some (.string kKeep) ∧ W.cell? ⟨ab, 3, none⟩ = some (.string key) ∧ W.cell? ⟨ab, 7, none⟩ = some (.slice a 1 cap) ∧ KeptBut Q w W) := Lib.hid fun W hk => by
          obtain ⟨_, c2, c3, _, _, c7, ck⟩ := Hcells.out W (H4.out.2.2.2.1.trans (hk.mono fun b _ hb => H4.out.2.1 b hb))
          exact ⟨c2, c3, c7, ck⟩
        have hmh := hP2.hold cf H3.out.2.2.1
        have hmi := hP2.inQ cf H3.out.2.2.1
        unfold RSt.At at hmh
        have hmt : (K' cf).mb ≠ tb := fun e => hP2t (by rw [← e]; exact (hmi _ hmh.hG).1)
        have Hmb := Lib.hid (And.intro hmh hmt)
        rw [hW4, htb]
        rename_i hHeld
        clear hHeld hb4 hs4 gt4 hP2 hP2e hP2t hk4 hW4 htb KA c0 c3 c4 c5 cn hmh hmi hmt
        have hgs : getS (absR cs' K') cf = ((K' cf).sd, (K' cf).l) := getS_absR _ _ _ H3.out.2.2.1
        have Hgs := Lib.hid hgs
        clear hgs
        have hL1 := HP.out.2.2.2.1
        have hln := HP.out.2.2.2.2.2.2.1
        rcases hL1 with he | ⟨lb, off, rfl, hlP, hlb, hlc⟩
        · exfalso
          rw [he] at hln; simp at hln
        obtain ⟨f0, f1, f2, f3, f4⟩ := VrR.at5 hlc (i := 0) (by omega)
        have hx5 : (L[0]?.getD ver0).2.2.2.2.size ≤ maxLen := by
          rw [List.getElem?_eq_getElem (by omega : 0 < L.length)]
          exact (HP.out.2.2.2.2.2.2.2 _ (List.getElem_mem (by omega))).2.2.2.2
        obtain ⟨⟨x1, x2, x3, x4, x5⟩, hx⟩ : ∃ x, L[0]?.getD ver0 = x := ⟨_, rfl⟩
        rw [hx] at f0 f1 f2 f3 f4 hx5
        dsimp only at f0 f1 f2 f3 f4 hx5
        have KC : Hid (∀ W, KeptBut P2 W4 W → W.cell? ⟨ab, 3, none⟩ = some (.string key) ∧ W.cell? ⟨ab, 7, none⟩ = some (.slice (some ⟨lb, off, none⟩) 1 cap) ∧ W.cell? ⟨lb, off, none⟩ = some (.int .i64 x1) ∧ W.cell? ⟨lb, off + 1, none⟩ = some (.int .i64 x2) ∧ W.cell? ⟨lb, off + 2, none⟩ = some (.int .i64 x3) ∧ W.cell? ⟨lb, off + 3, none⟩ = some (.int .i64 x4) ∧ W.cell? ⟨lb, off + 4, none⟩ = some (.string x5)) := Lib.hid fun W hk => by
          have hkW : KeptBut P1 W1 W := H4.out.2.2.2.1.trans (hk.mono fun b _ hb => H4.out.2.1 b hb)
          obtain ⟨_, c3, c7, _⟩ := Hc4.out W hk
          exact ⟨c3, c7, by simpa using hkW.cell f0 hlP, by simpa using hkW.cell f1 hlP, by simpa using hkW.cell f2 hlP, by simpa using hkW.cell f3 hlP, by simpa using hkW.cell f4 hlP⟩
        have HX := Lib.hid hx
        have Hput := Lib.hid (rmem_put (H4.out.1.kept (Below.refl _ _).drew) H3.out.2.2.1 key x1 x2 x3 x4 x5 hk hx5)
        obtain ⟨c2, -, -, -⟩ := Hc4.out W4 (KeptBut.refl _ _)
        unfold kKeep at c2
        clear hlc f0 f1 f2 f3 f4 hx hln hx5
        go_wp2
        clear c2
        go_region_held3 (fun W => W.cell? ⟨ab, 3, none⟩ = some (.string key) ∧ W.cell? ⟨ab, 7, none⟩ = some (.slice (some ⟨lb, off, none⟩) 1 cap) ∧ W.cell? ⟨lb, off, none⟩ = some (.int .i64 x1) ∧ W.cell? ⟨lb, off + 1, none⟩ = some (.int .i64 x2) ∧ W.cell? ⟨lb, off + 2, none⟩ = some (.int .i64 x3) ∧ W.cell? ⟨lb, off + 3, none⟩ = some (.int .i64 x4) ∧ W.cell? ⟨lb, off + 4, none⟩ = some (.string x5))
          ((refine KC.out _ ?_; repeat (first | exact KeptBut.refl _ _ | exact kr5 | apply KeptBut.drew1)))
          (first
            | (go_at_call 41; refine Hput.out.mono ?_; rintro e w5 ⟨rfl, h5, hm5, hk5, g1, g2⟩; have kr5 : KeptBut P2 W4 w5 := (KeptBut.refl _ _).drew1.trans hk5; have H5 := Lib.hid (And.intro hm5 (And.intro kr5 (And.intro g1 g2))); clear hm5 hk5 g1 g2))
        rename_i hHeld
        clear hHeld kr5
        have gt5 := H5.out.2.1.heapH H4.out.2.2.2.2.2.2 H4.out.2.2.1
        have hpv := put_vals (K' cf).sd (K' cf).l key (x1, x2, x3, x4, x5)
        obtain ⟨cd, hcd⟩ : ∃ cd, putM (errM (K' cf).sd (K' cf).l key (x1, x2, x3, x4, x5)) = cd := ⟨_, rfl⟩
        rw [hcd] at hpv ⊢
        have Hcd := Lib.hid hcd
        have Hact : Hid (actT ⟨fr, dst, kKeep, key, op, cf, sl, L⟩ (getS (absR cs' K') cf) = if cd ≠ 0 ∧ cd ≠ 10 then (((K' cf).sd, (K' cf).l), none) else (((K' cf).sd, afterP (K' cf).sd (K' cf).l key (x1, x2, x3, x4, x5)), some (kKept, decide (cd ≠ 0), []))) := Lib.hid (by
          rw [Hgs.out]
          unfold actT
          dsimp only
          rw [if_neg (by decide), if_neg (by decide), HX.out, hcd])
        have Hst : Hid (absR cs' (updK K' cf h5) = setS (absR cs' K') cf ((K' cf).sd, afterP (K' cf).sd (K' cf).l key (x1, x2, x3, x4, x5))) := Lib.hid (by rw [← H5.out.2.2.2, ← H5.out.2.2.1]; exact (setS_absR cs' K' cf h5).symm)
        have o0 := (cell_of_heap gt5 0).trans rfl
        have o1 := (cell_of_heap gt5 1).trans rfl
        have o2 := (cell_of_heap gt5 2).trans rfl
        have o3 := (cell_of_heap gt5 3).trans rfl
        have o4 := (cell_of_heap gt5 4).trans rfl
        have o5 := (cell_of_heap gt5 5).trans rfl
        have o6 := (cell_of_heap gt5 6).trans rfl
        have o7 := (cell_of_heap gt5 7).trans rfl
        have z2 := frozen_of_heap gt5 2
        have z6 := frozen_of_heap gt5 6
        clear hcd gt5 Hput
        have hp2 : cd = 0 ∨ cd = 10 ∨ (cd = 2 ∨ cd = 4 ∨ cd = 6 ∨ cd = 7) := by omega
        clear hpv
        rcases hp2 with rfl | rfl | hp2
        · go_wp2
          go_ret
          exact RHearPost.answer' (ob := tb) (kKept, false, []) H5.out.1 (fun b hb => HP.out.2.1 b (H4.out.2.1 b hb)) (Hc4.out w5 H5.out.2.1).2.2.2 (((KeptBut.refl (fun b => b = tb) w5).set1 (p := ⟨tb, 2, none⟩) rfl _).set1 (p := ⟨tb, 6, none⟩) rfl _) H4.out.2.2.1 (by rw [HM.out.2.2.2]; exact Nat.le_of_lt Hat.out) (fun b hb => HP.out.2.2.2.2.1 b (by rw [← HM.out.2.2.2]; exact hb)) Hg.out H3.out.2.1
            (by rw [Hact.out, if_neg (by omega)]; exact Hst.out) (by rw [Hact.out, if_neg (by omega)]; rfl) (Nat.le_refl _) (by simp [maxLen]) (fun _ => rfl) (.inl rfl) (by simp [World.setCell])
        · go_wp2
          go_ret
          exact RHearPost.answer' (ob := tb) (kKept, true, []) H5.out.1 (fun b hb => HP.out.2.1 b (H4.out.2.1 b hb)) (Hc4.out w5 H5.out.2.1).2.2.2 (((KeptBut.refl (fun b => b = tb) w5).set1 (p := ⟨tb, 2, none⟩) rfl _).set1 (p := ⟨tb, 6, none⟩) rfl _) H4.out.2.2.1 (by rw [HM.out.2.2.2]; exact Nat.le_of_lt Hat.out) (fun b hb => HP.out.2.2.2.2.1 b (by rw [← HM.out.2.2.2]; exact hb)) Hg.out H3.out.2.1
            (by rw [Hact.out, if_neg (by omega)]; exact Hst.out) (by rw [Hact.out, if_neg (by omega)]; rfl) (Nat.le_refl _) (by simp [maxLen]) (fun _ => rfl) (.inl rfl) (by simp [World.setCell])
        · have h1 : 0 < cd := by omega
          have h2 : (cd == 10) = false := by simp; omega
          have HV := Lib.hid hp2
          clear hp2 o0 o1 o2 o3 o4 o5 o6 o7 z2 z6
          go_wp2
          go_ret
          have hne : cd ≠ 0 ∧ cd ≠ 10 := by have := HV.out; omega
          have haf : afterP (K' cf).sd (K' cf).l key (x1, x2, x3, x4, x5) = (K' cf).l := by
            unfold afterP
            refine if_neg (fun e0 => ?_)
            have h8 := Hcd.out
            rw [e0] at h8
            unfold putM at h8
            rw [if_neg (by omega)] at h8
            omega
          have hs2 := Hst.out
          rw [haf] at hs2
          exact RHearPost.refuse H5.out.1 (fun b hb => HP.out.2.1 b (H4.out.2.1 b hb)) (Hc4.out w5 H5.out.2.1).2.2.2 Hg.out H3.out.2.1 (by rw [Hact.out, if_pos hne]; exact hs2) (by rw [Hact.out, if_pos hne])
    · have Hg4 := Lib.hid g4
      clear g4 hgood
      have hfin : ∀ w', Below w2.heap.size w2 w' → RHearPost Q w w' mo dst (absR cs K) ⟨fr, dst, kind, key, op, cf, sl, L⟩ (.returned (.slice none 0 0)) := fun _ hb => RHearPost.silent HM.out.1 ((HM.out.2.1.trans (H2.out.mono HM.out.2.1.size)).trans (hb.mono (Nat.le_trans HM.out.2.1.size H2.out.size))) Hg4.out
      have Hfin := Lib.hid hfin
      clear hfin
      rcases g3 with g3 | ⟨rfl, g3⟩
      · go_wp2
        go_ret
        exact Hfin.out _ (Below.refl _ _)
      · unfold kKeep at c2
        go_wp2
        go_ret
        exact Hfin.out _ (Below.refl _ _)
end
end Go.Proofs.YtpjbecmedidfgaaGreatDoor
