/- A key's row is put into a hold. -/
import Derived.Test.YthdicfcgkbepdaaGreatDoorHlB
import Derived.Test.YthdicfcgkbepdaaGreatDoorVerB
namespace Go.Proofs.YthdicfcgkbepdaaGreatDoor
open Go.RowKit Go.Maps

/-- the hold's map is there. -/
def MapAt (F : Nat → Prop) (w : World) (hb : Nat) (ks : List ByteArray) (S : ByteArray → Value) (bm : Nat) (D : DataW Value) : Prop :=
  w.cell? ⟨hb, 0, none⟩ = some (.map (some bm)) ∧ F bm ∧ bm ≠ hb ∧ w.ownsMap Tryz.prog 9 Rv bm ks.length D ∧
    (∀ k, D.atKey (litS k) (.held (.slice none 0 0)) = .held (S k)) ∧ (∀ k, Maps.has D (litS k) = decide (k ∈ ks)) ∧ (∀ k g, (S k).ownBlock = some g → g ≠ bm) ∧ Maps.size D = ks.length
def updC (C : ByteArray → List Ver) (key : ByteArray) (L : List Ver) : ByteArray → List Ver := fun k => if k = key then L else C k
def updS (S : ByteArray → Value) (key : ByteArray) (v : Value) : ByteArray → Value := fun k => if k = key then v else S k
def addK (ks : List ByteArray) (key : ByteArray) : List ByteArray := if key ∈ ks then ks else ks ++ [key]
theorem mem_addK {ks : List ByteArray} {key k : ByteArray} : k ∈ addK ks key ↔ k ∈ ks ∨ k = key := by
  unfold addK
  split
  · constructor
    · exact .inl
    · rintro (h | rfl)
      · exact h
      · assumption
  · simp
theorem addK_nodup {ks : List ByteArray} (h : ks.Nodup) (key : ByteArray) : (addK ks key).Nodup := by
  unfold addK
  split
  · exact h
  · rename_i hn
    rw [List.nodup_append]
    exact ⟨h, by simp, fun a ha b hb => by rw [List.mem_singleton.1 hb]; exact fun e => hn (e ▸ ha)⟩
theorem addK_length (ks : List ByteArray) (key : ByteArray) : (addK ks key).length = if key ∈ ks then ks.length else ks.length + 1 := by
  unfold addK
  split <;> simp
theorem keyLit (k : ByteArray) : WideAt.IsKeyLit (litS k) := trivial
/-- a row is put back under its key. -/
theorem HoldAt.put {F : Nat → Prop} {w w2 w3 : World} {hb : Nat} {sd : Bool} {C : ByteArray → List Ver} {ks : List ByteArray} {S : ByteArray → Value} {bm : Nat} {D : DataW Value} {key : ByteArray} {v' : Value} {L' : List Ver}
    (h : HoldAt F w hb sd C ks S) (hm : MapAt F w hb ks S bm D) (hg2 : w.grownBy w2 (S key).ownBlock) (hv : OwnV 0 w2 v' L') (hne : L' ≠ []) (hbl : v'.ownBlock = (S key).ownBlock ∨ ∃ g, v'.ownBlock = some g ∧ w.heap.size ≤ g)
    (hown : w3.ownsMap Tryz.prog 9 Rv bm (ks.length + 1) (D.put (litS key) (.held v'))) (hg3 : w2.grownBy w3 (some bm)) (hkz : key.size ≤ maxLen) :
    HoldAt (fun b => F b ∨ w.heap.size ≤ b) w3 hb sd (updC C key L') (addK ks key) (updS S key v') ∧ KeptBut F w w3 := by
  obtain ⟨m0, mF, mne, mo, mat, mhas, mrow, msz⟩ := hm
  have hbmlt : bm < w.heap.size := mo.lt
  have hrow : ∀ k, k ≠ key → ∀ g, (S k).ownBlock = some g → w3.heap[g]? = w.heap[g]? := fun k hk g hg => by
    have h1 : g < w.heap.size := h.rowLt hg
    have h2 : some g ≠ (S key).ownBlock := fun e => h.apart k key g hk hg e.symm
    have h3 : some g ≠ some bm := fun e => mrow k g hg (Option.some.inj e)
    exact (hg3.block g (Nat.lt_of_lt_of_le h1 hg2.size) h3).trans (hg2.block g h1 h2)
  have hhb : w3.heap[hb]? = w.heap[hb]? := by
    have h2 : some hb ≠ (S key).ownBlock := fun e => (h.rowF key hb e.symm).2 rfl
    have h3 : some hb ≠ some bm := fun e => mne (Option.some.inj e).symm
    exact (hg3.block hb (Nat.lt_of_lt_of_le h.hlt hg2.size) h3).trans (hg2.block hb h.hlt h2)
  have ec : ∀ j, w3.cell? ⟨hb, j, none⟩ = w.cell? ⟨hb, j, none⟩ := fun j => World.cell?_of_block (a := ⟨hb, j, none⟩) hhb
  have ef : ∀ j, w3.frozen? ⟨hb, j, none⟩ = w.frozen? ⟨hb, j, none⟩ := fun j => World.frozen?_of_block (a := ⟨hb, j, none⟩) hhb
  have hsz3 : w.heap.size ≤ w3.heap.size := Nat.le_trans hg2.size hg3.size
  have hvbm : ∀ g, v'.ownBlock = some g → g ≠ bm := fun g hg => by
    rcases hbl with e | ⟨g', e, hge⟩
    · rw [hg] at e; exact mrow key g e.symm
    · rw [hg] at e; cases e; omega
  have hv3 : OwnV 0 w3 v' L' := hv.kept hg3 (by
    cases e : v'.ownBlock with
    | none => exact .inl rfl
    | some g => exact .inr (fun e2 => hvbm g e (Option.some.inj e2)))
  have hS : ∀ k g, (updS S key v' k).ownBlock = some g → (F g ∨ w.heap.size ≤ g) ∧ g ≠ hb ∧ g ≠ bm := fun k g hg => by
    unfold updS at hg
    split at hg
    · refine ⟨?_, ?_, hvbm g hg⟩
      · rcases hbl with e | ⟨g', e, hge⟩
        · rw [hg] at e; exact .inl (h.rowF key g e.symm).1
        · rw [hg] at e; cases e; exact .inr hge
      · rcases hbl with e | ⟨g', e, hge⟩
        · rw [hg] at e; exact (h.rowF key g e.symm).2
        · rw [hg] at e; cases e; have := h.hlt; omega
    · exact ⟨.inl (h.rowF k g hg).1, (h.rowF k g hg).2, mrow k g hg⟩
  have hnewap : ∀ k g, k ≠ key → v'.ownBlock = some g → (S k).ownBlock ≠ some g := fun k g hk hg e2 => by
    rcases hbl with e | ⟨g', e, hge⟩
    · rw [hg] at e; exact h.apart k key g hk e2 e.symm
    · rw [hg] at e; cases e; have := h.rowLt e2; omega
  refine ⟨⟨.inl h.hF, Nat.lt_of_lt_of_le h.hlt hsz3, (ec 1).trans h.c1, (ef 0).trans h.f0, (ef 1).trans h.f1, .inr ⟨bm, D.put (litS key) (.held v'), (ec 0).trans m0, .inl mF, mne, ?_, ?_, ?_, fun k g hg => (hS k g hg).2.2, ?_⟩, ?_, fun k g hg => ⟨(hS k g hg).1, (hS k g hg).2.1⟩, ?_, addK_nodup h.nodup key, ?_, ?_, ?_⟩, ?_⟩
  · have h1 := ownsMap_tight hown
    rw [size_put (mo.tidy keyedS), mhas key, msz] at h1
    rw [addK_length]
    by_cases e : key ∈ ks
    · simpa [e] using h1
    · simpa [e] using h1
  · intro k
    unfold updS
    by_cases e : k = key
    · rw [if_pos e, e, atKey_put_same (mo.tidy keyedS).isMap (keyLit key)]
    · rw [if_neg e, atKey_put_other (fun e2 => e (litS_inj e2)), mat k]
  · intro k
    by_cases e : k = key
    · rw [e, has_put_same (mo.tidy keyedS).isMap (keyLit key)]
      exact (decide_eq_true (mem_addK.2 (.inr rfl))).symm
    · rw [has_put_other (fun e2 => e (litS_inj e2)), mhas k, decide_eq_decide, mem_addK]
      exact ⟨.inl, fun h => h.resolve_right e⟩
  · rw [size_put (mo.tidy keyedS), mhas key, msz, addK_length]
    by_cases e : key ∈ ks <;> simp [e]
  · intro k
    unfold updS updC
    by_cases e : k = key
    · rw [if_pos e, if_pos e]; exact hv3
    · rw [if_neg e, if_neg e]
      exact (h.row k).heap (hrow k e)
  · intro k k' g hkk hg
    unfold updS at hg ⊢
    by_cases e : k = key
    · rw [if_pos e] at hg
      rw [if_neg (fun e2 => hkk (e.trans e2.symm))]
      exact hnewap k' g (fun e2 => hkk (e.trans e2.symm)) hg
    · rw [if_neg e] at hg
      by_cases e2 : k' = key
      · rw [if_pos e2]
        exact fun e3 => hnewap k g e e3 hg
      · rw [if_neg e2]
        exact h.apart k k' g hkk hg
  · intro k
    rw [mem_addK]
    unfold updC
    by_cases e : k = key
    · rw [if_pos e]; exact ⟨fun _ => hne, fun _ => .inr e⟩
    · rw [if_neg e, ← h.mem k]; exact ⟨fun h => h.resolve_right e, .inl⟩
  · intro k hk
    have hk2 : ¬ (k ∈ ks ∨ k = key) := fun e => hk (mem_addK.2 e)
    unfold updS
    rw [if_neg (fun e => hk2 (.inr e))]
    exact h.no k (fun e => hk2 (.inl e))
  · intro k hk
    rcases mem_addK.1 hk with h1 | rfl
    · exact h.kz k h1
    · exact hkz
  · refine (KeptBut.of_grown hg2 (fun k hk => (h.rowF key k hk).1)).trans ((KeptBut.of_grown hg3 (fun k hk => by cases hk; exact mF)))
/-- the map is made. -/
theorem HoldAt.made {F : Nat → Prop} {w : World} {hb : Nat} {sd : Bool} {C : ByteArray → List Ver} {S : ByteArray → Value} (h : HoldAt F w hb sd C [] S) (hc : w.cell? ⟨hb, 0, none⟩ = some (.map none)) :
    HoldAt (fun b => F b ∨ w.heap.size ≤ b) ((w.alloc (.map #[] 0)).setCell ⟨hb, 0, none⟩ (.map (some w.heap.size))) hb sd C [] S ∧
    MapAt (fun b => F b ∨ w.heap.size ≤ b) ((w.alloc (.map #[] 0)).setCell ⟨hb, 0, none⟩ (.map (some w.heap.size))) hb [] S w.heap.size (.map []) ∧
    KeptBut F w ((w.alloc (.map #[] 0)).setCell ⟨hb, 0, none⟩ (.map (some w.heap.size))) := by
  have hB : Below w.heap.size w (w.alloc (.map #[] 0)) := (Below.refl _ w).alloc (Nat.le_refl _) _
  have hlt := h.hlt
  have hne : ¬ w.heap.size = hb := by omega
  have e0 : (w.alloc (.map #[] 0)).cell? ⟨hb, 0, none⟩ = some (.map none) := (hB.cell hlt).trans hc
  have e1 : (w.alloc (.map #[] 0)).cell? ⟨hb, 1, none⟩ = some (.bool sd) := (hB.cell hlt).trans h.c1
  obtain ⟨W, hW⟩ : ∃ W, (w.alloc (.map #[] 0)).setCell ⟨hb, 0, none⟩ (.map (some w.heap.size)) = W := ⟨_, rfl⟩
  have c0 : W.cell? ⟨hb, 0, none⟩ = some (.map (some w.heap.size)) := by rw [← hW]; exact World.cell?_setCell_same _ _ _ e0
  have c1 : W.cell? ⟨hb, 1, none⟩ = some (.bool sd) := by rw [← hW, World.cell?_setCell_other _ _ _ _ (by simp)]; exact e1
  have ef : ∀ j, W.frozen? ⟨hb, j, none⟩ = w.frozen? ⟨hb, j, none⟩ := fun j => by rw [← hW, World.frozen?_setCell]; exact hB.frozen (p := ⟨hb, j, none⟩) hlt
  have hown : W.ownsMap (H := Value) Tryz.prog 9 Rv w.heap.size 0 (.map []) := by
    rw [← hW]
    exact (World.ownsMap_made w Tryz.prog 9 Rv).setCell hne _
  have hS : ∀ k, S k = .slice none 0 0 := fun k => h.no k (by simp)
  have hk : KeptBut F w W := by
    rw [← hW]
    refine (KeptBut.of_below (F := F) hB (fun k h1 h2 => by omega)).trans ⟨rfl, rfl, rfl, by simp [World.setCell], fun k h1 h2 => Below.heap_setCell _ _ _ _ (fun e => h2 (by rw [e]; exact h.hF))⟩
  have hm : MapAt (fun b => F b ∨ w.heap.size ≤ b) W hb [] S w.heap.size (.map []) := by
    refine ⟨c0, .inr (Nat.le_refl _), hne, hown, fun k => ?_, fun k => ?_, fun k g hg => ?_, rfl⟩
    · rw [hS k]; exact atKey_of_not_has (k := litS k) (D := (.map [] : DataW Value)) rfl _
    · rfl
    · rw [hS k] at hg; cases hg
  rw [hW]
  refine ⟨⟨.inl h.hF, Nat.lt_of_lt_of_le hlt hk.size, c1, (ef 0).trans h.f0, (ef 1).trans h.f1, .inr ⟨w.heap.size, .map [], hm⟩, fun k => ?_, fun k g hg => ?_, fun k k' g _ hg => ?_, h.nodup, h.mem, h.no, h.kz⟩, hm, hk⟩
  · have h1 := h.row k
    rw [hS k] at h1 ⊢
    exact h1.heap (fun g hg => by cases hg)
  · rw [hS k] at hg; cases hg
  · rw [hS k] at hg; cases hg
end Go.Proofs.YthdicfcgkbepdaaGreatDoor
