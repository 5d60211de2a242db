/- A key's row is put into a hold. -/
import Derived.Test.YtabboioamdphmaaGreatDoorSCarryHears23
import Derived.Test.YtabboioamdphmaaGreatDoorSCarryHears18
import Derived.Test.YtabboioamdphmaaGreatDoorSCarryHears16
namespace Go.Proofs.YtabboioamdphmaaGreatDoor
open Go.RowKit Go.Maps

def MapAt (F : Nat → Prop) (w : World) (hb : Nat) (ks : List ByteArray) (S : ByteArray → Value) (bm : Nat) (D : DataW Value) : Prop :=
  w.cell? ⟨hb, 0, none⟩ = some (.map (some bm)) ∧ F bm ∧ bm ≠ hb ∧ w.ownsMap Tryz.prog 9 Rv bm ks.length D ∧
    (∀ k, D.atKey (litS k) (.held (.slice none 0 0)) = .held (S k)) ∧ (∀ k, Maps.has D (litS k) = decide (k ∈ ks)) ∧ (∀ k g, (S k).ownBlock = some g → g ≠ bm) ∧ Maps.size D = ks.length
def updC (C : ByteArray → List Ver) (key : ByteArray) (L : List Ver) : ByteArray → List Ver := fun k => if k = key then L else C k
def updS (S : ByteArray → Value) (key : ByteArray) (v : Value) : ByteArray → Value := fun k => if k = key then v else S k
def addK (ks : List ByteArray) (key : ByteArray) : List ByteArray := if key ∈ ks then ks else ks ++ [key]
theorem mem_addK {ks : List ByteArray} {key k : ByteArray} : k ∈ addK ks key ↔ k ∈ ks ∨ k = key := by
  unfold addK
  split
  · constructor
    · exact .inl
    · rintro (h | rfl)
      · exact h
      · assumption
  · simp
theorem addK_nodup {ks : List ByteArray} (h : ks.Nodup) (key : ByteArray) : (addK ks key).Nodup := by
  unfold addK
  split
  · exact h
  · rename_i hn
    rw [List.nodup_append]
    exact ⟨h, by simp, fun a ha b hb => by rw [List.mem_singleton.1 hb]; exact fun e => hn (e ▸ ha)⟩
theorem addK_length (ks : List ByteArray) (key : ByteArray) : (addK ks key).length = if key ∈ ks then ks.length else ks.length + 1 := by
  unfold addK
  split <;> simp
theorem keyLit (k : ByteArray) : WideAt.IsKeyLit (litS k) := trivial
theorem HoldAt.put {F : Nat → Prop} {w w2 w3 : World} {hb : Nat} {sd : Bool} {C : ByteArray → List Ver} {ks : List ByteArray} {S : ByteArray → Value} {bm : Nat} {D : DataW Value} {key : ByteArray} {v' : Value} {L' : List Ver}
    (h : HoldAt F w hb sd C ks S) (hm : MapAt F w hb ks S bm D) (hg2 : w.grownBy w2 (S key).ownBlock) (hv : OwnV 0 w2 v' L') (hne : L' ≠ []) (hbl : v'.ownBlock = (S key).ownBlock ∨ ∃ g, v'.ownBlock = some g ∧ w.heap.size ≤ g)
    (hown : w3.ownsMap Tryz.prog 9 Rv bm (ks.length + 1) (D.put (litS key) (.held v'))) (hg3 : w2.grownBy w3 (some bm)) (hkz : key.size ≤ maxLen) :
    HoldAt (fun b => F b ∨ w.heap.size ≤ b) w3 hb sd (updC C key L') (addK ks key) (updS S key v') ∧ KeptBut F w w3 := by
  obtain ⟨m0, mF, mne, mo, mat, mhas, mrow, msz⟩ := hm
  have hbmlt : bm < w.heap.size := mo.lt
  have hrow : ∀ k, k ≠ key → ∀ g, (S k).ownBlock = some g → w3.heap[g]? = w.heap[g]? := fun k hk g hg => by
    have h1 : g < w.heap.size := h.rowLt hg
    have h2 : some g ≠ (S key).ownBlock := fun e => h.apart k key g hk hg e.symm
    have h3 : some g ≠ some bm := fun e => mrow k g hg (Option.some.inj e)
    exact (hg3.block g (Nat.lt_of_lt_of_le h1 hg2.size) h3).trans (hg2.block g h1 h2)
  have hhb : w3.heap[hb]? = w.heap[hb]? := by
    have h2 : some hb ≠ (S key).ownBlock := fun e => (h.rowF key hb e.symm).2 rfl
    have h3 : some hb ≠ some bm := fun e => mne (Option.some.inj e).symm
    exact (hg3.block hb (Nat.lt_of_lt_of_le h.hlt hg2.size) h3).trans (hg2.block hb h.hlt h2)
  have ec : ∀ j, w3.cell? ⟨hb, j, none⟩ = w.cell? ⟨hb, j, none⟩ := fun j => World.cell?_of_block (a := ⟨hb, j, none⟩) hhb
  have ef : ∀ j, w3.frozen? ⟨hb, j, none⟩ = w.frozen? ⟨hb, j, none⟩ := fun j => World.frozen?_of_block (a := ⟨hb, j, none⟩) hhb
  have hsz3 : w.heap.size ≤ w3.heap.size := Nat.le_trans hg2.size hg3.size
  have hvbm : ∀ g, v'.ownBlock = some g → g ≠ bm := fun g hg => by
    rcases hbl with e | ⟨g', e, hge⟩
    · rw [hg] at e; exact mrow key g e.symm
    · rw [hg] at e; cases e; omega
  have hv3 : OwnV 0 w3 v' L' := hv.kept hg3 (by
    cases e : v'.ownBlock with
    | none => exact .inl rfl
    | some g => exact .inr (fun e2 => hvbm g e (Option.some.inj e2)))
  have hS : ∀ k g, (updS S key v' k).ownBlock = some g → (F g ∨ w.heap.size ≤ g) ∧ g ≠ hb ∧ g ≠ bm := fun k g hg => by
    unfold updS at hg
    split at hg
    · refine ⟨?_, ?_, hvbm g hg⟩
      · rcases hbl with e | ⟨g', e, hge⟩
        · rw [hg] at e; exact .inl (h.rowF key g e.symm).1
        · rw [hg] at e; cases e; exact .inr hge
      · rcases hbl with e | ⟨g', e, hge⟩
        · rw [hg] at e; exact (h.rowF key g e.symm).2
        · rw [hg] at e; cases e; have := h.hlt; omega
    · exact ⟨.inl (h.rowF k g hg).1, (h.rowF k g hg).2, mrow k g hg⟩
  have hnewap : ∀ k g, k ≠ key → v'.ownBlock = some g → (S k).ownBlock ≠ some g := fun k g hk hg e2 => by
    rcases hbl with e | ⟨g', e, hge⟩
    · rw [hg] at e; exact h.apart k key g hk e2 e.symm
    · rw [hg] at e; cases e; have := h.rowLt e2; omega
  refine ⟨⟨.inl h.hF, Nat.lt_of_lt_of_le h.hlt hsz3, (ec 1).trans h.c1, (ef 0).trans h.f0, (ef 1).trans h.f1, .inr ⟨bm, D.put (litS key) (.held v'), (ec 0).trans m0, .inl mF, mne, ?_, ?_, ?_, fun k g hg => (hS k g hg).2.2, ?_⟩, ?_, fun k g hg => ⟨(hS k g hg).1, (hS k g hg).2.1⟩, ?_, addK_nodup h.nodup key, ?_, ?_, ?_⟩, ?_⟩
  · have h1 := ownsMap_tight hown
    rw [size_put (mo.tidy keyedS), mhas key, msz] at h1
    rw [addK_length]
    by_cases e : key ∈ ks
    · simpa [e] using h1
    · simpa [e] using h1
  · intro k
    unfold updS
    by_cases e : k = key
    · rw [if_pos e, e, atKey_put_same (mo.tidy keyedS).isMap (keyLit key)]
    · rw [if_neg e, atKey_put_other (fun e2 => e (litS_inj e2)), mat k]
  · intro k
    by_cases e : k = key
    · rw [e, has_put_same (mo.tidy keyedS).isMap (keyLit key)]
      exact (decide_eq_true (mem_addK.2 (.inr rfl))).symm
    · rw [has_put_other (fun e2 => e (litS_inj e2)), mhas k, decide_eq_decide, mem_addK]
      exact ⟨.inl, fun h => h.resolve_right e⟩
  · rw [size_put (mo.tidy keyedS), mhas key, msz, addK_length]
    by_cases e : key ∈ ks <;> simp [e]
  · intro k
    unfold updS updC
    by_cases e : k = key
    · rw [if_pos e, if_pos e]; exact hv3
    · rw [if_neg e, if_neg e]
      exact (h.row k).heap (hrow k e)
  · intro k k' g hkk hg
    unfold updS at hg ⊢
    by_cases e : k = key
    · rw [if_pos e] at hg
      rw [if_neg (fun e2 => hkk (e.trans e2.symm))]
      exact hnewap k' g (fun e2 => hkk (e.trans e2.symm)) hg
    · rw [if_neg e] at hg
      by_cases e2 : k' = key
      · rw [if_pos e2]
        exact fun e3 => hnewap k g e e3 hg
      · rw [if_neg e2]
        exact h.apart k k' g hkk hg
  · intro k
    rw [mem_addK]
    unfold updC
    by_cases e : k = key
    · rw [if_pos e]; exact ⟨fun _ => hne, fun _ => .inr e⟩
    · rw [if_neg e, ← h.mem k]; exact ⟨fun h => h.resolve_right e, .inl⟩
  · intro k hk
    have hk2 : ¬ (k ∈ ks ∨ k = key) := fun e => hk (mem_addK.2 e)
    unfold updS
    rw [if_neg (fun e => hk2 (.inr e))]
    exact h.no k (fun e => hk2 (.inl e))
  · intro k hk
    rcases mem_addK.1 hk with h1 | rfl
    · exact h.kz k h1
    · exact hkz
  · refine (KeptBut.of_grown hg2 (fun k hk => (h.rowF key k hk).1)).trans ((KeptBut.of_grown hg3 (fun k hk => by cases hk; exact mF)))
theorem HoldAt.made {F : Nat → Prop} {w : World} {hb : Nat} {sd : Bool} {C : ByteArray → List Ver} {S : ByteArray → Value} (h : HoldAt F w hb sd C [] S) (hc : w.cell? ⟨hb, 0, none⟩ = some (.map none)) :
    HoldAt (fun b => F b ∨ w.heap.size ≤ b) ((w.alloc (.map #[] 0)).setCell ⟨hb, 0, none⟩ (.map (some w.heap.size))) hb sd C [] S ∧
    MapAt (fun b => F b ∨ w.heap.size ≤ b) ((w.alloc (.map #[] 0)).setCell ⟨hb, 0, none⟩ (.map (some w.heap.size))) hb [] S w.heap.size (.map []) ∧
    KeptBut F w ((w.alloc (.map #[] 0)).setCell ⟨hb, 0, none⟩ (.map (some w.heap.size))) := by
  have hB : Below w.heap.size w (w.alloc (.map #[] 0)) := (Below.refl _ w).alloc (Nat.le_refl _) _
  have hlt := h.hlt
  have hne : ¬ w.heap.size = hb := by omega
  have e0 : (w.alloc (.map #[] 0)).cell? ⟨hb, 0, none⟩ = some (.map none) := (hB.cell hlt).trans hc
  have e1 : (w.alloc (.map #[] 0)).cell? ⟨hb, 1, none⟩ = some (.bool sd) := (hB.cell hlt).trans h.c1
  obtain ⟨W, hW⟩ : ∃ W, (w.alloc (.map #[] 0)).setCell ⟨hb, 0, none⟩ (.map (some w.heap.size)) = W := ⟨_, rfl⟩
  have c0 : W.cell? ⟨hb, 0, none⟩ = some (.map (some w.heap.size)) := by rw [← hW]; exact World.cell?_setCell_same _ _ _ e0
  have c1 : W.cell? ⟨hb, 1, none⟩ = some (.bool sd) := by rw [← hW, World.cell?_setCell_other _ _ _ _ (by simp)]; exact e1
  have ef : ∀ j, W.frozen? ⟨hb, j, none⟩ = w.frozen? ⟨hb, j, none⟩ := fun j => by rw [← hW, World.frozen?_setCell]; exact hB.frozen (p := ⟨hb, j, none⟩) hlt
  have hown : W.ownsMap (H := Value) Tryz.prog 9 Rv w.heap.size 0 (.map []) := by
    rw [← hW]
    exact (World.ownsMap_made w Tryz.prog 9 Rv).setCell hne _
  have hS : ∀ k, S k = .slice none 0 0 := fun k => h.no k (by simp)
  have hk : KeptBut F w W := by
    rw [← hW]
    refine (KeptBut.of_below (F := F) hB (fun k h1 h2 => by omega)).trans ⟨rfl, rfl, rfl, by simp [World.setCell], fun k h1 h2 => Below.heap_setCell _ _ _ _ (fun e => h2 (by rw [e]; exact h.hF))⟩
  have hm : MapAt (fun b => F b ∨ w.heap.size ≤ b) W hb [] S w.heap.size (.map []) := by
    refine ⟨c0, .inr (Nat.le_refl _), hne, hown, fun k => ?_, fun k => ?_, fun k g hg => ?_, rfl⟩
    · rw [hS k]; exact atKey_of_not_has (k := litS k) (D := (.map [] : DataW Value)) rfl _
    · rfl
    · rw [hS k] at hg; cases hg
  rw [hW]
  refine ⟨⟨.inl h.hF, Nat.lt_of_lt_of_le hlt hk.size, c1, (ef 0).trans h.f0, (ef 1).trans h.f1, .inr ⟨w.heap.size, .map [], hm⟩, fun k => ?_, fun k g hg => ?_, fun k k' g _ hg => ?_, h.nodup, h.mem, h.no, h.kz⟩, hm, hk⟩
  · have h1 := h.row k
    rw [hS k] at h1 ⊢
    exact h1.heap (fun g hg => by cases hg)
  · rw [hS k] at hg; cases hg
  · rw [hS k] at hg; cases hg
end Go.Proofs.YtabboioamdphmaaGreatDoor
/- A talk in memory: what lies where. -/
namespace Go.Proofs.YtabboioamdphmaaGreatDoor
section
open Go.RowKit Go.Maps Go.BigFrame

def TxsS (S : Nat → Prop) (w : World) (a : Option Addr) (L : List ByteArray) : Prop :=
  L = [] ∨ ∃ b off, a = some ⟨b, off, none⟩ ∧ S b ∧ b < w.heap.size ∧ ∀ j, j < L.length → w.cell? ⟨b, off + j, none⟩ = some (.string (L[j]?.getD ⟨#[]⟩))
theorem TxsS.kept {S G : Nat → Prop} {A B : World} (h : KeptBut G A B) (hS : ∀ b, b < A.heap.size → S b → ¬ G b) {a : Option Addr} {L : List ByteArray} : TxsS S A a L → TxsS S B a L
  | .inl e => .inl e
  | .inr ⟨b, off, e, hb, hl, hc⟩ => .inr ⟨b, off, e, hb, Nat.lt_of_lt_of_le hl h.size, fun j hj => (World.cell?_of_block (a := ⟨b, off + j, none⟩) (h.block b hl (hS b hl hb))).trans (hc j hj)⟩
theorem TxsS.mono {S T : Nat → Prop} {A : World} (h : ∀ b, b < A.heap.size → S b → T b) {a : Option Addr} {L : List ByteArray} : TxsS S A a L → TxsS T A a L
  | .inl e => .inl e
  | .inr ⟨b, off, e, hb, hl, hc⟩ => .inr ⟨b, off, e, h b hl hb, hl, hc⟩
theorem TxsS.at_ {S : Nat → Prop} {A : World} {a : Option Addr} {L : List ByteArray} : TxsS S A a L → TxsAt A.heap.size A a L
  | .inl e => .inl e
  | .inr ⟨b, off, e, _, hl, hc⟩ => .inr ⟨b, off, e, hl, hc⟩
def RowOk (S : Nat → Prop) (w : World) (v : Value) (L : List Ver) : Prop := ∃ a cap, v = .slice a L.length cap ∧ L.length ≤ cap ∧ cap ≤ maxLen ∧ (a = none → cap = 0) ∧ VrS S w a L
theorem RowOk.kept {S G : Nat → Prop} {A B : World} (h : KeptBut G A B) (hS : ∀ b, b < A.heap.size → S b → ¬ G b) {v : Value} {L : List Ver} : RowOk S A v L → RowOk S B v L
  | ⟨a, cap, e, h1, h2, h3, h4⟩ => ⟨a, cap, e, h1, h2, h3, h4.kept h hS⟩
theorem RowOk.mono {S T : Nat → Prop} {A : World} (h : ∀ b, b < A.heap.size → S b → T b) {v : Value} {L : List Ver} : RowOk S A v L → RowOk T A v L
  | ⟨a, cap, e, h1, h2, h3, h4⟩ => ⟨a, cap, e, h1, h2, h3, h4.mono2 h⟩
def GotAt (S : Nat → Prop) (w : World) (bm : Nat) (g : Got) : Prop :=
  ∃ (D : DataW Value) (R : ByteArray → Value), w.ownsMap Tryz.prog 9 Rv bm g.length D ∧ (∀ k, D.atKey (litS k) (.held (.slice none 0 0)) = .held (R k)) ∧
    (∀ k, Maps.has D (litS k) = g.any fun p => decide (p.1 = k)) ∧ Maps.size D = g.length ∧ ∀ p ∈ g, RowOk S w (R p.1) p.2
theorem GotAt.kept {S G : Nat → Prop} {A B : World} (h : KeptBut G A B) (hS : ∀ b, b < A.heap.size → S b → ¬ G b) {bm : Nat} (hb : ¬ G bm) {g : Got} : GotAt S A bm g → GotAt S B bm g := by
  rintro ⟨D, R, h1, h2, h3, h4, h5⟩
  refine ⟨D, R, ?_, h2, h3, h4, fun p hp => (h5 p hp).kept h hS⟩
  obtain ⟨es, clock, hm, hr⟩ := h1
  exact ⟨es, clock, (h.block bm (Array.getElem?_eq_some_iff.1 hm).1 hb).trans hm, hr⟩
theorem GotAt.mono {S T : Nat → Prop} {A : World} (h : ∀ b, b < A.heap.size → S b → T b) {bm : Nat} {g : Got} : GotAt S A bm g → GotAt T A bm g := by
  rintro ⟨D, R, h1, h2, h3, h4, h5⟩
  exact ⟨D, R, h1, h2, h3, h4, fun p hp => (h5 p hp).mono h⟩
theorem GotAt.made (S : Nat → Prop) (w : World) : GotAt S (w.alloc (.map #[] 0)) w.heap.size [] :=
  ⟨.map [], fun _ => .slice none 0 0, World.ownsMap_made w Tryz.prog 9 Rv, fun _ => rfl, fun _ => rfl, rfl, fun p hp => by cases hp⟩
theorem GotAt.put {S T : Nat → Prop} {w w3 : World} {bm : Nat} {g : Got} {fr : ByteArray} {L : List Ver} {v : Value} {D : DataW Value} {R : ByteArray → Value} (h1 : w.ownsMap Tryz.prog 9 Rv bm g.length D) (h2 : ∀ k, D.atKey (litS k) (.held (.slice none 0 0)) = .held (R k))
    (h3 : ∀ k, Maps.has D (litS k) = g.any fun p => decide (p.1 = k)) (h4 : Maps.size D = g.length) (h5 : ∀ p ∈ g, RowOk S w (R p.1) p.2) (hfr : fr ∉ g.map (·.1)) (hown : w3.ownsMap Tryz.prog 9 Rv bm (g.length + 1) (D.put (litS fr) (.held v)))
    (hk : KeptBut (fun b => b = bm) w w3) (hS : ∀ b, S b → b ≠ bm) (hST : ∀ b, b < w.heap.size → S b → T b) (hv : RowOk T w3 v L) : GotAt T w3 bm (g ++ [(fr, L)]) := by
  refine ⟨D.put (litS fr) (.held v), fun k => if k = fr then v else R k, ?_, fun k => ?_, fun k => ?_, ?_, fun p hp => ?_⟩
  · have e : (g ++ [(fr, L)]).length = g.length + 1 := by simp
    rw [e]; exact hown
  · by_cases e : k = fr
    · dsimp only
      rw [e, atKey_put_same (h1.tidy keyedS).isMap (keyLit fr), if_pos rfl]
    · dsimp only
      rw [if_neg e, atKey_put_other (fun e2 => e (litS_inj e2)), h2 k]
  · rw [List.any_append]
    by_cases e : k = fr
    · rw [e, has_put_same (h1.tidy keyedS).isMap (keyLit fr)]
      simp
    · rw [has_put_other (fun e2 => e (litS_inj e2)), h3 k]
      simp [Ne.symm e]
  · rw [size_put (h1.tidy keyedS), h3 fr, h4]
    have e : (g.any fun p => decide (p.1 = fr)) = false := by
      rw [List.any_eq_false]
      intro p hp e
      exact hfr (by rw [← of_decide_eq_true e]; exact List.mem_map_of_mem hp)
    rw [e]
    simp
  · rcases List.mem_append.1 hp with hp | hp
    · have hne : p.1 ≠ fr := fun e => hfr (by rw [← e]; exact List.mem_map_of_mem hp)
      dsimp only
      rw [if_neg hne]
      have h9 := (h5 p hp).kept hk (fun b _ hb => hS b hb)
      obtain ⟨a, cap, e, q1, q2, q3, q4⟩ := h9
      refine ⟨a, cap, e, q1, q2, q3, ?_⟩
      rcases h5 p hp with ⟨a', cap', e', _, _, _, q4'⟩
      rw [e'] at e
      cases e
      rcases q4' with q | ⟨b, off, e2, hb, hl, _⟩
      · exact .inl q
      · rcases q4 with q | ⟨b', off', e3, hb', hl', hc⟩
        · exact .inl q
        · rw [e2] at e3
          cases e3
          exact .inr ⟨b, off, e2, hST b hl hb, hl', hc⟩
    · rw [List.mem_singleton.1 hp]
      dsimp only
      rw [if_pos rfl]
      exact hv
theorem GotAt.look {S : Nat → Prop} {w : World} {bm : Nat} {g : Got} (h : GotAt S w bm g) {k : ByteArray} (hk : k.size ≤ maxLen) :
    ∃ v, (∀ w', Below w.heap.size w w' → (Instr.lookup 80 (.map (some bm)) (.string k) true).run Tryz.prog w' = .ok (.tuple #[v, .bool (g.any fun p => decide (p.1 = k))]) w') ∧ ∀ p ∈ g, p.1 = k → RowOk S w v p.2 := by
  obtain ⟨D, R, h1, h2, h3, h4, h5⟩ := h
  refine ⟨R k, fun w' hb => ?_, fun p hp e => by rw [← e]; exact h5 p hp⟩
  have h1' : w'.ownsMap Tryz.prog 9 Rv bm g.length D := h1.kept (row := none) ⟨hb.os, hb.tape, hb.output, hb.size, fun k hk _ => hb.block k hk⟩ (by simp)
  obtain ⟨v, ps, hr, hv⟩ := h1'.look_ok keyedS Tryz.underlying80 (zeroRow w') (z := .slice none 0 0) (zd := .held (.slice none 0 0)) (zp := []) rfl (keyS hk)
  rw [h3 k] at hr
  have hv2 : v = R k := by
    unfold Rv at hv
    rw [h2 k] at hv
    simp at hv
    exact hv.1
  rw [hv2] at hr
  exact hr
structure TalkAt (F : Nat → Prop) (w : World) (tb bm : Nat) (ma : Option Addr) (mc : Nat) (t : TalkS) : Prop where
  hF : F tb
  bF : F bm
  ne : bm ≠ tb
  lt : ∀ b, F b → b < w.heap.size
  c0 : w.cell? ⟨tb, 0, none⟩ = some (.string t.name)
  c1 : w.cell? ⟨tb, 1, none⟩ = some (.string t.key)
  c2 : w.cell? ⟨tb, 2, none⟩ = some (.int .i64 t.op)
  c3 : w.cell? ⟨tb, 3, none⟩ = some (.int .i64 t.cf)
  c4 : w.cell? ⟨tb, 4, none⟩ = some (.int .i64 (t.n : Nat))
  c5 : w.cell? ⟨tb, 5, none⟩ = some (.int .i64 (t.k : Nat))
  c6 : w.cell? ⟨tb, 6, none⟩ = some (.slice ma t.mem.length mc)
  c7 : w.cell? ⟨tb, 7, none⟩ = some (.string t.wait)
  c8 : w.cell? ⟨tb, 8, none⟩ = some (.map (some bm))
  z : ∀ i, w.frozen? ⟨tb, i, none⟩ = false
  mcap : t.mem.length ≤ mc
  mmax : mc ≤ maxLen
  mnil : ma = none → mc = 0
  mem : TxsS (fun b => F b ∧ b ≠ tb ∧ b ≠ bm) w ma t.mem
  got : GotAt (fun b => F b ∧ b ≠ tb ∧ b ≠ bm) w bm t.got
theorem TalkAt.kept {F G : Nat → Prop} {w w' : World} {tb bm : Nat} {ma : Option Addr} {mc : Nat} {t : TalkS} (h : TalkAt F w tb bm ma mc t) (hk : KeptBut G w w') (hG : ∀ b, F b → ¬ G b) : TalkAt F w' tb bm ma mc t := by
  have eb : w'.heap[tb]? = w.heap[tb]? := hk.block tb (h.lt tb h.hF) (hG tb h.hF)
  have ec : ∀ j, w'.cell? ⟨tb, j, none⟩ = w.cell? ⟨tb, j, none⟩ := fun j => World.cell?_of_block (a := ⟨tb, j, none⟩) eb
  have ef : ∀ j, w'.frozen? ⟨tb, j, none⟩ = w.frozen? ⟨tb, j, none⟩ := fun j => World.frozen?_of_block (a := ⟨tb, j, none⟩) eb
  exact ⟨h.hF, h.bF, h.ne, fun b hb => Nat.lt_of_lt_of_le (h.lt b hb) hk.size, (ec 0).trans h.c0, (ec 1).trans h.c1, (ec 2).trans h.c2, (ec 3).trans h.c3, (ec 4).trans h.c4, (ec 5).trans h.c5, (ec 6).trans h.c6, (ec 7).trans h.c7, (ec 8).trans h.c8,
    fun i => (ef i).trans (h.z i), h.mcap, h.mmax, h.mnil, h.mem.kept hk (fun b _ hb => hG b hb.1), h.got.kept hk (fun b _ hb => hG b hb.1) (hG bm h.bF)⟩
theorem TalkAt.below {F : Nat → Prop} {w w' : World} {tb bm : Nat} {ma : Option Addr} {mc : Nat} {t : TalkS} (h : TalkAt F w tb bm ma mc t) {n : Nat} (hb : Below n w w') (hn : w.heap.size ≤ n) : TalkAt F w' tb bm ma mc t :=
  h.kept (KeptBut.of_below (F := fun b => w.heap.size ≤ b) (hb.mono hn) (fun _ _ h => h)) (fun b hb h9 => by have := h.lt b hb; omega)
theorem TalkAt.mono {F F' : Nat → Prop} {w : World} {tb bm : Nat} {ma : Option Addr} {mc : Nat} {t : TalkS} (h : TalkAt F w tb bm ma mc t) (hF : ∀ b, F b → F' b) (hl : ∀ b, F' b → b < w.heap.size) : TalkAt F' w tb bm ma mc t :=
  ⟨hF _ h.hF, hF _ h.bF, h.ne, hl, h.c0, h.c1, h.c2, h.c3, h.c4, h.c5, h.c6, h.c7, h.c8, h.z, h.mcap, h.mmax, h.mnil, h.mem.mono (fun b _ hb => ⟨hF b hb.1, hb.2⟩), h.got.mono (fun b _ hb => ⟨hF b hb.1, hb.2⟩)⟩
def grownF (F : Nat → Prop) (w w' : World) : Nat → Prop := fun b => F b ∨ (w.heap.size ≤ b ∧ b < w'.heap.size)
theorem OwnV.rowOk {B : Nat} {S : Nat → Prop} {w : World} {v : Value} {L : List Ver} (h : OwnV B w v L) (hS : ∀ b, B ≤ b → b < w.heap.size → S b) : RowOk S w v L := by
  rcases h.2 with ⟨rfl, hn⟩ | ⟨g, cap, cur, rfl, hb, hg, hc, hm, hs, ht⟩
  · have : L = [] := List.length_eq_zero_iff.1 hn
    subst this
    exact ⟨none, 0, rfl, Nat.le_refl _, by simp [maxLen], fun _ => rfl, .inl rfl⟩
  · obtain ⟨a, cap2, e, q1, q2, q3, q4⟩ := h.read
    cases e
    refine ⟨_, _, rfl, q1, q2, q3, ?_⟩
    rcases q4 with q | ⟨b, off, e2, hb2, hc2⟩
    · exact .inl q
    · cases e2
      exact .inr ⟨_, _, rfl, hS _ hb hb2, hb2, hc2⟩
theorem TalkAt.take {F : Nat → Prop} {w w5 w6 : World} {tb bm : Nat} {ma : Option Addr} {mc : Nat} {t : TalkS} {m : Msg} {v : Value} {D : DataW Value} {R : ByteArray → Value} (h : TalkAt F w tb bm ma mc t) (hb : Below w.heap.size w w5) (hv : OwnV w.heap.size w5 v m.L) (hfr : m.fr ∉ t.got.map (·.1))
    (h1 : w.ownsMap Tryz.prog 9 Rv bm t.got.length D) (h2 : ∀ k, D.atKey (litS k) (.held (.slice none 0 0)) = .held (R k)) (h3 : ∀ k, Maps.has D (litS k) = t.got.any fun p => decide (p.1 = k)) (h4 : Maps.size D = t.got.length) (h5 : ∀ p ∈ t.got, RowOk (fun b => F b ∧ b ≠ tb ∧ b ≠ bm) w (R p.1) p.2)
    (hown : w6.ownsMap Tryz.prog 9 Rv bm (t.got.length + 1) (D.put (litS m.fr) (.held v))) (hg : w5.grownBy w6 (some bm)) :
    TalkAt (grownF F w w6) w6 tb bm ma mc (takeT t m) ∧ KeptBut (fun b => b = bm) w w6 := by
  have hk6 : KeptBut (fun b => b = bm) w5 w6 := KeptBut.of_grown hg (fun k e => (Option.some.inj e).symm)
  have hk5 : KeptBut (fun b => b = bm) w w5 := KeptBut.of_below hb (fun k h8 h9 => by omega)
  have hk : KeptBut (fun b => b = bm) w w6 := hk5.trans hk6
  have hlt := h.lt
  have hbm := hlt bm h.bF
  have eb : w6.heap[tb]? = w.heap[tb]? := hk.block tb (hlt tb h.hF) (fun e => h.ne e.symm)
  have ec : ∀ j, w6.cell? ⟨tb, j, none⟩ = w.cell? ⟨tb, j, none⟩ := fun j => World.cell?_of_block (a := ⟨tb, j, none⟩) eb
  have ef : ∀ j, w6.frozen? ⟨tb, j, none⟩ = w.frozen? ⟨tb, j, none⟩ := fun j => World.frozen?_of_block (a := ⟨tb, j, none⟩) eb
  have hS : ∀ b, b < w.heap.size → (F b ∧ b ≠ tb ∧ b ≠ bm) → (grownF F w w6 b ∧ b ≠ tb ∧ b ≠ bm) := fun b _ hb => ⟨.inl hb.1, hb.2⟩
  have hv6 : OwnV w.heap.size w6 v m.L := hv.heap (fun g e => by
    have := hv.lt g e
    exact hk6.block g this.2 (fun e2 => by omega))
  refine ⟨⟨.inl h.hF, .inl h.bF, h.ne, fun b hb => ?_, (ec 0).trans h.c0, (ec 1).trans h.c1, (ec 2).trans h.c2, (ec 3).trans h.c3, (ec 4).trans h.c4, (ec 5).trans h.c5, (ec 6).trans h.c6, (ec 7).trans h.c7, (ec 8).trans h.c8, fun i => (ef i).trans (h.z i), h.mcap, h.mmax, h.mnil, ?_, ?_⟩, hk⟩
  · rcases hb with hb | hb
    · exact Nat.lt_of_lt_of_le (hlt b hb) hk.size
    · exact hb.2
  · have h9 := h.mem.mono hS
    rcases h9 with e | ⟨b, off, e, hb9, hl, hc⟩
    · exact .inl e
    · exact .inr ⟨b, off, e, hb9, Nat.lt_of_lt_of_le hl hk.size, fun j hj => (World.cell?_of_block (a := ⟨b, off + j, none⟩) (hk.block b hl hb9.2.2)).trans (hc j hj)⟩
  · have k1 : w5.ownsMap Tryz.prog 9 Rv bm t.got.length D := h1.kept (row := none) ⟨hb.os, hb.tape, hb.output, hb.size, fun k hk _ => hb.block k hk⟩ (by simp)
    refine GotAt.put (S := fun b => F b ∧ b ≠ tb ∧ b ≠ bm) k1 h2 h3 h4 (fun p hp => (h5 p hp).kept hk5 (fun b _ hb => hb.2.2)) hfr hown hk6 (fun b hb => hb.2.2) (fun b _ hb => ⟨.inl hb.1, hb.2⟩) ?_
    refine hv6.rowOk (fun b hb hl => ⟨.inr ⟨hb, hl⟩, fun e => ?_, fun e => by omega⟩)
    have := hlt tb h.hF
    omega
end
end Go.Proofs.YtabboioamdphmaaGreatDoor
