/- A talk in memory: what lies where. -/
import Derived.Test.YtabboioamdphmaaGreatDoorKAskHears27
import Derived.Test.YtabboioamdphmaaGreatDoorKAskHears18
import Derived.Test.YtabboioamdphmaaGreatDoorKAskHears19
namespace Go.Proofs.YtabboioamdphmaaGreatDoor
section
open Go.RowKit Go.Maps Go.BigFrame

/-- texts that are read, in blocks of S. -/
def TxsS (S : Nat → Prop) (w : World) (a : Option Addr) (L : List ByteArray) : Prop :=
  L = [] ∨ ∃ b off, a = some ⟨b, off, none⟩ ∧ S b ∧ b < w.heap.size ∧ ∀ j, j < L.length → w.cell? ⟨b, off + j, none⟩ = some (.string (L[j]?.getD ⟨#[]⟩))
theorem TxsS.kept {S G : Nat → Prop} {A B : World} (h : KeptBut G A B) (hS : ∀ b, b < A.heap.size → S b → ¬ G b) {a : Option Addr} {L : List ByteArray} : TxsS S A a L → TxsS S B a L
  | .inl e => .inl e
  | .inr ⟨b, off, e, hb, hl, hc⟩ => .inr ⟨b, off, e, hb, Nat.lt_of_lt_of_le hl h.size, fun j hj => (World.cell?_of_block (a := ⟨b, off + j, none⟩) (h.block b hl (hS b hl hb))).trans (hc j hj)⟩
theorem TxsS.mono {S T : Nat → Prop} {A : World} (h : ∀ b, b < A.heap.size → S b → T b) {a : Option Addr} {L : List ByteArray} : TxsS S A a L → TxsS T A a L
  | .inl e => .inl e
  | .inr ⟨b, off, e, hb, hl, hc⟩ => .inr ⟨b, off, e, h b hl hb, hl, hc⟩
theorem TxsS.at_ {S : Nat → Prop} {A : World} {a : Option Addr} {L : List ByteArray} : TxsS S A a L → TxsAt A.heap.size A a L
  | .inl e => .inl e
  | .inr ⟨b, off, e, _, hl, hc⟩ => .inr ⟨b, off, e, hl, hc⟩
/-- what one told, as its row lies. -/
def RowOk (S : Nat → Prop) (w : World) (v : Value) (L : List Ver) : Prop := ∃ a cap, v = .slice a L.length cap ∧ L.length ≤ cap ∧ cap ≤ maxLen ∧ (a = none → cap = 0) ∧ VrS S w a L
theorem RowOk.kept {S G : Nat → Prop} {A B : World} (h : KeptBut G A B) (hS : ∀ b, b < A.heap.size → S b → ¬ G b) {v : Value} {L : List Ver} : RowOk S A v L → RowOk S B v L
  | ⟨a, cap, e, h1, h2, h3, h4⟩ => ⟨a, cap, e, h1, h2, h3, h4.kept h hS⟩
theorem RowOk.mono {S T : Nat → Prop} {A : World} (h : ∀ b, b < A.heap.size → S b → T b) {v : Value} {L : List Ver} : RowOk S A v L → RowOk T A v L
  | ⟨a, cap, e, h1, h2, h3, h4⟩ => ⟨a, cap, e, h1, h2, h3, h4.mono2 h⟩
/-- the map of a talk: who was heard, and what each told. -/
def GotAt (S : Nat → Prop) (w : World) (bm : Nat) (g : Got) : Prop :=
  ∃ (D : DataW Value) (R : ByteArray → Value), w.ownsMap Tryz.prog 9 Rv bm g.length D ∧ (∀ k, D.atKey (litS k) (.held (.slice none 0 0)) = .held (R k)) ∧
    (∀ k, Maps.has D (litS k) = g.any fun p => decide (p.1 = k)) ∧ Maps.size D = g.length ∧ ∀ p ∈ g, RowOk S w (R p.1) p.2
theorem GotAt.kept {S G : Nat → Prop} {A B : World} (h : KeptBut G A B) (hS : ∀ b, b < A.heap.size → S b → ¬ G b) {bm : Nat} (hb : ¬ G bm) {g : Got} : GotAt S A bm g → GotAt S B bm g := by
  rintro ⟨D, R, h1, h2, h3, h4, h5⟩
  refine ⟨D, R, ?_, h2, h3, h4, fun p hp => (h5 p hp).kept h hS⟩
  obtain ⟨es, clock, hm, hr⟩ := h1
  exact ⟨es, clock, (h.block bm (Array.getElem?_eq_some_iff.1 hm).1 hb).trans hm, hr⟩
theorem GotAt.mono {S T : Nat → Prop} {A : World} (h : ∀ b, b < A.heap.size → S b → T b) {bm : Nat} {g : Got} : GotAt S A bm g → GotAt T A bm g := by
  rintro ⟨D, R, h1, h2, h3, h4, h5⟩
  exact ⟨D, R, h1, h2, h3, h4, fun p hp => (h5 p hp).mono h⟩
theorem GotAt.made (S : Nat → Prop) (w : World) : GotAt S (w.alloc (.map #[] 0)) w.heap.size [] :=
  ⟨.map [], fun _ => .slice none 0 0, World.ownsMap_made w Tryz.prog 9 Rv, fun _ => rfl, fun _ => rfl, rfl, fun p hp => by cases hp⟩
/-- one more is heard. -/
theorem GotAt.put {S T : Nat → Prop} {w w3 : World} {bm : Nat} {g : Got} {fr : ByteArray} {L : List Ver} {v : Value} {D : DataW Value} {R : ByteArray → Value} (h1 : w.ownsMap Tryz.prog 9 Rv bm g.length D) (h2 : ∀ k, D.atKey (litS k) (.held (.slice none 0 0)) = .held (R k))
    (h3 : ∀ k, Maps.has D (litS k) = g.any fun p => decide (p.1 = k)) (h4 : Maps.size D = g.length) (h5 : ∀ p ∈ g, RowOk S w (R p.1) p.2) (hfr : fr ∉ g.map (·.1)) (hown : w3.ownsMap Tryz.prog 9 Rv bm (g.length + 1) (D.put (litS fr) (.held v)))
    (hk : KeptBut (fun b => b = bm) w w3) (hS : ∀ b, S b → b ≠ bm) (hST : ∀ b, b < w.heap.size → S b → T b) (hv : RowOk T w3 v L) : GotAt T w3 bm (g ++ [(fr, L)]) := by
  refine ⟨D.put (litS fr) (.held v), fun k => if k = fr then v else R k, ?_, fun k => ?_, fun k => ?_, ?_, fun p hp => ?_⟩
  · have e : (g ++ [(fr, L)]).length = g.length + 1 := by simp
    rw [e]; exact hown
  · by_cases e : k = fr
    · dsimp only
      rw [e, atKey_put_same (h1.tidy keyedS).isMap (keyLit fr), if_pos rfl]
    · dsimp only
      rw [if_neg e, atKey_put_other (fun e2 => e (litS_inj e2)), h2 k]
  · rw [List.any_append]
    by_cases e : k = fr
    · rw [e, has_put_same (h1.tidy keyedS).isMap (keyLit fr)]
      simp
    · rw [has_put_other (fun e2 => e (litS_inj e2)), h3 k]
      simp [Ne.symm e]
  · rw [size_put (h1.tidy keyedS), h3 fr, h4]
    have e : (g.any fun p => decide (p.1 = fr)) = false := by
      rw [List.any_eq_false]
      intro p hp e
      exact hfr (by rw [← of_decide_eq_true e]; exact List.mem_map_of_mem hp)
    rw [e]
    simp
  · rcases List.mem_append.1 hp with hp | hp
    · have hne : p.1 ≠ fr := fun e => hfr (by rw [← e]; exact List.mem_map_of_mem hp)
      dsimp only
      rw [if_neg hne]
      have h9 := (h5 p hp).kept hk (fun b _ hb => hS b hb)
      obtain ⟨a, cap, e, q1, q2, q3, q4⟩ := h9
      refine ⟨a, cap, e, q1, q2, q3, ?_⟩
      rcases h5 p hp with ⟨a', cap', e', _, _, _, q4'⟩
      rw [e'] at e
      cases e
      rcases q4' with q | ⟨b, off, e2, hb, hl, _⟩
      · exact .inl q
      · rcases q4 with q | ⟨b', off', e3, hb', hl', hc⟩
        · exact .inl q
        · rw [e2] at e3
          cases e3
          exact .inr ⟨b, off, e2, hST b hl hb, hl', hc⟩
    · rw [List.mem_singleton.1 hp]
      dsimp only
      rw [if_pos rfl]
      exact hv
theorem GotAt.look {S : Nat → Prop} {w : World} {bm : Nat} {g : Got} (h : GotAt S w bm g) {k : ByteArray} (hk : k.size ≤ maxLen) :
    ∃ v, (∀ w', Below w.heap.size w w' → (Instr.lookup 80 (.map (some bm)) (.string k) true).run Tryz.prog w' = .ok (.tuple #[v, .bool (g.any fun p => decide (p.1 = k))]) w') ∧ ∀ p ∈ g, p.1 = k → RowOk S w v p.2 := by
  obtain ⟨D, R, h1, h2, h3, h4, h5⟩ := h
  refine ⟨R k, fun w' hb => ?_, fun p hp e => by rw [← e]; exact h5 p hp⟩
  have h1' : w'.ownsMap Tryz.prog 9 Rv bm g.length D := h1.kept (row := none) ⟨hb.os, hb.tape, hb.output, hb.size, fun k hk _ => hb.block k hk⟩ (by simp)
  obtain ⟨v, ps, hr, hv⟩ := h1'.look_ok keyedS Tryz.underlying80 (zeroRow w') (z := .slice none 0 0) (zd := .held (.slice none 0 0)) (zp := []) rfl (keyS hk)
  rw [h3 k] at hr
  have hv2 : v = R k := by
    unfold Rv at hv
    rw [h2 k] at hv
    simp at hv
    exact hv.1
  rw [hv2] at hr
  exact hr
/-- a talk lies at tb, its map at bm, its members at ma. -/
structure TalkAt (F : Nat → Prop) (w : World) (tb bm : Nat) (ma : Option Addr) (mc : Nat) (t : TalkS) : Prop where
  hF : F tb
  bF : F bm
  ne : bm ≠ tb
  lt : ∀ b, F b → b < w.heap.size
  c0 : w.cell? ⟨tb, 0, none⟩ = some (.string t.name)
  c1 : w.cell? ⟨tb, 1, none⟩ = some (.string t.key)
  c2 : w.cell? ⟨tb, 2, none⟩ = some (.int .i64 t.op)
  c3 : w.cell? ⟨tb, 3, none⟩ = some (.int .i64 t.cf)
  c4 : w.cell? ⟨tb, 4, none⟩ = some (.int .i64 (t.n : Nat))
  c5 : w.cell? ⟨tb, 5, none⟩ = some (.int .i64 (t.k : Nat))
  c6 : w.cell? ⟨tb, 6, none⟩ = some (.slice ma t.mem.length mc)
  c7 : w.cell? ⟨tb, 7, none⟩ = some (.string t.wait)
  c8 : w.cell? ⟨tb, 8, none⟩ = some (.map (some bm))
  z : ∀ i, w.frozen? ⟨tb, i, none⟩ = false
  mcap : t.mem.length ≤ mc
  mmax : mc ≤ maxLen
  mnil : ma = none → mc = 0
  mem : TxsS (fun b => F b ∧ b ≠ tb ∧ b ≠ bm) w ma t.mem
  got : GotAt (fun b => F b ∧ b ≠ tb ∧ b ≠ bm) w bm t.got
theorem TalkAt.kept {F G : Nat → Prop} {w w' : World} {tb bm : Nat} {ma : Option Addr} {mc : Nat} {t : TalkS} (h : TalkAt F w tb bm ma mc t) (hk : KeptBut G w w') (hG : ∀ b, F b → ¬ G b) : TalkAt F w' tb bm ma mc t := by
  have eb : w'.heap[tb]? = w.heap[tb]? := hk.block tb (h.lt tb h.hF) (hG tb h.hF)
  have ec : ∀ j, w'.cell? ⟨tb, j, none⟩ = w.cell? ⟨tb, j, none⟩ := fun j => World.cell?_of_block (a := ⟨tb, j, none⟩) eb
  have ef : ∀ j, w'.frozen? ⟨tb, j, none⟩ = w.frozen? ⟨tb, j, none⟩ := fun j => World.frozen?_of_block (a := ⟨tb, j, none⟩) eb
  exact ⟨h.hF, h.bF, h.ne, fun b hb => Nat.lt_of_lt_of_le (h.lt b hb) hk.size, (ec 0).trans h.c0, (ec 1).trans h.c1, (ec 2).trans h.c2, (ec 3).trans h.c3, (ec 4).trans h.c4, (ec 5).trans h.c5, (ec 6).trans h.c6, (ec 7).trans h.c7, (ec 8).trans h.c8,
    fun i => (ef i).trans (h.z i), h.mcap, h.mmax, h.mnil, h.mem.kept hk (fun b _ hb => hG b hb.1), h.got.kept hk (fun b _ hb => hG b hb.1) (hG bm h.bF)⟩
theorem TalkAt.below {F : Nat → Prop} {w w' : World} {tb bm : Nat} {ma : Option Addr} {mc : Nat} {t : TalkS} (h : TalkAt F w tb bm ma mc t) {n : Nat} (hb : Below n w w') (hn : w.heap.size ≤ n) : TalkAt F w' tb bm ma mc t :=
  h.kept (KeptBut.of_below (F := fun b => w.heap.size ≤ b) (hb.mono hn) (fun _ _ h => h)) (fun b hb h9 => by have := h.lt b hb; omega)
/-- blocks more are its. -/
theorem TalkAt.mono {F F' : Nat → Prop} {w : World} {tb bm : Nat} {ma : Option Addr} {mc : Nat} {t : TalkS} (h : TalkAt F w tb bm ma mc t) (hF : ∀ b, F b → F' b) (hl : ∀ b, F' b → b < w.heap.size) : TalkAt F' w tb bm ma mc t :=
  ⟨hF _ h.hF, hF _ h.bF, h.ne, hl, h.c0, h.c1, h.c2, h.c3, h.c4, h.c5, h.c6, h.c7, h.c8, h.z, h.mcap, h.mmax, h.mnil, h.mem.mono (fun b _ hb => ⟨hF b hb.1, hb.2⟩), h.got.mono (fun b _ hb => ⟨hF b hb.1, hb.2⟩)⟩
/-- the blocks of a thing behind a call: its own, and all that the call has made. -/
def grownF (F : Nat → Prop) (w w' : World) : Nat → Prop := fun b => F b ∨ (w.heap.size ≤ b ∧ b < w'.heap.size)
theorem OwnV.rowOk {B : Nat} {S : Nat → Prop} {w : World} {v : Value} {L : List Ver} (h : OwnV B w v L) (hS : ∀ b, B ≤ b → b < w.heap.size → S b) : RowOk S w v L := by
  rcases h.2 with ⟨rfl, hn⟩ | ⟨g, cap, cur, rfl, hb, hg, hc, hm, hs, ht⟩
  · have : L = [] := List.length_eq_zero_iff.1 hn
    subst this
    exact ⟨none, 0, rfl, Nat.le_refl _, by simp [maxLen], fun _ => rfl, .inl rfl⟩
  · obtain ⟨a, cap2, e, q1, q2, q3, q4⟩ := h.read
    cases e
    refine ⟨_, _, rfl, q1, q2, q3, ?_⟩
    rcases q4 with q | ⟨b, off, e2, hb2, hc2⟩
    · exact .inl q
    · cases e2
      exact .inr ⟨_, _, rfl, hS _ hb hb2, hb2, hc2⟩
/-- one more has answered. -/
theorem TalkAt.take {F : Nat → Prop} {w w5 w6 : World} {tb bm : Nat} {ma : Option Addr} {mc : Nat} {t : TalkS} {m : Msg} {v : Value} {D : DataW Value} {R : ByteArray → Value} (h : TalkAt F w tb bm ma mc t) (hb : Below w.heap.size w w5) (hv : OwnV w.heap.size w5 v m.L) (hfr : m.fr ∉ t.got.map (·.1))
    (h1 : w.ownsMap Tryz.prog 9 Rv bm t.got.length D) (h2 : ∀ k, D.atKey (litS k) (.held (.slice none 0 0)) = .held (R k)) (h3 : ∀ k, Maps.has D (litS k) = t.got.any fun p => decide (p.1 = k)) (h4 : Maps.size D = t.got.length) (h5 : ∀ p ∈ t.got, RowOk (fun b => F b ∧ b ≠ tb ∧ b ≠ bm) w (R p.1) p.2)
    (hown : w6.ownsMap Tryz.prog 9 Rv bm (t.got.length + 1) (D.put (litS m.fr) (.held v))) (hg : w5.grownBy w6 (some bm)) :
    TalkAt (grownF F w w6) w6 tb bm ma mc (takeT t m) ∧ KeptBut (fun b => b = bm) w w6 := by
  have hk6 : KeptBut (fun b => b = bm) w5 w6 := KeptBut.of_grown hg (fun k e => (Option.some.inj e).symm)
  have hk5 : KeptBut (fun b => b = bm) w w5 := KeptBut.of_below hb (fun k h8 h9 => by omega)
  have hk : KeptBut (fun b => b = bm) w w6 := hk5.trans hk6
  have hlt := h.lt
  have hbm := hlt bm h.bF
  have eb : w6.heap[tb]? = w.heap[tb]? := hk.block tb (hlt tb h.hF) (fun e => h.ne e.symm)
  have ec : ∀ j, w6.cell? ⟨tb, j, none⟩ = w.cell? ⟨tb, j, none⟩ := fun j => World.cell?_of_block (a := ⟨tb, j, none⟩) eb
  have ef : ∀ j, w6.frozen? ⟨tb, j, none⟩ = w.frozen? ⟨tb, j, none⟩ := fun j => World.frozen?_of_block (a := ⟨tb, j, none⟩) eb
  have hS : ∀ b, b < w.heap.size → (F b ∧ b ≠ tb ∧ b ≠ bm) → (grownF F w w6 b ∧ b ≠ tb ∧ b ≠ bm) := fun b _ hb => ⟨.inl hb.1, hb.2⟩
  have hv6 : OwnV w.heap.size w6 v m.L := hv.heap (fun g e => by
    have := hv.lt g e
    exact hk6.block g this.2 (fun e2 => by omega))
  refine ⟨⟨.inl h.hF, .inl h.bF, h.ne, fun b hb => ?_, (ec 0).trans h.c0, (ec 1).trans h.c1, (ec 2).trans h.c2, (ec 3).trans h.c3, (ec 4).trans h.c4, (ec 5).trans h.c5, (ec 6).trans h.c6, (ec 7).trans h.c7, (ec 8).trans h.c8, fun i => (ef i).trans (h.z i), h.mcap, h.mmax, h.mnil, ?_, ?_⟩, hk⟩
  · rcases hb with hb | hb
    · exact Nat.lt_of_lt_of_le (hlt b hb) hk.size
    · exact hb.2
  · have h9 := h.mem.mono hS
    rcases h9 with e | ⟨b, off, e, hb9, hl, hc⟩
    · exact .inl e
    · exact .inr ⟨b, off, e, hb9, Nat.lt_of_lt_of_le hl hk.size, fun j hj => (World.cell?_of_block (a := ⟨b, off + j, none⟩) (hk.block b hl hb9.2.2)).trans (hc j hj)⟩
  · have k1 : w5.ownsMap Tryz.prog 9 Rv bm t.got.length D := h1.kept (row := none) ⟨hb.os, hb.tape, hb.output, hb.size, fun k hk _ => hb.block k hk⟩ (by simp)
    refine GotAt.put (S := fun b => F b ∧ b ≠ tb ∧ b ≠ bm) k1 h2 h3 h4 (fun p hp => (h5 p hp).kept hk5 (fun b _ hb => hb.2.2)) hfr hown hk6 (fun b hb => hb.2.2) (fun b _ hb => ⟨.inl hb.1, hb.2⟩) ?_
    refine hv6.rowOk (fun b hb hl => ⟨.inr ⟨hb, hl⟩, fun e => ?_, fun e => by omega⟩)
    have := hlt tb h.hF
    omega
end
end Go.Proofs.YtabboioamdphmaaGreatDoor
/- Walks of a talk's Fits, Take, Start. -/
namespace Go.Proofs.YtabboioamdphmaaGreatDoor
section
open Go.RowKit Go.Maps Go.BigFrame

set_option maxRecDepth 100000 in
set_option maxHeartbeats 4000000 in
theorem fits_walk (F : Nat → Prop) (w : World) (tb bm : Nat) (ma : Option Addr) (mc : Nat) (t : TalkS) (fr dst kind key : ByteArray) (op cf : Int) (sl : Bool) (a : Option Addr) (len cap : Nat) (L : List Ver) (h : TalkAt F w tb bm ma mc t) (hfr : fr.size ≤ maxLen) :
    Calls Tryz.prog 44 #[.pointer (some ⟨tb, 0, none⟩), .agg #[.string fr, .string dst, .string kind, .string key, .int .i64 op, .int .i64 cf, .bool sl, .slice a len cap]] w fun e w' => e = .returned (.bool (fitsB t ⟨fr, dst, kind, key, op, cf, sl, L⟩)) ∧ Below w.heap.size w w' := by
  obtain ⟨name, tkey, top, tcf, n, k, mem, wait, got⟩ := t
  obtain ⟨W1, hW1⟩ : ∃ W1, w.alloc (.cells #[.string fr, .string dst, .string kind, .string key, .int .i64 op, .int .i64 cf, .bool sl, .slice a len cap] 55) = W1 := ⟨_, rfl⟩
  obtain ⟨ab, hab⟩ : ∃ ab, w.heap.size = ab := ⟨_, rfl⟩
  have hb1 : Below w.heap.size w W1 := by rw [← hW1]; exact (Below.refl _ _).alloc (Nat.le_refl _) _
  have r0 : W1.cell? ⟨ab, 0, none⟩ = some (.string fr) := by rw [← hW1, ← hab]; simp
  have r1 : W1.cell? ⟨ab, 1, none⟩ = some (.string dst) := by rw [← hW1, ← hab]; simp
  have r2 : W1.cell? ⟨ab, 2, none⟩ = some (.string kind) := by rw [← hW1, ← hab]; simp
  have r3 : W1.cell? ⟨ab, 3, none⟩ = some (.string key) := by rw [← hW1, ← hab]; simp
  have r4 : W1.cell? ⟨ab, 4, none⟩ = some (.int .i64 op) := by rw [← hW1, ← hab]; simp
  have r5 : W1.cell? ⟨ab, 5, none⟩ = some (.int .i64 cf) := by rw [← hW1, ← hab]; simp
  have h1 := h.below hb1 (Nat.le_refl _)
  have k0 := cell_regrown r0
  have k1 := cell_regrown r1
  have k2 := cell_regrown r2
  have k3 := cell_regrown r3
  have k4 := cell_regrown r4
  have k5 := cell_regrown r5
  have t0 := cell_regrown h1.c0
  have t1 := cell_regrown h1.c1
  have t2 := cell_regrown h1.c2
  have t3 := cell_regrown h1.c3
  have t7 := cell_regrown h1.c7
  dsimp only at t0 t1 t2 t3 t7
  have H1 := Lib.hid (And.intro hb1 (And.intro h1 (And.intro hW1 hab)))
  have Hr0 := Lib.hid r0
  have Hm := Lib.hid (And.intro H1.out.2.1.mem.at_ H1.out.2.1.mmax)
  obtain ⟨v, hlook, _⟩ := H1.out.2.1.got.look (k := fr) hfr
  obtain ⟨ib, hib⟩ : ∃ ib, (got.any fun p => decide (p.1 = fr)) = ib := ⟨_, rfl⟩
  obtain ⟨mb, hmb⟩ : ∃ mb, (mem.any fun s => decide (s = fr)) = mb := ⟨_, rfl⟩
  have hmb2 : decide (fr ∈ mem) = mb := by
    rw [← hmb]
    cases h9 : mem.any fun s => decide (s = fr) with
    | true =>
      obtain ⟨s, hs, e⟩ := List.any_eq_true.1 h9
      rw [← of_decide_eq_true e]; exact decide_eq_true hs
    | false =>
      refine decide_eq_false (fun hs => ?_)
      have := List.any_eq_false.1 h9 fr hs
      simp at this
  have hcs : (fitsB ⟨name, tkey, top, tcf, n, k, mem, wait, got⟩ ⟨fr, dst, kind, key, op, cf, sl, L⟩ = false ∧ (((dst.toList == name.toList) = false ∧ dst ≠ name) ∨ (dst = name ∧ (key.toList == tkey.toList) = false ∧ key ≠ tkey) ∨ (dst = name ∧ key = tkey ∧ (op != top) = true ∧ op ≠ top) ∨ (dst = name ∧ key = tkey ∧ op = top ∧ (cf != tcf) = true ∧ cf ≠ tcf) ∨
      (dst = name ∧ key = tkey ∧ op = top ∧ cf = tcf ∧ (kind.toList == wait.toList) = false ∧ kind ≠ wait))) ∨ (fitsB ⟨name, tkey, top, tcf, n, k, mem, wait, got⟩ ⟨fr, dst, kind, key, op, cf, sl, L⟩ = (!ib && mb) ∧ dst = name ∧ key = tkey ∧ op = top ∧ cf = tcf ∧ kind = wait) := by
    have hf : fitsB ⟨name, tkey, top, tcf, n, k, mem, wait, got⟩ ⟨fr, dst, kind, key, op, cf, sl, L⟩ = (decide (dst = name ∧ key = tkey ∧ op = top ∧ cf = tcf ∧ kind = wait) && !ib && mb) := by
      rw [← hib, ← hmb]
      rfl
    rw [hf]
    by_cases e1 : dst = name
    · by_cases e2 : key = tkey
      · by_cases e3 : op = top
        · by_cases e4 : cf = tcf
          · by_cases e5 : kind = wait
            · exact .inr ⟨by simp [e1, e2, e3, e4, e5], e1, e2, e3, e4, e5⟩
            · exact .inl ⟨by simp [e5], .inr (.inr (.inr (.inr ⟨e1, e2, e3, e4, txt_neV e5, e5⟩)))⟩
          · exact .inl ⟨by simp [e4], .inr (.inr (.inr (.inl ⟨e1, e2, e3, by simpa using e4, e4⟩)))⟩
        · exact .inl ⟨by simp [e3], .inr (.inr (.inl ⟨e1, e2, by simpa using e3, e3⟩))⟩
      · exact .inl ⟨by simp [e2], .inr (.inl ⟨e1, txt_neV e2, e2⟩)⟩
    · exact .inl ⟨by simp [e1], .inl ⟨txt_neV e1, e1⟩⟩
  rw [hib] at hlook
  have Hlk := Lib.hid (And.intro hlook hmb2)
  clear r0 r1 r2 r3 r4 r5 hb1 h h1 hW1 hab hlook hib hmb hmb2
  go_enter Tryz.func44, Tryz.ntmps44
  go_wp2
  rw [H1.out.2.2.1, H1.out.2.2.2]
  rcases hcs with ⟨hN, hcs⟩ | ⟨hN, rfl, rfl, rfl, rfl, rfl⟩
  · have HN := Lib.hid hN
    clear hN
    rcases hcs with ⟨e1, e2⟩ | ⟨rfl, e1, e2⟩ | ⟨rfl, rfl, e1, e2⟩ | ⟨rfl, rfl, rfl, e1, e2⟩ | ⟨rfl, rfl, rfl, rfl, e1, e2⟩
    all_goals
      refine wp_region_quiet_below (by kernel_rfl) (by kernel_rfl) ?_
      repeat (go_big_quiet_step (fail))
      refine wpQuiet_nil ?_
      intro w2 hw'
      obtain ⟨⟨dq, osq⟩, hw2⟩ := hw'
      have H2 := Lib.hid (show Below W1.heap.size W1 w2 by rw [hw2]; exact below_regrown W1 dq osq)
      clear hw2 k0 k1 k2 k3 k4 k5 t0 t1 t2 t3 t7
      go_wp2
      go_ret
      exact ⟨by rw [HN.out]; rfl, H1.out.1.trans (H2.out.mono H1.out.1.size)⟩
  · have HN := Lib.hid hN
    clear hN
    refine wp_region_quiet_below (by kernel_rfl) (by kernel_rfl) ?_
    repeat (go_big_quiet_step (fail))
    refine wpQuiet_nil ?_
    intro w2 hw'
    obtain ⟨⟨dq, osq⟩, hw2⟩ := hw'
    have hb2 : Below W1.heap.size W1 w2 := by rw [hw2]; exact below_regrown W1 dq osq
    have H2 := Lib.hid hb2
    have h2 := H1.out.2.1.below hb2 (Nat.le_refl _)
    have q0 := cell_regrown ((hb2.cell (p := ⟨ab, 0, none⟩) (lt_of_cell Hr0.out)).trans Hr0.out)
    have q8 := cell_regrown h2.c8
    have hlk := fun d os => Hlk.out.1 (Go.Sort.grow (redrawn w2 d) os) (hb2.trans ((below_regrown w2 d os).mono hb2.size))
    clear hw2 k0 k1 k2 k3 k4 k5 t0 t1 t2 t3 t7 hb2 h2
    go_wp2
    refine wp_region_quiet_below (by kernel_rfl) (by kernel_rfl) ?_
    repeat (go_big_quiet_step (fail))
    refine wpQuiet_nil ?_
    intro w3 hw'
    obtain ⟨⟨dr, osr⟩, hw3⟩ := hw'
    have hb3 : Below W1.heap.size W1 w3 := by rw [hw3]; exact H2.out.trans ((below_regrown w2 dr osr).mono H2.out.size)
    have H3 := Lib.hid hb3
    have h3 := H1.out.2.1.below hb3 (Nat.le_refl _)
    have s0 := cell_regrown ((hb3.cell (p := ⟨ab, 0, none⟩) (lt_of_cell Hr0.out)).trans Hr0.out)
    have s6 := cell_regrown h3.c6
    have Cc := fun d os => Calls.regrown_of ((contS_walk W1.heap.size ma mem.length mc mem fr mb (Go.Sort.grow (redrawn w3 d) os) rfl (Nat.le_trans H1.out.2.1.mcap H1.out.2.1.mmax) ((Hm.out.1.below hb3).below ((below_regrown w3 d os).mono hb3.size)) Hlk.out.2).mono fun e w' h => ⟨h.1, h.2 ▸ Below.refl _ _⟩)
    clear hw3 hb3 h3 q0 q8 hlk
    go_wp2
    cases ib with
    | true =>
      refine wp_region_quiet_below (by kernel_rfl) (by kernel_rfl) ?_
      repeat (go_big_quiet_step (first | exact Cc _ _))
      refine wpQuiet_nil ?_
      intro w4 hw'
      obtain ⟨⟨ds, oss⟩, hw4⟩ := hw'
      have H4 := Lib.hid (show Below W1.heap.size W1 w4 by rw [hw4]; exact H3.out.trans ((below_regrown w3 ds oss).mono H3.out.size))
      clear hw4 s0 s6 Cc
      go_wp2
      go_ret
      exact ⟨by rw [HN.out]; rfl, H1.out.1.trans (H4.out.mono H1.out.1.size)⟩
    | false =>
      refine wp_region_quiet_below (by kernel_rfl) (by kernel_rfl) ?_
      repeat (go_big_quiet_step (first | exact Cc _ _))
      refine wpQuiet_nil ?_
      intro w4 hw'
      obtain ⟨⟨ds, oss⟩, hw4⟩ := hw'
      have H4 := Lib.hid (show Below W1.heap.size W1 w4 by rw [hw4]; exact H3.out.trans ((below_regrown w3 ds oss).mono H3.out.size))
      clear hw4 s0 s6 Cc
      go_wp2
      go_ret
      exact ⟨by rw [HN.out]; rfl, H1.out.1.trans (H4.out.mono H1.out.1.size)⟩
theorem got_len {t : TalkS} (h : TalkOk t) : t.got.length ≤ t.mem.length := by
  have h1 := (told_perm h).length_eq
  rw [List.length_map] at h1
  rw [← h1]
  exact List.length_filterMap_le ..
theorem talk_cfg {t : TalkS} (h : TalkOk t) : 1 ≤ t.k ∧ t.k ≤ t.n ∧ t.n ≤ 12 ∧ t.mem.length = t.n ∧ ∀ s ∈ t.mem, nameB s = true := by
  obtain ⟨⟨h1, h2, h3⟩, h4, _, h5, _⟩ := configF_zero (by rw [h.cfg])
  exact ⟨by omega, by omega, by omega, by omega, h5⟩
theorem name_size {s : ByteArray} (h : nameB s = true) : s.size ≤ maxLen := by
  unfold nameB at h
  simp at h
  unfold maxLen
  omega
theorem mem_size {t : TalkS} (h : TalkOk t) (j : Nat) : (t.mem[j]?.getD (⟨#[]⟩ : ByteArray)).size ≤ maxLen := by
  by_cases hj : j < t.mem.length
  · rw [List.getElem?_eq_getElem hj]; exact name_size ((talk_cfg h).2.2.2.2 _ (List.getElem_mem hj))
  · rw [List.getElem?_eq_none (by omega)]; exact Nat.zero_le _
set_option maxRecDepth 100000 in
set_option maxHeartbeats 4000000 in
theorem take_walk (F : Nat → Prop) (w : World) (tb bm : Nat) (ma : Option Addr) (mc : Nat) (t : TalkS) (fr dst kind key : ByteArray) (op cf : Int) (sl : Bool) (a : Option Addr) (len cap : Nat) (L : List Ver) (h : TalkAt F w tb bm ma mc t) (hok : TalkOk t) (hfr : fr.size ≤ maxLen) (hnew : fr ∉ t.got.map (·.1))
    (hlen : L.length = len) (hcap : len ≤ cap) (hl : len ≤ 1000000) (ha : a = none → cap = 0) (hL : VrR w.heap.size w a L) (E : Nat → Addr) (W0 : World) (hE : ErrQx W0 E) (hW : Below W0.heap.size W0 w) (hFW : ∀ b, F b → W0.heap.size ≤ b) :
    Calls Tryz.prog 45 #[.pointer (some ⟨tb, 0, none⟩), .agg #[.string fr, .string dst, .string kind, .string key, .int .i64 op, .int .i64 cf, .bool sl, .slice a len cap]] w fun e w' => e = .returned (.bool (enoughB (takeT t ⟨fr, dst, kind, key, op, cf, sl, L⟩))) ∧ TalkAt (grownF F w w') w' tb bm ma mc (takeT t ⟨fr, dst, kind, key, op, cf, sl, L⟩) ∧ KeptBut (fun b => b = bm) w w' := by
  obtain ⟨W1, hW1⟩ : ∃ W1, w.alloc (.cells #[.string fr, .string dst, .string kind, .string key, .int .i64 op, .int .i64 cf, .bool sl, .slice a len cap] 55) = W1 := ⟨_, rfl⟩
  obtain ⟨ab, hab⟩ : ∃ ab, w.heap.size = ab := ⟨_, rfl⟩
  have hb1 : Below w.heap.size w W1 := by rw [← hW1]; exact (Below.refl _ _).alloc (Nat.le_refl _) _
  have r0 : W1.cell? ⟨ab, 0, none⟩ = some (.string fr) := by rw [← hW1, ← hab]; simp
  have r7 : W1.cell? ⟨ab, 7, none⟩ = some (.slice a len cap) := by rw [← hW1, ← hab]; simp
  have hs1 : W1.heap.size = ab + 1 := by rw [← hW1, ← hab]; simp
  have hb1d : Below w.heap.size w W1.drew := hb1.drew
  have hsd : W1.drew.heap.size = W1.heap.size := rfl
  have r8 := (hb1.cell (p := ⟨tb, 8, none⟩) (h.lt tb h.hF)).trans h.c8
  have d8 : W1.drew.cell? ⟨tb, 8, none⟩ = some (.map (some bm)) := r8
  have d0 : W1.drew.cell? ⟨ab, 0, none⟩ = some (.string fr) := r0
  have d7 : W1.drew.cell? ⟨ab, 7, none⟩ = some (.slice a len cap) := r7
  have Hcl := Lib.hid (vclone_walk W1.heap.size a len cap L W1.drew hlen hcap hl ha ((hL.below hb1d).mono hb1d.size) (Nat.le_refl _))
  obtain ⟨D, R, o1, o2, o3, o4, o5⟩ := h.got
  have hn12 : t.got.length < maxLen := by
    have h8 := got_len hok
    have h9 := talk_cfg hok
    unfold maxLen
    omega
  have Hkeep : Hid (∀ w5 v5, Below W1.drew.heap.size W1.drew w5 → OwnV W1.drew.heap.size w5 v5 L → ∃ w6, (Instr.mapUpdate 80 (.map (some bm)) (.string fr) v5).run Tryz.prog w5 = .ok () w6 ∧
      (w5.cell? ⟨tb, 8, none⟩ = some (.map (some bm)) ∧ w5.cell? ⟨ab, 0, none⟩ = some (.string fr) ∧ w5.cell? ⟨ab, 7, none⟩ = some (.slice a len cap)) ∧ (w6.cell? ⟨tb, 8, none⟩ = some (.map (some bm)) ∧ w6.cell? ⟨ab, 0, none⟩ = some (.string fr) ∧ w6.cell? ⟨ab, 7, none⟩ = some (.slice a len cap)) ∧
      Hid (TalkAt (grownF F w w6) w6 tb bm ma mc (takeT t ⟨fr, dst, kind, key, op, cf, sl, L⟩) ∧ KeptBut (fun b => b = bm) w w6)) := Lib.hid (by
    intro w5 v5 hb5 ho5
    have hb : Below w.heap.size w w5 := hb1d.trans (hb5.mono hb1d.size)
    have k1 : w5.ownsMap Tryz.prog 9 Rv bm t.got.length D := o1.kept (row := none) ⟨hb.os, hb.tape, hb.output, hb.size, fun k hk _ => hb.block k hk⟩ (by simp)
    obtain ⟨w6, hrun, hown, hg⟩ := k1.update keyedS Tryz.underlying80 hn12 (keyS hfr) (val := v5) (d := .held v5) (ps := []) rfl
    have hT := TalkAt.take (m := ⟨fr, dst, kind, key, op, cf, sl, L⟩) h hb (ho5.lower hb1d.size) hnew o1 o2 o3 o4 o5 hown hg
    have hbm := h.lt bm h.bF
    have c5 : ∀ j x, W1.drew.cell? ⟨ab, j, none⟩ = some x → w5.cell? ⟨ab, j, none⟩ = some x := fun j x hx => (hb5.cell (p := ⟨ab, j, none⟩) (lt_of_cell hx)).trans hx
    have c6 : ∀ j x, w5.cell? ⟨ab, j, none⟩ = some x → w6.cell? ⟨ab, j, none⟩ = some x := fun j x hx => (World.cell?_of_block (a := ⟨ab, j, none⟩) (hg.block ab (lt_of_cell hx) (fun e => by have := Option.some.inj e; omega))).trans hx
    have t5 : w5.cell? ⟨tb, 8, none⟩ = some (.map (some bm)) := (hb5.cell (p := ⟨tb, 8, none⟩) (lt_of_cell d8)).trans d8
    exact ⟨w6, hrun, ⟨t5, c5 0 _ d0, c5 7 _ d7⟩, ⟨hT.1.c8, c6 0 _ (c5 0 _ d0), c6 7 _ (c5 7 _ d7)⟩, Lib.hid hT⟩)
  have HE := Lib.hid (And.intro hE (And.intro hok (And.intro hW1 (And.intro hab (And.intro h.lt (And.intro (hFW bm h.bF) hW))))))
  clear hb1 hb1d hs1 hsd hL hlen hcap hl ha o1 o2 o3 o4 o5 hn12 hok hE h hnew hfr hW1 hab hW hFW
  go_enter Tryz.func45, Tryz.ntmps45
  go_wp2
  rw [HE.out.2.2.1, HE.out.2.2.2.1]
  go_region_held3 (fun W => W.cell? ⟨tb, 8, none⟩ = some (.map (some bm)) ∧ W.cell? ⟨ab, 0, none⟩ = some (.string fr) ∧ W.cell? ⟨ab, 7, none⟩ = some (.slice a len cap))
    (first | exact ⟨r8, r0, r7⟩ | exact ⟨d8, d0, d7⟩ | exact ⟨p8, p0, p7⟩ | exact ⟨q8, q0, q7⟩)
    (first | (go_at_call 67; refine Hcl.out.mono ?_; rintro e w5 ⟨hb5, v5, rfl, ho5⟩; obtain ⟨w6, hrun6, ⟨p8, p0, p7⟩, ⟨q8, q0, q7⟩, HF⟩ := Hkeep.out w5 v5 hb5 ho5; clear hb5 ho5))
  all_goals
    have q4 := HF.out.1.c4
    have q5 := HF.out.1.c5
    have q6 := HF.out.1.c6
    dsimp only [takeT] at q4 q5 q6
    have hE6 : ErrQx w6 E := HE.out.1.below (HE.out.2.2.2.2.2.2.trans (HF.out.2.below HE.out.2.2.2.2.2.2.size (fun b e => by rw [e]; exact HE.out.2.2.2.2.2.1))) (Nat.le_refl _)
    have Hen := Lib.hid (enough_walk (t.n : Int) (t.k : Int) w6.heap.size ma t.mem.length mc t.mem w6 E hE6 rfl HF.out.1.mcap (mem_size HE.out.2.1) HF.out.1.mem.at_ (Nat.le_refl _))
    clear hE6 p8 p0 p7 q8 q0 q7 r8 r0 r7 d8 d0 d7 hrun6
    go_wp2_with fail
    refine Hen.out.mono ?_
    rintro e w7 ⟨hb7, ⟨hz, rfl⟩ | ⟨hz, _⟩⟩
    · have hT7 := HF.out.1.below hb7 (Nat.le_refl _)
      have c8 := hT7.c8
      obtain ⟨D7, R7, o7, _, _, z7, _⟩ := hT7.got
      have hlen7 := o7.len Tryz.underlying80
      rw [z7] at hlen7
      obtain ⟨g1, hg1⟩ : ∃ g1, (takeT t ⟨fr, dst, kind, key, op, cf, sl, L⟩).got.length = g1 := ⟨_, rfl⟩
      have hg1' : g1 ≤ 13 := by
        rw [← hg1]
        show (t.got ++ [(fr, L)]).length ≤ 13
        have h8 := got_len HE.out.2.1
        have h9 := talk_cfg HE.out.2.1
        simp
        omega
      rw [hg1] at hlen7
      have H7 := Lib.hid (And.intro hb7 hg1)
      clear hb7 hT7 o7 z7 hz hg1 q4 q5 q6
      go_wp2
      go_ret
      have hF7 : ∀ b, grownF F w w7 b → b < w7.heap.size := fun b hb => by
        rcases hb with hb | hb
        · exact Nat.lt_of_lt_of_le (HE.out.2.2.2.2.1 b hb) (Nat.le_trans HF.out.2.size H7.out.1.size)
        · exact hb.2
      refine ⟨?_, (HF.out.1.below H7.out.1 (Nat.le_refl _)).mono (fun b hb => hb.imp id (fun h9 => ⟨h9.1, Nat.lt_of_lt_of_le h9.2 H7.out.1.size⟩)) hF7, HF.out.2.trans (KeptBut.of_below H7.out.1 (fun k h1 h2 => by omega))⟩
      have e : enoughB (takeT t ⟨fr, dst, kind, key, op, cf, sl, L⟩) = decide (((t.n : Int) + (t.k : Int) + 1) / 2 ≤ (g1 : Int)) := by
        unfold enoughB
        rw [decide_eq_decide, H7.out.2]
        show t.n + t.k ≤ 2 * g1 ↔ _
        omega
      rw [e]
      first | rfl | simp
    · exact absurd (by rw [HE.out.2.1.cfg]) hz
set_option maxHeartbeats 1000000 in
/-- what is waited for is laid, and nobody has answered. -/
theorem start_walk (w : World) (tb : Nat) (kind : ByteArray) (x7 x8 : Value) (c7 : w.cell? ⟨tb, 7, none⟩ = some x7) (c8 : w.cell? ⟨tb, 8, none⟩ = some x8) (z : ∀ i, w.frozen? ⟨tb, i, none⟩ = false) :
    Calls Tryz.prog 36 #[.pointer (some ⟨tb, 0, none⟩), .string kind] w fun e w' => e = .returned (.tuple #[]) ∧ w' = ((w.setCell ⟨tb, 7, none⟩ (.string kind)).alloc (.map #[] 0)).setCell ⟨tb, 8, none⟩ (.map (some w.heap.size)) := by
  have hmm := @run_makeMap Tryz.prog
  have z7 := z 7
  have z8 := z 8
  have hlt := lt_of_cell c7
  clear z
  go_enter Tryz.func36, Tryz.ntmps36
  go_wp2
  go_end0
  exact ⟨rfl, rfl⟩
end
end Go.Proofs.YtabboioamdphmaaGreatDoor
