/- The walk of ring.Moves. -/
import Derived.Test.YtjgllhnecoibkaaGreatDoorPtE
import Derived.Test.YtjgllhnecoibkaaGreatDoorEqT
import Derived.Test.YtjgllhnecoibkaaGreatDoorRec
import Derived.Deep.QuietTactic
import Derived.BigQuiet
namespace Go.Proofs.YtjgllhnecoibkaaGreatDoor
open Go.RowKit

/-- a function that tells each key's nodes. -/
theorem pref_fun (L : List ByteArray) (n : Nat) : ∃ f : ByteArray → List ByteArray, ∀ k O, Rg.IsPref ringH (Sm.hash (Sm.nats k)) L O → f k = O.take n := by
  have h : ∀ k : ByteArray, ∃ A : List ByteArray, ∀ O, Rg.IsPref ringH (Sm.hash (Sm.nats k)) L O → A = O.take n := fun k => by
    by_cases e : ∃ O, Rg.IsPref ringH (Sm.hash (Sm.nats k)) L O
    · obtain ⟨O, hO⟩ := e
      exact ⟨O.take n, fun O' hO' => by rw [hO.unique hO' (List.Perm.refl _)]⟩
    · exact ⟨[], fun O hO => absurd ⟨O, hO⟩ e⟩
  exact ⟨fun k => Classical.choose (h k), fun k => Classical.choose_spec (h k)⟩
abbrev Chg := ByteArray × List ByteArray × List ByteArray
/-- the keys whose nodes change. -/
def chg (f g : ByteArray → List ByteArray) (keys : List ByteArray) : List Chg := keys.filterMap fun k => if f k = g k then none else some (k, f k, g k)
theorem chg_take {f g : ByteArray → List ByteArray} {keys : List ByteArray} {i : Nat} (hi : i < keys.length) :
    chg f g (keys.take (i + 1)) = chg f g (keys.take i) ++ (if f (keys[i]?.getD ⟨#[]⟩) = g (keys[i]?.getD ⟨#[]⟩) then [] else [(keys[i]?.getD ⟨#[]⟩, f (keys[i]?.getD ⟨#[]⟩), g (keys[i]?.getD ⟨#[]⟩))]) := by
  unfold chg
  rw [List.take_succ_eq_append_getElem hi, List.filterMap_append, List.getElem?_eq_getElem hi]
  simp only [Option.getD_some, List.filterMap_cons, List.filterMap_nil]
  split <;> rename_i h
  · split at h
    · rename_i h2; rw [if_pos h2]
    · cases h
  · split at h
    · cases h
    · rename_i h2; cases h; rw [if_neg h2]
theorem chg_le (f g : ByteArray → List ByteArray) (keys : List ByteArray) : (chg f g keys).length ≤ keys.length := List.length_filterMap_le _ _
/-- x reads as the texts A, in a block that is not v's own. -/
def SlTx (w : World) (v x : Value) (A : List ByteArray) : Prop := ∃ a cap, x = .slice a A.length cap ∧ A.length ≤ cap ∧ cap ≤ maxLen ∧
  (A = [] ∨ ∃ b off, a = some ⟨b, off, none⟩ ∧ b < w.heap.size ∧ v.ownBlock ≠ some b ∧ ∀ j, j < A.length → w.cell? ⟨b, off + j, none⟩ = some (.string (A[j]?.getD ⟨#[]⟩)))
theorem SlTx.below {w w' : World} {v x : Value} {A : List ByteArray} (hb : Below w.heap.size w w') (h : SlTx w v x A) : SlTx w' v x A := by
  obtain ⟨a, cap, h1, h2, h3, h4⟩ := h
  refine ⟨a, cap, h1, h2, h3, h4.imp id (fun ⟨b, off, e, hl, hne, hc⟩ => ⟨b, off, e, Nat.lt_of_lt_of_le hl hb.size, hne, fun j hj => (hb.cell (p := ⟨b, off + j, none⟩) hl).trans (hc j hj)⟩)⟩
theorem SlTx.grown {w0 w' : World} {v v' x : Value} {A : List ByteArray} {o : Obj} (h : SlTx w0 v x A) (hg : (w0.alloc o).grownBy w' v.ownBlock) (hat : v'.ownBlock = v.ownBlock ∨ v'.ownBlock = some (w0.heap.size + 1)) : SlTx w' v' x A := by
  obtain ⟨a, cap, h1, h2, h3, h4⟩ := h
  refine ⟨a, cap, h1, h2, h3, h4.imp id (fun ⟨b, off, e, hl, hne, hc⟩ => ⟨b, off, e, ?_, ?_, fun j hj => ?_⟩)⟩
  · have := hg.size; simp at this; omega
  · rcases hat with h | h
    · rw [h]; exact hne
    · rw [h]; intro e; have := Option.some.inj e; omega
  · refine (World.cell?_of_block (a := ⟨b, off + j, none⟩) ((hg.block b (by simp; omega) (Ne.symm hne)).trans ?_)).trans (hc j hj)
    exact ((Below.refl w0.heap.size w0).alloc (Nat.le_refl _) o).block b hl
theorem SlTx.of_own {B : Nat} {w : World} {v x : Value} {A : List ByteArray} (h : OwnT B w x A) (hv : ∀ k, v.ownBlock = some k → k < B) : SlTx w v x A := by
  rcases Own1.shape h with ⟨rfl, hl⟩ | ⟨g, cap, rfl, hB, hg, hc, hm, _, hcell⟩
  · have : A = [] := by simpa using hl
    subst this
    exact ⟨none, 0, rfl, Nat.le_refl _, Nat.zero_le _, .inl rfl⟩
  · have hl : (A.map Value.string).length = A.length := by simp
    rw [hl] at hc hcell ⊢
    exact ⟨_, cap, rfl, hc, hm, .inr ⟨g, 0, rfl, hg, (fun e => by have := hv g e; omega), fun j hj => by
      rw [Nat.zero_add, hcell j hj]
      simp [hj]⟩⟩
theorem SlTx.txs {w : World} {v x : Value} {A : List ByteArray} (h : SlTx w v x A) : ∃ a cap, x = .slice a A.length cap ∧ A.length ≤ cap ∧ cap ≤ maxLen ∧ TxsAt w.heap.size w a A := by
  obtain ⟨a, cap, h1, h2, h3, h4⟩ := h
  exact ⟨a, cap, h1, h2, h3, h4.imp id (fun ⟨b, off, e, hl, _, hc⟩ => ⟨b, off, e, hl, hc⟩)⟩
def encCh (x : ByteArray × Value × Value) : List Value := [.string x.1, x.2.1, x.2.2]
def ch0 : Chg := (⟨#[]⟩, [], [])
def cv0 : ByteArray × Value × Value := (⟨#[]⟩, .slice none 0 0, .slice none 0 0)
/-- v owns the changes C. -/
def OwnCh (B : Nat) (w : World) (v : Value) (C : List Chg) : Prop := ∃ l : List (ByteArray × Value × Value), OwnRec 44 3 B w v (l.map encCh) ∧ l.length = C.length ∧
  ∀ j, j < C.length → (l[j]?.getD cv0).1 = (C[j]?.getD ch0).1 ∧ SlTx w v (l[j]?.getD cv0).2.1 (C[j]?.getD ch0).2.1 ∧ SlTx w v (l[j]?.getD cv0).2.2 (C[j]?.getD ch0).2.2
theorem OwnCh.nil (B : Nat) (w : World) : OwnCh B w (.slice none 0 0) [] := ⟨[], OwnRec.nil _ _ _ _, rfl, fun j hj => by cases hj⟩
theorem OwnCh.below {B : Nat} {w w' : World} {v : Value} {C : List Chg} (hb : Below w.heap.size w w') (h : OwnCh B w v C) : OwnCh B w' v C := by
  obtain ⟨l, h1, h2, h3⟩ := h
  exact ⟨l, h1.below hb, h2, fun j hj => ⟨(h3 j hj).1, (h3 j hj).2.1.below hb, (h3 j hj).2.2.below hb⟩⟩
theorem OwnCh.lt {B : Nat} {w : World} {v : Value} {C : List Chg} (h : OwnCh B w v C) : ∀ k, v.ownBlock = some k → B ≤ k ∧ k < w.heap.size := by
  obtain ⟨l, h1, _⟩ := h
  exact h1.lt
theorem info_change : (Tryz.prog.info? 44).map (fun i => (i.zero, i.size, i.bytes)) = some (some (.agg #[.string ⟨#[]⟩, .slice none 0 0, .slice none 0 0]), 3, 64) := by kernel_rfl
theorem SlTx.slice {w : World} {v x : Value} {A : List ByteArray} (h : SlTx w v x A) : x.oneCell' = true := by
  obtain ⟨a, cap, rfl, _⟩ := h
  rfl
/-- append(s, Change{..}). -/
theorem append_chg {ops : Array Oper} {rest : List Oper} {o : Oper} {a : Act} {Q : Exit → Act → World → Prop} {w0 : World} (s x : Nat) (hgd : o.guard = none)
    (ho : o.op = .call { callee := .builtin .append, args := #[.tmp s, .tmp x], argTypes := #[39, 39] }) (B : Nat) (v : Value) (C : List Chg) (k : ByteArray) (va vb : Value) (A D : List ByteArray)
    (hs : a.eval (.tmp s) = v) (hx : a.eval (.tmp x) = .slice (some ⟨w0.heap.size, 0, none⟩) 1 1) (hown : OwnCh B w0 v C) (hA : SlTx w0 v va A) (hD : SlTx w0 v vb D) (hl : C.length ≤ 1000000) (hB : B ≤ w0.heap.size)
    (h : ∀ v' w', OwnCh B w' v' (C ++ [(k, A, D)]) → (w0.alloc (.cells #[.string k, va, vb] 44)).grownBy w' v.ownBlock → wpList Tryz.prog ops Q rest (a.put o.dst v') w') :
    wpList Tryz.prog ops Q (o :: rest) a (w0.alloc (.cells #[.string k, va, vb] 44)) := by
  obtain ⟨l, h1, h2, h3⟩ := hown
  refine append_rec 39 44 _ 3 64 Tryz.underlying39 info_change rfl (by decide) s x hgd ho B v (l.map encCh) [.string k, va, vb] rfl (fun u hu => ?_) hs hx h1 (by simp; omega) (by simp; unfold maxLen; omega) hB ?_
  · simp only [List.mem_cons, List.not_mem_nil, or_false] at hu
    rcases hu with rfl | rfl | rfl
    · rfl
    · exact hA.slice
    · exact hD.slice
  · intro v' w' k1 k2 k3
    refine h v' w' ⟨l ++ [(k, va, vb)], ?_, by simp [h2], fun j hj => ?_⟩ k2
    · rw [List.map_append]; exact k1
    · rw [List.length_append] at hj
      by_cases e : j < C.length
      · obtain ⟨q1, q2, q3⟩ := h3 j e
        rw [List.getElem?_append_left (by omega), List.getElem?_append_left e]
        exact ⟨q1, q2.grown k2 k3, q3.grown k2 k3⟩
      · have e2 : j = C.length := by simp at hj; omega
        subst e2
        rw [List.getElem?_append_right (by omega), List.getElem?_append_right (by omega), h2]
        simp only [Nat.sub_self, List.getElem?_cons_zero, Option.getD_some]
        exact ⟨trivial, hA.grown k2 k3, hD.grown k2 k3⟩
/-- changes that are read. -/
def ChR (n₀ : Nat) (w : World) (a : Option Addr) (C : List Chg) : Prop := C = [] ∨ ∃ b off, a = some ⟨b, off, none⟩ ∧ b < n₀ ∧ ∀ j, j < C.length → ∃ a1 c1 a2 c2,
  w.cell? ⟨b, off + j * 3, none⟩ = some (.string (C[j]?.getD ch0).1) ∧ w.cell? ⟨b, off + j * 3 + 1, none⟩ = some (.slice a1 (C[j]?.getD ch0).2.1.length c1) ∧ w.cell? ⟨b, off + j * 3 + 2, none⟩ = some (.slice a2 (C[j]?.getD ch0).2.2.length c2) ∧
  TxsAt n₀ w a1 (C[j]?.getD ch0).2.1 ∧ TxsAt n₀ w a2 (C[j]?.getD ch0).2.2 ∧ (C[j]?.getD ch0).2.1.length ≤ maxLen ∧ (C[j]?.getD ch0).2.2.length ≤ maxLen
theorem ChR.below {n₀ : Nat} {A B : World} (h : Below n₀ A B) {a : Option Addr} {C : List Chg} : ChR n₀ A a C → ChR n₀ B a C
  | .inl e => .inl e
  | .inr ⟨b, off, e, hb, hc⟩ => .inr ⟨b, off, e, hb, fun j hj => by
    obtain ⟨a1, c1, a2, c2, h1, h2, h3, h4, h5, h6⟩ := hc j hj
    exact ⟨a1, c1, a2, c2, (h.cell (p := ⟨b, off + j * 3, none⟩) hb).trans h1, (h.cell (p := ⟨b, off + j * 3 + 1, none⟩) hb).trans h2, (h.cell (p := ⟨b, off + j * 3 + 2, none⟩) hb).trans h3, h4.below h, h5.below h, h6⟩⟩
theorem OwnCh.read {B : Nat} {w : World} {v : Value} {C : List Chg} (h : OwnCh B w v C) : ∃ a cap, v = .slice a C.length cap ∧ C.length ≤ cap ∧ cap ≤ maxLen ∧ ChR w.heap.size w a C := by
  obtain ⟨l, h1, h2, h3⟩ := h
  obtain ⟨a, cap, e, hc, hm, _, _, hR⟩ := h1.read
  have hl : (l.map encCh).length = C.length := by simp [h2]
  rw [hl] at e hc
  refine ⟨a, cap, e, hc, hm, ?_⟩
  rcases hR with hn | ⟨b, off, ea, hb, hcx⟩
  · left
    have : (l.map encCh).length = 0 := by rw [hn]; rfl
    exact List.length_eq_zero_iff.1 (by omega)
  · refine .inr ⟨b, off, ea, hb, fun j hj => ?_⟩
    obtain ⟨q1, q2, q3⟩ := h3 j hj
    have hj2 : j < l.length := by omega
    have hel : (l.map encCh)[j]?.getD [] = encCh (l[j]?.getD cv0) := by simp [List.getElem?_eq_getElem hj2]
    have k0 := hcx j 0 (by omega) (by decide)
    have k1 := hcx j 1 (by omega) (by decide)
    have k2 := hcx j 2 (by omega) (by decide)
    rw [hel] at k0 k1 k2
    obtain ⟨a1, c1, e1, m1, n1, t1⟩ := q2.txs
    obtain ⟨a2, c2, e2, m2, n2, t2⟩ := q3.txs
    refine ⟨a1, c1, a2, c2, ?_, ?_, ?_, t1, t2, Nat.le_trans m1 n1, Nat.le_trans m2 n2⟩
    · rw [← q1]; exact k0
    · rw [← e1]; exact k1
    · rw [← e2]; exact k2
/-- what Moves finds wrong. -/
def moveF (old now : List ByteArray) (nk : Nat) (n : Int) : Nat × Int := if (lookF old n).1 ≠ 0 then lookF old n else if (lookF now n).1 ≠ 0 then lookF now n else if 200 < nk then (2, -1) else (0, -1)
def MovOut (w w' : World) (E : Nat → Addr) (old now keys : List ByteArray) (n : Int) (f g : ByteArray → List ByteArray) (e : Ending) : Prop := Below w.heap.size w w' ∧
  (((moveF old now keys.length n).1 ≠ 0 ∧ ∃ v, ((∃ x, v = errV x) ∨ ∃ m, v = faultV m) ∧ FltV w' E (moveF old now keys.length n) v ∧ e = .returned (.tuple #[.slice none 0 0, v])) ∨
   ((moveF old now keys.length n).1 = 0 ∧ ∃ v, OwnCh w.heap.size w' v (chg f g keys) ∧ e = .returned (.tuple #[v, .nilIface])))
set_option maxRecDepth 100000 in
set_option maxHeartbeats 8000000 in
theorem moves_walk (n : Int) (n₀ : Nat) (a : Option Addr) (len cap : Nat) (L : List ByteArray) (a2 : Option Addr) (len2 cap2 : Nat) (L2 : List ByteArray) (ak : Option Addr) (lk ck : Nat) (K : List ByteArray) (f g : ByteArray → List ByteArray) (w : World) (E : Nat → Addr) (hE : ErrRx w E)
    (hlen : L.length = len) (hm : len ≤ maxLen) (hcap : len ≤ cap) (hsz : ∀ j : Nat, (L[j]?.getD (⟨#[]⟩ : ByteArray)).size ≤ maxLen) (hI : TxsAt n₀ w a L)
    (hlen2 : L2.length = len2) (hm2 : len2 ≤ maxLen) (hcap2 : len2 ≤ cap2) (hsz2 : ∀ j : Nat, (L2[j]?.getD (⟨#[]⟩ : ByteArray)).size ≤ maxLen) (hI2 : TxsAt n₀ w a2 L2)
    (hlk : K.length = lk) (hmk : lk ≤ maxLen) (hszk : ∀ j : Nat, (K[j]?.getD (⟨#[]⟩ : ByteArray)).size ≤ maxLen) (hIk : TxsAt n₀ w ak K) (hn : n₀ ≤ w.heap.size)
    (hf : ∀ k O, Rg.IsPref ringH (Sm.hash (Sm.nats k)) L O → f k = O.take n.toNat) (hg : ∀ k O, Rg.IsPref ringH (Sm.hash (Sm.nats k)) L2 O → g k = O.take n.toNat) :
    Calls Tryz.prog 16 #[.slice a len cap, .slice a2 len2 cap2, .slice ak lk ck, .int .i64 n] w fun e w' => MovOut w w' E L L2 K n f g e := by
  have hlk9 : lk ≤ 9223372036854775807 := hmk
  obtain ⟨W, hW⟩ : ∃ W, w.alloc (.cells #[.slice a len cap, .slice a2 len2 cap2] 22) = W := ⟨_, rfl⟩
  have hBW : Below w.heap.size w W := by rw [← hW]; exact (Below.refl _ w).alloc (Nat.le_refl _) _
  have hltW : w.heap.size < W.heap.size := by rw [← hW]; simp
  obtain ⟨F, hF⟩ : ∃ F, moveF L L2 K.length n = F := ⟨_, rfl⟩
  have hcW : ∀ r, r < 2 → ∃ (X : List ByteArray) (ax : Option Addr) (lx cx : Nat), W.cell? ⟨w.heap.size, r, none⟩ = some (.slice ax lx cx) ∧ X.length = lx ∧ lx ≤ maxLen ∧ lx ≤ cx ∧ (∀ j : Nat, (X[j]?.getD (⟨#[]⟩ : ByteArray)).size ≤ maxLen) ∧ TxsAt w.heap.size W ax X ∧
      ((1 ≤ r → (lookF L n).1 = 0) → (lookF X n).1 ≠ 0 → F = lookF X n) ∧ ((1 ≤ r → (lookF L n).1 = 0) → (lookF X n).1 = 0 → (1 ≤ r + 1 → (lookF L n).1 = 0) ∧ (2 ≤ r + 1 → (lookF L2 n).1 = 0)) := fun r hr => by
    have hcell : ∀ r, W.cell? ⟨w.heap.size, r, none⟩ = (#[.slice a len cap, .slice a2 len2 cap2] : Array Value)[r]? := fun r => by rw [← hW, World.cell?_alloc_at _ _ _ _ rfl]
    rcases (show r = 0 ∨ r = 1 by omega) with rfl | rfl
    · exact ⟨L, a, len, cap, hcell 0, hlen, hm, hcap, hsz, (hI.mono hn).below hBW, fun _ h => by rw [← hF]; unfold moveF; rw [if_pos h], fun _ h => ⟨fun _ => h, fun h2 => by omega⟩⟩
    · exact ⟨L2, a2, len2, cap2, hcell 1, hlen2, hm2, hcap2, hsz2, (hI2.mono hn).below hBW, fun h0 h => by rw [← hF]; unfold moveF; rw [if_neg (by rw [h0 (Nat.le_refl _)]; decide), if_pos h], fun h0 h => ⟨fun _ => h0 (Nat.le_refl _), fun _ => h⟩⟩
  have HcW := Lib.hid hcW
  have HBW := Lib.hid (And.intro hBW hltW)
  have HWe := Lib.hid hW
  have HF := Lib.hid hF
  have HE := Lib.hid hE
  have HL := Lib.hid (And.intro hlen (And.intro hm (And.intro hcap (And.intro hsz (hI.mono hn)))))
  have HL2 := Lib.hid (And.intro hlen2 (And.intro hm2 (And.intro hcap2 (And.intro hsz2 (hI2.mono hn)))))
  have HK := Lib.hid (And.intro hlk (And.intro hszk (hIk.mono hn)))
  have Hf := Lib.hid (And.intro hf hg)
  obtain ⟨g0, hg0⟩ : ∃ g0, w.heap.size = g0 := ⟨_, rfl⟩
  rw [hg0] at HcW
  have Hg0 := Lib.hid hg0
  clear hcW hBW hltW hW hF hE hlen hm hcap hsz hI hlen2 hm2 hcap2 hsz2 hI2 hlk hszk hIk hf hg hg0 hn hmk
  go_enter Tryz.func16, Tryz.ntmps16
  go_wp2
  rw [HWe.out, Hg0.out]
  go_loopw [24] (fun vi wr => ∃ r : Nat, r ≤ 2 ∧ vi = .int .i64 r ∧ Hid (Below W.heap.size W wr ∧ (1 ≤ r → (lookF L n).1 = 0) ∧ (2 ≤ r → (lookF L2 n).1 = 0))) (fun i _ => 2 - (intOf i).toNat)
  case atStart => exact ⟨0, by omega, rfl, Lib.hid ⟨Below.refl _ _, fun h => by omega, fun h => by omega⟩⟩
  case round =>
    obtain ⟨r, hr, rfl, Hm⟩ := hrel
    have HBr := Lib.hid (HBW.out.1.trans (Hm.out.1.mono HBW.out.1.size))
    have hr2 : r < 2 ∨ r = 2 := by omega
    rcases hr2 with hlt | rfl
    · have hltr : (r : Int) < 2 := by omega
      obtain ⟨X, ax, lx, cx, hcell, hXl, hXm, hXc, hXs, hXt, hX1, hX2⟩ := HcW.out r hlt
      have hcell2 := (Hm.out.1.cell (p := ⟨g0, r, none⟩) (by rw [← Hg0.out]; exact HBW.out.2)).trans hcell
      have Hlk := Lib.hid (rlook_walk n g0 ax lx cx X wr E (HE.out.below HBr.out (Nat.le_refl _)) hXl hXm hXc hXs (hXt.below (Hm.out.1.mono (by rw [← Hg0.out]; exact Nat.le_of_lt HBW.out.2))) (by rw [← Hg0.out]; exact HBr.out.size))
      have HX := Lib.hid (And.intro hX1 hX2)
      clear hcell hXl hXm hXc hXs hXt hX1 hX2
      go_wp2_with fail
      refine Hlk.out.mono ?_
      rintro e w2 ⟨⟨v, rfl, hv⟩, hb2⟩
      have HB2 := Lib.hid (And.intro (HBr.out.trans (hb2.mono HBr.out.size)) (Hm.out.1.trans (hb2.mono Hm.out.1.size)))
      clear hb2 hcell2
      by_cases h0 : (lookF X n).1 = 0
      · obtain ⟨_, rfl⟩ := hv.nil h0
        have HN := Lib.hid (HX.out.2 Hm.out.2.1 h0)
        clear hv h0
        go_wp2
        go_roundw
        case rel => exact ⟨r + 1, by omega, by go_num, Lib.hid ⟨HB2.out.2, HN.out⟩⟩
        case measure => simp [intOf]; omega
      · have hFe := HX.out.1 Hm.out.2.1 h0
        have HV := Lib.hid (show FltV w2 E F v by rw [hFe]; exact hv)
        have HF1 := Lib.hid (show F.1 ≠ 0 by rw [hFe]; exact h0)
        have hvs := hv.some_ h0
        clear hv hFe h0
        rcases hvs with ⟨x, rfl⟩ | ⟨m, rfl⟩
        case' inr => unfold faultV
        all_goals
          go_wp2
          go_ret2
          refine ⟨HB2.out.1, .inl ⟨by rw [HF.out]; exact HF1.out, _, ?_, by rw [HF.out]; exact HV.out, rfl⟩⟩
          first | exact .inl ⟨_, rfl⟩ | exact .inr ⟨_, rfl⟩
    · have hL0 := Hm.out.2.1 (by omega)
      have hL20 := Hm.out.2.2 (Nat.le_refl _)
      have HL0 := Lib.hid (And.intro hL0 hL20)
      have hF3 : F = if 200 < K.length then (2, -1) else (0, -1) := by rw [← HF.out]; unfold moveF; rw [if_neg (fun h => h hL0), if_neg (fun h => h hL20)]
      rw [HK.out.1] at hF3
      clear hL0 hL20
      by_cases h200 : 200 < lk
      · have g1 : (200 : Int) < lk := by omega
        have g1d : decide (200 < lk) = true := decide_eq_true h200
        rw [if_pos h200] at hF3
        have HF3 := Lib.hid hF3
        have c1 := (HE.out.below HBr.out (Nat.le_refl _)).1.c1
        clear h200 hF3
        go_wp2
        go_quiet (fail)
        go_wp2
        go_ret2
        refine ⟨HBr.out.trans ⟨rfl, rfl, rfl, Nat.le_refl _, fun _ _ => rfl⟩, .inl ⟨by rw [HF.out, HF3.out]; exact (by decide : (2 : Nat) ≠ 0), errV (E 1), .inl ⟨_, rfl⟩, ?_, rfl⟩⟩
        rw [HF.out, HF3.out]
        exact .inr (.inl ⟨1, by decide, rfl, rfl⟩)
      · have g1 : ¬ (200 : Int) < lk := by omega
        have g1d : decide (200 < lk) = false := decide_eq_false h200
        rw [if_neg h200] at hF3
        have HF3 := Lib.hid hF3
        clear hF3
        obtain ⟨Wo, hWo⟩ : ∃ Wo : World, wr = Wo := ⟨_, rfl⟩
        rw [hWo] at HBr ⊢
        clear hWo Hm
        go_wp2
        go_loopw [13, 41] (fun vo vi wr => ∃ i : Nat, i ≤ lk ∧ vi = .int .i64 i ∧ Hid (OwnCh w.heap.size wr vo (chg f g (K.take i)) ∧ Below w.heap.size w wr)) (fun _ i _ => lk - (intOf i).toNat)
        case atStart => exact ⟨0, by omega, rfl, Lib.hid ⟨OwnCh.nil _ _, HBr.out⟩⟩
        case round =>
          obtain ⟨i, hi, rfl, Hr⟩ := hrel
          have hi2 : i < lk ∨ i = lk := by omega
          rcases hi2 with hilt | rfl
          · have hilt2 : (i : Int) < lk := by omega
            rcases HK.out.2.2.below Hr.out.2 with he | ⟨b, off, rfl, _, hcx⟩
            · exfalso
              have := HK.out.1
              rw [he] at this; simp at this; omega
            have h1 := hcx i (by have := HK.out.1; omega)
            have hnx := chg_take (f := f) (g := g) (keys := K) (i := i) (by have := HK.out.1; omega)
            have hxs := HK.out.2.1 i
            obtain ⟨x, hx⟩ : ∃ x, K[i]?.getD ⟨#[]⟩ = x := ⟨_, rfl⟩
            rw [hx] at h1 hnx hxs
            have Hnx := Lib.hid hnx
            have Hp1 := Lib.hid (prefer_walk n x w.heap.size a len cap L wr E (HE.out.below Hr.out.2 (Nat.le_refl _)) HL.out.1 HL.out.2.1 HL.out.2.2.1 HL.out.2.2.2.1 (HL.out.2.2.2.2.below Hr.out.2) Hr.out.2.size hxs)
            have Hxs := Lib.hid hxs
            clear hcx hx hnx hxs
            go_wp2_with fail
            refine Hp1.out.mono ?_
            rintro e w2 ⟨hb2, hres⟩
            rcases hres with ⟨h0, _⟩ | ⟨_, va, O1, hO1, hva, rfl⟩
            · exact absurd HL0.out.1 h0
            have H2 := Lib.hid (And.intro (Hr.out.2.trans (hb2.mono Hr.out.2.size)) (Hr.out.1.below hb2))
            have hfx := Hf.out.1 x O1 hO1
            rw [← hfx] at hva
            have hsa := SlTx.of_own (v := u13) hva (fun k hk => (Hr.out.1.lt k hk).2)
            have Hsa := Lib.hid hsa
            have Hp2 := Lib.hid (prefer_walk n x w.heap.size a2 len2 cap2 L2 w2 E (HE.out.below H2.out.1 (Nat.le_refl _)) HL2.out.1 HL2.out.2.1 HL2.out.2.2.1 HL2.out.2.2.2.1 (HL2.out.2.2.2.2.below H2.out.1) H2.out.1.size Hxs.out)
            clear hb2 hO1 hfx hva hsa Hp1
            go_wp2_with fail
            refine Hp2.out.mono ?_
            rintro e w3 ⟨hb3, hres⟩
            rcases hres with ⟨h0, _⟩ | ⟨_, vb, O2, hO2, hvb, rfl⟩
            · exact absurd HL0.out.2 h0
            have H3 := Lib.hid (And.intro (H2.out.1.trans (hb3.mono H2.out.1.size)) (H2.out.2.below hb3))
            have hgx := Hf.out.2 x O2 hO2
            rw [← hgx] at hvb
            have hsb := SlTx.of_own (v := u13) hvb (fun k hk => (H2.out.2.lt k hk).2)
            have hsa := Hsa.out.below hb3
            have Hsb := Lib.hid (And.intro hsa hsb)
            obtain ⟨aa, ca, hvae, hca, hma, hta⟩ := hsa.txs
            obtain ⟨ab, cb, hvbe, hcb, hmb, htb⟩ := hsb.txs
            have Heq := Lib.hid (fun r hr => eqt_walk w3.heap.size aa (f x).length ca (f x) ab (g x).length cb (g x) r w3 rfl rfl (Nat.le_trans hca hma) hta htb hr)
            obtain ⟨la, hla⟩ : ∃ la, (f x).length = la := ⟨_, rfl⟩
            obtain ⟨lb, hlb⟩ : ∃ lb, (g x).length = lb := ⟨_, rfl⟩
            rw [hla] at Heq hvae
            rw [hlb] at Heq hvbe
            subst hvae hvbe
            clear hb3 hO2 hgx hvb hsb hsa hta htb hca hcb Hsa Hp2 hla hlb
            by_cases hfg : f x = g x
            · have Heq2 := Lib.hid (Heq.out true (decide_eq_true hfg))
              have HR := Lib.hid (show chg f g (K.take (i + 1)) = chg f g (K.take i) by rw [Hnx.out, if_pos hfg, List.append_nil])
              clear hfg Heq
              go_wp2_with fail
              refine Heq2.out.mono ?_
              rintro e w4 ⟨rfl, hb4⟩
              have H4 := Lib.hid (And.intro (H3.out.1.trans (hb4.mono H3.out.1.size)) (H3.out.2.below hb4))
              clear hb4
              go_wp2
              go_roundw
              case rel => exact ⟨i + 1, by omega, by go_num, Lib.hid ⟨by rw [HR.out]; exact H4.out.2, H4.out.1⟩⟩
              case measure => simp [intOf]; omega
            · have Heq2 := Lib.hid (Heq.out false (decide_eq_false hfg))
              have HR := Lib.hid (show chg f g (K.take (i + 1)) = chg f g (K.take i) ++ [(x, f x, g x)] by rw [Hnx.out, if_neg hfg])
              clear hfg Heq
              go_wp2_with fail
              refine Heq2.out.mono ?_
              rintro e w4 ⟨rfl, hb4⟩
              have H4 := Lib.hid (And.intro (H3.out.1.trans (hb4.mono H3.out.1.size)) (And.intro (H3.out.2.below hb4) (And.intro (Hsb.out.1.below hb4) (Hsb.out.2.below hb4))))
              have hul : (chg f g (K.take i)).length ≤ 1000000 := by
                have h8 := chg_le f g (K.take i)
                have h9 := List.length_take_le i K
                omega
              have hszr := H4.out.1.size
              clear hb4
              go_wp2_with (at_builtin; refine append_chg 63 68 rfl rfl w.heap.size _ (chg f g (K.take i)) x _ _ (f x) (g x) rfl rfl H4.out.2.1 H4.out.2.2.1 H4.out.2.2.2 hul hszr ?_)
              intro v' w' k1 k2
              have hB5 : Below w.heap.size w w' := (H4.out.1.alloc hszr _).grown k2 (by simp; omega) (fun j e => (H4.out.2.1.lt j e).1)
              have HR2 : Hid (OwnCh w.heap.size w' v' (chg f g (K.take (i + 1))) ∧ Below w.heap.size w w') := Lib.hid ⟨by rw [HR.out]; exact k1, hB5⟩
              clear k1 k2 hB5
              go_wp2
              go_roundw
              case rel => exact ⟨i + 1, by omega, by go_num, HR2⟩
              case measure => simp [intOf]; omega
          · have hall : K.take i = K := List.take_of_length_le (by have := HK.out.1; omega)
            have HR := Lib.hid (show OwnCh w.heap.size wr u13 (chg f g K) ∧ Below w.heap.size w wr by have h := Hr.out; rw [hall] at h; exact h)
            clear hall
            go_wp2
            go_ret2
            exact ⟨HR.out.2, .inr ⟨by rw [HF.out, HF3.out], _, HR.out.1, rfl⟩⟩
end Go.Proofs.YtjgllhnecoibkaaGreatDoor
