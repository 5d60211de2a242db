/- A hold's Seal, Wipe, Trim. -/
import Derived.Test.YthdicfcgkbepdaaGreatDoorHlF
import Derived.Test.YthdicfcgkbepdaaGreatDoorVerI
import Derived.Deep.QuietTactic
import Derived.BigQuiet
import Derived.Deep.RegionHeld3
namespace Go.Proofs.YthdicfcgkbepdaaGreatDoor
section
open Go.RowKit Go.Maps

theorem HoldAt.restrict {F : Nat → Prop} {w : World} {hb : Nat} {sd : Bool} {C : ByteArray → List Ver} {ks : List ByteArray} {S : ByteArray → Value} (h : HoldAt F w hb sd C ks S) : HoldAt (fun b => F b ∧ b < w.heap.size) w hb sd C ks S :=
  ⟨⟨h.hF, h.hlt⟩, h.hlt, h.c1, h.f0, h.f1, h.map.imp id (fun ⟨bm, D, h1, h2, h3, h4, h5⟩ => ⟨bm, D, h1, ⟨h2, h4.lt⟩, h3, h4, h5⟩), h.row, fun k g e => ⟨⟨(h.rowF k g e).1, h.rowLt e⟩, (h.rowF k g e).2⟩, h.apart, h.nodup, h.mem, h.no, h.kz⟩
theorem KeptBut.set {F : Nat → Prop} {w : World} {b o : Nat} {v : Value} (hb : F b) : KeptBut F w (w.setCell ⟨b, o, none⟩ v) :=
  ⟨rfl, rfl, rfl, by simp [World.setCell], fun k _ h2 => Below.heap_setCell _ _ _ _ (fun e => h2 (by rw [e]; exact hb))⟩
/-- what a store into the hold's own two cells leaves of its map and its rows. -/
theorem HoldAt.rows_set {F : Nat → Prop} {w : World} {hb : Nat} {sd : Bool} {C : ByteArray → List Ver} {ks : List ByteArray} {S : ByteArray → Value} (h : HoldAt F w hb sd C ks S) (o : Nat) (v : Value) (k : ByteArray) : OwnV 0 (w.setCell ⟨hb, o, none⟩ v) (S k) (C k) :=
  (h.row k).heap (fun g hg => Below.heap_setCell _ _ _ _ (fun e => (h.rowF k g hg).2 e))
theorem HoldAt.seal_ {F : Nat → Prop} {w : World} {hb : Nat} {sd : Bool} {C : ByteArray → List Ver} {ks : List ByteArray} {S : ByteArray → Value} (h : HoldAt F w hb sd C ks S) (b : Bool) :
    HoldAt F (w.setCell ⟨hb, 1, none⟩ (.bool b)) hb b C ks S := by
  have c0 : ∀ m, w.cell? ⟨hb, 0, none⟩ = some m → (w.setCell ⟨hb, 1, none⟩ (.bool b)).cell? ⟨hb, 0, none⟩ = some m := fun m hm => by rw [World.cell?_setCell_other _ _ _ _ (by simp)]; exact hm
  refine ⟨h.hF, by simpa [World.setCell] using h.hlt, World.cell?_setCell_same _ _ _ h.c1, by rw [World.frozen?_setCell]; exact h.f0, by rw [World.frozen?_setCell]; exact h.f1, ?_, h.rows_set 1 _, h.rowF, h.apart, h.nodup, h.mem, h.no, h.kz⟩
  rcases h.map with ⟨h1, h2⟩ | ⟨bm, D, h1, h2, h3, h4, h5⟩
  · exact .inl ⟨c0 _ h1, h2⟩
  · refine .inr ⟨bm, D, c0 _ h1, h2, h3, ?_, h5⟩
    exact h4.setCell (Ne.symm (a := hb) (b := bm) (fun e => h3 e.symm)) _
theorem HoldAt.wiped {F : Nat → Prop} {w : World} {hb : Nat} {sd : Bool} {C : ByteArray → List Ver} {ks : List ByteArray} {S : ByteArray → Value} (h : HoldAt F w hb sd C ks S) :
    HoldAt F ((w.setCell ⟨hb, 0, none⟩ (.map none)).setCell ⟨hb, 1, none⟩ (.bool false)) hb false (fun _ => []) [] (fun _ => .slice none 0 0) := by
  have hm : ∃ m, w.cell? ⟨hb, 0, none⟩ = some m := by
    rcases h.map with ⟨h1, _⟩ | ⟨bm, D, h1, _⟩ <;> exact ⟨_, h1⟩
  obtain ⟨m, hm⟩ := hm
  have c1 : (w.setCell ⟨hb, 0, none⟩ (.map none)).cell? ⟨hb, 1, none⟩ = some (.bool sd) := by rw [World.cell?_setCell_other _ _ _ _ (by simp)]; exact h.c1
  refine HoldAt.empty h.hF ?_ (World.cell?_setCell_same _ _ _ c1) ?_ ?_
  · rw [World.cell?_setCell_other _ _ _ _ (by simp)]; exact World.cell?_setCell_same _ _ _ hm
  · rw [World.frozen?_setCell, World.frozen?_setCell]; exact h.f0
  · rw [World.frozen?_setCell, World.frozen?_setCell]; exact h.f1
set_option maxHeartbeats 1000000 in
theorem hseal_walk (F : Nat → Prop) (w : World) (hb : Nat) (sd : Bool) (C : ByteArray → List Ver) (ks : List ByteArray) (S : ByteArray → Value) (h : HoldAt F w hb sd C ks S) :
    Calls Tryz.prog 34 #[.pointer (some ⟨hb, 0, none⟩)] w fun e w' => e = .returned (.tuple #[]) ∧ HoldAt F w' hb true C ks S ∧ KeptBut F w w' := by
  have c1 := h.c1
  have f1 := h.f1
  have hc0 : ∃ m, w.cell? ⟨hb, 0, none⟩ = some m := by
    rcases h.map with ⟨h1, _⟩ | ⟨bm, D, h1, _⟩ <;> exact ⟨_, h1⟩
  obtain ⟨m, c0⟩ := hc0
  have HH := Lib.hid h
  clear h
  go_enter Tryz.func34, Tryz.ntmps34
  go_wp2
  go_end0
  exact ⟨rfl, HH.out.seal_ true, KeptBut.set HH.out.hF⟩
set_option maxHeartbeats 1000000 in
theorem hwipe_walk (F : Nat → Prop) (w : World) (hb : Nat) (sd : Bool) (C : ByteArray → List Ver) (ks : List ByteArray) (S : ByteArray → Value) (h : HoldAt F w hb sd C ks S) :
    Calls Tryz.prog 35 #[.pointer (some ⟨hb, 0, none⟩)] w fun e w' => e = .returned (.tuple #[]) ∧ HoldAt F w' hb false (fun _ => []) [] (fun _ => .slice none 0 0) ∧ KeptBut F w w' := by
  have c1 := h.c1
  have f1 := h.f1
  have f0 := h.f0
  have hc0 : ∃ m, w.cell? ⟨hb, 0, none⟩ = some m := by
    rcases h.map with ⟨h1, _⟩ | ⟨bm, D, h1, _⟩ <;> exact ⟨_, h1⟩
  obtain ⟨m, c0⟩ := hc0
  have HH := Lib.hid h
  clear h
  go_enter Tryz.func35, Tryz.ntmps35
  go_wp2
  go_end0
  exact ⟨rfl, HH.out.wiped, (KeptBut.set HH.out.hF).trans (KeptBut.set HH.out.hF)⟩
/-- keys but one. -/
def dropK (ks : List ByteArray) (key : ByteArray) : List ByteArray := ks.filter fun k => decide (k ≠ key)
theorem mem_dropK {ks : List ByteArray} {key k : ByteArray} : k ∈ dropK ks key ↔ k ∈ ks ∧ k ≠ key := by
  unfold dropK; rw [List.mem_filter, decide_eq_true_eq]
theorem dropK_length : ∀ {ks : List ByteArray} {key : ByteArray}, ks.Nodup → (dropK ks key).length + (if key ∈ ks then 1 else 0) = ks.length
  | [], _, _ => by simp [dropK]
  | x :: r, key, h => by
    obtain ⟨h1, h2⟩ := List.nodup_cons.1 h
    have ih := dropK_length (key := key) h2
    by_cases e : x = key
    · subst e
      have e1 : dropK (x :: r) x = dropK r x := by unfold dropK; rw [List.filter_cons, if_neg (by simp)]
      rw [if_neg h1] at ih
      rw [e1, if_pos (List.mem_cons_self ..), List.length_cons]
      omega
    · have e1 : dropK (x :: r) key = x :: dropK r key := by unfold dropK; rw [List.filter_cons, if_pos (by simpa using e)]
      rw [e1, List.length_cons, List.length_cons]
      by_cases hm : key ∈ r
      · rw [if_pos hm] at ih
        rw [if_pos (List.mem_cons_of_mem _ hm)]
        omega
      · rw [if_neg hm] at ih
        rw [if_neg (by
          intro h9
          rcases List.mem_cons.1 h9 with h9 | h9
          · exact e h9.symm
          · exact hm h9)]
        omega
theorem HoldAt.del {F : Nat → Prop} {w w3 : World} {hb : Nat} {sd : Bool} {C : ByteArray → List Ver} {ks : List ByteArray} {S : ByteArray → Value} {bm : Nat} {D : DataW Value} {key : ByteArray}
    (h : HoldAt F w hb sd C ks S) (hm : MapAt F w hb ks S bm D) (hown : w3.ownsMap Tryz.prog 9 Rv bm ks.length (D.del (litS key))) (hg3 : w.grownBy w3 (some bm)) :
    HoldAt F w3 hb sd (updC C key []) (dropK ks key) (updS S key (.slice none 0 0)) ∧ KeptBut F w w3 := by
  obtain ⟨m0, mF, mne, mo, mat, mhas, mrow, msz⟩ := hm
  have hk3 : KeptBut F w w3 := KeptBut.of_grown hg3 (fun k hk => by cases hk; exact mF)
  have heap : ∀ k, k < w.heap.size → k ≠ bm → w3.heap[k]? = w.heap[k]? := fun k hk hne => hg3.block k hk (fun e => hne (Option.some.inj e))
  have hhb : w3.heap[hb]? = w.heap[hb]? := heap hb h.hlt (fun e => mne e.symm)
  have ec : ∀ j, w3.cell? ⟨hb, j, none⟩ = w.cell? ⟨hb, j, none⟩ := fun j => World.cell?_of_block (a := ⟨hb, j, none⟩) hhb
  have ef : ∀ j, w3.frozen? ⟨hb, j, none⟩ = w.frozen? ⟨hb, j, none⟩ := fun j => World.frozen?_of_block (a := ⟨hb, j, none⟩) hhb
  have hS : ∀ k g, (updS S key (.slice none 0 0) k).ownBlock = some g → k ≠ key ∧ (S k).ownBlock = some g := fun k g hg => by
    unfold updS at hg
    split at hg
    · cases hg
    · exact ⟨by assumption, hg⟩
  have hsz := size_del (k := litS key) (mo.tidy keyedS)
  rw [mhas key, msz] at hsz
  have hdl := dropK_length (key := key) h.nodup
  have hsz2 : Maps.size (D.del (litS key)) = (dropK ks key).length := by
    by_cases e : key ∈ ks
    · simp [e] at hsz hdl; omega
    · simp [e] at hsz hdl; omega
  refine ⟨⟨h.hF, Nat.lt_of_lt_of_le h.hlt hk3.size, (ec 1).trans h.c1, (ef 0).trans h.f0, (ef 1).trans h.f1, .inr ⟨bm, D.del (litS key), (ec 0).trans m0, mF, mne, ?_, ?_, ?_, fun k g hg => mrow k g (hS k g hg).2, hsz2⟩, ?_, fun k g hg => h.rowF k g (hS k g hg).2, ?_, ?_, ?_, ?_, ?_⟩, hk3⟩
  · have h1 := ownsMap_tight hown
    rw [hsz2] at h1
    exact h1
  · intro k
    unfold updS
    by_cases e : k = key
    · rw [if_pos e, e, atKey_del_same]
    · rw [if_neg e, atKey_del_other (fun e2 => e (litS_inj e2)), mat k]
  · intro k
    by_cases e : k = key
    · rw [e, has_del_same]
      exact (decide_eq_false (fun h9 => (mem_dropK.1 h9).2 rfl)).symm
    · rw [has_del_other (fun e2 => e (litS_inj e2)), mhas k, decide_eq_decide, mem_dropK]
      exact ⟨fun h9 => ⟨h9, e⟩, fun h9 => h9.1⟩
  · intro k
    unfold updS updC
    by_cases e : k = key
    · rw [if_pos e, if_pos e]; exact OwnV.nil _ _
    · rw [if_neg e, if_neg e]
      exact (h.row k).heap (fun g hg => heap g (h.rowLt hg) (mrow k g hg))
  · intro k k' g hkk hg hg'
    exact h.apart k k' g hkk (hS k g hg).2 (hS k' g hg').2
  · exact h.nodup.filter _
  · intro k
    rw [mem_dropK]
    unfold updC
    by_cases e : k = key
    · rw [if_pos e]; exact ⟨fun h9 => absurd e h9.2, fun h9 => absurd rfl h9⟩
    · rw [if_neg e, ← h.mem k]; exact ⟨fun h9 => h9.1, fun h9 => ⟨h9, e⟩⟩
  · intro k hk
    unfold updS
    by_cases e : k = key
    · rw [if_pos e]
    · rw [if_neg e]
      exact h.no k (fun h9 => hk (mem_dropK.2 ⟨h9, e⟩))
  · intro k hk
    exact h.kz k (mem_dropK.1 hk).1
/-- how many go, and what is left. -/
def goneN (n : Nat) (keep : Int) : Nat := ((n : Int) - keep).toNat
def TrimPost (F : Nat → Prop) (w w' : World) (E : Nat → Addr) (hb : Nat) (sd : Bool) (C : ByteArray → List Ver) (ks : List ByteArray) (S : ByteArray → Value) (key : ByteArray) (keep : Int) (e : Ending) : Prop :=
  KeptBut F w w' ∧
  ((keep < 0 ∧ e = .returned (.tuple #[.int .i64 0, errV (E 1)]) ∧ HoldAt F w' hb sd C ks S) ∨
   (0 ≤ keep ∧ e = .returned (.tuple #[.int .i64 (goneN (C key).length keep : Nat), .nilIface]) ∧ ∃ ks' S', HoldAt (fun b => F b ∨ w.heap.size ≤ b) w' hb sd (updC C key ((C key).drop (goneN (C key).length keep))) ks' S'))
theorem updC_same (C : ByteArray → List Ver) (key : ByteArray) {L : List Ver} (h : C key = L) : updC C key L = C := by
  funext k
  unfold updC
  split
  · rename_i e; rw [e, h]
  · rfl
theorem VrR.from {n₀ : Nat} {w : World} {b off : Nat} {M : List Ver} (h : ∀ i j, i < M.length → j < 5 → w.cell? ⟨b, off + i * 5 + j, none⟩ = (encVr (M[i]?.getD ver0))[j]?) (hb : b < n₀) (g : Nat) : VrR n₀ w (some ⟨b, off + g * 5, none⟩) (M.drop g) := by
  refine .inr ⟨b, off + g * 5, rfl, hb, fun i j hi hj => ?_⟩
  rw [List.length_drop] at hi
  have h1 := h (g + i) j (by omega) hj
  rw [List.getElem?_drop, ← h1]
  congr 2
  omega
/-- a row is cut ahead and put back. -/
theorem trim_keep {F : Nat → Prop} {w : World} {hb : Nat} {sd : Bool} {C : ByteArray → List Ver} {ks : List ByteArray} {S : ByteArray → Value} {bm : Nat} {D : DataW Value} {key : ByteArray} {M : List Ver} (h : HoldAt F w hb sd C ks S) (hm : MapAt F w hb ks S bm D) (hk : key.size ≤ maxLen) (hkl : ks.length ≤ 1000) (hM : M ≠ [])
    (w7 : World) (v' : Value) (hb7 : Below w.heap.size w w7) (hv7 : OwnV w.heap.size w7 v' M) :
    ∃ w8, (Instr.mapUpdate 36 (.map (some bm)) (.string key) v').run Tryz.prog w7 = .ok () w8 ∧ w7.cell? ⟨hb, 0, none⟩ = some (.map (some bm)) ∧ w8.cell? ⟨hb, 0, none⟩ = some (.map (some bm)) ∧
      Hid (KeptBut F w w8 ∧ ∃ ks' S', HoldAt (fun b => F b ∨ w.heap.size ≤ b) w8 hb sd (updC C key M) ks' S') := by
  have hown7 := hm.2.2.2.1.kept (row := none) ⟨hb7.os, hb7.tape, hb7.output, hb7.size, fun k hk _ => hb7.block k hk⟩ (by simp)
  obtain ⟨w8, hrun, hown8, hg8⟩ := hown7.update keyedS Tryz.underlying36 (by unfold maxLen; omega) (keyS hk) (d := .held v') (ps := []) rfl
  obtain ⟨hp1, hp2⟩ := HoldAt.put h hm (w2 := w7) ⟨hb7.os, hb7.tape, hb7.output, hb7.size, fun k hk _ => hb7.block k hk⟩ (hv7.lower (Nat.zero_le _)) hM (by
    cases e : v'.ownBlock with
    | none =>
      exfalso
      rcases hv7.2 with ⟨_, h0⟩ | ⟨g, cap, cur, rfl, _⟩
      · exact hM (List.length_eq_zero_iff.1 h0)
      · cases e
    | some g => exact .inr ⟨g, rfl, (hv7.lt g e).1⟩) hown8 hg8 hk
  have hm7 := (hb7.cell (p := ⟨hb, 0, none⟩) h.hlt).trans hm.1
  exact ⟨w8, hrun, hm7, hg8.cell hm7 (fun e => hm.2.2.1 (Option.some.inj e).symm), Lib.hid ⟨hp2, _, _, hp1⟩⟩
set_option maxRecDepth 100000 in
set_option maxHeartbeats 4000000 in
theorem htrim_walk (F : Nat → Prop) (w : World) (hb : Nat) (sd : Bool) (C : ByteArray → List Ver) (ks : List ByteArray) (S : ByteArray → Value) (key : ByteArray) (keep : Int) (E : Nat → Addr) (h : HoldAt F w hb sd C ks S) (hE : w.cell? ⟨3, 0, none⟩ = some (errV (E 1)))
    (hk : key.size ≤ maxLen) (hl : (C key).length ≤ 1000) (hkl : ks.length ≤ 1000) (hw : keep ≤ 9223372036854775807) :
    Calls Tryz.prog 32 #[.pointer (some ⟨hb, 0, none⟩), .string key, .int .i64 keep] w fun e w' => TrimPost F w w' E hb sd C ks S key keep e := by
  have HH := Lib.hid h
  by_cases hneg : keep < 0
  · clear h hk hl hkl
    go_enter Tryz.func32, Tryz.ntmps32
    go_wp2
    go_quiet (fail)
    go_wp2
    go_ret2
    have hB : Below w.heap.size w (w.drewN nq) := ⟨rfl, rfl, rfl, Nat.le_refl _, fun _ _ => rfl⟩
    exact ⟨KeptBut.of_below (F := F) hB (fun k h1 h2 => by omega), .inl ⟨hneg, rfl, HH.out.below hB (Nat.le_refl _)⟩⟩
  · have h0 : 0 ≤ keep := by omega
    have H0 := Lib.hid h0
    obtain ⟨K, rfl⟩ := Int.eq_ofNat_of_zero_le h0
    have hK9 : K ≤ 9223372036854775807 := by omega
    obtain ⟨m, c0, hr⟩ := h.look hk
    obtain ⟨ad, cap, hv, hcap, hcm, ha, hI⟩ := (h.row key).read
    obtain ⟨n, hn⟩ : ∃ n, (C key).length = n := ⟨_, rfl⟩
    rw [hn] at hl hcap hv
    rw [hv] at hr
    have hgone : goneN (C key).length (K : Int) = n - K := by unfold goneN; rw [hn]; omega
    have Hg := Lib.hid (And.intro hgone (And.intro hn (And.intro hv (And.intro ha hI))))
    have hcm9 : cap ≤ 9223372036854775807 := hcm
    have Hk := Lib.hid (And.intro hk hkl)
    clear hneg h0 hv ha hI hgone hn hk hkl hw hE hcm
    have hmap : (m = none ∧ n = 0) ∨ ∃ bm D, m = some bm ∧ MapAt F w hb ks S bm D := by
      rcases h.map with ⟨h1, h2⟩ | ⟨bm, D, hM⟩
      · left
        rw [c0] at h1
        refine ⟨by simpa using h1, ?_⟩
        have h3 : ¬ C key ≠ [] := fun e => by have := (h.mem key).2 e; rw [h2] at this; cases this
        have h4 : C key = [] := Classical.byContradiction h3
        rw [← Hg.out.2.1, h4]; rfl
      · right
        have h1 := hM.1
        rw [c0] at h1
        exact ⟨bm, D, by simpa using h1, hM⟩
    clear h
    have hdel : ∀ bm D, m = some bm → MapAt F w hb ks S bm D → (n = 0 ∨ K = 0) → ∃ w3, (Builtin.delete_ #[36, 9] 0 #[.map (some bm), .string key]).run Tryz.prog w = .ok (.tuple #[]) w3 ∧ Hid (KeptBut F w w3 ∧ ∃ ks' S', HoldAt (fun b => F b ∨ w.heap.size ≤ b) w3 hb sd (updC C key ((C key).drop (goneN (C key).length (K : Int)))) ks' S') := fun bm D _ hM hnk => by
      obtain ⟨w3, hrun, hown, ht⟩ := hM.2.2.2.1.drop keyedS Tryz.underlying36 (keyS Hk.out.1) 0
      obtain ⟨h1, h2⟩ := HoldAt.del HH.out hM hown ht.grown
      have e : (C key).drop (goneN (C key).length (K : Int)) = [] := by
        rw [Hg.out.1]
        apply List.drop_of_length_le
        have := Hg.out.2.1
        omega
      rw [e]
      exact ⟨w3, hrun, Lib.hid ⟨h2, _, _, h1.mono (fun b hb => .inl hb)⟩⟩
    rcases (show n = 0 ∨ (0 < n ∧ K = 0) ∨ (0 < n ∧ n ≤ K) ∨ (0 < n ∧ 0 < K ∧ K < n) by omega) with rfl | ⟨hn0, rfl⟩ | ⟨hn0, hnK⟩ | ⟨hn0, hK0, hKn⟩
    · have hneg : ((0 : Nat) : Int) - K ≤ 0 := by omega
      have hneg2 : ¬ (0 : Int) < ((0 : Nat) : Int) - K := by omega
      rcases hmap with ⟨rfl, _⟩ | ⟨bm, D, rfl, hM⟩
      · have hdn := Maps.drop_nil (P := Tryz.prog) (w := w) keyedS Tryz.underlying36 (keyS Hk.out.1) 0
        clear hdel
        go_enter Tryz.func32, Tryz.ntmps32
        go_wp2
        go_ret2
        have e0 : C key = [] := List.length_eq_zero_iff.1 Hg.out.2.1
        refine ⟨KeptBut.refl _ _, .inr ⟨H0.out, ?_, ks, S, ?_⟩⟩
        · rw [Hg.out.1]; simp
        · rw [updC_same C key (by rw [e0]; simp)]
          exact HH.out.mono (fun b hb => .inl hb)
      · obtain ⟨w3, hrun, HF⟩ := hdel bm D rfl hM (.inl rfl)
        clear hdel hM
        go_enter Tryz.func32, Tryz.ntmps32
        go_wp2
        go_ret2
        refine ⟨HF.out.1, .inr ⟨H0.out, ?_, HF.out.2⟩⟩
        rw [Hg.out.1]; simp
    · rcases hmap with ⟨_, h0⟩ | ⟨bm, D, rfl, hM⟩
      · omega
      obtain ⟨w3, hrun, HF⟩ := hdel bm D rfl hM (.inr rfl)
      have hpos : (0 : Int) ≤ n := by omega
      have e1 : ((n : Int) == n) = true := by simp
      clear hdel hM
      go_enter Tryz.func32, Tryz.ntmps32
      go_wp2
      go_ret2
      refine ⟨HF.out.1, .inr ⟨H0.out, ?_, HF.out.2⟩⟩
      rw [Hg.out.1]; simp
    · rcases hmap with ⟨_, h0⟩ | ⟨bm, D, rfl, hM⟩
      · omega
      have hle : (n : Int) - K ≤ 0 := by omega
      have e1 : ((0 : Int) == n) = false := beq_eq_false_iff_ne.2 (by omega)
      have e2 : (0 == n) = false := beq_eq_false_iff_ne.2 (by omega)
      have hgq : goneN (C key).length (K : Int) = 0 := by rw [Hg.out.1]; omega
      have hMd : (C key).drop 0 ≠ [] := fun e => by
        have h1 := congrArg List.length e
        rw [List.length_drop, Hg.out.2.1] at h1
        simp at h1; omega
      have hkeep := fun w7 v' h1 h2 => trim_keep (key := key) HH.out hM Hk.out.1 Hk.out.2 hMd w7 v' h1 h2
      have Hkeep := Lib.hid hkeep
      have Hgq := Lib.hid hgq
      rcases Hg.out.2.2.2.2 with he | ⟨b, off, rfl, hbl, hcx⟩
      · exfalso
        have h1 := Hg.out.2.1
        rw [he] at h1; simp at h1; omega
      have hVr := VrR.from hcx hbl 0
      have hB : Below w.heap.size w w.drew := (Below.refl _ w).drew
      have Hcl := Lib.hid (vclone_walk w.heap.size (some ⟨b, off, none⟩) n cap ((C key).drop 0) w.drew (by rw [List.length_drop, Hg.out.2.1]; rfl) (by omega) (by omega) (fun e => by cases e) ((show VrR w.heap.size w (some ⟨b, off, none⟩) ((C key).drop 0) from by simpa using hVr).below hB) (Nat.le_refl _))
      have c0d : w.drew.cell? ⟨hb, 0, none⟩ = some (.map (some bm)) := c0
      clear hkeep hMd hgq hM hbl hcx hVr hdel hB
      go_enter Tryz.func32, Tryz.ntmps32
      go_wp2
      go_region_held3 (fun W => W.cell? ⟨hb, 0, none⟩ = some (.map (some bm)))
        (first | exact c0 | exact c0d | exact e7 | exact e8)
        (first | (go_at_call 46; refine Hcl.out.mono ?_; rintro e w7 ⟨hb7, v', rfl, hv7⟩; obtain ⟨w8, hrun8, e7, e8, HF⟩ := Hkeep.out w7 v' (((Below.refl w.heap.size w).drew).trans hb7) hv7; clear hb7 hv7))
      all_goals
        go_wp2
        go_ret2
        refine ⟨HF.out.1, .inr ⟨H0.out, by rw [Hgq.out]; rfl, ?_⟩⟩
        rw [Hgq.out]
        exact HF.out.2
    · rcases hmap with ⟨_, h0⟩ | ⟨bm, D, rfl, hM⟩
      · omega
      obtain ⟨q, hq⟩ : ∃ q, n - K = q := ⟨_, rfl⟩
      have hqi : (n : Int) - K = q := by omega
      have hq0 : 0 < q := by omega
      have hqn : q < n := by omega
      have hle : (0 : Int) ≤ (n : Int) - K := by omega
      have e1 : ((q : Int) == n) = false := beq_eq_false_iff_ne.2 (by omega)
      have e2 : (q == n) = false := beq_eq_false_iff_ne.2 (by omega)
      have hqc : ¬ cap = q := by omega
      have hqn2 : (q : Int) ≤ n := by omega
      have hgq : goneN (C key).length (K : Int) = q := by rw [Hg.out.1]; omega
      have hMd : (C key).drop q ≠ [] := fun e => by
        have h1 := congrArg List.length e
        rw [List.length_drop, Hg.out.2.1] at h1
        simp at h1; omega
      have hkeep := fun w7 v' h1 h2 => trim_keep (key := key) HH.out hM Hk.out.1 Hk.out.2 hMd w7 v' h1 h2
      have Hkeep := Lib.hid hkeep
      have Hgq := Lib.hid hgq
      rcases Hg.out.2.2.2.2 with he | ⟨b, off, rfl, hbl, hcx⟩
      · exfalso
        have h1 := Hg.out.2.1
        rw [he] at h1; simp at h1; omega
      have hVr := VrR.from hcx hbl q
      have hB : Below w.heap.size w w.drew := (Below.refl _ w).drew
      have Hcl := Lib.hid (vclone_walk w.heap.size (some ⟨b, off + q * 5, none⟩) (n - q) (cap - q) ((C key).drop q) w.drew (by rw [List.length_drop, Hg.out.2.1]) (by omega) (by omega) (fun e => by cases e) (hVr.below hB) (Nat.le_refl _))
      have c0d : w.drew.cell? ⟨hb, 0, none⟩ = some (.map (some bm)) := c0
      clear hkeep hMd hgq hM hbl hcx hVr hdel hB
      go_enter Tryz.func32, Tryz.ntmps32
      go_wp2
      go_region_held3 (fun W => W.cell? ⟨hb, 0, none⟩ = some (.map (some bm)))
        (first | exact c0 | exact c0d | exact e7 | exact e8)
        (first | (go_at_call 46; refine Hcl.out.mono ?_; rintro e w7 ⟨hb7, v', rfl, hv7⟩; obtain ⟨w8, hrun8, e7, e8, HF⟩ := Hkeep.out w7 v' (((Below.refl w.heap.size w).drew).trans hb7) hv7; clear hb7 hv7))
      all_goals
        go_wp2
        go_ret2
        refine ⟨HF.out.1, .inr ⟨H0.out, by rw [Hgq.out]; rfl, ?_⟩⟩
        rw [Hgq.out]
        exact HF.out.2
end
end Go.Proofs.YthdicfcgkbepdaaGreatDoor
