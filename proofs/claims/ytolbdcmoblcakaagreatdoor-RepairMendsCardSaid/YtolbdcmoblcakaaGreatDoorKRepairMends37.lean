/- The walks of shardkeeplaw2's enough, longConfig, OwnConfig. -/
import Derived.Test.YtolbdcmoblcakaaGreatDoorKRepairMends23
import Derived.Test.YtolbdcmoblcakaaGreatDoorKRepairMends36
import Derived.Test.YtolbdcmoblcakaaGreatDoorKRepairMends08
import Derived.Test.YtolbdcmoblcakaaGreatDoorKRepairMends34
import Derived.Test.YtolbdcmoblcakaaGreatDoorKRepairMends05
import Derived.Test.YtolbdcmoblcakaaGreatDoorKRepairMends06
import Derived.Test.YtolbdcmoblcakaaGreatDoorKRepairMends35
namespace Go.Proofs.YtolbdcmoblcakaaGreatDoor
open Go.RowKit

theorem nameA : nameB ⟨#[97]⟩ = true := by decide +kernel
theorem configA : configF 1 1 [⟨#[97]⟩] = (0, -1) := by decide +kernel
/-- is a configuration too long for a statement? -/
def longC (L : List ByteArray) : Bool := decide (30 < L.length) || L.any fun s => decide (60 < s.size)
theorem longC_no {L : List ByteArray} (h : longC L = false) : L.length ≤ 30 ∧ ∀ s ∈ L, s.size ≤ 60 := by
  unfold longC at h
  rw [Bool.or_eq_false_iff, decide_eq_false_iff_not, List.any_eq_false] at h
  exact ⟨by omega, fun s hs => by have := h.2 s hs; simp at this; omega⟩
theorem grown_setCell (w : World) (p : Addr) (u : Value) : w.grownBy (w.setCell p u) (some p.block) :=
  ⟨rfl, rfl, rfl, by simp [World.setCell], fun i _ hne => Below.heap_setCell w p u i (fun e => hne (by rw [e]))⟩
theorem Own1.setCell {E : TypeId} {B : Nat} {w : World} {v : Value} {us : List Value} (h : Own1 E B w v us) (p : Addr) (u : Value) (hne : v.ownBlock ≠ some p.block) : Own1 E B (w.setCell p u) v us :=
  h.kept (grown_setCell w p u) (by cases e : v.ownBlock with | none => exact .inl rfl | some k => exact .inr (by rw [← e]; exact hne))
set_option maxRecDepth 100000 in
set_option maxHeartbeats 2000000 in
theorem ownc_walk (n k : Int) (n₀ : Nat) (a : Option Addr) (len cap : Nat) (L : List ByteArray) (w : World) (hlen : L.length = len) (hl : len ≤ 1000) (ha : a = none → cap = 0) (hI : TxsAt n₀ w a L) (hn : n₀ ≤ w.heap.size) :
    Calls Tryz.prog 10 #[cfgV n k (.slice a len cap)] w fun e w' => (∃ v, e = .returned (cfgV n k v) ∧ OwnT w.heap.size w' v L) ∧ Below w.heap.size w w' := by
  have hB0 : Below w.heap.size w ((w.alloc (.cells #[.int .i64 n, .int .i64 k, .slice a len cap] 24)).alloc (.cells #[.int .i64 0, .int .i64 0, .slice none 0 0] 24)) := ((Below.refl _ w).alloc (Nat.le_refl _) _).alloc (by simp) _
  have hc : ∀ j, ((w.alloc (.cells #[.int .i64 n, .int .i64 k, .slice a len cap] 24)).alloc (.cells #[.int .i64 0, .int .i64 0, .slice none 0 0] 24)).cell? ⟨w.heap.size, j, none⟩ = (#[.int .i64 n, .int .i64 k, .slice a len cap] : Array Value)[j]? := fun j => by
    rw [World.cell?_alloc_lt _ _ _ (by simp), World.cell?_alloc_at _ _ _ _ rfl]
  have hr : ∀ j, ((w.alloc (.cells #[.int .i64 n, .int .i64 k, .slice a len cap] 24)).alloc (.cells #[.int .i64 0, .int .i64 0, .slice none 0 0] 24)).cell? ⟨w.heap.size + 1, j, none⟩ = (#[.int .i64 0, .int .i64 0, .slice none 0 0] : Array Value)[j]? := fun j => by
    rw [World.cell?_alloc_at _ _ _ _ (by simp)]
  have hf : ∀ b j, b = w.heap.size ∨ b = w.heap.size + 1 → ((w.alloc (.cells #[.int .i64 n, .int .i64 k, .slice a len cap] 24)).alloc (.cells #[.int .i64 0, .int .i64 0, .slice none 0 0] 24)).frozen? ⟨b, j, none⟩ = false := fun b j hb => by
    rcases hb with rfl | rfl <;> simp
  have hzs : ((w.alloc (.cells #[.int .i64 n, .int .i64 k, .slice a len cap] 24)).alloc (.cells #[.int .i64 0, .int .i64 0, .slice none 0 0] 24)).heap.size = w.heap.size + 2 := by simp
  have hI0 := (hI.mono hn).below hB0
  obtain ⟨W, hW⟩ : ∃ W, (w.alloc (.cells #[.int .i64 n, .int .i64 k, .slice a len cap] 24)).alloc (.cells #[.int .i64 0, .int .i64 0, .slice none 0 0] 24) = W := ⟨_, rfl⟩
  rw [hW] at hB0 hc hr hf hzs hI0
  have HW := Lib.hid hW
  have HF := Lib.hid (And.intro hB0 (And.intro hc (And.intro hr (And.intro hf hzs))))
  have hul : ([] : List ByteArray).length + L.length ≤ 1000000 := by simp; omega
  have Hlen := Lib.hid (And.intro hlen hul)
  have Hha := Lib.hid ha
  have HI := Lib.hid hI0
  clear hB0 hc hr hf hzs hI hI0 hW ha hlen hul
  go_enter Tryz.func10, Tryz.ntmps10
  go_wp2_with (at_builtin; refine append_txts 4 6 rfl rfl w.heap.size (.slice none 0 0) [] w.heap.size a len cap L rfl rfl (OwnT.nil _ _) Hlen.out.1 Hlen.out.2 Hha.out (by rw [HW.out]; exact HI.out) (by rw [HW.out]; exact HF.out.1.size) ?_)
  rw [HW.out]
  intro v' w' k1 k2 k3
  obtain ⟨a', cap', hve, hcp, hmx, _, _⟩ := k1.read
  obtain ⟨hB0, hc, hr, hf, hzs⟩ := HF.out
  have kc : ∀ b j, b < W.heap.size → w'.cell? ⟨b, j, none⟩ = W.cell? ⟨b, j, none⟩ := fun b j hb => World.cell?_of_block (k2.block b hb (by simp [Value.ownBlock]))
  have kf : ∀ b j, b < W.heap.size → w'.frozen? ⟨b, j, none⟩ = W.frozen? ⟨b, j, none⟩ := fun b j hb => World.frozen?_of_block (k2.block b hb (by simp [Value.ownBlock]))
  have c0 := (kc w.heap.size 0 (by omega)).trans (hc 0)
  have c1 := (kc w.heap.size 1 (by omega)).trans (hc 1)
  have c2 := (kc w.heap.size 2 (by omega)).trans (hc 2)
  have f2 := (kf w.heap.size 2 (by omega)).trans (hf _ 2 (.inl rfl))
  have r0 := (kc (w.heap.size + 1) 0 (by omega)).trans (hr 0)
  have r1 := (kc (w.heap.size + 1) 1 (by omega)).trans (hr 1)
  have r2 := (kc (w.heap.size + 1) 2 (by omega)).trans (hr 2)
  have q0 := (kf (w.heap.size + 1) 0 (by omega)).trans (hf _ 0 (.inr rfl))
  have q1 := (kf (w.heap.size + 1) 1 (by omega)).trans (hf _ 1 (.inr rfl))
  have q2 := (kf (w.heap.size + 1) 2 (by omega)).trans (hf _ 2 (.inr rfl))
  simp at c0 c1 c2 r0 r1 r2
  have hB1 : Below w.heap.size w w' := hB0.grown k2 hB0.size (fun j e => by simp [Value.ownBlock] at e)
  have hnb : ∀ p : Addr, p.block < w.heap.size + 2 → v'.ownBlock ≠ some p.block := fun p hp e => by
    rcases k3 with h | h
    · rw [h] at e; simp [Value.ownBlock] at e
    · rw [h] at e
      have := Option.some.inj e
      omega
  have hK := Lib.hid (And.intro k1 (And.intro hB1 hnb))
  rw [hve]
  have HV := Lib.hid hve
  clear k1 k2 k3 hB1 hnb hve kc kf hB0 hc hr hf hzs
  go_wp2
  refine bodyPost_ret (v := cfgV n k (.slice a' L.length cap')) (by simp [results, Tryz.results10, r0, r1, r2, go_sem]) rfl ⟨⟨.slice a' L.length cap', rfl, ?_⟩, ?_⟩
  · have h1 := hK.out.1
    rw [HV.out] at h1
    have hn := hK.out.2.2
    rw [HV.out] at hn
    refine Own1.setCell (Own1.setCell (Own1.setCell (Own1.setCell h1 _ _ (hn _ ?_)) _ _ (hn _ ?_)) _ _ (hn _ ?_)) _ _ (hn _ ?_) <;> (simp only; omega)
  · exact (((hK.out.2.1.setCell (by simp only; omega) _).setCell (by simp only; omega) _).setCell (by simp only; omega) _).setCell (by simp only; omega) _
end Go.Proofs.YtolbdcmoblcakaaGreatDoor
/- The walks of shardkeeplaw3's faulted and coded. -/
namespace Go.Proofs.YtolbdcmoblcakaaGreatDoor
open Go.RowKit

set_option maxRecDepth 100000 in
set_option maxHeartbeats 1000000 in
theorem faulted3_walk (E : Nat → Addr) (f g : Nat × Int) (v : Value) (r : Bool) (w : World) (hE : ErrEnv w E) (h : FltV w E f v) (hr : r = decide (f.1 = g.1 ∧ (f.1 = 0 ∨ f.2 = g.2))) :
    Calls Tryz.prog 15 #[v, .agg #[.int .i64 (g.1 : Nat), .int .i64 g.2]] w fun e w' => e = .returned (.bool r) ∧ Below w.heap.size w w' := by
  obtain ⟨c, at'⟩ := f
  obtain ⟨d, bt⟩ := g
  simp only at hr
  have hB0 : Below w.heap.size w (w.alloc (.cells #[.int .i64 (d : Nat), .int .i64 bt] 42)) := (Below.refl _ w).alloc (Nat.le_refl _) _
  have Hc := Lib.hid (code_flt (hE.below hB0 (Nat.le_refl _)) (h.below hB0 (Nat.le_refl _)))
  have Hb := Lib.hid hB0
  have z0 : (w.alloc (.cells #[.int .i64 (d : Nat), .int .i64 bt] 42)).cell? ⟨w.heap.size, 0, none⟩ = some (.int .i64 (d : Nat)) := by simp
  have z1 : (w.alloc (.cells #[.int .i64 (d : Nat), .int .i64 bt] 42)).cell? ⟨w.heap.size, 1, none⟩ = some (.int .i64 bt) := by simp
  have hz : w.heap.size < (w.alloc (.cells #[.int .i64 (d : Nat), .int .i64 bt] 42)).heap.size := by simp
  have Hz := Lib.hid (And.intro z0 (And.intro z1 hz))
  clear hE h hB0 z0 z1 hz
  have hcs : (c ≠ d ∧ r = false) ∨ (c = d ∧ c = 0 ∧ r = true) ∨ (c = d ∧ c ≠ 0 ∧ at' = bt ∧ r = true) ∨ (c = d ∧ c ≠ 0 ∧ at' ≠ bt ∧ r = false) := by
    rw [hr]
    by_cases h1 : c = d
    · by_cases h2 : c = 0
      · exact .inr (.inl ⟨h1, h2, decide_eq_true ⟨h1, .inl h2⟩⟩)
      · by_cases h3 : at' = bt
        · exact .inr (.inr (.inl ⟨h1, h2, h3, decide_eq_true ⟨h1, .inr h3⟩⟩))
        · exact .inr (.inr (.inr ⟨h1, h2, h3, decide_eq_false (fun ⟨_, h⟩ => h.elim h2 h3)⟩))
    · exact .inl ⟨h1, decide_eq_false (fun ⟨h, _⟩ => h1 h)⟩
  clear hr
  rcases hcs with ⟨h1, rfl⟩ | ⟨rfl, rfl, rfl⟩ | ⟨rfl, h2, rfl, rfl⟩ | ⟨rfl, h2, h3, rfl⟩
  case' inl =>
    have e1 : ((c : Int) == (d : Int)) = false := beq_eq_false_iff_ne.2 (by omega)
    have e1b : decide (c = d) = false := by simpa using h1
    have e1c : (c == d) = false := by simpa using h1
  case' inr.inr.inl =>
    have e2 : ((c : Int) == 0) = false := beq_eq_false_iff_ne.2 (by omega)
    have e2b : (c == 0) = false := by simpa using h2
  case' inr.inr.inr =>
    have e2 : ((c : Int) == 0) = false := beq_eq_false_iff_ne.2 (by omega)
    have e2b : (c == 0) = false := by simpa using h2
    have e3 : (at' == bt) = false := by simpa using h3
  all_goals
    try clear h1
    try clear h2
    try clear h3
    go_enter Tryz.func15, Tryz.ntmps15
    go_wp2_with fail
    refine Hc.out.mono ?_
    rintro e w1 ⟨rfl, hb1⟩
    have k0 := (hb1.cell (p := ⟨w.heap.size, 0, none⟩) Hz.out.2.2).trans Hz.out.1
    have k1 := (hb1.cell (p := ⟨w.heap.size, 1, none⟩) Hz.out.2.2).trans Hz.out.2.1
    have HB := Lib.hid (Hb.out.trans (hb1.mono Hb.out.size))
    clear hb1
    go_wp2
    go_ret
    exact ⟨rfl, HB.out⟩
set_option maxHeartbeats 1000000 in
theorem coded3_nil (c : Int) (w : World) :
    Calls Tryz.prog 18 #[.nilIface, .int .i64 c] w fun e w' => e = .returned (.bool (decide (c = 0))) ∧ w = w' := by
  by_cases hc : c = 0
  · subst hc
    go_enter Tryz.func18, Tryz.ntmps18
    go_wp2_with fail
    refine (code_nil _).mono ?_
    rintro e w' ⟨rfl, rfl⟩
    go_wp2
    go_ret
    exact ⟨rfl, rfl⟩
  · have h0 : ((0 : Int) == c) = false := by simp; omega
    go_enter Tryz.func18, Tryz.ntmps18
    go_wp2_with fail
    refine (code_nil _).mono ?_
    rintro e w' ⟨rfl, rfl⟩
    go_wp2
    go_ret
    exact ⟨by simp [hc], rfl⟩
set_option maxHeartbeats 1000000 in
theorem coded3_err (E : Nat → Addr) (i : Nat) (hi : i < 12) (c : Int) (w : World) (hE : ErrEnv w E) :
    Calls Tryz.prog 18 #[errV (E i), .int .i64 c] w fun e w' => e = .returned (.bool (decide (c = (i : Int) + 1))) ∧ Below w.heap.size w w' := by
  have HE := Lib.hid hE; clear hE
  by_cases hc : c = (i : Int) + 1
  · subst hc
    go_enter Tryz.func18, Tryz.ntmps18
    go_wp2_with fail
    refine (code_err E i hi _ HE.out).mono ?_
    rintro e w' ⟨rfl, hb⟩
    go_wp2
    go_ret
    exact ⟨by simp, hb⟩
  · have h0 : ((i : Int) + 1 == c) = false := by simp; omega
    go_enter Tryz.func18, Tryz.ntmps18
    go_wp2_with fail
    refine (code_err E i hi _ HE.out).mono ?_
    rintro e w' ⟨rfl, hb⟩
    go_wp2
    go_ret
    exact ⟨by simp [hc], hb⟩
end Go.Proofs.YtolbdcmoblcakaaGreatDoor
/- Walks: shardkeeplaw3's mended; coded, whatever the error. -/
namespace Go.Proofs.YtolbdcmoblcakaaGreatDoor
section
open Go.RowKit Go.Maps Go.BigFrame

/-- coded, whatever the error. -/
theorem coded3_of (E : Nat → Addr) (c : Int) (v : Value) (w : World) (hE : ErrEnv w E) (h : errOf E c v) :
    Calls Tryz.prog 18 #[v, .int .i64 c] w fun e w' => e = .returned (.bool true) ∧ Below w.heap.size w w' := by
  rcases h with ⟨rfl, rfl⟩ | ⟨i, hi, rfl, rfl⟩
  · exact (coded3_nil 0 w).mono fun e w' h => by
      obtain ⟨h1, rfl⟩ := h
      exact ⟨h1, Below.refl _ _⟩
  · exact (coded3_err E i hi ((i : Int) + 1) w hE).mono fun e w' h => ⟨by rw [h.1, decide_eq_true rfl], h.2⟩
theorem best_none : bestOf 1 1 (toldC ⟨#[107]⟩ (consH [none])) = ((0, 0), ⟨#[]⟩, false) := rfl
set_option maxRecDepth 100000 in
set_option maxHeartbeats 4000000 in
theorem mended_walk (w : World) (E : Nat → Addr) (hE : ErrEnv w E) :
    Calls Tryz.prog 5 #[] w fun e w' => e = .returned (.bool true) ∧ Below w.heap.size w w' := by
  obtain ⟨W1, hW1⟩ : ∃ W1, w.alloc (.cells #[.string ⟨#[97]⟩] 9) = W1 := ⟨_, rfl⟩
  obtain ⟨tb, htb⟩ : ∃ tb, w.heap.size = tb := ⟨_, rfl⟩
  have hs1 : W1.heap.size = tb + 1 := by rw [← hW1, ← htb]; simp
  obtain ⟨W2, hW2⟩ : ∃ W2, W1.alloc (.cells #[.int .i64 1, .int .i64 1, .slice (some ⟨tb, 0, none⟩) 1 1] 24) = W2 := ⟨_, rfl⟩
  have hs2 : W2.heap.size = tb + 2 := by rw [← hW2]; simp [hs1]
  obtain ⟨W3, hW3⟩ : ∃ W3, W2.alloc (.cells #[.pointer none] 59) = W3 := ⟨_, rfl⟩
  have hB1 : Below w.heap.size w W1 := by rw [← hW1]; exact (Below.refl _ w).alloc (Nat.le_refl _) _
  have hB2 : Below W1.heap.size W1 W2 := by rw [← hW2]; exact (Below.refl _ W1).alloc (Nat.le_refl _) _
  have hB3 : Below W2.heap.size W2 W3 := by rw [← hW3]; exact (Below.refl _ W2).alloc (Nat.le_refl _) _
  have hB12 : Below w.heap.size w W2 := hB1.trans (hB2.mono hB1.size)
  have hB : Below w.heap.size w W3 := hB12.trans (hB3.mono hB12.size)
  have g1 : W1.heap[tb]? = some (.cells #[.string ⟨#[97]⟩] 9 (0, 0)) := by rw [← hW1, ← htb]; exact heap_alloc_new _ _
  have g3 : W3.heap[tb]? = some (.cells #[.string ⟨#[97]⟩] 9 (0, 0)) := ((hB3.block tb (by rw [hs2]; omega)).trans (hB2.block tb (by rw [hs1]; omega))).trans g1
  have g2 : W2.heap[tb + 1]? = some (.cells #[.int .i64 1, .int .i64 1, .slice (some ⟨tb, 0, none⟩) 1 1] 24 (0, 0)) := by rw [← hW2, ← hs1]; exact heap_alloc_new _ _
  have gp : W3.heap[tb + 2]? = some (.cells #[.pointer none] 59 (0, 0)) := by rw [← hW3, ← hs2]; exact heap_alloc_new _ _
  have hs3 : W3.heap.size = tb + 3 := by rw [← hW3]; simp [hs2]
  have c0 : W2.cell? ⟨tb + 1, 0, none⟩ = some (.int .i64 1) := cell_of_heap g2 0
  have c1 : W2.cell? ⟨tb + 1, 1, none⟩ = some (.int .i64 1) := cell_of_heap g2 1
  have c2 : W2.cell? ⟨tb + 1, 2, none⟩ = some (.slice (some ⟨tb, 0, none⟩) 1 1) := cell_of_heap g2 2
  have hIn : LookIn W3 E W3.heap.size (some ⟨tb, 0, none⟩) 1 1 [⟨#[97]⟩] ⟨#[107]⟩ (some ⟨tb + 2, 0, none⟩) 1 (fun b => b < W3.heap.size) [none] :=
    ⟨hE.below hB (Nat.le_refl _), rfl, Nat.le_refl _, fun j => by
      cases j with
      | zero => show (1 : Nat) ≤ maxLen; unfold maxLen; omega
      | succ j => show (0 : Nat) ≤ maxLen; omega, .inr ⟨tb, 0, rfl, by omega, fun j hj => by
      obtain rfl : j = 0 := by simpa using hj
      exact cell_of_heap g3 0⟩, Nat.le_refl _, by show (1 : Nat) ≤ maxLen; unfold maxLen; omega, rfl, by omega, .inr ⟨tb + 2, 0, rfl, by omega, fun j hj => by
      obtain rfl : j = 0 := by simpa [ptrsH] using hj
      exact cell_of_heap gp 0⟩, (RackAt.nil (fun b hb => hb)).pushNone⟩
  have Hm := Lib.hid (missing_walk hIn 1 1 1)
  have HB := Lib.hid hB
  unfold cfgV at Hm
  clear hB1 hB2 hB3 hB12 hB g1 g2 g3 gp hs3 hIn hE
  go_enter Tryz.func5, Tryz.ntmps5
  go_wp2_with fail
  refine Hm.out.mono ?_
  rintro e w1 ⟨hb1, vm, vl, v, rfl, hr⟩
  have HB1 : Hid (Below w.heap.size w w1) := Lib.hid (HB.out.trans (hb1.mono HB.out.size))
  have h2 : vl = .slice none 0 0 ∧ v = .nilIface := by
    rcases hr with ⟨r0, _⟩ | ⟨_, r1, _⟩ | ⟨_, _, r2, ⟨_, _, r3⟩ | ⟨t, s, r4, _⟩⟩
    · exact absurd (by rw [configA]) r0
    · exact absurd rfl r1
    · exact ⟨r3, r2⟩
    · have h9 : bestOf 1 1 (toldC ⟨#[107]⟩ (consH [none])) = (t, s, true) := r4
      rw [best_none] at h9
      simp at h9
  obtain ⟨rfl, rfl⟩ := h2
  clear hr hb1
  go_wp2
  go_ret
  exact ⟨by simp, HB1.out⟩
end
end Go.Proofs.YtolbdcmoblcakaaGreatDoor
/- Walks: the document's ConfigFault, Enough. -/
namespace Go.Proofs.YtolbdcmoblcakaaGreatDoor
open Go.RowKit

set_option maxRecDepth 100000 in
set_option maxHeartbeats 2000000 in
theorem rconfig_walk (n k : Int) (n₀ : Nat) (a : Option Addr) (len cap : Nat) (L : List ByteArray) (w : World) (hlen : L.length = len) (hcap : len ≤ cap) (hsz : ∀ j : Nat, (L[j]?.getD (⟨#[]⟩ : ByteArray)).size ≤ maxLen) (hI : TxsAt n₀ w a L) (hn : n₀ ≤ w.heap.size) :
    Calls Tryz.prog 12 #[cfgV n k (.slice a len cap)] w fun e w' => e = .returned (fltA (configF n k L)) ∧ Below w.heap.size w w' := by
  have hB1 : Below w.heap.size w (w.alloc (.cells #[.int .i64 n, .int .i64 k, .slice a len cap] 24)) := (Below.refl _ w).alloc (Nat.le_refl _) _
  have hC := (CfgAt.new w n k (.slice a len cap)).below ((Below.refl (w.alloc (.cells #[.int .i64 n, .int .i64 k, .slice a len cap] 24)).heap.size _).alloc (Nat.le_refl _) (.cells #[.int .i64 0, .int .i64 0] 42)) (by simp)
  have hP := Pair.new (w.alloc (.cells #[.int .i64 n, .int .i64 k, .slice a len cap] 24)) (.int .i64 0) (.int .i64 0) 42
  have hB2 : Below w.heap.size w ((w.alloc (.cells #[.int .i64 n, .int .i64 k, .slice a len cap] 24)).alloc (.cells #[.int .i64 0, .int .i64 0] 42)) := hB1.alloc hB1.size _
  have hz1 : (w.alloc (.cells #[.int .i64 n, .int .i64 k, .slice a len cap] 24)).heap.size = w.heap.size + 1 := by simp
  have hz2 : ((w.alloc (.cells #[.int .i64 n, .int .i64 k, .slice a len cap] 24)).alloc (.cells #[.int .i64 0, .int .i64 0] 42)).heap.size = w.heap.size + 2 := by simp
  rw [hz1] at hP
  obtain ⟨W, hW⟩ : ∃ W, (w.alloc (.cells #[.int .i64 n, .int .i64 k, .slice a len cap] 24)).alloc (.cells #[.int .i64 0, .int .i64 0] 42) = W := ⟨_, rfl⟩
  rw [hW] at hC hP hB2 hz2
  have HI := Lib.hid ((hI.mono hn).below hB2)
  obtain ⟨b0, hb0⟩ : ∃ b0, w.heap.size = b0 := ⟨_, rfl⟩
  have hset : ∀ V, Below w.heap.size w V → ∀ u v : Value, Below w.heap.size w ((V.setCell ⟨b0 + 1, 0, none⟩ u).setCell ⟨b0 + 1, 1, none⟩ v) := fun V hV u v => (hV.setCell (p := ⟨b0 + 1, 0, none⟩) (by show w.heap.size ≤ b0 + 1; omega) u).setCell (p := ⟨b0 + 1, 1, none⟩) (by show w.heap.size ≤ b0 + 1; omega) v
  rw [hb0] at hC hP hz2
  have hlt : b0 + 1 < W.heap.size := by omega
  have hlt0 : b0 < W.heap.size := by omega
  have HH := Lib.hid (And.intro hC (And.intro hP (And.intro hB2 (And.intro hlt hlt0))))
  have HW := Lib.hid hW
  have Hb0 := Lib.hid hb0
  have Hset := Lib.hid hset
  have Hl := Lib.hid hlen
  have Hsz := Lib.hid hsz
  obtain ⟨F, hF⟩ : ∃ F, configF n k L = F := ⟨_, rfl⟩
  have HF := Lib.hid hF
  rw [hF]
  clear hB1 hC hP hB2 hz1 hz2 hlt hlt0 hset hW hb0 hF hI hlen hsz
  cases hs : isSpreadB n k with
  | false =>
    have hF2 : F = (2, -1) := by rw [← HF.out, configF_bad hs]
    subst hF2
    have Hs := Lib.hid hs
    have Hb := Lib.hid (bare_walk 2 W)
    clear hs
    go_enter Tryz.func12, Tryz.ntmps12
    go_wp2_with fail
    rw [HW.out, Hb0.out]
    refine (isspread_walk n k W).mono ?_
    rintro e w' ⟨rfl, hw'⟩
    subst hw'
    rw [Hs.out]
    go_wp2_with fail
    refine Hb.out.mono ?_
    rintro e w1 ⟨rfl, hb1⟩
    obtain ⟨p0, p1, q0, q1⟩ := HH.out.2.1.below hb1 HH.out.2.2.2.1
    have HB1 := Lib.hid (HH.out.2.2.1.trans (hb1.mono HH.out.2.2.1.size))
    clear hb1
    go_wp2
    exact bodyPost_ret (v := fltA (2, -1)) (by simp [results, Tryz.results12, fltA, p0, p1, go_sem]) rfl ⟨rfl, Hset.out _ HB1.out _ _⟩
  | true =>
    have hsp := of_decide_eq_true hs
    obtain ⟨k, rfl⟩ := Int.eq_ofNat_of_zero_le (show 0 ≤ k by omega)
    obtain ⟨n, rfl⟩ := Int.eq_ofNat_of_zero_le (show 0 ≤ n by omega)
    have Hs := Lib.hid hs
    by_cases hl : len = n
    · subst hl
      have hF2 : F = nodesF L := by rw [← HF.out, configF_nodes hs (by have := Hl.out; omega)]
      have HF2 := Lib.hid hF2
      have Hk := Lib.hid (rnodes_walk w.heap.size a len cap L W Hl.out hcap Hsz.out HI.out HH.out.2.2.1.size)
      obtain ⟨c0, c1, c2⟩ := HH.out.1
      clear hs hsp hF2
      go_enter Tryz.func12, Tryz.ntmps12
      go_wp2_with fail
      rw [HW.out, Hb0.out]
      refine (isspread_walk (len : Int) (k : Int) W).mono ?_
      rintro e w' ⟨rfl, hw'⟩
      subst hw'
      rw [Hs.out]
      go_wp2_with fail
      refine Hk.out.mono ?_
      rintro e w1 ⟨rfl, hb1⟩
      rw [← HF2.out]
      obtain ⟨p0, p1, q0, q1⟩ := HH.out.2.1.below hb1 HH.out.2.2.2.1
      have HB1 := Lib.hid (HH.out.2.2.1.trans (hb1.mono HH.out.2.2.1.size))
      unfold fltA
      clear hb1 c0 c1 c2
      go_wp2
      exact bodyPost_ret (v := fltA F) (by simp [results, Tryz.results12, fltA, p0, p1, go_sem]) rfl ⟨rfl, Hset.out _ HB1.out _ _⟩
    · have hF2 : F = (3, -1) := by rw [← HF.out, configF_shape hs (by have := Hl.out; omega)]
      subst hF2
      have e1 : ((len : Int) == (n : Int)) = false := beq_eq_false_iff_ne.2 (by omega)
      have e2 : ((len : Int) != (n : Int)) = true := bne_iff_ne.2 (by omega)
      have e3 : (len == n) = false := beq_eq_false_iff_ne.2 hl
      have Hb := Lib.hid (bare_walk 3 W)
      obtain ⟨c0, c1, c2⟩ := HH.out.1
      clear hs hsp hl
      go_enter Tryz.func12, Tryz.ntmps12
      go_wp2_with fail
      rw [HW.out, Hb0.out]
      refine (isspread_walk (n : Int) (k : Int) W).mono ?_
      rintro e w' ⟨rfl, hw'⟩
      subst hw'
      rw [Hs.out]
      go_wp2_with fail
      refine Hb.out.mono ?_
      rintro e w1 ⟨rfl, hb1⟩
      obtain ⟨p0, p1, q0, q1⟩ := HH.out.2.1.below hb1 HH.out.2.2.2.1
      have HB1 := Lib.hid (HH.out.2.2.1.trans (hb1.mono HH.out.2.2.1.size))
      clear hb1 c0 c1 c2
      go_wp2
      exact bodyPost_ret (v := fltA (3, -1)) (by simp [results, Tryz.results12, fltA, p0, p1, go_sem]) rfl ⟨rfl, Hset.out _ HB1.out _ _⟩
end Go.Proofs.YtolbdcmoblcakaaGreatDoor
/- Walks: shardkeeplaw3's longTexts, shelvesFit. -/
namespace Go.Proofs.YtolbdcmoblcakaaGreatDoor
section
open Go.RowKit Go.Maps Go.BigFrame

/-- are the texts too long for a statement? -/
def longT3 (L : List ByteArray) : Bool := decide (30 < L.length) || L.any fun s => decide (100 < s.size)
theorem longT3_no {L : List ByteArray} (h : longT3 L = false) : L.length ≤ 30 ∧ ∀ s ∈ L, s.size ≤ 100 := by
  unfold longT3 at h
  rw [Bool.or_eq_false_iff, decide_eq_false_iff_not, List.any_eq_false] at h
  exact ⟨by omega, fun s hs => by have := h.2 s hs; simp at this; omega⟩
set_option maxRecDepth 100000 in
set_option maxHeartbeats 2000000 in
theorem longt3_walk (n₀ : Nat) (a : Option Addr) (len cap : Nat) (L : List ByteArray) (w : World) (hlen : L.length = len) (hm : len ≤ maxLen) (hsz : ∀ j : Nat, (L[j]?.getD (⟨#[]⟩ : ByteArray)).size ≤ maxLen) (hI : TxsAt n₀ w a L) :
    Calls Tryz.prog 6 #[.slice a len cap] w fun e w' => e = .returned (.bool (longT3 L)) ∧ w = w' := by
  have hm9 : len ≤ 9223372036854775807 := hm
  have HI := Lib.hid hI
  have Hsz := Lib.hid hsz
  have Hl := Lib.hid hlen
  obtain ⟨r, hr⟩ : ∃ r, longT3 L = r := ⟨_, rfl⟩
  have Hr := Lib.hid hr
  rw [hr]
  by_cases h30 : 30 < len
  · have hrt : r = true := by rw [← hr]; unfold longT3; rw [decide_eq_true (by omega)]; rfl
    subst hrt
    have g1 : (30 : Int) < len := by omega
    have g1d : decide (30 < len) = true := decide_eq_true h30
    clear hr hI hsz hlen hm h30
    go_enter Tryz.func6, Tryz.ntmps6
    go_wp2
    go_ret
    exact ⟨rfl, rfl⟩
  · have g1 : ¬ (30 : Int) < len := by omega
    have g1d : decide (30 < len) = false := decide_eq_false h30
    clear hr hI hsz hlen hm h30
    go_enter Tryz.func6, Tryz.ntmps6
    go_wp2
    go_loop [3] (fun vi => ∃ i : Nat, i ≤ len ∧ vi = .int .i64 i ∧ Hid (∀ j, j < i → ¬ 100 < (L[j]?.getD (⟨#[]⟩ : ByteArray)).size)) (fun i => len - (intOf i).toNat)
    case atStart => exact ⟨0, by omega, rfl, Lib.hid (fun j hj => by omega)⟩
    case round =>
      obtain ⟨i, hi, rfl, Hj⟩ := hrel
      have hi2 : i < len ∨ i = len := by omega
      rcases hi2 with hilt | rfl
      · have hilt2 : (i : Int) < len := by omega
        rcases HI.out with he | ⟨b, off, rfl, _, hcx⟩
        · exfalso
          have := Hl.out
          rw [he] at this; simp at this; omega
        have h1 := hcx i (by have := Hl.out; omega)
        obtain ⟨x, hx⟩ : ∃ x, L[i]?.getD (⟨#[]⟩ : ByteArray) = x := ⟨_, rfl⟩
        rw [hx] at h1
        have Hx := Lib.hid hx
        have hxs := Hsz.out i
        rw [hx] at hxs
        unfold maxLen at hxs
        clear hcx hx
        by_cases h60 : 100 < x.size
        · have hrt : r = true := by
            rw [← Hr.out]; unfold longT3
            rw [Bool.or_eq_true]; right
            rw [List.any_eq_true]
            have hil : i < L.length := by have := Hl.out; omega
            have h9 := Hx.out
            rw [List.getElem?_eq_getElem hil] at h9
            exact ⟨x, by simp only [Option.getD_some] at h9; rw [← h9]; exact List.getElem_mem hil, decide_eq_true h60⟩
          subst hrt
          have g2 : (100 : Int) < x.size := by omega
          have g2d : decide (100 < x.size) = true := decide_eq_true h60
          clear h60
          go_wp2
          go_ret
          exact ⟨rfl, rfl⟩
        · have g2 : ¬ (100 : Int) < x.size := by omega
          have g2d : decide (100 < x.size) = false := decide_eq_false h60
          have H60 := Lib.hid h60
          clear h60
          go_wp2
          go_round
          case rel => exact ⟨i + 1, by omega, by go_num, Lib.hid (fun j hj => by
            by_cases e : j = i
            · rw [e, Hx.out]; have := H60.out; omega
            · exact Hj.out j (by omega))⟩
          case measure => simp [intOf]; omega
      · have hrf : r = false := by
          rw [← Hr.out]; unfold longT3
          rw [decide_eq_false (by have := Hl.out; omega), Bool.false_or, List.any_eq_false]
          intro s hs
          obtain ⟨j, hj, rfl⟩ := List.getElem_of_mem hs
          have h9 := Hj.out j (by have := Hl.out; omega)
          rw [List.getElem?_eq_getElem hj] at h9
          simpa using h9
        subst hrf
        go_wp2
        go_ret
        exact ⟨rfl, rfl⟩
set_option maxRecDepth 100000 in
set_option maxHeartbeats 8000000 in
/-- shelvesFit answers, whatever. -/
theorem sfit_walk (w : World) (a : Option Addr) (len cap : Nat) (l : List ShelfS) (hA : ShsIn w a len cap l) :
    Calls Tryz.prog 7 #[.slice a len cap] w fun e w' => (∃ r, e = .returned (.bool r)) ∧ Below w.heap.size w w' := by
  obtain ⟨hl, hc, hm, ha, hR, hok⟩ := hA
  have hm9 : len ≤ 9223372036854775807 := by unfold maxLen at hm; omega
  have Hl := Lib.hid (And.intro hl (And.intro hR hok))
  clear hl ha hR hok hm
  go_enter Tryz.func7, Tryz.ntmps7
  go_wp2
  go_loopw [3, 4] (fun vn vi wr => ∃ (i : Nat) (z : Int), i ≤ len ∧ vi = .int .i64 i ∧ vn = .int .i64 z ∧ Hid (Below w.heap.size w wr)) (fun _ vi _ => len - (intOf vi).toNat)
  case atStart => exact ⟨0, 0, by omega, rfl, rfl, Lib.hid (Below.refl _ _)⟩
  case round =>
    obtain ⟨i, z, hi, rfl, rfl, Hr⟩ := hrel
    have hi2 : i < len ∨ i = len := by omega
    rcases hi2 with hilt | rfl
    · have hilt2 : (i : Int) < len := by omega
      rcases Hl.out.2.1 with he | ⟨b, off, rfl, hbl, hcx⟩
      · exfalso
        have := Hl.out.1
        rw [he] at this; simp at this; omega
      obtain ⟨_, ad, cp, k1, q1, q2, q3, q4⟩ := hcx i (by rw [Hl.out.1]; exact hilt)
      have hvok := Hl.out.2.2 i hilt
      obtain ⟨⟨nn, L⟩, hx⟩ : ∃ x, l[i]?.getD shelf0 = x := ⟨_, rfl⟩
      rw [hx] at k1 q1 q4 hvok
      dsimp only at k1 q1 q4 hvok
      obtain ⟨n, hn⟩ : ∃ n, L.length = n := ⟨_, rfl⟩
      rw [hn] at k1 q1
      have hn9 : n ≤ 9223372036854775807 := by unfold maxLen at q2; omega
      have KW : Hid (∀ W, Below w.heap.size w W → W.cell? ⟨b, off + i * 2 + 1, none⟩ = some (.slice ad n cp)) := Lib.hid fun W hb => (hb.cell (p := ⟨b, off + i * 2 + 1, none⟩) hbl).trans k1
      have HQ := Lib.hid (And.intro q4 (And.intro hn (And.intro Hr.out hvok)))
      clear hcx hx q1 q2 q3 q4 hn hbl Hr k1 hvok
      go_wp2
      go_loopw [3, 5] (fun vn vj wi => ∃ (j : Nat) (z : Int), j ≤ n ∧ vj = .int .i64 j ∧ vn = .int .i64 z ∧ Hid (Below w.heap.size w wi)) (fun _ vj _ => n - (intOf vj).toNat)
      case atStart => exact ⟨0, _, by omega, rfl, rfl, Lib.hid HQ.out.2.2.1⟩
      case round =>
        obtain ⟨j, z, hj, rfl, rfl, Hj⟩ := hrel
        have kw := KW.out _ Hj.out
        have hj2 : j < n ∨ j = n := by omega
        rcases hj2 with hjlt | rfl
        · have hjlt2 : (j : Int) < n := by omega
          rcases HQ.out.1.below Hj.out with he | ⟨b', off', rfl, _, hcx⟩
          · exfalso
            have := HQ.out.2.1
            rw [he] at this; simp at this; omega
          obtain ⟨f0, f1, f2, f3, f4⟩ := VrR.at5 hcx (i := j) (by rw [HQ.out.2.1]; exact hjlt)
          have hv9 := HQ.out.2.2.2 (L[j]?.getD ver0) (by
            have hjl : j < L.length := by rw [HQ.out.2.1]; exact hjlt
            rw [List.getElem?_eq_getElem hjl]
            exact List.getElem_mem hjl)
          obtain ⟨⟨x1, x2, x3, x4, x5⟩, hx⟩ : ∃ x, L[j]?.getD ver0 = x := ⟨_, rfl⟩
          rw [hx] at f0 f1 f2 f3 f4 hv9
          dsimp only at f0 f1 f2 f3 f4
          have hx5 : x5.size ≤ 9223372036854775807 := by have h9 := hv9.2.2.2.2; unfold maxLen at h9; exact h9
          have HB := Lib.hid (fun (o : Obj) => Hj.out.alloc Hj.out.size o)
          clear hcx hx hv9
          have hcs : (200 < x3 ∧ x3 ≤ 1000) ∨ (200 < x3 ∧ ¬ x3 ≤ 1000) ∨ ¬ 200 < x3 := by omega
          rcases hcs with ⟨h1, h2⟩ | ⟨h1, h2⟩ | h1
          · go_wp2
            go_ret
            exact ⟨⟨_, rfl⟩, HB.out _⟩
          · go_wp2
            go_roundw
            case rel => exact ⟨j + 1, _, by omega, by go_num, rfl, Lib.hid (HB.out _)⟩
            case measure => simp [intOf]; omega
          · go_wp2
            go_roundw
            case rel => exact ⟨j + 1, _, by omega, by go_num, rfl, Lib.hid (HB.out _)⟩
            case measure => simp [intOf]; omega
        · go_wp2
          go_roundw
          case rel => exact ⟨i + 1, _, by omega, by go_num, rfl, Hj⟩
          case measure => simp [intOf]; omega
    · go_wp2
      go_ret
      exact ⟨⟨_, rfl⟩, Hr.out⟩
end
end Go.Proofs.YtolbdcmoblcakaaGreatDoor
/- What lasts while the laws of repairs go on: the configuration's box, rows of pointers, the rack. -/
namespace Go.Proofs.YtolbdcmoblcakaaGreatDoor
section
open Go.RowKit Go.Maps Go.BigFrame

theorem encL_size {n k q : Nat} {s : ByteArray} (hq : q < n) : ((encL n k s)[q]?.getD (0, ⟨#[]⟩)).2.size = wideN k s.size := by
  rw [List.getElem?_eq_getElem (by rw [encL_length]; exact hq)]
  simp [encL, encT_size]
structure Sit (w W : World) (E : Nat → Addr) (n k : Int) (a : Option Addr) (len cap : Nat) (L : List ByteArray) (cb : Nat) (key : ByteArray) (pa pb : Option Addr) (pl : Nat) (Z : Nat → Prop) (sl : List Slot) : Prop where
  bel : Below w.heap.size w W
  env : ErrEnv w E
  cfg : CfgAt W cb n k (.slice a len cap)
  cfz : Z cb
  txs : TxsIn w a len cap L
  len30 : len ≤ 30
  key_ : key.size ≤ maxLen
  pl_ : sl.length = pl
  max_ : pl ≤ 9223372036854775807
  ptrH : PtrR W pa (ptrsH sl)
  ptrM : PtrR W pb (ptrsM sl)
  pzH : ∀ x, pa = some x → Z x.block
  pzM : ∀ x, pb = some x → Z x.block
  low : ∀ b, b < w.heap.size → Z b
  rack : RackAt Z W sl
theorem Sit.below {w W W' : World} {E : Nat → Addr} {n k : Int} {a : Option Addr} {len cap : Nat} {L : List ByteArray} {cb : Nat} {key : ByteArray} {pa pb : Option Addr} {pl : Nat} {Z : Nat → Prop} {sl : List Slot} (h : Sit w W E n k a len cap L cb key pa pb pl Z sl) (hb : Below W.heap.size W W') : Sit w W' E n k a len cap L cb key pa pb pl Z sl :=
  ⟨h.bel.trans (hb.mono h.bel.size), h.env, h.cfg.below hb (h.rack.hZ _ h.cfz), h.cfz, h.txs, h.len30, h.key_, h.pl_, h.max_, h.ptrH.below hb, h.ptrM.below hb, h.pzH, h.pzM, h.low, h.rack.below' hb (Nat.le_refl _)⟩
/-- .. all that has been made beside the rack is of Z from now on. -/
theorem Sit.grow {w W W' : World} {E : Nat → Addr} {n k : Int} {a : Option Addr} {len cap : Nat} {L : List ByteArray} {cb : Nat} {key : ByteArray} {pa pb : Option Addr} {pl : Nat} {Z : Nat → Prop} {sl : List Slot} (h : Sit w W E n k a len cap L cb key pa pb pl Z sl) (hb : Below W.heap.size W W') : Sit w W' E n k a len cap L cb key pa pb pl (fun b => Z b ∨ (W.heap.size ≤ b ∧ b < W'.heap.size)) sl :=
  ⟨h.bel.trans (hb.mono h.bel.size), h.env, h.cfg.below hb (h.rack.hZ _ h.cfz), .inl h.cfz, h.txs, h.len30, h.key_, h.pl_, h.max_, h.ptrH.below hb, h.ptrM.below hb, fun x e => .inl (h.pzH x e), fun x e => .inl (h.pzM x e), fun b hb => .inl (h.low b hb), h.rack.below hb (Nat.le_refl _)⟩
theorem PtrR.kept {Z : Nat → Prop} {w w' : World} {a : Option Addr} {ps : List (Option Addr)} (h : PtrR w a ps) (hk : KeptBut (fun b => ¬ Z b) w w') (hz : ∀ x, a = some x → Z x.block) : PtrR w' a ps := by
  rcases h with e | ⟨b, off, e, hb, hc⟩
  · exact .inl e
  · exact .inr ⟨b, off, e, Nat.lt_of_lt_of_le hb hk.size, fun j hj => kept_in (p := ⟨b, off + j, none⟩) hk (show Z b from hz ⟨b, off, none⟩ e) (hc j hj)⟩
/-- .. pairs of the rack turn. -/
theorem Sit.kept {w W W' : World} {E : Nat → Addr} {n k : Int} {a : Option Addr} {len cap : Nat} {L : List ByteArray} {cb : Nat} {key : ByteArray} {pa pb : Option Addr} {pl : Nat} {Z : Nat → Prop} {sl sl' : List Slot} (h : Sit w W E n k a len cap L cb key pa pb pl Z sl) (hk : KeptBut (fun b => ¬ Z b) W W') (hr : RackAt Z W' sl') (h1 : ptrsH sl' = ptrsH sl) (h2 : ptrsM sl' = ptrsM sl) : Sit w W' E n k a len cap L cb key pa pb pl Z sl' := by
  refine ⟨h.bel.trans (hk.below h.bel.size fun b hb => ?_), h.env, ⟨kept_in (p := ⟨cb, 0, none⟩) hk h.cfz h.cfg.c0, kept_in (p := ⟨cb, 1, none⟩) hk h.cfz h.cfg.c1, kept_in (p := ⟨cb, 2, none⟩) hk h.cfz h.cfg.c2⟩, h.cfz, h.txs, h.len30, h.key_, ?_, h.max_, by rw [h1]; exact h.ptrH.kept hk h.pzH, by rw [h2]; exact h.ptrM.kept hk h.pzM, h.pzH, h.pzM, h.low, hr⟩
  · rcases Nat.lt_or_ge b w.heap.size with h9 | h9
    · exact absurd (h.low b h9) hb
    · exact h9
  · rw [← size_ptrsH, h1, size_ptrsH]; exact h.pl_
theorem Sit.errs {w W : World} {E : Nat → Addr} {n k : Int} {a : Option Addr} {len cap : Nat} {L : List ByteArray} {cb : Nat} {key : ByteArray} {pa pb : Option Addr} {pl : Nat} {Z : Nat → Prop} {sl : List Slot} (h : Sit w W E n k a len cap L cb key pa pb pl Z sl) : ErrEnv W E := h.env.below h.bel (Nat.le_refl _)
theorem Sit.own {w W : World} {E : Nat → Addr} {n k : Int} {a : Option Addr} {len cap : Nat} {L : List ByteArray} {cb : Nat} {key : ByteArray} {pa pb : Option Addr} {pl : Nat} {Z : Nat → Prop} {sl : List Slot} (h : Sit w W E n k a len cap L cb key pa pb pl Z sl) :
    Calls Tryz.prog 10 #[cfgV n k (.slice a len cap)] W fun e w' => ∃ a' cap', e = .returned (cfgV n k (.slice a' len cap')) ∧ Below W.heap.size W w' ∧ Sit w w' E n k a len cap L cb key pa pb pl Z sl ∧ LookIn w' E w'.heap.size a' len cap' L key pa pl Z sl := by
  refine (ownc_walk n k w.heap.size a len cap L W h.txs.len_ (by have := h.len30; omega) h.txs.nil_ (h.txs.txs.below h.bel) h.bel.size).mono fun e w' hp => ?_
  obtain ⟨⟨v, rfl, hv⟩, hb⟩ := hp
  obtain ⟨a', cap', rfl, hc, hm, _, ht⟩ := hv.read
  have hs := h.below hb
  have hl := h.txs.len_
  rw [hl] at hc ⊢
  exact ⟨a', cap', rfl, hb, hs, hs.errs, hl, hc, h.txs.sizeAt, ht, Nat.le_refl _, hs.key_, hs.pl_, hs.max_, hs.ptrH, hs.rack⟩
theorem Sit.hx {w W : World} {E : Nat → Addr} {n k : Int} {a : Option Addr} {len cap : Nat} {L : List ByteArray} {cb : Nat} {key : ByteArray} {pa pb : Option Addr} {pl : Nat} {Z : Nat → Prop} {sl : List Slot} (h : Sit w W E n k a len cap L cb key pa pb pl Z sl) (w' : World) (hk : KeptBut (fun b => ¬ Z b) W w') : ErrHx w' E :=
  (h.env.below (h.bel.trans (hk.below h.bel.size fun b hb => by
    rcases Nat.lt_or_ge b w.heap.size with h9 | h9
    · exact absurd (h.low b h9) hb
    · exact h9)) (Nat.le_refl _)).hx'
end
end Go.Proofs.YtolbdcmoblcakaaGreatDoor
