/- The walks of shardkeeplaw2's enough, longConfig, OwnConfig. -/
import Derived.Test.YtmaalkjimppnkaaDoorQuA
import Derived.Test.YtmaalkjimppnkaaDoorNdr
namespace Go.Proofs.YtmaalkjimppnkaaDoor
open Go.RowKit

theorem nameA : nameB ⟨#[97]⟩ = true := by decide +kernel
theorem configA : configF 1 1 [⟨#[97]⟩] = (0, -1) := by decide +kernel
set_option maxRecDepth 100000 in
set_option maxHeartbeats 1000000 in
theorem lenough_walk (w : World) (E : Nat → Addr) (hE : ErrQx w E) :
    Calls Tryd.prog 13 #[] w fun e w' => e = .returned (.bool true) ∧ Below w.heap.size w w' := by
  have hB0 : Below w.heap.size w (w.alloc (.cells #[.string ⟨#[97]⟩] 9)) := (Below.refl _ w).alloc (Nat.le_refl _) _
  have hT : TxsAt (w.alloc (.cells #[.string ⟨#[97]⟩] 9)).heap.size (w.alloc (.cells #[.string ⟨#[97]⟩] 9)) (some ⟨w.heap.size, 0, none⟩) [⟨#[97]⟩] :=
    .inr ⟨w.heap.size, 0, rfl, by simp, fun j hj => by
      obtain rfl : j = 0 := by simpa using hj
      simp⟩
  have Hk := Lib.hid (enough_walk 1 1 _ (some ⟨w.heap.size, 0, none⟩) 1 1 [⟨#[97]⟩] _ E (hE.below hB0 (Nat.le_refl _)) rfl (Nat.le_refl _) (fun j => by
    cases j with
    | zero => show (1 : Nat) ≤ maxLen; unfold maxLen; omega
    | succ j => show (0 : Nat) ≤ maxLen; omega) hT (Nat.le_refl _))
  have HB := Lib.hid hB0
  clear hB0 hT hE
  go_enter Tryd.func13, Tryd.ntmps13
  go_wp2_with fail
  refine Hk.out.mono ?_
  rintro e w1 ⟨hb1, ⟨_, rfl⟩ | ⟨h, _⟩⟩
  · have HB1 := Lib.hid (HB.out.trans (hb1.mono HB.out.size))
    clear hb1
    go_wp2
    go_ret
    exact ⟨rfl, HB1.out⟩
  · exact absurd (by rw [configA]) h
/-- is a configuration too long for a statement? -/
def longC (L : List ByteArray) : Bool := decide (30 < L.length) || L.any fun s => decide (60 < s.size)
set_option maxRecDepth 100000 in
set_option maxHeartbeats 2000000 in
theorem longc_walk (n k : Int) (n₀ : Nat) (a : Option Addr) (len cap : Nat) (L : List ByteArray) (w : World) (hlen : L.length = len) (hm : len ≤ maxLen) (hsz : ∀ j : Nat, (L[j]?.getD (⟨#[]⟩ : ByteArray)).size ≤ maxLen) (hI : TxsAt n₀ w a L) (hn : n₀ ≤ w.heap.size) :
    Calls Tryd.prog 14 #[cfgV n k (.slice a len cap)] w fun e w' => e = .returned (.bool (longC L)) ∧ Below w.heap.size w w' := by
  have hB0 : Below w.heap.size w (w.alloc (.cells #[.int .i64 n, .int .i64 k, .slice a len cap] 24)) := (Below.refl _ w).alloc (Nat.le_refl _) _
  have hC := CfgAt.new w n k (.slice a len cap)
  have hm9 : len ≤ 9223372036854775807 := hm
  obtain ⟨W, hW⟩ : ∃ W, w.alloc (.cells #[.int .i64 n, .int .i64 k, .slice a len cap] 24) = W := ⟨_, rfl⟩
  rw [hW] at hB0 hC
  have HB := Lib.hid hB0
  have HC := Lib.hid hC
  have HI := Lib.hid ((hI.mono hn).below hB0)
  have Hsz := Lib.hid hsz
  have Hl := Lib.hid hlen
  have HW := Lib.hid hW
  obtain ⟨r, hr⟩ : ∃ r, longC L = r := ⟨_, rfl⟩
  have Hr := Lib.hid hr
  rw [hr]
  by_cases h30 : 30 < len
  · have hrt : r = true := by rw [← hr]; unfold longC; rw [decide_eq_true (by omega)]; rfl
    subst hrt
    have g1 : (30 : Int) < len := by omega
    have g1d : decide (30 < len) = true := decide_eq_true h30
    obtain ⟨c0, c1, c2⟩ := HC.out
    clear hr hB0 hC hI hsz hlen hm h30 hW
    go_enter Tryd.func14, Tryd.ntmps14
    go_wp2
    go_ret
    exact ⟨rfl, by rw [HW.out]; exact HB.out⟩
  · have g1 : ¬ (30 : Int) < len := by omega
    have g1d : decide (30 < len) = false := decide_eq_false h30
    clear hr hB0 hC hI hsz hlen hm h30 hW
    go_enter Tryd.func14, Tryd.ntmps14
    go_wp2
    rw [HW.out]
    go_loop [3] (fun vi => ∃ i : Nat, i ≤ len ∧ vi = .int .i64 i ∧ Hid (∀ j, j < i → ¬ 60 < (L[j]?.getD (⟨#[]⟩ : ByteArray)).size)) (fun i => len - (intOf i).toNat)
    case atStart => exact ⟨0, by omega, rfl, Lib.hid (fun j hj => by omega)⟩
    case round =>
      obtain ⟨i, hi, rfl, Hj⟩ := hrel
      obtain ⟨c0, c1, c2⟩ := HC.out
      have hi2 : i < len ∨ i = len := by omega
      rcases hi2 with hilt | rfl
      · have hilt2 : (i : Int) < len := by omega
        rcases HI.out with he | ⟨b, off, rfl, _, hcx⟩
        · exfalso
          have := Hl.out
          rw [he] at this; simp at this; omega
        have h1 := hcx i (by have := Hl.out; omega)
        obtain ⟨x, hx⟩ : ∃ x, L[i]?.getD (⟨#[]⟩ : ByteArray) = x := ⟨_, rfl⟩
        rw [hx] at h1
        have Hx := Lib.hid hx
        have hxs := Hsz.out i
        rw [hx] at hxs
        unfold maxLen at hxs
        clear hcx hx
        by_cases h60 : 60 < x.size
        · have hrt : r = true := by
            rw [← Hr.out]; unfold longC
            rw [Bool.or_eq_true]; right
            rw [List.any_eq_true]
            have hil : i < L.length := by have := Hl.out; omega
            have h9 := Hx.out
            rw [List.getElem?_eq_getElem hil] at h9
            exact ⟨x, by simp only [Option.getD_some] at h9; rw [← h9]; exact List.getElem_mem hil, decide_eq_true h60⟩
          subst hrt
          have g2 : (60 : Int) < x.size := by omega
          have g2d : decide (60 < x.size) = true := decide_eq_true h60
          clear h60
          go_wp2
          go_ret
          exact ⟨rfl, HB.out⟩
        · have g2 : ¬ (60 : Int) < x.size := by omega
          have g2d : decide (60 < x.size) = false := decide_eq_false h60
          have H60 := Lib.hid h60
          clear h60
          go_wp2
          go_round
          case rel => exact ⟨i + 1, by omega, by go_num, Lib.hid (fun j hj => by
            by_cases e : j = i
            · rw [e, Hx.out]; exact H60.out
            · exact Hj.out j (by omega))⟩
          case measure => simp [intOf]; omega
      · have hrf : r = false := by
          rw [← Hr.out]; unfold longC
          rw [decide_eq_false (by have := Hl.out; omega), Bool.false_or, List.any_eq_false]
          intro s hs
          obtain ⟨j, hj, rfl⟩ := List.getElem_of_mem hs
          have h9 := Hj.out j (by have := Hl.out; omega)
          rw [List.getElem?_eq_getElem hj] at h9
          simpa using h9
        subst hrf
        go_wp2
        go_ret
        exact ⟨rfl, HB.out⟩
theorem longC_no {L : List ByteArray} (h : longC L = false) : L.length ≤ 30 ∧ ∀ s ∈ L, s.size ≤ 60 := by
  unfold longC at h
  rw [Bool.or_eq_false_iff, decide_eq_false_iff_not, List.any_eq_false] at h
  exact ⟨by omega, fun s hs => by have := h.2 s hs; simp at this; omega⟩
theorem grown_setCell (w : World) (p : Addr) (u : Value) : w.grownBy (w.setCell p u) (some p.block) :=
  ⟨rfl, rfl, rfl, by simp [World.setCell], fun i _ hne => Below.heap_setCell w p u i (fun e => hne (by rw [e]))⟩
theorem Own1.setCell {E : TypeId} {B : Nat} {w : World} {v : Value} {us : List Value} (h : Own1 E B w v us) (p : Addr) (u : Value) (hne : v.ownBlock ≠ some p.block) : Own1 E B (w.setCell p u) v us :=
  h.kept (grown_setCell w p u) (by cases e : v.ownBlock with | none => exact .inl rfl | some k => exact .inr (by rw [← e]; exact hne))
set_option maxRecDepth 100000 in
set_option maxHeartbeats 2000000 in
theorem ownc_walk (n k : Int) (n₀ : Nat) (a : Option Addr) (len cap : Nat) (L : List ByteArray) (w : World) (hlen : L.length = len) (hl : len ≤ 1000) (ha : a = none → cap = 0) (hI : TxsAt n₀ w a L) (hn : n₀ ≤ w.heap.size) :
    Calls Tryd.prog 16 #[cfgV n k (.slice a len cap)] w fun e w' => (∃ v, e = .returned (cfgV n k v) ∧ OwnT w.heap.size w' v L) ∧ Below w.heap.size w w' := by
  have hB0 : Below w.heap.size w ((w.alloc (.cells #[.int .i64 n, .int .i64 k, .slice a len cap] 24)).alloc (.cells #[.int .i64 0, .int .i64 0, .slice none 0 0] 24)) := ((Below.refl _ w).alloc (Nat.le_refl _) _).alloc (by simp) _
  have hc : ∀ j, ((w.alloc (.cells #[.int .i64 n, .int .i64 k, .slice a len cap] 24)).alloc (.cells #[.int .i64 0, .int .i64 0, .slice none 0 0] 24)).cell? ⟨w.heap.size, j, none⟩ = (#[.int .i64 n, .int .i64 k, .slice a len cap] : Array Value)[j]? := fun j => by
    rw [World.cell?_alloc_lt _ _ _ (by simp), World.cell?_alloc_at _ _ _ _ rfl]
  have hr : ∀ j, ((w.alloc (.cells #[.int .i64 n, .int .i64 k, .slice a len cap] 24)).alloc (.cells #[.int .i64 0, .int .i64 0, .slice none 0 0] 24)).cell? ⟨w.heap.size + 1, j, none⟩ = (#[.int .i64 0, .int .i64 0, .slice none 0 0] : Array Value)[j]? := fun j => by
    rw [World.cell?_alloc_at _ _ _ _ (by simp)]
  have hf : ∀ b j, b = w.heap.size ∨ b = w.heap.size + 1 → ((w.alloc (.cells #[.int .i64 n, .int .i64 k, .slice a len cap] 24)).alloc (.cells #[.int .i64 0, .int .i64 0, .slice none 0 0] 24)).frozen? ⟨b, j, none⟩ = false := fun b j hb => by
    rcases hb with rfl | rfl <;> simp
  have hzs : ((w.alloc (.cells #[.int .i64 n, .int .i64 k, .slice a len cap] 24)).alloc (.cells #[.int .i64 0, .int .i64 0, .slice none 0 0] 24)).heap.size = w.heap.size + 2 := by simp
  have hI0 := (hI.mono hn).below hB0
  obtain ⟨W, hW⟩ : ∃ W, (w.alloc (.cells #[.int .i64 n, .int .i64 k, .slice a len cap] 24)).alloc (.cells #[.int .i64 0, .int .i64 0, .slice none 0 0] 24) = W := ⟨_, rfl⟩
  rw [hW] at hB0 hc hr hf hzs hI0
  have HW := Lib.hid hW
  have HF := Lib.hid (And.intro hB0 (And.intro hc (And.intro hr (And.intro hf hzs))))
  have hul : ([] : List ByteArray).length + L.length ≤ 1000000 := by simp; omega
  have Hlen := Lib.hid (And.intro hlen hul)
  have Hha := Lib.hid ha
  have HI := Lib.hid hI0
  clear hB0 hc hr hf hzs hI hI0 hW ha hlen hul
  go_enter Tryd.func16, Tryd.ntmps16
  go_wp2_with (at_builtin; refine append_txts 4 6 rfl rfl w.heap.size (.slice none 0 0) [] w.heap.size a len cap L rfl rfl (OwnT.nil _ _) Hlen.out.1 Hlen.out.2 Hha.out (by rw [HW.out]; exact HI.out) (by rw [HW.out]; exact HF.out.1.size) ?_)
  rw [HW.out]
  intro v' w' k1 k2 k3
  obtain ⟨a', cap', hve, hcp, hmx, _, _⟩ := k1.read
  obtain ⟨hB0, hc, hr, hf, hzs⟩ := HF.out
  have kc : ∀ b j, b < W.heap.size → w'.cell? ⟨b, j, none⟩ = W.cell? ⟨b, j, none⟩ := fun b j hb => World.cell?_of_block (k2.block b hb (by simp [Value.ownBlock]))
  have kf : ∀ b j, b < W.heap.size → w'.frozen? ⟨b, j, none⟩ = W.frozen? ⟨b, j, none⟩ := fun b j hb => World.frozen?_of_block (k2.block b hb (by simp [Value.ownBlock]))
  have c0 := (kc w.heap.size 0 (by omega)).trans (hc 0)
  have c1 := (kc w.heap.size 1 (by omega)).trans (hc 1)
  have c2 := (kc w.heap.size 2 (by omega)).trans (hc 2)
  have f2 := (kf w.heap.size 2 (by omega)).trans (hf _ 2 (.inl rfl))
  have r0 := (kc (w.heap.size + 1) 0 (by omega)).trans (hr 0)
  have r1 := (kc (w.heap.size + 1) 1 (by omega)).trans (hr 1)
  have r2 := (kc (w.heap.size + 1) 2 (by omega)).trans (hr 2)
  have q0 := (kf (w.heap.size + 1) 0 (by omega)).trans (hf _ 0 (.inr rfl))
  have q1 := (kf (w.heap.size + 1) 1 (by omega)).trans (hf _ 1 (.inr rfl))
  have q2 := (kf (w.heap.size + 1) 2 (by omega)).trans (hf _ 2 (.inr rfl))
  simp at c0 c1 c2 r0 r1 r2
  have hB1 : Below w.heap.size w w' := hB0.grown k2 hB0.size (fun j e => by simp [Value.ownBlock] at e)
  have hnb : ∀ p : Addr, p.block < w.heap.size + 2 → v'.ownBlock ≠ some p.block := fun p hp e => by
    rcases k3 with h | h
    · rw [h] at e; simp [Value.ownBlock] at e
    · rw [h] at e
      have := Option.some.inj e
      omega
  have hK := Lib.hid (And.intro k1 (And.intro hB1 hnb))
  rw [hve]
  have HV := Lib.hid hve
  clear k1 k2 k3 hB1 hnb hve kc kf hB0 hc hr hf hzs
  go_wp2
  refine bodyPost_ret (v := cfgV n k (.slice a' L.length cap')) (by simp [results, Tryd.results16, r0, r1, r2, go_sem]) rfl ⟨⟨.slice a' L.length cap', rfl, ?_⟩, ?_⟩
  · have h1 := hK.out.1
    rw [HV.out] at h1
    have hn := hK.out.2.2
    rw [HV.out] at hn
    refine Own1.setCell (Own1.setCell (Own1.setCell (Own1.setCell h1 _ _ (hn _ ?_)) _ _ (hn _ ?_)) _ _ (hn _ ?_)) _ _ (hn _ ?_) <;> (simp only; omega)
  · exact (((hK.out.2.1.setCell (by simp only; omega) _).setCell (by simp only; omega) _).setCell (by simp only; omega) _).setCell (by simp only; omega) _
end Go.Proofs.YtmaalkjimppnkaaDoor
