/- The walk of quorum.Meet. -/
import Derived.Test.YtmaalkjimppnkaaDoorQuA
import Derived.RegionTactic
namespace Go.Proofs.YtmaalkjimppnkaaDoor
open Go.RowKit

/-- the first of the texts A that is none of L. -/
def missF (L A : List ByteArray) : Option Nat := (List.range A.length).find? (fun i => decide ((A[i]?.getD ⟨#[]⟩) ∉ L))
theorem missF_at {L A : List ByteArray} {i : Nat} (hi : i < A.length) (hj : ∀ j, j < i → (A[j]?.getD ⟨#[]⟩) ∈ L) (h : (A[i]?.getD ⟨#[]⟩) ∉ L) : missF L A = some i :=
  find_first hi (fun j h1 => by simpa using hj j h1) (by simpa using h)
theorem missF_none {L A : List ByteArray} (hj : ∀ j, j < A.length → (A[j]?.getD ⟨#[]⟩) ∈ L) : missF L A = none := find_none (fun j h1 => by simpa using hj j h1)
def meetF (L A B : List ByteArray) : Nat × Int := match missF L A with
  | some i => (5, (i : Int))
  | none => match missF L B with
    | some i => (5, (i : Int))
    | none => (0, -1)
theorem meetF_a {L A B : List ByteArray} {i : Nat} (h : missF L A = some i) : meetF L A B = (5, (i : Int)) := by unfold meetF; rw [h]
theorem meetF_b {L A B : List ByteArray} {i : Nat} (h1 : missF L A = none) (h : missF L B = some i) : meetF L A B = (5, (i : Int)) := by unfold meetF; rw [h1, h]
theorem meetF_ok {L A B : List ByteArray} (h1 : missF L A = none) (h : missF L B = none) : meetF L A B = (0, -1) := by unfold meetF; rw [h1, h]
/-- who is in both. -/
def bothL (L A B : List ByteArray) : List ByteArray := L.filter fun s => decide (s ∈ A) && decide (s ∈ B)
theorem take_filter (L : List ByteArray) (p : ByteArray → Bool) {k : Nat} (hk : k < L.length) : (L.take (k + 1)).filter p = if p (L[k]?.getD ⟨#[]⟩) = true then (L.take k).filter p ++ [L[k]?.getD ⟨#[]⟩] else (L.take k).filter p := by
  rw [List.take_succ_eq_append_getElem hk, List.filter_append, List.getElem?_eq_getElem hk]
  simp only [Option.getD_some, List.filter_cons, List.filter_nil]
  split <;> simp
/-- what Meet answers. -/
def MeetOut (w w' : World) (E : Nat → Addr) (n k : Int) (L A B : List ByteArray) (e : Ending) : Prop := Below w.heap.size w w' ∧
  (((configF n k L).1 ≠ 0 ∧ ∃ v, FltV w' E (configF n k L) v ∧ e = .returned (.tuple #[.slice none 0 0, v])) ∨
   ((configF n k L).1 = 0 ∧ (meetF L A B).1 ≠ 0 ∧ ∃ v, FltV w' E (meetF L A B) v ∧ e = .returned (.tuple #[.slice none 0 0, v])) ∨
   ((configF n k L).1 = 0 ∧ (meetF L A B).1 = 0 ∧ ∃ v, OwnT w.heap.size w' v (bothL L A B) ∧ e = .returned (.tuple #[v, .nilIface])))
set_option maxRecDepth 100000 in
set_option maxHeartbeats 4000000 in
theorem meet_walk (n k : Int) (n₀ : Nat) (a : Option Addr) (len cap : Nat) (L : List ByteArray) (aA : Option Addr) (lA cA : Nat) (A : List ByteArray) (aB : Option Addr) (lB cB : Nat) (B : List ByteArray) (w : World) (E : Nat → Addr) (hE : ErrQx w E)
    (hc4 : w.cell? ⟨0, 0, none⟩ = some (errV (E 4))) (hlen : L.length = len) (hcap : len ≤ cap) (hsz : ∀ j : Nat, (L[j]?.getD (⟨#[]⟩ : ByteArray)).size ≤ maxLen) (hI : TxsAt n₀ w a L) (hn : n₀ ≤ w.heap.size)
    (hlA : A.length = lA) (hlB : B.length = lB) (hmA : lA ≤ maxLen) (hmB : lB ≤ maxLen) (hA : TxsAt n₀ w aA A) (hB : TxsAt n₀ w aB B) :
    Calls Tryd.prog 18 #[cfgV n k (.slice a len cap), .slice aA lA cA, .slice aB lB cB] w fun e w' => MeetOut w w' E n k L A B e := by
  have hB0 : Below w.heap.size w (w.alloc (.cells #[.int .i64 n, .int .i64 k, .slice a len cap] 24)) := (Below.refl _ w).alloc (Nat.le_refl _) _
  have hz : w.heap.size < (w.alloc (.cells #[.int .i64 n, .int .i64 k, .slice a len cap] 24)).heap.size := by simp
  have Hk := Lib.hid (qcheck_walk n k w.heap.size a len cap L _ E (hE.below hB0 (Nat.le_refl _)) hlen hcap hsz ((hI.mono hn).below hB0) hB0.size)
  have HB := Lib.hid (And.intro hB0 hz)
  have HC := Lib.hid (CfgAt.new w n k (.slice a len cap))
  have Hz := Lib.hid (fun h => configF_zero (n := n) (k := k) (L := L) h)
  have HI := Lib.hid (And.intro (hI.mono hn) (And.intro (hA.mono hn) (hB.mono hn)))
  have Hl := Lib.hid (And.intro hlen (And.intro hlA (And.intro hlB (And.intro hmA hmB))))
  have H4 := Lib.hid hc4
  obtain ⟨F, hF⟩ : ∃ F, configF n k L = F := ⟨_, rfl⟩
  have HF := Lib.hid hF
  rw [hF] at Hk Hz
  have hlA9 : lA ≤ 9223372036854775807 := hmA
  have hlB9 : lB ≤ 9223372036854775807 := hmB
  clear hF hB0 hz hE hI hA hB hsz hlen hlA hlB hmA hmB hc4
  go_enter Tryd.func18, Tryd.ntmps18
  go_wp2_with fail
  refine Hk.out.mono ?_
  rintro e w1 ⟨⟨v, rfl, hv⟩, hb1⟩
  have HB1 := Lib.hid (HB.out.1.trans (hb1.mono HB.out.1.size))
  have HC1 := Lib.hid (HC.out.below hb1 HB.out.2)
  have hlt1 : w.heap.size < w1.heap.size := Nat.lt_of_lt_of_le HB.out.2 hb1.size
  clear hb1
  by_cases h0 : F.1 = 0
  · obtain ⟨hF0, rfl⟩ := hv.nil h0
    have H0 := Lib.hid h0
    have hl16 : len ≤ 16 := by
      have h9 := Hz.out h0
      have := Hl.out.1
      omega
    clear hv h0 hF0
    -- the two lists
    have hW : ∃ W, w1.alloc (.cells #[.slice aA lA cA, .slice aB lB cB] 22) = W := ⟨_, rfl⟩
    obtain ⟨W, hW⟩ := hW
    have hBW : Below w.heap.size w W := by rw [← hW]; exact HB1.out.alloc HB1.out.size _
    have hcW : ∀ r, r < 2 → ∃ (X : List ByteArray) (ax : Option Addr) (lx cx : Nat), W.cell? ⟨w1.heap.size, r, none⟩ = some (.slice ax lx cx) ∧ X.length = lx ∧ lx ≤ 9223372036854775807 ∧ TxsAt w.heap.size W ax X ∧ ((r = 0 ∧ X = A) ∨ (r = 1 ∧ X = B)) := fun r hr => by
      have hcell : ∀ r, W.cell? ⟨w1.heap.size, r, none⟩ = (#[.slice aA lA cA, .slice aB lB cB] : Array Value)[r]? := fun r => by rw [← hW, World.cell?_alloc_at _ _ _ _ rfl]
      rcases (show r = 0 ∨ r = 1 by omega) with rfl | rfl
      · exact ⟨A, aA, lA, cA, hcell 0, Hl.out.2.1, hlA9, HI.out.2.1.below hBW, .inl ⟨rfl, rfl⟩⟩
      · exact ⟨B, aB, lB, cB, hcell 1, Hl.out.2.2.1, hlB9, HI.out.2.2.below hBW, .inr ⟨rfl, rfl⟩⟩
    have HCW : Hid (CfgAt W w.heap.size n k (.slice a len cap)) := Lib.hid (by
      rw [← hW]
      exact HC1.out.below ((Below.refl w1.heap.size w1).alloc (Nat.le_refl _) _) hlt1)
    have h4W : W.cell? ⟨0, 0, none⟩ = some (errV (E 4)) := (hBW.cell (lt_of_cell H4.out)).trans H4.out
    have HcW := Lib.hid hcW
    have HBW := Lib.hid hBW
    have HWe := Lib.hid hW
    have H4W := Lib.hid h4W
    obtain ⟨g, hg⟩ : ∃ g, w1.heap.size = g := ⟨_, rfl⟩
    rw [hg] at HcW
    have Hg := Lib.hid hg
    clear hcW hBW hW h4W hg
    go_wp2
    rw [HWe.out, Hg.out]
    go_loop [25] (fun vi => ∃ r : Nat, r ≤ 2 ∧ vi = .int .i64 r ∧ Hid ((1 ≤ r → missF L A = none) ∧ (2 ≤ r → missF L B = none))) (fun i => 2 - (intOf i).toNat)
    case atStart => exact ⟨0, by omega, rfl, Lib.hid ⟨fun h => by omega, fun h => by omega⟩⟩
    case round =>
      obtain ⟨r, hr, rfl, Hm⟩ := hrel
      have hr2 : r < 2 ∨ r = 2 := by omega
      rcases hr2 with hlt | rfl
      · have hltr : (r : Int) < 2 := by omega
        obtain ⟨X, ax, lx, cx, hcell, hXl, hx9, hXt, hX⟩ := HcW.out r hlt
        have hmiss : ∀ i, i < lx → (∀ j, j < i → (X[j]?.getD ⟨#[]⟩) ∈ L) → (X[i]?.getD ⟨#[]⟩) ∉ L → meetF L A B = (5, (i : Int)) := fun i hi hj h => by
          rcases hX with ⟨rfl, rfl⟩ | ⟨rfl, rfl⟩
          · exact meetF_a (missF_at (by omega) hj h)
          · exact meetF_b (Hm.out.1 (by omega)) (missF_at (by omega) hj h)
        have hnext : (∀ j, j < lx → (X[j]?.getD ⟨#[]⟩) ∈ L) → (1 ≤ r + 1 → missF L A = none) ∧ (2 ≤ r + 1 → missF L B = none) := fun hj => by
          rcases hX with ⟨rfl, rfl⟩ | ⟨rfl, rfl⟩
          · exact ⟨fun _ => missF_none (fun j h => hj j (by omega)), fun h => by omega⟩
          · exact ⟨fun _ => Hm.out.1 (by omega), fun _ => missF_none (fun j h => hj j (by omega))⟩
        have HM := Lib.hid (And.intro hmiss hnext)
        have HX := Lib.hid (And.intro hXl hXt)
        clear hmiss hnext hXl hXt hX
        go_wp2
        go_loop [31] (fun vi => ∃ i : Nat, i ≤ lx ∧ vi = .int .i64 i ∧ Hid (∀ j, j < i → (X[j]?.getD ⟨#[]⟩) ∈ L)) (fun i => lx - (intOf i).toNat)
        case atStart => exact ⟨0, by omega, rfl, Lib.hid (fun j hj => by omega)⟩
        case round =>
          obtain ⟨i, hi, rfl, Hj⟩ := hrel
          have hi2 : i < lx ∨ i = lx := by omega
          rcases hi2 with hilt | rfl
          · have hilt2 : (i : Int) < lx := by omega
            rcases HX.out.2 with he | ⟨b, off, rfl, _, hcx⟩
            · exfalso
              have := HX.out.1
              rw [he] at this; simp at this; omega
            have h1 := hcx i (by have := HX.out.1; omega)
            obtain ⟨x, hx⟩ : ∃ x, X[i]?.getD ⟨#[]⟩ = x := ⟨_, rfl⟩
            rw [hx] at h1
            have Hx := Lib.hid hx
            obtain ⟨rr, hrr⟩ : ∃ rr, decide (x ∈ L) = rr := ⟨_, rfl⟩
            have Hcs := Lib.hid (contS_walk w.heap.size a len cap L x rr W Hl.out.1 (by unfold maxLen; omega) (HI.out.1.below HBW.out) hrr)
            have Hrr := Lib.hid hrr
            obtain ⟨c0, c1, c2⟩ := HCW.out
            clear hcx hx hrr
            cases rr with
            | true =>
              go_wp2_with fail
              refine Hcs.out.mono ?_
              rintro e w' ⟨rfl, rfl⟩
              go_wp2
              go_round
              case rel => exact ⟨i + 1, by omega, by go_num, Lib.hid (fun j hj => by
                by_cases e : j = i
                · rw [e, Hx.out]; exact of_decide_eq_true Hrr.out
                · exact Hj.out j (by omega))⟩
              case measure => simp [intOf]; omega
            | false =>
              have hmt := HM.out.1 i hilt Hj.out (by rw [Hx.out]; exact of_decide_eq_false Hrr.out)
              have Hmt := Lib.hid hmt
              have c4 := H4W.out
              clear hmt
              go_wp2_with fail
              refine Hcs.out.mono ?_
              rintro e w' ⟨rfl, rfl⟩
              go_wp2
              go_region
              all_goals
                go_wp2
                go_ret2
                refine ⟨(HBW.out.alloc HBW.out.size _).drew, .inr (.inl ⟨by rw [HF.out]; exact H0.out, by rw [Hmt.out]; exact (by decide : (5 : Nat) ≠ 0), faultV W.heap.size, ?_, rfl⟩)⟩
                rw [Hmt.out]
                exact .inr (.inr ⟨4, W.heap.size, by decide, rfl, rfl, ⟨by simp, by simp⟩⟩)
          · have hn := HM.out.2 Hj.out
            have Hn := Lib.hid hn
            clear hn
            go_wp2
            go_round
            case rel => exact ⟨r + 1, by omega, by go_num, Hn⟩
            case measure => simp [intOf]; omega
      · have hmt : meetF L A B = (0, -1) := meetF_ok (Hm.out.1 (by omega)) (Hm.out.2 (by omega))
        have Hmt := Lib.hid hmt
        clear hmt
        obtain ⟨c0, c1, c2⟩ := HCW.out
        go_wp2
        go_loopw [13, 51] (fun vo vi wr => ∃ i : Nat, i ≤ len ∧ vi = .int .i64 i ∧ Hid (OwnT w.heap.size wr vo (bothL (L.take i) A B) ∧ Below w.heap.size W wr)) (fun _ i _ => len - (intOf i).toNat)
        case atStart => exact ⟨0, by omega, rfl, Lib.hid ⟨by simpa [bothL] using OwnT.nil _ _, Below.refl _ _⟩⟩
        case round =>
          obtain ⟨i, hi, rfl, Hr⟩ := hrel
          have hi2 : i < len ∨ i = len := by omega
          have HBr := Lib.hid (HBW.out.trans (Hr.out.2.mono (Nat.le_refl _)))
          rcases hi2 with hilt | rfl
          · have hilt2 : (i : Int) < len := by omega
            rcases HI.out.1.below HBr.out with he | ⟨b, off, rfl, _, hcx⟩
            · exfalso
              have := Hl.out.1
              rw [he] at this; simp at this; omega
            have h1 := hcx i (by have := Hl.out.1; omega)
            have hnx := take_filter L (fun s => decide (s ∈ A) && decide (s ∈ B)) (k := i) (by have := Hl.out.1; omega)
            obtain ⟨x, hx⟩ : ∃ x, L[i]?.getD ⟨#[]⟩ = x := ⟨_, rfl⟩
            rw [hx] at h1 hnx
            obtain ⟨ra, hra⟩ : ∃ r, decide (x ∈ A) = r := ⟨_, rfl⟩
            obtain ⟨rb, hrb⟩ : ∃ r, decide (x ∈ B) = r := ⟨_, rfl⟩
            have Hca := Lib.hid (contS_walk w.heap.size aA lA cA A x ra wr Hl.out.2.1 Hl.out.2.2.2.1 (HI.out.2.1.below HBr.out) hra)
            have Hcb := Lib.hid (contS_walk w.heap.size aB lB cB B x rb wr Hl.out.2.2.1 Hl.out.2.2.2.2 (HI.out.2.2.below HBr.out) hrb)
            simp only [hra, hrb] at hnx
            have Hnx := Lib.hid hnx
            clear hcx hx hra hrb hnx
            cases ra with
            | false =>
              go_wp2_with fail
              refine Hca.out.mono ?_
              rintro e w' ⟨rfl, rfl⟩
              go_wp2
              go_roundw
              case rel => exact ⟨i + 1, by omega, by go_num, Lib.hid ⟨by rw [show bothL (L.take (i + 1)) A B = bothL (L.take i) A B from by unfold bothL; rw [Hnx.out]; rfl]; exact Hr.out.1, Hr.out.2⟩⟩
              case measure => simp [intOf]; omega
            | true =>
              cases rb with
              | false =>
                go_wp2_with fail
                refine Hca.out.mono ?_
                rintro e w' ⟨rfl, rfl⟩
                go_wp2_with fail
                refine Hcb.out.mono ?_
                rintro e w' ⟨rfl, rfl⟩
                go_wp2
                go_roundw
                case rel => exact ⟨i + 1, by omega, by go_num, Lib.hid ⟨by rw [show bothL (L.take (i + 1)) A B = bothL (L.take i) A B from by unfold bothL; rw [Hnx.out]; rfl]; exact Hr.out.1, Hr.out.2⟩⟩
                case measure => simp [intOf]; omega
              | true =>
                have hown := Lib.hid Hr.out.1
                have hul : (bothL (L.take i) A B).length ≤ 1000000 := by
                  have h8 := List.length_filter_le (fun s => decide (s ∈ A) && decide (s ∈ B)) (L.take i)
                  have h9 := List.length_take_le i L
                  unfold bothL
                  omega
                have hszr := HBr.out.size
                go_wp2_with fail
                refine Hca.out.mono ?_
                rintro e w' ⟨rfl, rfl⟩
                go_wp2_with fail
                refine Hcb.out.mono ?_
                rintro e w' ⟨rfl, rfl⟩
                go_wp2_with (at_builtin; refine append_txt 63 65 rfl rfl w.heap.size _ _ x rfl rfl hown.out hul hszr ?_)
                intro v' w' k1 k2 _
                have hlt := hown.out
                have hB2 : Below w.heap.size w w' := (HBr.out.alloc hszr _).grown k2 (by simp; omega) (fun j e => (Own1.lt hlt j e).1)
                have hO2 : OwnT w.heap.size w' v' (bothL (L.take (i + 1)) A B) := by
                  rw [show bothL (L.take (i + 1)) A B = bothL (L.take i) A B ++ [x] from by unfold bothL; rw [Hnx.out]; rfl]
                  exact k1
                have hB3 : Below w.heap.size W w' := (Hr.out.2.alloc hszr _).grown k2 (by simp; omega) (fun j e => (Own1.lt hlt j e).1)
                have HR := Lib.hid (And.intro hO2 hB3)
                clear k1 k2 hB2 hO2 hB3 hlt
                go_wp2
                go_roundw
                case rel => exact ⟨i + 1, by omega, by go_num, HR⟩
                case measure => simp [intOf]; omega
          · go_wp2
            go_ret2
            refine ⟨HBr.out, .inr (.inr ⟨by rw [HF.out]; exact H0.out, by rw [Hmt.out], _, ?_, rfl⟩)⟩
            have h9 := Hr.out.1
            rw [List.take_of_length_le (by have := Hl.out.1; omega)] at h9
            exact h9
  · have H0 := Lib.hid (And.intro h0 hv)
    rcases hv.some_ h0 with ⟨x, rfl⟩ | ⟨m, rfl⟩
    · clear hv h0
      go_wp2
      go_ret2
      exact ⟨HB1.out, .inl ⟨by rw [HF.out]; exact H0.out.1, _, by rw [HF.out]; exact H0.out.2, rfl⟩⟩
    · unfold faultV at H0 ⊢
      clear hv h0
      go_wp2
      go_ret2
      exact ⟨HB1.out, .inl ⟨by rw [HF.out]; exact H0.out.1, _, by rw [HF.out]; exact H0.out.2, rfl⟩⟩
end Go.Proofs.YtmaalkjimppnkaaDoor
