/- The walk of the law ServeSeals. -/
import Derived.Test.YtdikigdlmlocmaaDoorSvE
import Derived.Test.YtdikigdlmlocmaaDoorEnvS
import Derived.Test.YtdikigdlmlocmaaDoorSmV
namespace Go.Proofs.YtdikigdlmlocmaaDoor
section
open Go.RowKit

variable {H : Type} {enc : TypeId × Value → H} {W : World}
set_option maxRecDepth 100000 in
theorem open_version {base : Nat} {v : Value} {d : DataW H} {p : List MemPlace} (hv : Value.okWide Tryd.prog W .any base 28 v) (h : DataW.Trod enc Tryd.prog W 0 (fun _ => true) true 28 v d p) :
    ∃ x1 x2 x3 x4 x5, v = .agg #[.int .i64 x1, .int .i64 x2, .int .i64 x3, .int .i64 x4, .string x5] ∧ VerOk (x1, x2, x3, x4, x5) := by
  obtain ⟨cs, rfl, hsz⟩ := Go.WideShapes.okWide_struct Tryd.underlying28 hv
  obtain ⟨fuel, hf⟩ := h
  obtain ⟨⟨x1, x2, x3, x4, x5⟩, e, hx⟩ := ver_trodI hf
  refine ⟨x1, x2, x3, x4, x5, ?_, hx⟩
  have e2 : cs.toList = encVr (x1, x2, x3, x4, x5) := by simpa [Value.cells] using e
  congr 1
  exact Array.toList_inj.1 e2
end
namespace serveSeals
open Go.RowKit Go.BigFrame

/-- what is left of a member while it is told messages of one configuration. -/
def Inv (w wr : World) (mp : Nat) : Prop := ∃ (P : Nat → Prop) (cs : List Int) (H : Int → HSt), MemAt P wr mp nA cs H ∧ (∀ b, P b → w.heap.size ≤ b) ∧ Below w.heap.size w wr ∧ ∃ st, OneS 1 (absM cs H) st
theorem abs_fine {P : Nat → Prop} {w : World} {mp : Nat} {name : ByteArray} {cs : List Int} {H : Int → HSt} {c : Int} {st : HS} (h : MemAt P w mp name cs H) (ha : absM cs H = [(c, st)]) : st.2.length ≤ 60 := by
  have e := cs_of_abs ha
  subst e
  have h1 := (h.fine c (by simp)).2
  unfold absM at ha
  simp at ha
  rw [← ha]
  exact h1
theorem keep_sealed {m : Msg} (hk : m.kind = kKeep) (l : List Kp) : actT m (true, l) = ((true, l), some (kKept, true, [])) := by
  unfold actT
  rw [if_neg (by rw [hk]; decide), if_neg (by rw [hk]; decide)]
  unfold afterP
  dsimp only
  rw [errM_sd]
  rfl
theorem MsgAtS.stay {P : Nat → Prop} {n : Nat} {A B : World} {b o : Nat} {m : Msg} (h : KeptBut P A B) (hS : n ≤ b ∧ ¬ P b) (hl : b < A.heap.size) (hm : MsgAtS (fun b => n ≤ b ∧ ¬ P b) A b o m) : MsgAtS (fun b => n ≤ b ∧ ¬ P b) B b o m :=
  hm.kept h (fun _ _ h1 h2 => h1.2 h2) hS hl
theorem seq1 {w : World} (x1 x2 x3 x4 : Int) (x5 : ByteArray) : VrS (fun b => w.heap.size ≤ b) (w.alloc (.cells #[.int .i64 x1, .int .i64 x2, .int .i64 x3, .int .i64 x4, .string x5] 28)) (some ⟨w.heap.size, 0, none⟩) [(x1, x2, x3, x4, x5)] := by
  refine .inr ⟨_, 0, rfl, Nat.le_refl _, by simp, fun i j hi hj => ?_⟩
  have hi0 : i = 0 := by simp at hi; omega
  subst hi0
  match j, hj with
  | 0, _ => simp [encVr]
  | 1, _ => simp [encVr]
  | 2, _ => simp [encVr]
  | 3, _ => simp [encVr]
  | 4, _ => simp [encVr]
set_option maxRecDepth 100000 in
set_option maxHeartbeats 16000000 in
theorem walk (a : Option Addr) (len cap : Nat) (l : List Msg) (x1 x2 x3 x4 : Int) (x5 : ByteArray) (w : World) (hA : MsgsIn w a len cap l) (hr : ∀ i, i < len → (l[i]?.getD msg0).L.length * 48 ≤ reachBytes) (_hv : VerOk (x1, x2, x3, x4, x5)) (hL : laidMetH Tryd.prog Rows.serveSealsRow.laid w) :
    Calls Tryd.prog 3 #[.slice a len cap, .agg #[.int .i64 x1, .int .i64 x2, .int .i64 x3, .int .i64 x4, .string x5]] w fun e w' => e = .returned (.bool true) ∧ Below w.heap.size w w' := by
  obtain ⟨E, hE⟩ := errs_of_laid (fun i hi => by
    rcases hi with rfl | rfl | rfl | rfl | rfl
    · exact List.mem_cons_self
    · exact List.mem_cons_of_mem _ List.mem_cons_self
    · exact List.mem_cons_of_mem _ (List.mem_cons_of_mem _ List.mem_cons_self)
    · exact List.mem_cons_of_mem _ (List.mem_cons_of_mem _ (List.mem_cons_of_mem _ List.mem_cons_self))
    · exact List.mem_cons_of_mem _ (List.mem_cons_of_mem _ (List.mem_cons_of_mem _ (List.mem_cons_of_mem _ List.mem_cons_self)))) hL
  obtain ⟨W1, hW1⟩ : ∃ W1, w.alloc (.cells #[.int .i64 x1, .int .i64 x2, .int .i64 x3, .int .i64 x4, .string x5] 28) = W1 := ⟨_, rfl⟩
  obtain ⟨vb, hvb⟩ : ∃ vb, w.heap.size = vb := ⟨_, rfl⟩
  have hb1 : Below w.heap.size w W1 := by rw [← hW1]; exact (Below.refl _ _).alloc (Nat.le_refl _) _
  have r0 : W1.cell? ⟨vb, 0, none⟩ = some (.int .i64 x1) := by rw [← hW1, ← hvb]; simp
  have r1 : W1.cell? ⟨vb, 1, none⟩ = some (.int .i64 x2) := by rw [← hW1, ← hvb]; simp
  have r2 : W1.cell? ⟨vb, 2, none⟩ = some (.int .i64 x3) := by rw [← hW1, ← hvb]; simp
  have r3 : W1.cell? ⟨vb, 3, none⟩ = some (.int .i64 x4) := by rw [← hW1, ← hvb]; simp
  have r4 : W1.cell? ⟨vb, 4, none⟩ = some (.string x5) := by rw [← hW1, ← hvb]; simp
  have hs1 : W1.heap.size = vb + 1 := by rw [← hW1, ← hvb]; simp
  have hE1 := hE.below hb1 (Nat.le_refl _)
  have hA1 : MsgsIn W1 a len cap l := by
    obtain ⟨h1, h2, h3, h4, h5, h6⟩ := hA
    exact ⟨h1, h2, h3, h4, (h5.below hb1).mono hb1.size, h6⟩
  have HM := Lib.hid (And.intro hb1 (And.intro hW1 (And.intro hvb (And.intro hE1 (And.intro hA1 (And.intro hr hs1))))))
  have Hv := Lib.hid (fun W (hb : Below W1.heap.size W1 W) => And.intro ((hb.cell (p := ⟨vb, 0, none⟩) (lt_of_cell r0)).trans r0) (And.intro ((hb.cell (p := ⟨vb, 1, none⟩) (lt_of_cell r1)).trans r1) (And.intro ((hb.cell (p := ⟨vb, 2, none⟩) (lt_of_cell r2)).trans r2) (And.intro ((hb.cell (p := ⟨vb, 3, none⟩) (lt_of_cell r3)).trans r3) ((hb.cell (p := ⟨vb, 4, none⟩) (lt_of_cell r4)).trans r4)))))
  clear r0 r1 r2 r3 r4 hs1 hE1 hA1 hE hA hr hb1 hW1 hvb
  go_enter Tryd.func3, Tryd.ntmps3
  go_wp2_with fail
  rw [HM.out.2.1, HM.out.2.2.1]
  refine (answers_walk W1 E HM.out.2.2.2.1).mono ?_
  rintro e w2 ⟨rfl, hb2⟩
  have H2 := Lib.hid hb2
  clear hb2
  go_wp2_with fail
  refine (mfit_walk w2 a len cap l ?_).mono ?_
  · obtain ⟨h1, h2, h3, h4, h5, h6⟩ := HM.out.2.2.2.2.1
    exact ⟨h1, h2, h3, h4, (h5.below H2.out).mono H2.out.size, h6⟩
  rintro e w3 ⟨⟨r, rfl⟩, hb3⟩
  have H3 := Lib.hid (H2.out.trans (hb3.mono H2.out.size))
  have h4 := (Hv.out w3 H3.out).2.2.2.2
  have h4' : w3.cell? ⟨vb, 2 + 1 + 1, none⟩ = some (.string x5) := h4
  have h4'' : w3.cell? ⟨vb, 3 + 1, none⟩ = some (.string x5) := h4
  clear hb3
  have hcs : r = false ∨ (r = true ∧ 200 < (x5.size : Int)) ∨ (r = true ∧ ¬ 200 < (x5.size : Int)) := by
    cases r
    · exact .inl rfl
    · by_cases e : 200 < (x5.size : Int)
      · exact .inr (.inl ⟨rfl, e⟩)
      · exact .inr (.inr ⟨rfl, e⟩)
  rcases hcs with rfl | ⟨rfl, hq⟩ | ⟨rfl, hq⟩
  · go_wp2
    go_ret
    exact ⟨rfl, HM.out.1.trans (H3.out.mono HM.out.1.size)⟩
  · go_wp2
    go_ret
    exact ⟨rfl, HM.out.1.trans (H3.out.mono HM.out.1.size)⟩
  · clear h4 h4' h4''
    have Hn := Lib.hid (snew_walk w3 nA name_nA (by decide))
    unfold nA at Hn
    have h4 := (Hv.out w3 H3.out).2.2.2.2
    go_wp2_with fail
    refine Hn.out.mono ?_
    rintro e w4 ⟨hb4, mp, rfl, hm4⟩
    have H4 := Lib.hid (And.intro hb4 hm4)
    clear hb4 hm4 Hn h4
    have HI0 : Hid (Inv w3 w4 mp) := Lib.hid ⟨_, [], _, H4.out.2, fun b hb => hb.1, H4.out.1, _, .inl ⟨rfl, rfl⟩⟩
    have hm9 : len ≤ 9223372036854775807 := by have h9 := HM.out.2.2.2.2.1.2.1; have h8 := HM.out.2.2.2.2.1.2.2.1; unfold maxLen at h8; omega
    have H31 : Hid (Below W1.heap.size W1 w3 ∧ W1.heap.size ≤ w3.heap.size) := Lib.hid ⟨H3.out, H3.out.size⟩
    clear H4 H2
    go_wp2
    go_loopw [8] (fun vi wr => ∃ (i : Nat), i ≤ len ∧ vi = .int .i64 i ∧ Hid (Inv w3 wr mp)) (fun vi _ => len - (intOf vi).toNat)
    case atStart => exact ⟨0, by omega, rfl, HI0⟩
    case round =>
      obtain ⟨i, hi, rfl, Hr⟩ := hrel
      obtain ⟨P, cs, H, hM, hP, hB, st, hst⟩ := Hr.out
      have hi2 : i < len ∨ i = len := by omega
      rcases hi2 with hilt | rfl
      · have hilt2 : (i : Int) < len := by omega
        obtain ⟨hl1, _, _, _, hl5, hl6⟩ := HM.out.2.2.2.2.1
        have hB1 : Below W1.heap.size W1 wr := H31.out.1.trans (hB.mono H31.out.2)
        rcases hl5.below hB1 with he | ⟨b, off, rfl, hbl, hcx⟩
        · exfalso
          rw [he] at hl1; simp at hl1; omega
        have hok := hl6 i hilt
        have hrc := HM.out.2.2.2.2.2.1 i hilt
        obtain ⟨k0, k1, k2, k3, k4, k5, k6, ad, cp, k7, q1, q2, q3, q4⟩ := hcx i (by rw [hl1]; exact hilt)
        obtain ⟨⟨fr, dst, kind, key, op, cf, sl, L⟩, hx⟩ : ∃ x, l[i]?.getD msg0 = x := ⟨_, rfl⟩
        rw [hx] at k0 k1 k2 k3 k4 k5 k6 k7 q1 q4 hok hrc
        dsimp only at k0 k1 k2 k3 k4 k5 k6 k7 q1 q4 hrc
        obtain ⟨n, hn⟩ : ∃ n, L.length = n := ⟨_, rfl⟩
        rw [hn] at k7 q1 hrc
        have hrc2 : n * 48 ≤ 140737488351232 := hrc
        have Hw := Lib.hid (wireof_walk wr fr dst kind key op cf sl ad n cp L hn hrc2 q3 (q4.mono hB1.size))
        have HQ := Lib.hid (And.intro hM (And.intro hP (And.intro hB (And.intro hst (And.intro hn hrc2)))))
        clear hcx hl5 hl6 hok hrc hrc2 q1 q2 q3 q4 hM hP hB hst hB1 hbl hl1 Hr
        go_wp2_with fail
        refine Hw.out.mono ?_
        rintro e w5 ⟨hb5, v, rfl, ho⟩
        obtain ⟨a5, c5, rfl, g1, g2, g3, g4⟩ := ho.readS
        have hM := HQ.out.1
        have hP := HQ.out.2.1
        have hB := HQ.out.2.2.1
        have Hall := Lib.hid (fun W6 (h6 : Below wr.heap.size wr W6) (k6 : KeptBut (fun b => b = w5.heap.size) w5 W6) => (hear_walk _ W6 mp nA cs H fr nA kind nK op 1 sl a5 L.length c5 L (hM.past h6) (by unfold Int64; omega) (by decide) rfl (by unfold maxLen at *; omega) ((g4.kept k6 (fun b hb _ h9 => by omega)).mono2 (fun b hl hb h9 => by have h8 := h9.2; omega)) E W1 HM.out.2.2.2.1 (H31.out.1.trans ((hB.mono H31.out.2).trans (h6.mono (Nat.le_trans H31.out.2 hB.size)))) (fun b hb => Nat.le_trans H31.out.2 (hP b hb.1))))
        have H5 := Lib.hid (And.intro hb5 (Nat.le_refl w5.heap.size))
        rw [HQ.out.2.2.2.2.1] at Hall
        rw [HQ.out.2.2.2.2.1]
        clear hb5 ho g1 g2 g3 g4 k0 k1 k2 k3 k4 k5 k6 k7 Hw hM hP hB
        unfold nA nK at Hall
        go_wp2_with fail
        refine (Hall.out _ ?_ ?_).mono ?_
        · exact H5.out.1.alloc H5.out.1.size _
        · exact (KeptBut.refl _ _).alloc1 _
        rintro e w7 ⟨cs', H', P', h1, h2, h3, h4, ar, cr, rfl, _⟩
        have hb6 : Below wr.heap.size wr (w5.alloc (.cells #[.string fr, .string nA, .string kind, .string nK, .int .i64 op, .int .i64 1, .bool sl, .slice a5 n c5] 38)) := H5.out.1.alloc H5.out.1.size _
        have HI : Hid (Inv w3 w7 mp) := Lib.hid ⟨P', cs', H', h3, fun b hb => HQ.out.2.1 b (h1 b hb).1, by
            have hBr := HQ.out.2.2.1
            exact (hBr.trans (hb6.mono hBr.size)).trans (h2.below (Nat.le_trans hBr.size hb6.size) (fun b hb => HQ.out.2.1 b hb.1)), by
            rw [h4]
            exact hear_keeps ⟨_, HQ.out.2.2.2.1⟩ rfl⟩
        clear h1 h2 h3 h4 hb6 Hall
        go_wp2
        go_roundw
        case rel => exact ⟨i + 1, by omega, by go_num, HI⟩
        case measure => simp [intOf]; omega
      · have HR := Lib.hid (And.intro hM (And.intro hP (And.intro hB hst)))
        have Ha := Lib.hid ((hear_walk P wr mp nA cs H nC0 nA kLook nK 0 1 false none 0 0 [] hM (by unfold Int64; omega) (by decide) rfl (by decide) (.inl rfl) E W1 HM.out.2.2.2.1 (H31.out.1.trans (hB.mono H31.out.2)) (fun b hb => Nat.le_trans H31.out.2 (hP b hb))).mono fun e w' h => HearPost.act (c := 1) (x := (kTold, st.1, getL st.2 nK)) h hst rfl (look_hears 1 (by decide)) rfl)
        clear hM hP hB hst Hr
        unfold nA nC0 kLook nK at Ha
        go_wp2_with fail
        refine Ha.out.mono ?_
        rintro e w8 ⟨cs1, H1, P1, b1, off1, cap1, g1, g2, g3, g4, rfl, g5, g6, g7⟩
        have hP1 : ∀ b, P1 b → W1.heap.size ≤ b := fun b hb => Nat.le_trans H31.out.2 (HR.out.2.1 b (g1 b hb))
        have hB8 : Below W1.heap.size W1 w8 := (H31.out.1.trans (HR.out.2.2.1.mono H31.out.2)).trans (g2.below (Nat.le_trans H31.out.2 HR.out.2.2.1.size) (fun b hb => Nat.le_trans H31.out.2 (HR.out.2.1 b hb)))
        have Ha2 := Lib.hid ((hear_walk P1 w8 mp nA cs1 H1 ⟨#[109, 111, 118, 101, 114]⟩ nA kSeal' nK 0 1 false none 0 0 [] g3 (by unfold Int64; omega) (by decide) rfl (by decide) (.inl rfl) E W1 HM.out.2.2.2.1 hB8 hP1).mono fun e w' h => HearPost.act (c := 1) (st := st) (x := (kSealed, false, getL st.2 nK)) h (.inr g4) rfl (by unfold hearsB; simp [name_nK]) rfl)
        have Hfine := Lib.hid (abs_fine (st := st) g3 g4)
        have R1 := Lib.hid (And.intro g5 (And.intro g6 (And.intro g7 (And.intro hP1 hB8))))
        clear g1 g2 g3 g4 g5 g6 g7 hP1 hB8 Ha
        unfold nA kSeal' nK at Ha2
        go_wp2_with fail
        refine Ha2.out.mono ?_
        rintro e w9 ⟨cs2, H2, P2, b2, off2, cap2, g1, g2, g3, g4, rfl, g5, g6, g7⟩
        have hP2 : ∀ b, P2 b → W1.heap.size ≤ b := fun b hb => R1.out.2.2.2.1 b (g1 b hb)
        have hB9 : Below W1.heap.size W1 w9 := R1.out.2.2.2.2.trans (g2.below R1.out.2.2.2.2.size R1.out.2.2.2.1)
        have Hk := Lib.hid (fun W9 (h6 : Below w9.heap.size w9 W9) (hc : VrS (fun b => w9.heap.size ≤ b) W9 (some ⟨w9.heap.size, 0, none⟩) [(x1, x2, x3, x4, x5)]) => (hear_walk _ W9 mp nA cs2 H2 nC0 nA kKeep nK 0 1 false (some ⟨w9.heap.size, 0, none⟩) 1 1 [(x1, x2, x3, x4, x5)] (g3.past h6) (by unfold Int64; omega) (by decide) rfl (by decide) (hc.mono2 (fun b hl hb h9 => by have h8 := h9.2; omega)) E W1 HM.out.2.2.2.1 (hB9.trans (h6.mono hB9.size)) (fun b hb => hP2 b hb.1)).mono fun e w' h => HearPost.act (c := 1) (st := (true, st.2)) (x := (kKept, true, [])) h (.inr g4) rfl (by unfold hearsB; simp [name_nK]) (by rw [keep_sealed rfl]))
        obtain ⟨v0, v1, v2, v3, v4⟩ := Hv.out w9 hB9
        have R2 := Lib.hid (And.intro g5 (And.intro g6 (And.intro g7 (And.intro hP2 (And.intro hB9 (And.intro g2 g1))))))
        clear g1 g2 g3 g4 g5 g6 g7 hP2 hB9 Ha2
        unfold nA nC0 kKeep nK at Hk
        go_wp2_with fail
        refine (Hk.out _ ((Below.refl _ _).alloc (Nat.le_refl _) _) (seq1 _ _ _ _ _)).mono ?_
        rintro e w10 ⟨cs3, H3, P3, b3, off3, cap3, g1, g2, g3, g4, rfl, g5, g6, g7⟩
        have hsz9 : w9.heap.size ≤ (w9.alloc (.cells #[.int .i64 x1, .int .i64 x2, .int .i64 x3, .int .i64 x4, .string x5] 28)).heap.size := by simp
        have hk9 : KeptBut P2 w9 w10 := ((KeptBut.refl P2 w9).alloc1 _).trans (g2.mono fun b _ hb => hb.1)
        have hP3 : ∀ b, P3 b → W1.heap.size ≤ b := fun b hb => R2.out.2.2.2.1 b (g1 b hb).1
        have hB10 : Below W1.heap.size W1 w10 := R2.out.2.2.2.2.1.trans (hk9.below R2.out.2.2.2.2.1.size R2.out.2.2.2.1)
        rw [keep_sealed rfl] at g4
        have Hl := Lib.hid ((hear_walk P3 w10 mp nA cs3 H3 nC0 nA kLook nK 0 1 false none 0 0 [] g3 (by unfold Int64; omega) (by decide) rfl (by decide) (.inl rfl) E W1 HM.out.2.2.2.1 hB10 hP3).mono fun e w' h => HearPost.act (c := 1) (st := (true, st.2)) (x := (kTold, true, getL st.2 nK)) h (.inr g4) rfl (look_hears 1 (by decide)) rfl)
        have R3 := Lib.hid (And.intro g5 (And.intro g6 (And.intro g7 (And.intro hP3 (And.intro hB10 (And.intro hk9 (fun b hb => (g1 b hb).1)))))))
        clear g1 g2 g3 g4 g5 g6 g7 hP3 hB10 Hk hk9 hsz9 v0 v1 v2 v3 v4
        unfold nA nC0 kLook nK at Hl
        go_wp2_with fail
        refine Hl.out.mono ?_
        rintro e w11 ⟨cs4, H4, P4, b4, off4, cap4, g1, g2, g3, g4, rfl, g5, g6, g7⟩
        have hB11 : Below W1.heap.size W1 w11 := R3.out.2.2.2.2.1.trans (g2.below R3.out.2.2.2.2.1.size R3.out.2.2.2.1)
        have m3 := MsgAtS.stay g2 R3.out.1 R3.out.2.1 R3.out.2.2.1
        have k29 : KeptBut P2 w9 w11 := R3.out.2.2.2.2.2.1.trans (g2.mono fun b _ hb => R3.out.2.2.2.2.2.2 b hb)
        have m2 := MsgAtS.stay k29 R2.out.1 R2.out.2.1 R2.out.2.2.1
        have k18 : KeptBut P1 w8 w11 := R2.out.2.2.2.2.2.1.trans (k29.mono fun b _ hb => R2.out.2.2.2.2.2.2 b hb)
        have m1 := MsgAtS.stay k18 R1.out.1 R1.out.2.1 R1.out.2.2.1
        have hBf := Lib.hid (HM.out.1.trans (hB11.mono HM.out.1.size))
        obtain ⟨_, _, _, _, _, _, _, ad1, cp1, c17, _, _, _, vr1⟩ := m1
        obtain ⟨_, _, c22, _, _, _, _, ad2, cp2, c27, _, _, _, vr2⟩ := m2
        obtain ⟨_, _, c32, _, _, _, c36, _⟩ := m3
        obtain ⟨_, _, c42, _, _, _, c46, ad4, cp4, c47, _, _, _, vr4⟩ := g7
        unfold ansMsg kSealed at c22
        unfold ansMsg kKept at c32
        unfold ansMsg at c36 c46
        unfold ansMsg kTold at c42
        unfold ansMsg at c17 c27 c47 vr1 vr2 vr4
        dsimp only at c17 c22 c27 c32 c36 c42 c46 c47 vr1 vr2 vr4
        have hl60 : (getL st.2 ⟨#[107]⟩).length ≤ maxLen := by have h1 := Hfine.out; have h2 := getL_le st.2 ⟨#[107]⟩; unfold maxLen; omega
        obtain ⟨G, hG⟩ : ∃ G, getL st.2 ⟨#[107]⟩ = G := ⟨_, rfl⟩
        rw [hG] at c17 c27 c47 vr1 vr2 vr4 hl60
        obtain ⟨n, hn⟩ : ∃ n, G.length = n := ⟨_, rfl⟩
        rw [hn] at c17 c27 c47 hl60
        have S21 := fun d os => Calls.regrown_of (samev_walk w11.heap.size ad2 n cp2 G ad1 n cp1 G true (Go.Sort.grow (redrawn w11 d) os) hn hn hl60 (vr2.read.below (below_regrown w11 d os)) (vr1.read.below (below_regrown w11 d os)) (decide_eq_true rfl))
        have S41 := fun d os => Calls.regrown_of (samev_walk w11.heap.size ad4 n cp4 G ad1 n cp1 G true (Go.Sort.grow (redrawn w11 d) os) hn hn hl60 (vr4.read.below (below_regrown w11 d os)) (vr1.read.below (below_regrown w11 d os)) (decide_eq_true rfl))
        have r17 := cell_regrown c17
        have r27 := cell_regrown c27
        have r47 := cell_regrown c47
        clear g1 g2 g3 g4 g5 g6 k29 k18 vr1 vr2 vr4 hB11 Hl hn hG
        go_wp2
        clear c17 c27 c47 c22 c32 c36 c42 c46
        refine wp_region_quiet_below (by kernel_rfl) (by kernel_rfl) ?_
        repeat (go_big_quiet_step (first | with_reducible exact S21 _ _ | with_reducible exact S41 _ _))
        refine wpQuiet_nil ?_
        intro w12 hw'
        obtain ⟨⟨dq, osq⟩, hw12⟩ := hw'
        have H12 := Lib.hid (show Below w11.heap.size w11 w12 by rw [hw12]; exact below_regrown w11 dq osq)
        clear hw12 S21 S41 r17 r27 r47
        go_wp2
        go_ret
        exact ⟨rfl, hBf.out.trans (H12.out.mono hBf.out.size)⟩
end serveSeals
end Go.Proofs.YtdikigdlmlocmaaDoor
