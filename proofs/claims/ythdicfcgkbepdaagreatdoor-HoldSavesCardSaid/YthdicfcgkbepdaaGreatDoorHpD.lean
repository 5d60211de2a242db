/- Walk of the law's play. -/
import Derived.Test.YthdicfcgkbepdaaGreatDoorHpC
import Derived.Test.YthdicfcgkbepdaaGreatDoorActs
import Derived.Test.YthdicfcgkbepdaaGreatDoorFl2
namespace Go.Proofs.YthdicfcgkbepdaaGreatDoor
section
open Go.RowKit Go.BigFrame

theorem size_le {n : Nat} {a b : World} (h : Below n a b) (hn : n ≤ a.heap.size) : n ≤ b.heap.size := Nat.le_trans hn h.size
theorem KeptBut.reads {P : Nat → Prop} {a b : World} (h : Below a.heap.size a b) : KeptBut P a b := KeptBut.of_below h (fun k h1 h2 => by omega)
theorem ErrEnv.hx {w : World} {E : Nat → Addr} (h : ErrEnv w E) : ErrHx w E := ⟨h.c1, h.c3, h.c5, h.c6, h.c9⟩
/-- coded, whatever the error. -/
theorem coded2_of (E : Nat → Addr) (c : Int) (v : Value) (w : World) (hE : ErrEnv w E) (h : errOf E c v) :
    Calls Tryz.prog 8 #[v, .int .i64 c] w fun e w' => e = .returned (.bool true) ∧ Below w.heap.size w w' := by
  rcases h with ⟨rfl, rfl⟩ | ⟨i, hi, rfl, rfl⟩
  · exact (coded2_nil 0 w).mono fun e w' h => by
      obtain ⟨h1, rfl⟩ := h
      exact ⟨h1, Below.refl _ _⟩
  · exact (coded2_err E i hi ((i : Int) + 1) w hE).mono fun e w' h => ⟨by rw [h.1, decide_eq_true rfl], h.2⟩
theorem two_last {P : Nat → Prop} {w : World} {hb mb : Nat} {sd s2 : Bool} {l l2 : List Kp} (h : Two P w hb mb sd l s2 l2) (hf : Fine l) (k : ByteArray) (hk : k.size ≤ maxLen) :
    Calls Tryz.prog 17 #[.pointer (some ⟨hb, 0, none⟩), .string k] w fun e w' => e = lastE (getL l k) ∧ Below w.heap.size w w' := by
  obtain ⟨F, G, ks, S, h1, _⟩ := h
  exact hlast_walk F w _ sd (getL l) ks S k h1 hk (by have := getL_le l k; have := hf.2; omega)
theorem two_get {P : Nat → Prop} {w : World} {hb mb : Nat} {sd s2 : Bool} {l l2 : List Kp} (h : Two P w hb mb sd l s2 l2) (hf : Fine l) (k : ByteArray) (hk : k.size ≤ maxLen) :
    Calls Tryz.prog 16 #[.pointer (some ⟨hb, 0, none⟩), .string k] w fun e w' => VCloneOut w w' (getL l k) e := by
  obtain ⟨F, G, ks, S, h1, _⟩ := h
  exact hget_walk F w _ sd (getL l) ks S k h1 hk (by have := getL_le l k; have := hf.2; omega)
theorem two_mget {P : Nat → Prop} {w : World} {hb mb : Nat} {sd s1 : Bool} {l l1 : List Kp} (h : Two P w hb mb s1 l1 sd l) (hf : Fine l) (k : ByteArray) :
    Calls Tryz.prog 36 #[.pointer (some ⟨mb, 0, none⟩), .string k] w fun e w' => VCloneOut w w' (getL l k) e := by
  obtain ⟨F, G, ks, S, h1, h2, _⟩ := h
  exact mget_walk G w _ sd l k h2 (by have := hf.2; omega)
def kPut : ByteArray := ⟨#[112, 117, 116]⟩
def kTrim : ByteArray := ⟨#[116, 114, 105, 109]⟩
def kSeal : ByteArray := ⟨#[115, 101, 97, 108]⟩
def kWipe : ByteArray := ⟨#[119, 105, 112, 101]⟩
set_option maxRecDepth 100000 in
set_option maxHeartbeats 8000000 in
theorem play_walk (W0 w : World) (hb mb : Nat) (sd : Bool) (l : List Kp) (E : Nat → Addr) (a : Option Addr) (len cap : Nat) (acts : List HAct) (hw : Below W0.heap.size W0 w) (h : Two (fun b => W0.heap.size ≤ b) w hb mb sd l sd l) (hf : Fine l) (hE : ErrEnv W0 E) (hA : ActsIn W0 a len cap acts) :
    Calls Tryz.prog 13 #[.pointer (some ⟨hb, 0, none⟩), .pointer (some ⟨mb, 0, none⟩), .slice a len cap] w fun e w' => e = .returned (.bool true) ∧ Below W0.heap.size w w' := by
  obtain ⟨hl, hc, hm, ha, hR, hok⟩ := hA
  have hm9 : len ≤ 9223372036854775807 := by unfold maxLen at hm; omega
  have Hl := Lib.hid (And.intro hl (And.intro hR (And.intro hok hE)))
  have Hw := Lib.hid (And.intro hw (And.intro h hf))
  clear hl ha hR hok hm hE hw h hf
  go_enter Tryz.func13, Tryz.ntmps13
  go_wp2
  go_loopw [7] (fun vi wr => ∃ (i : Nat), i ≤ len ∧ vi = .int .i64 i ∧ Hid (∃ sd l, Two (fun b => W0.heap.size ≤ b) wr hb mb sd l sd l ∧ Fine l ∧ Below W0.heap.size w wr)) (fun vi _ => len - (intOf vi).toNat)
  case atStart => exact ⟨0, by omega, rfl, Lib.hid ⟨sd, l, Hw.out.2.1, Hw.out.2.2, Below.refl _ _⟩⟩
  case round =>
    obtain ⟨i, hi, rfl, Hr⟩ := hrel
    obtain ⟨sd, l, hT, hF, hB⟩ := Hr.out
    have HT := Lib.hid (And.intro hT (And.intro hF hB))
    have hi2 : i < len ∨ i = len := by omega
    rcases hi2 with hilt | rfl
    · have hilt2 : (i : Int) < len := by omega
      have h0r := Hw.out.1.trans hB
      rcases Hl.out.2.1.below h0r with he | ⟨b, off, rfl, _, hcx⟩
      · exfalso
        have := Hl.out.1
        rw [he] at this; simp at this; omega
      obtain ⟨k0, k1, k2, k3, k4, k5, k6, k7⟩ := hcx i (by rw [Hl.out.1]; exact hilt)
      have hao := Hl.out.2.2.1 i hilt
      have hE := Hl.out.2.2.2
      obtain ⟨⟨s0, s1, ⟨x1, x2, x3, x4, x5⟩, N⟩, hx⟩ : ∃ x, acts[i]?.getD act0 = x := ⟨_, rfl⟩
      rw [hx] at k0 k1 k2 k3 k4 k5 k6 k7 hao
      dsimp only at k0 k1 k2 k3 k4 k5 k6 k7
      obtain ⟨_, ho1, ho2, ho3⟩ := hao
      dsimp only at ho1 ho2 ho3
      obtain ⟨ab, hab⟩ : ∃ ab, wr.heap.size = ab := ⟨_, rfl⟩
      obtain ⟨W1, hW1⟩ : ∃ W1, wr.alloc (.cells #[.string s0, .string s1, .int .i64 x1, .int .i64 x2, .int .i64 x3, .int .i64 x4, .string x5, .int .i64 N] 85) = W1 := ⟨_, rfl⟩
      have hsz1 : W1.heap.size = ab + 1 := by rw [← hW1, ← hab]; simp
      have hb1 : Below wr.heap.size wr W1 := by rw [← hW1]; exact (Below.refl _ _).alloc (Nat.le_refl _) _
      have hT1 := hT.past hb1
      rw [hab, hsz1] at hT1
      have hB1 : Below W0.heap.size w W1 := hB.trans (hb1.mono (size_le hB Hw.out.1.size))
      obtain ⟨PP, hPP⟩ : ∃ PP : Nat → Prop, (fun b => W0.heap.size ≤ b ∧ (b < ab ∨ ab + 1 ≤ b)) = PP := ⟨_, rfl⟩
      rw [hPP] at hT1
      have hP0 : ∀ b, PP b → W0.heap.size ≤ b := fun b h => by rw [← hPP] at h; exact h.1
      have hPa : ¬ PP ab := fun h => by rw [← hPP] at h; omega
      have r0 : W1.cell? ⟨ab, 0, none⟩ = some (.string s0) := by rw [← hW1, ← hab]; simp
      have r1 : W1.cell? ⟨ab, 1, none⟩ = some (.string s1) := by rw [← hW1, ← hab]; simp
      have r2 : W1.cell? ⟨ab, 2, none⟩ = some (.int .i64 x1) := by rw [← hW1, ← hab]; simp
      have r3 : W1.cell? ⟨ab, 3, none⟩ = some (.int .i64 x2) := by rw [← hW1, ← hab]; simp
      have r4 : W1.cell? ⟨ab, 4, none⟩ = some (.int .i64 x3) := by rw [← hW1, ← hab]; simp
      have r5 : W1.cell? ⟨ab, 5, none⟩ = some (.int .i64 x4) := by rw [← hW1, ← hab]; simp
      have r6 : W1.cell? ⟨ab, 6, none⟩ = some (.string x5) := by rw [← hW1, ← hab]; simp
      have r7 : W1.cell? ⟨ab, 7, none⟩ = some (.int .i64 N) := by rw [← hW1, ← hab]; simp
      have Hfix : Hid (∀ W, KeptBut PP W1 W → (W.cell? ⟨ab, 1, none⟩ = some (.string s1) ∧ W.cell? ⟨ab, 2, none⟩ = some (.int .i64 x1) ∧ W.cell? ⟨ab, 3, none⟩ = some (.int .i64 x2) ∧ W.cell? ⟨ab, 4, none⟩ = some (.int .i64 x3) ∧ W.cell? ⟨ab, 5, none⟩ = some (.int .i64 x4) ∧ W.cell? ⟨ab, 6, none⟩ = some (.string x5) ∧ W.cell? ⟨ab, 7, none⟩ = some (.int .i64 N)) ∧ ErrEnv W E ∧ Below W0.heap.size w W) := Lib.hid (fun W hk => by
        have hBW : Below W0.heap.size w W := hB1.trans (hk.below (size_le hB1 Hw.out.1.size) hP0)
        exact ⟨⟨hk.cell r1 hPa, hk.cell r2 hPa, hk.cell r3 hPa, hk.cell r4 hPa, hk.cell r5 hPa, hk.cell r6 hPa, hk.cell r7 hPa⟩, hE.below (Hw.out.1.trans hBW) (Nat.le_refl _), hBW⟩)
      have HW1 := Lib.hid (And.intro hW1 hab)
      have HT1 := Lib.hid (And.intro hT1 hF)
      have HP := Lib.hid hP0
      clear hcx hx hT hF hB hE Hr h0r hW1 hab hsz1 hb1 hT1 hB1 hPP hP0 hPa r0 r1 r2 r3 r4 r5 r6 r7 HT
      have hcs : s0 = kPut ∨ s0 = kTrim ∨ s0 = kSeal ∨ s0 = kWipe ∨ (s0 ≠ kPut ∧ s0 ≠ kTrim ∧ s0 ≠ kSeal ∧ s0 ≠ kWipe) := by
        by_cases e1 : s0 = kPut
        · exact .inl e1
        · by_cases e2 : s0 = kTrim
          · exact .inr (.inl e2)
          · by_cases e3 : s0 = kSeal
            · exact .inr (.inr (.inl e3))
            · by_cases e4 : s0 = kWipe
              · exact .inr (.inr (.inr (.inl e4)))
              · exact .inr (.inr (.inr (.inr ⟨e1, e2, e3, e4⟩)))
      rcases hcs with rfl | rfl | rfl | rfl | ⟨e1, e2, e3, e4⟩
      · unfold kPut at *
        go_wp2_with fail
        rw [HW1.out.1, HW1.out.2]
        have q1 := (Hfix.out _ (KeptBut.reads (Below.refl W1.heap.size W1).drew)).1
        go_region_held3 (fun W => W.cell? ⟨ab, 1, none⟩ = some (.string s1) ∧ W.cell? ⟨ab, 2, none⟩ = some (.int .i64 x1) ∧ W.cell? ⟨ab, 3, none⟩ = some (.int .i64 x2) ∧ W.cell? ⟨ab, 4, none⟩ = some (.int .i64 x3) ∧ W.cell? ⟨ab, 5, none⟩ = some (.int .i64 x4) ∧ W.cell? ⟨ab, 6, none⟩ = some (.string x5) ∧ W.cell? ⟨ab, 7, none⟩ = some (.int .i64 N))
          (first | exact q1 | exact q2 | exact q3 | exact q4)
          (first
            | (go_at_call 15; refine (two_hput (HT1.out.1.below (Below.refl _ _).drew (Nat.le_refl _)) HT1.out.2 E (Hfix.out _ (KeptBut.reads (Below.refl W1.heap.size W1).drew)).2.1.hx s1 x1 x2 x3 x4 x5 ho1).mono ?_; rintro e w2 ⟨⟨v, rfl, hv⟩, t2, kb2⟩; have H2 := Lib.hid (And.intro ((KeptBut.reads (Below.refl W1.heap.size W1).drew).trans kb2) (And.intro t2 hv)); have q2 := (Hfix.out _ H2.out.1).1; clear hv t2 kb2)
            | (go_at_call 31; refine (two_mput H2.out.2.1 HT1.out.2 s1 x1 x2 x3 x4 x5 ho1 ho2).mono ?_; rintro e w3 ⟨rfl, t3, kb3⟩; have H3 := Lib.hid (And.intro (H2.out.1.trans kb3) t3); have q3 := (Hfix.out _ H3.out.1).1; clear t3 kb3)
            | (go_at_call 8; refine (coded2_of E _ _ _ (Hfix.out _ H3.out.1).2.1 H2.out.2.2).mono ?_; rintro e w4 ⟨rfl, hb4⟩; have H4 := Lib.hid (And.intro (H3.out.1.trans (KeptBut.reads hb4)) (H3.out.2.below hb4 (Nat.le_refl _))); have q4 := (Hfix.out _ H4.out.1).1; clear hb4))
        clear q1 q2 q3 q4
        have HN := Lib.hid (show ∃ sd l, Two (fun b => W0.heap.size ≤ b) w4 hb mb sd l sd l ∧ Fine l ∧ Below W0.heap.size w w4 from ⟨_, _, H4.out.2.mono HP.out, HT1.out.2.put, (Hfix.out _ H4.out.1).2.2⟩)
        go_wp2
        go_roundw
        case rel => exact ⟨i + 1, by omega, by go_num, HN⟩
        case measure => simp [intOf]; omega
      · unfold kTrim at *
        go_wp2_with fail
        rw [HW1.out.1, HW1.out.2]
        refine (two_htrim HT1.out.1 HT1.out.2 E (Hfix.out _ (KeptBut.refl _ _)).2.1.hx s1 N ho1 ho3).mono ?_
        rintro e w2 ⟨kb2, (⟨hneg, rfl, t2⟩ | ⟨K, rfl, rfl, t2⟩)⟩
        · have H2 := Lib.hid (And.intro kb2 t2)
          obtain ⟨c1, c2, c3, c4, c5, c6, c7⟩ := (Hfix.out _ kb2).1
          clear kb2 t2
          go_wp2_with fail
          refine (coded2_of E 2 _ w2 (Hfix.out _ H2.out.1).2.1 (.inr ⟨1, by omega, by omega, rfl⟩)).mono ?_
          rintro e w3 ⟨rfl, hb3⟩
          have H3 := Lib.hid (H2.out.1.trans (KeptBut.reads hb3))
          have HN := Lib.hid (show ∃ sd l, Two (fun b => W0.heap.size ≤ b) w3 hb mb sd l sd l ∧ Fine l ∧ Below W0.heap.size w w3 from ⟨_, _, (H2.out.2.below hb3 (Nat.le_refl _)).mono HP.out, HT1.out.2, (Hfix.out _ H3.out).2.2⟩)
          clear hb3 c1 c2 c3 c4 c5 c6 c7
          go_wp2
          go_roundw
          case rel => exact ⟨i + 1, by omega, by go_num, HN⟩
          case measure => simp [intOf]; omega
        · have H2 := Lib.hid (And.intro kb2 t2)
          obtain ⟨c1, c2, c3, c4, c5, c6, c7⟩ := (Hfix.out _ kb2).1
          clear kb2 t2
          have hKn : ¬ (K : Int) < 0 := by omega
          go_wp2_with fail
          refine (two_mtrim H2.out.2 HT1.out.2 s1 K (by omega)).mono ?_
          rintro e w3 ⟨rfl, t3, kb3⟩
          have HN := Lib.hid (show ∃ sd l, Two (fun b => W0.heap.size ≤ b) w3 hb mb sd l sd l ∧ Fine l ∧ Below W0.heap.size w w3 from ⟨_, _, t3.mono HP.out, HT1.out.2.trim, (Hfix.out _ (H2.out.1.trans kb3)).2.2⟩)
          clear t3 kb3 c1 c2 c3 c4 c5 c6 c7
          go_wp2
          go_roundw
          case rel => exact ⟨i + 1, by omega, by go_num, HN⟩
          case measure => simp [intOf]; omega
      · unfold kSeal at *
        go_wp2_with fail
        rw [HW1.out.1, HW1.out.2]
        refine (two_seal HT1.out.1).mono ?_
        rintro e w2 ⟨rfl, t2, kb2⟩
        obtain ⟨c1, ⟨am, cm, c0⟩, f0, f1⟩ := t2.mcells
        obtain ⟨t3, kb3⟩ := t2.mseal true
        have HN := Lib.hid (show ∃ sd l, Two (fun b => W0.heap.size ≤ b) (w2.setCell ⟨mb, 1, none⟩ (.bool true)) hb mb sd l sd l ∧ Fine l ∧ Below W0.heap.size w (w2.setCell ⟨mb, 1, none⟩ (.bool true)) from ⟨_, _, t3.mono HP.out, HT1.out.2, (Hfix.out _ (kb2.trans kb3)).2.2⟩)
        clear t2 t3 kb2 kb3
        go_wp2
        go_roundw
        case rel => exact ⟨i + 1, by omega, by go_num, HN⟩
        case measure => simp [intOf]; omega
      · unfold kWipe at *
        go_wp2_with fail
        rw [HW1.out.1, HW1.out.2]
        refine (two_wipe HT1.out.1).mono ?_
        rintro e w2 ⟨rfl, t2, kb2⟩
        obtain ⟨c1, ⟨am, cm, c0⟩, f0, f1⟩ := t2.mcells
        obtain ⟨t3, kb3⟩ := t2.mnil
        obtain ⟨d1, _, g0, g1⟩ := t3.mcells
        obtain ⟨t4, kb4⟩ := t3.mseal false
        have HN := Lib.hid (show ∃ sd l, Two (fun b => W0.heap.size ≤ b) ((w2.setCell ⟨mb, 0, none⟩ (.slice none 0 0)).setCell ⟨mb, 1, none⟩ (.bool false)) hb mb sd l sd l ∧ Fine l ∧ Below W0.heap.size w ((w2.setCell ⟨mb, 0, none⟩ (.slice none 0 0)).setCell ⟨mb, 1, none⟩ (.bool false)) from ⟨_, _, t4.mono HP.out, Fine.nil, (Hfix.out _ ((kb2.trans kb3).trans kb4)).2.2⟩)
        clear t2 t3 kb2 kb3 t4 kb4
        go_wp2
        go_roundw
        case rel => exact ⟨i + 1, by omega, by go_num, HN⟩
        case measure => simp [intOf]; omega
      · have l1 : kPut.toList = [112, 117, 116] := by rw [ByteArray.toList_eq]; rfl
        have l2 : kTrim.toList = [116, 114, 105, 109] := by rw [ByteArray.toList_eq]; rfl
        have l3 : kSeal.toList = [115, 101, 97, 108] := by rw [ByteArray.toList_eq]; rfl
        have l4 : kWipe.toList = [119, 105, 112, 101] := by rw [ByteArray.toList_eq]; rfl
        have e1 := txt_neW e1
        have e2 := txt_neW e2
        have e3 := txt_neW e3
        have e4 := txt_neW e4
        rw [l1] at e1
        rw [l2] at e2
        rw [l3] at e3
        rw [l4] at e4
        clear l1 l2 l3 l4
        have Hlast := Lib.hid (two_last HT1.out.1 HT1.out.2 s1 ho1)
        have Hget := Lib.hid (fun W (hk : KeptBut PP W1 W) (ht : Two PP W hb mb sd l sd l) => two_get ht HT1.out.2 s1 ho1)
        have Hmget := Lib.hid (fun W (hk : KeptBut PP W1 W) (ht : Two PP W hb mb sd l sd l) => two_mget ht HT1.out.2 s1)
        have hl60 : (getL l s1).length ≤ 60 := Nat.le_trans (getL_le l s1) HT1.out.2.2
        obtain ⟨L, hL⟩ : ∃ L, getL l s1 = L := ⟨_, rfl⟩
        rw [hL] at Hlast Hget Hmget hl60
        obtain ⟨n, hn⟩ : ∃ n, L.length = n := ⟨_, rfl⟩
        have hle : (n = 0 ∧ lastE L = .returned (.tuple #[.agg #[.int .i64 0, .int .i64 0], .bool false])) ∨ (0 < n ∧ ∃ t1 t2, lastE L = .returned (.tuple #[.agg #[.int .i64 t1, .int .i64 t2], .bool true])) := by
          unfold lastE
          rcases Nat.eq_zero_or_pos n with h0 | h0
          · left
            have h9 : L = [] := List.length_eq_zero_iff.1 (hn.trans h0)
            subst h9
            exact ⟨h0, rfl⟩
          · right
            exact ⟨h0, _, _, by rw [decide_eq_true (show 0 < L.length by omega)]⟩
        rw [hn] at hl60
        have HL := Lib.hid hn
        clear hL hn
        rcases hle with ⟨rfl, hle⟩ | ⟨hpos, t1, t2, hle⟩
        · rw [hle] at Hlast
          clear hle
          go_wp2_with fail
          rw [HW1.out.1, HW1.out.2]
          refine Hlast.out.mono ?_
          rintro e w2 ⟨rfl, hb2⟩
          obtain ⟨W2, hW2⟩ : ∃ W2, w2.alloc (.cells #[.int .i64 0, .int .i64 0] 45) = W2 := ⟨_, rfl⟩
          obtain ⟨tb, htb⟩ : ∃ tb, w2.heap.size = tb := ⟨_, rfl⟩
          have hb12 : Below W1.heap.size W1 W2 := by rw [← hW2]; exact hb2.alloc hb2.size _
          have hT2 := HT1.out.1.below hb12 (Nat.le_refl _)
          have hK2 : KeptBut PP W1 W2 := KeptBut.reads hb12
          have r0 : W2.cell? ⟨tb, 0, none⟩ = some (.int .i64 0) := by rw [← hW2, ← htb]; simp
          have r1 : W2.cell? ⟨tb, 1, none⟩ = some (.int .i64 0) := by rw [← hW2, ← htb]; simp
          obtain ⟨c1, _⟩ := (Hfix.out _ hK2).1
          have HW2 := Lib.hid (And.intro hW2 htb)
          have H2 := Lib.hid (And.intro hK2 hT2)
          have cells : ∀ W, Below W2.heap.size W2 W → W.cell? ⟨ab, 1, none⟩ = some (.string s1) ∧ W.cell? ⟨tb, 0, none⟩ = some (.int .i64 0) ∧ W.cell? ⟨tb, 1, none⟩ = some (.int .i64 0) := fun W hb => ⟨(hb.cell (p := ⟨ab, _, none⟩) (lt_of_cell c1)).trans c1, (hb.cell (p := ⟨tb, _, none⟩) (lt_of_cell r0)).trans r0, (hb.cell (p := ⟨tb, _, none⟩) (lt_of_cell r1)).trans r1⟩
          have Cells := Lib.hid cells
          have c1' : (w2.alloc (.cells #[.int .i64 0, .int .i64 0] 45)).cell? ⟨ab, 1, none⟩ = some (.string s1) := by rw [hW2]; exact c1
          clear hb2 hT2 hK2 hb12 r0 r1 cells hW2 htb c1
          go_wp2_with fail
          rw [HW2.out.1, HW2.out.2]
          refine (Hmget.out W2 H2.out.1 H2.out.2).mono ?_
          rintro e w3 ⟨hb3, v3, rfl, o3⟩
          obtain ⟨a3, cap3, rfl, _, _, _, t3⟩ := o3.read
          rw [HL.out]
          have H3 := Lib.hid (And.intro hb3 (And.intro ((H2.out.1).trans (KeptBut.reads hb3)) (And.intro (H2.out.2.below hb3 (Nat.le_refl _)) t3)))
          obtain ⟨d1, d2, d3⟩ := Cells.out _ H3.out.1
          clear hb3 o3 t3 c1'
          skip
          go_wp2_with fail
          refine (Hget.out w3 H3.out.2.1 H3.out.2.2.1).mono ?_
          rintro e w4 ⟨hb4, v4, rfl, o4⟩
          obtain ⟨a4, cap4, rfl, _, _, _, t4⟩ := o4.read
          rw [HL.out]
          have H4 := Lib.hid (And.intro hb4 t4)
          obtain ⟨g1, g2, g3⟩ := Cells.out _ (H3.out.1.trans (H4.out.1.mono H3.out.1.size))
          clear hb4 o4 t4
          go_wp2_with fail
          refine (samev_walk _ _ _ _ L _ _ _ L true _ HL.out HL.out (by unfold maxLen; omega) H4.out.2 (VrR.mono H4.out.1.size (VrR.below H4.out.1 H3.out.2.2.2)) (decide_eq_true rfl)).mono ?_
          rintro e w5 ⟨rfl, hb5⟩
          have H5 := Lib.hid (H4.out.1.trans (hb5.mono H4.out.1.size))
          obtain ⟨f1, f2, f3⟩ := Cells.out _ (H3.out.1.trans (H5.out.mono H3.out.1.size))
          clear hb5
          have HN := Lib.hid (show ∃ sd l, Two (fun b => W0.heap.size ≤ b) w5 hb mb sd l sd l ∧ Fine l ∧ Below W0.heap.size w w5 from ⟨_, _, (H3.out.2.2.1.below H5.out (Nat.le_refl _)).mono HP.out, HT1.out.2, (Hfix.out _ (H3.out.2.1.trans (KeptBut.reads H5.out))).2.2⟩)
          go_wp2
          go_roundw
          case rel => exact ⟨i + 1, by omega, by go_num, HN⟩
          case measure => simp [intOf]; omega
        · rw [hle] at Hlast
          clear hle
          go_wp2_with fail
          rw [HW1.out.1, HW1.out.2]
          refine Hlast.out.mono ?_
          rintro e w2 ⟨rfl, hb2⟩
          obtain ⟨W2, hW2⟩ : ∃ W2, w2.alloc (.cells #[.int .i64 t1, .int .i64 t2] 45) = W2 := ⟨_, rfl⟩
          obtain ⟨tb, htb⟩ : ∃ tb, w2.heap.size = tb := ⟨_, rfl⟩
          have hb12 : Below W1.heap.size W1 W2 := by rw [← hW2]; exact hb2.alloc hb2.size _
          have hT2 := HT1.out.1.below hb12 (Nat.le_refl _)
          have hK2 : KeptBut PP W1 W2 := KeptBut.reads hb12
          have r0 : W2.cell? ⟨tb, 0, none⟩ = some (.int .i64 t1) := by rw [← hW2, ← htb]; simp
          have r1 : W2.cell? ⟨tb, 1, none⟩ = some (.int .i64 t2) := by rw [← hW2, ← htb]; simp
          obtain ⟨c1, _⟩ := (Hfix.out _ hK2).1
          have HW2 := Lib.hid (And.intro hW2 htb)
          have H2 := Lib.hid (And.intro hK2 hT2)
          have cells : ∀ W, Below W2.heap.size W2 W → W.cell? ⟨ab, 1, none⟩ = some (.string s1) ∧ W.cell? ⟨tb, 0, none⟩ = some (.int .i64 t1) ∧ W.cell? ⟨tb, 1, none⟩ = some (.int .i64 t2) := fun W hb => ⟨(hb.cell (p := ⟨ab, _, none⟩) (lt_of_cell c1)).trans c1, (hb.cell (p := ⟨tb, _, none⟩) (lt_of_cell r0)).trans r0, (hb.cell (p := ⟨tb, _, none⟩) (lt_of_cell r1)).trans r1⟩
          have Cells := Lib.hid cells
          have c1' : (w2.alloc (.cells #[.int .i64 t1, .int .i64 t2] 45)).cell? ⟨ab, 1, none⟩ = some (.string s1) := by rw [hW2]; exact c1
          clear hb2 hT2 hK2 hb12 r0 r1 cells hW2 htb c1
          go_wp2_with fail
          rw [HW2.out.1, HW2.out.2]
          refine (Hmget.out W2 H2.out.1 H2.out.2).mono ?_
          rintro e w3 ⟨hb3, v3, rfl, o3⟩
          obtain ⟨a3, cap3, rfl, _, _, _, t3⟩ := o3.read
          rw [HL.out]
          have H3 := Lib.hid (And.intro hb3 (And.intro ((H2.out.1).trans (KeptBut.reads hb3)) (And.intro (H2.out.2.below hb3 (Nat.le_refl _)) t3)))
          obtain ⟨d1, d2, d3⟩ := Cells.out _ H3.out.1
          clear hb3 o3 t3 c1'
          have hn1 : (0 : Int) < n := by omega
          have hn2 : decide ((0 : Int) < n) = true := decide_eq_true hn1
          go_wp2_with fail
          refine (Hget.out w3 H3.out.2.1 H3.out.2.2.1).mono ?_
          rintro e w4 ⟨hb4, v4, rfl, o4⟩
          obtain ⟨a4, cap4, rfl, _, _, _, t4⟩ := o4.read
          rw [HL.out]
          have H4 := Lib.hid (And.intro hb4 t4)
          obtain ⟨g1, g2, g3⟩ := Cells.out _ (H3.out.1.trans (H4.out.1.mono H3.out.1.size))
          clear hb4 o4 t4
          go_wp2_with fail
          refine (samev_walk _ _ _ _ L _ _ _ L true _ HL.out HL.out (by unfold maxLen; omega) H4.out.2 (VrR.mono H4.out.1.size (VrR.below H4.out.1 H3.out.2.2.2)) (decide_eq_true rfl)).mono ?_
          rintro e w5 ⟨rfl, hb5⟩
          have H5 := Lib.hid (H4.out.1.trans (hb5.mono H4.out.1.size))
          obtain ⟨f1, f2, f3⟩ := Cells.out _ (H3.out.1.trans (H5.out.mono H3.out.1.size))
          clear hb5
          have HN := Lib.hid (show ∃ sd l, Two (fun b => W0.heap.size ≤ b) w5 hb mb sd l sd l ∧ Fine l ∧ Below W0.heap.size w w5 from ⟨_, _, (H3.out.2.2.1.below H5.out (Nat.le_refl _)).mono HP.out, HT1.out.2, (Hfix.out _ (H3.out.2.1.trans (KeptBut.reads H5.out))).2.2⟩)
          go_wp2
          go_roundw
          case rel => exact ⟨i + 1, by omega, by go_num, HN⟩
          case measure => simp [intOf]; omega
    · have HA := Lib.hid ((ashold_walk HT.out.1 HT.out.2.1).mono fun e w' h => And.intro h.1 (HT.out.2.2.trans (h.2.mono (size_le HT.out.2.2 Hw.out.1.size))))
      go_wp2_with fail
      refine HA.out.mono ?_
      rintro e w2 ⟨rfl, hb2⟩
      have HB := Lib.hid hb2
      clear hb2
      go_wp2
      go_ret
      exact ⟨rfl, HB.out⟩
end
end Go.Proofs.YthdicfcgkbepdaaGreatDoor
