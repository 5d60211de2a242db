/- Walks: the law's bidFault, asked. -/
import Derived.Test.YtabboioamdphmaaGreatDoorKAskHears34
import Derived.Test.YtabboioamdphmaaGreatDoorKAskHears35
namespace Go.Proofs.YtabboioamdphmaaGreatDoor
section
open Go.RowKit Go.Maps Go.BigFrame

/-- a bid by value, and its box. -/
abbrev bidV (pt : Bool) (who op cf n k : Int) (v : Value) (key text : ByteArray) : Value := .agg #[.bool pt, .int .i64 who, .int .i64 op, .int .i64 cf, .int .i64 n, .int .i64 k, v, .string key, .string text]
structure BidAt (w : World) (b : Nat) (pt : Bool) (who op cf n k : Int) (v : Value) (key text : ByteArray) : Prop where
  c0 : w.cell? ⟨b, 0, none⟩ = some (.bool pt)
  c1 : w.cell? ⟨b, 1, none⟩ = some (.int .i64 who)
  c2 : w.cell? ⟨b, 2, none⟩ = some (.int .i64 op)
  c3 : w.cell? ⟨b, 3, none⟩ = some (.int .i64 cf)
  c4 : w.cell? ⟨b, 4, none⟩ = some (.int .i64 n)
  c5 : w.cell? ⟨b, 5, none⟩ = some (.int .i64 k)
  c6 : w.cell? ⟨b, 6, none⟩ = some v
  c7 : w.cell? ⟨b, 7, none⟩ = some (.string key)
  c8 : w.cell? ⟨b, 8, none⟩ = some (.string text)
theorem BidAt.new (w : World) (pt : Bool) (who op cf n k : Int) (v : Value) (key text : ByteArray) : BidAt (w.alloc (.cells #[.bool pt, .int .i64 who, .int .i64 op, .int .i64 cf, .int .i64 n, .int .i64 k, v, .string key, .string text] 64)) w.heap.size pt who op cf n k v key text := ⟨by simp, by simp, by simp, by simp, by simp, by simp, by simp, by simp, by simp⟩
theorem BidAt.below {m : Nat} {w w' : World} {b : Nat} {pt : Bool} {who op cf n k : Int} {v : Value} {key text : ByteArray} (h : BidAt w b pt who op cf n k v key text) (hb : Below m w w') (hn : b < m) : BidAt w' b pt who op cf n k v key text := by
  have c : ∀ {j x}, w.cell? ⟨b, j, none⟩ = some x → w'.cell? ⟨b, j, none⟩ = some x := fun {j x} h9 => (hb.cell (p := ⟨b, j, none⟩) hn).trans h9
  exact ⟨c h.c0, c h.c1, c h.c2, c h.c3, c h.c4, c h.c5, c h.c6, c h.c7, c h.c8⟩
set_option maxRecDepth 100000 in
set_option maxHeartbeats 4000000 in
theorem bidfault_walk (pt : Bool) (who op cf n k : Int) (n₀ : Nat) (a : Option Addr) (len cap : Nat) (L : List ByteArray) (key text : ByteArray) (w : World) (hlen : L.length = len) (hcap : len ≤ cap) (hsz : ∀ j : Nat, (L[j]?.getD (⟨#[]⟩ : ByteArray)).size ≤ maxLen) (hI : TxsAt n₀ w a L) (hn : n₀ ≤ w.heap.size) (hkey : key.size ≤ maxLen) :
    Calls Tryz.prog 26 #[bidV pt who op cf n k (.slice a len cap) key text] w fun e w' => e = .returned (fltA (bidF who op n k L cf key (if pt = true then text.size else 0))) ∧ Below w.heap.size w w' := by
  have hB1 : Below w.heap.size w (w.alloc (.cells #[.bool pt, .int .i64 who, .int .i64 op, .int .i64 cf, .int .i64 n, .int .i64 k, .slice a len cap, .string key, .string text] 64)) := (Below.refl _ w).alloc (Nat.le_refl _) _
  have hC := (BidAt.new w pt who op cf n k (.slice a len cap) key text).below ((Below.refl (w.alloc (.cells #[.bool pt, .int .i64 who, .int .i64 op, .int .i64 cf, .int .i64 n, .int .i64 k, .slice a len cap, .string key, .string text] 64)).heap.size _).alloc (Nat.le_refl _) (.cells #[.int .i64 0, .int .i64 0] 36)) (by simp)
  have hP := Pair.new (w.alloc (.cells #[.bool pt, .int .i64 who, .int .i64 op, .int .i64 cf, .int .i64 n, .int .i64 k, .slice a len cap, .string key, .string text] 64)) (.int .i64 0) (.int .i64 0) 36
  have hB2 := hB1.alloc hB1.size (.cells #[.int .i64 0, .int .i64 0] 36)
  have hz1 : (w.alloc (.cells #[.bool pt, .int .i64 who, .int .i64 op, .int .i64 cf, .int .i64 n, .int .i64 k, .slice a len cap, .string key, .string text] 64)).heap.size = w.heap.size + 1 := by simp
  have hz2 : ((w.alloc (.cells #[.bool pt, .int .i64 who, .int .i64 op, .int .i64 cf, .int .i64 n, .int .i64 k, .slice a len cap, .string key, .string text] 64)).alloc (.cells #[.int .i64 0, .int .i64 0] 36)).heap.size = w.heap.size + 2 := by simp
  rw [hz1] at hP
  obtain ⟨W, hW⟩ : ∃ W, (w.alloc (.cells #[.bool pt, .int .i64 who, .int .i64 op, .int .i64 cf, .int .i64 n, .int .i64 k, .slice a len cap, .string key, .string text] 64)).alloc (.cells #[.int .i64 0, .int .i64 0] 36) = W := ⟨_, rfl⟩
  rw [hW] at hC hP hB2 hz2
  obtain ⟨b0, hb0⟩ : ∃ b0, w.heap.size = b0 := ⟨_, rfl⟩
  have hset : ∀ V, Below w.heap.size w V → ∀ u v : Value, Below w.heap.size w ((V.setCell ⟨b0 + 1, 0, none⟩ u).setCell ⟨b0 + 1, 1, none⟩ v) := fun V hV u v => (hV.setCell (p := ⟨b0 + 1, 0, none⟩) (by show w.heap.size ≤ b0 + 1; omega) u).setCell (p := ⟨b0 + 1, 1, none⟩) (by show w.heap.size ≤ b0 + 1; omega) v
  have Hcf := Lib.hid (rconfig_walk n k w.heap.size a len cap L W hlen hcap hsz ((hI.mono hn).below hB2) hB2.size)
  rw [hb0] at hC hP hz2
  have HH := Lib.hid (And.intro hC (And.intro hP (And.intro hB2 (And.intro (show b0 + 1 < W.heap.size by omega) (And.intro hkey (And.intro hW hb0))))))
  have Hset := Lib.hid hset
  obtain ⟨F, hF⟩ : ∃ F, configF n k L = F := ⟨_, rfl⟩
  have HF := Lib.hid hF
  rw [hF] at Hcf
  obtain ⟨tsz, htz⟩ : ∃ tsz, (if pt = true then text.size else 0) = tsz := ⟨_, rfl⟩
  have Htz := Lib.hid htz
  rw [htz]
  clear htz
  obtain ⟨c0, c1, c2, c3, c4, c5, c6, c7, c8⟩ := hC
  clear hB1 hP hB2 hz1 hz2 hset hF hI hlen hsz hkey hcap hn
  go_enter Tryz.func26, Tryz.ntmps26
  go_wp2_with fail
  clear hW hb0
  refine Hcf.out.mono ?_
  rintro e w1 ⟨rfl, hb1⟩
  unfold fltA
  have H1 := Lib.hid (And.intro (HH.out.2.2.1.trans (hb1.mono HH.out.2.2.1.size)) hb1)
  obtain ⟨W3, hW3⟩ : ∃ W3, w1.alloc (.cells #[.int .i64 (F.1 : Nat), .int .i64 F.2] 36) = W3 := ⟨_, rfl⟩
  obtain ⟨fb, hfb⟩ : ∃ fb, w1.heap.size = fb := ⟨_, rfl⟩
  have hB3 : Below w1.heap.size w1 W3 := by rw [← hW3]; exact (Below.refl _ w1).alloc (Nat.le_refl _) _
  have hgF : W3.heap[fb]? = some (.cells #[.int .i64 (F.1 : Nat), .int .i64 F.2] 36 (0, 0)) := by rw [← hW3, ← hfb]; exact heap_alloc_new _ _
  have p0 : W3.cell? ⟨fb, 0, none⟩ = some (.int .i64 (F.1 : Nat)) := cell_of_heap hgF 0
  have p1 : W3.cell? ⟨fb, 1, none⟩ = some (.int .i64 F.2) := cell_of_heap hgF 1
  have hWB : Below W.heap.size W W3 := hb1.trans (hB3.mono hb1.size)
  have H3 := Lib.hid (And.intro (H1.out.1.trans (hB3.mono H1.out.1.size)) (And.intro hWB (And.intro hW3 hfb)))
  have hlf : fb < W3.heap.size := lt_of_cell p0
  have HP := Lib.hid (fun (V : World) (hb : Below W3.heap.size W3 V) => (HH.out.2.1.below (hWB.trans (hb.mono hWB.size)) HH.out.2.2.2.1))
  have HB := Lib.hid (HH.out.1.below hWB (by have := HH.out.2.2.2.1; omega))
  have HFb := Lib.hid (fun (V : World) (hb : Below W3.heap.size W3 V) => And.intro ((hb.cell (p := ⟨fb, 0, none⟩) hlf).trans p0) ((hb.cell (p := ⟨fb, 1, none⟩) hlf).trans p1))
  clear hb1 hB3 hgF hWB hlf c0 c1 c2 c3 c4 c5 c6 c7 c8
  obtain ⟨z0, z1, y0, y1⟩ := HP.out W3 (Below.refl _ _)
  by_cases h0 : F.1 = 0
  · have hF0 : F = (0, -1) := by
      have h9 := configF_zero (n := n) (k := k) (L := L) (by rw [HF.out]; exact h0)
      rw [← HF.out]; exact h9.2.2.2.2
    subst hF0
    obtain ⟨nb, hnb⟩ : ∃ nb, nameB key = nb := ⟨_, rfl⟩
    have Hnb := Lib.hid hnb
    have Hna := Lib.hid (rname_walk key W3 HH.out.2.2.2.2.1)
    rw [hnb] at Hna
    have e0 : (configF n k L).1 = 0 := by rw [HF.out]
    have E0 := Lib.hid e0
    obtain ⟨c0, c1, c2, c3, c4, c5, c6, c7, c8⟩ := HB.out
    dsimp only at p0 p1 hW3 ⊢
    replace hW3 : w1.alloc (.cells #[.int .i64 0, .int .i64 (-1)] 36) = W3 := hW3
    replace p0 : W3.cell? ⟨fb, 0, none⟩ = some (.int .i64 0) := p0
    clear hnb h0 e0
    go_wp2_with fail
    clear hW3 hfb
    refine Hna.out.mono ?_
    rintro e w4 ⟨rfl, rfl⟩
    cases nb with
    | false =>
      have Hba := Lib.hid (bare_walk 4 W3)
      go_wp2_with fail
      refine Hba.out.mono ?_
      rintro e w5 ⟨rfl, hb5⟩
      obtain ⟨z0, z1, y0, y1⟩ := HP.out w5 hb5
      have H5 := Lib.hid (H3.out.1.trans (hb5.mono H3.out.1.size))
      have hR : bidF who op n k L cf key tsz = (4, -1) := bidF_name E0.out Hnb.out
      have HR := Lib.hid hR
      clear hb5 hR
      go_wp2
      exact bodyPost_ret (v := fltA (4, -1)) (by simp [results, Tryz.results26, fltA, z0, z1, go_sem]) rfl ⟨by rw [HR.out], Hset.out _ H5.out _ _⟩
    | true =>
      have hcs : (who < 0 ∨ 6 ≤ who ∨ op < 0 ∨ cf < 0 ∨ 1000 < tsz) ∨ ¬ (who < 0 ∨ 6 ≤ who ∨ op < 0 ∨ cf < 0 ∨ 1000 < tsz) := Classical.em _
      rcases hcs with hbd | hbd
      · have Hba := Lib.hid (bare_walk 2 W3)
        have hR := bidF_bound (n := n) (k := k) (L := L) (key := key) E0.out Hnb.out hbd
        have HR := Lib.hid hR
        have hcs : who < 0 ∨ (¬ who < 0 ∧ 6 ≤ who) ∨ (¬ who < 0 ∧ ¬ 6 ≤ who ∧ op < 0) ∨ (¬ who < 0 ∧ ¬ 6 ≤ who ∧ ¬ op < 0 ∧ cf < 0) ∨ (¬ who < 0 ∧ ¬ 6 ≤ who ∧ ¬ op < 0 ∧ ¬ cf < 0 ∧ pt = true ∧ (1000 : Int) < text.size) := by
          have htz := Htz.out
          cases pt with
          | true => rw [if_pos rfl] at htz; simp only [true_and]; omega
          | false => rw [if_neg (by decide)] at htz; omega
        clear hbd hR
        rcases hcs with h1 | ⟨h1, h2⟩ | ⟨h1, h2, h3⟩ | ⟨h1, h2, h3, h4⟩ | ⟨h1, h2, h3, h4, rfl, h5⟩
        all_goals
          go_wp2_with fail
          refine Hba.out.mono ?_
          rintro e w5 ⟨rfl, hb5⟩
          obtain ⟨z0, z1, y0, y1⟩ := HP.out w5 hb5
          have H5 := Lib.hid (H3.out.1.trans (hb5.mono H3.out.1.size))
          clear hb5
          go_wp2
          exact bodyPost_ret (v := fltA (2, -1)) (by simp [results, Tryz.results26, fltA, z0, z1, go_sem]) rfl ⟨by rw [HR.out], Hset.out _ H5.out _ _⟩
      · have hR := bidF_ok (n := n) (k := k) (L := L) (key := key) E0.out Hnb.out hbd
        have HR := Lib.hid hR
        obtain ⟨h1, h2, h3, h4⟩ : ¬ who < 0 ∧ ¬ 6 ≤ who ∧ ¬ op < 0 ∧ ¬ cf < 0 := by omega
        have h5 : pt = true → ¬ (1000 : Int) < text.size := fun e => by have htz := Htz.out; rw [if_pos e] at htz; omega
        clear hbd hR
        cases pt with
        | true =>
          have h6 := h5 rfl
          clear h5
          go_wp2
          exact bodyPost_ret (v := fltA (0, -1)) (by simp [results, Tryz.results26, fltA, z0, z1, go_sem]) rfl ⟨by rw [HR.out], Hset.out _ H3.out.1 _ _⟩
        | false =>
          clear h5
          go_wp2
          exact bodyPost_ret (v := fltA (0, -1)) (by simp [results, Tryz.results26, fltA, z0, z1, go_sem]) rfl ⟨by rw [HR.out], Hset.out _ H3.out.1 _ _⟩
  · have hR : bidF who op n k L cf key tsz = F := by rw [bidF_cfg (by rw [HF.out]; exact h0), HF.out]
    have HR := Lib.hid hR
    have hz : (0 : Int) < ((F.1 : Nat) : Int) := by omega
    have hz2 : 0 < F.1 := by omega
    clear hR h0
    go_wp2
    exact bodyPost_ret (v := fltA F) (by simp [results, Tryz.results26, fltA, z0, z1, go_sem]) rfl ⟨by rw [HR.out], Hset.out _ H3.out.1 _ _⟩
theorem newA_ok {who op n k cf : Int} {L : List ByteArray} {key text : ByteArray} {put : Bool} (h : (configF n k L).1 = 0) : TalkOk (newA who op n k L cf key text put).t := by
  obtain ⟨h1, h2, _, _, h5⟩ := configF_zero h
  refine ⟨?_, List.nodup_nil, fun p hp => by cases hp⟩
  show configF ((n.toNat : Nat) : Int) ((k.toNat : Nat) : Int) L = (0, -1)
  rw [Int.toNat_of_nonneg (by omega), Int.toNat_of_nonneg (by omega)]
  exact h5
theorem nameK : nameB ⟨#[107]⟩ = true := by decide +kernel
theorem askedF : bidF 0 0 1 1 [⟨#[97]⟩] 0 ⟨#[107]⟩ 0 = (0, -1) := bidF_ok (by rw [configA]) nameK (by omega)
set_option maxRecDepth 100000 in
set_option maxHeartbeats 4000000 in
theorem asked_walk (w : World) (E : Nat → Addr) (hE : ErrQx w E) :
    Calls Tryz.prog 23 #[] w fun e w' => e = .returned (.bool true) ∧ Below w.heap.size w w' := by
  have hB0 : Below w.heap.size w (w.alloc (.cells #[.string ⟨#[97]⟩] 9)) := (Below.refl _ w).alloc (Nat.le_refl _) _
  have hT : TxsAt (w.alloc (.cells #[.string ⟨#[97]⟩] 9)).heap.size (w.alloc (.cells #[.string ⟨#[97]⟩] 9)) (some ⟨w.heap.size, 0, none⟩) [⟨#[97]⟩] :=
    .inr ⟨w.heap.size, 0, rfl, by simp, fun j hj => by
      obtain rfl : j = 0 := by simpa using hj
      simp⟩
  obtain ⟨W0, hW0⟩ : ∃ W0, w.alloc (.cells #[.string ⟨#[97]⟩] 9) = W0 := ⟨_, rfl⟩
  obtain ⟨sb, hsb⟩ : ∃ sb, w.heap.size = sb := ⟨_, rfl⟩
  rw [hW0] at hB0 hT
  have hB1 : Below W0.heap.size W0 (W0.alloc (.cells #[.int .i64 1, .int .i64 1, .slice (some ⟨sb, 0, none⟩) 1 1] 24)) := (Below.refl _ W0).alloc (Nat.le_refl _) _
  have hC := CfgAt.new W0 1 1 (.slice (some ⟨sb, 0, none⟩) 1 1)
  obtain ⟨W1, hW1⟩ : ∃ W1, W0.alloc (.cells #[.int .i64 1, .int .i64 1, .slice (some ⟨sb, 0, none⟩) 1 1] 24) = W1 := ⟨_, rfl⟩
  obtain ⟨cb, hcb⟩ : ∃ cb, W0.heap.size = cb := ⟨_, rfl⟩
  rw [hW1] at hB1 hC
  have hBw : Below w.heap.size w W1 := hB0.trans (hB1.mono hB0.size)
  have hg := get_walk 0 0 1 1 0 W0.heap.size (some ⟨sb, 0, none⟩) 1 1 [⟨#[97]⟩] ⟨#[107]⟩ W1 E (hE.below hBw (Nat.le_refl _)) rfl (Nat.le_refl _) (by omega) (fun e => by cases e) (fun j => by
    cases j with
    | zero => show (1 : Nat) ≤ maxLen; unfold maxLen; omega
    | succ j => show (0 : Nat) ≤ maxLen; omega) (by rw [← hsb]; exact hT.below hB1) hB1.size (by show (1 : Nat) ≤ maxLen; unfold maxLen; omega)
  rw [askedF] at hg
  have Hg := Lib.hid hg
  have HB := Lib.hid hBw
  have HW := Lib.hid (And.intro hW0 (And.intro hsb (And.intro hW1 hcb)))
  rw [hcb] at hC
  obtain ⟨c0, c1, c2⟩ := hC
  clear hg hB0 hB1 hT hBw hE
  go_enter Tryz.func23, Tryz.ntmps23
  go_wp2_with fail
  clear hW0 hsb hW1 hcb
  refine Hg.out.mono ?_
  rintro e w2 ⟨hb2, ⟨h9, _⟩ | ⟨_, ab, bm, ma, mc, hX, rfl⟩⟩
  · exact absurd rfl h9
  have hok : TalkOk (newA 0 0 1 1 [⟨#[97]⟩] 0 ⟨#[107]⟩ ⟨#[]⟩ false).t := newA_ok (by rw [configA])
  have HX := Lib.hid (And.intro hX (HB.out.trans (hb2.mono HB.out.size)))
  have Hbe := Lib.hid (abegin_walk _ w2 ab bm ma mc _ _ hX hok)
  have hlt := hX.talk.lt ab hX.talk.hF
  clear hX hb2 hok c0 c1 c2
  go_wp2_with fail
  refine Hbe.out.mono ?_
  rintro e w3 ⟨hb3, a3, c3, rfl, _, _, _, h4⟩
  have e1 : sendT (newA 0 0 1 1 [⟨#[97]⟩] 0 ⟨#[107]⟩ ⟨#[]⟩ false).t kLook (fun _ => []) = [⟨⟨#[99, 48]⟩, ⟨#[97]⟩, kLook, ⟨#[107]⟩, 0, 0, false, []⟩] := by rfl
  rw [e1] at h4 ⊢
  have c15 : w2.cell? ⟨ab, 15, none⟩ = some (.string kLooking) := HX.out.1.cell 6 (by show 6 < 7; decide)
  have d15 := (hb3.cell (p := ⟨ab, 15, none⟩) hlt).trans c15
  have Hst := Lib.hid (astate_walk w3 ab _ d15)
  have H3 := Lib.hid (HX.out.2.trans (hb3.mono HX.out.2.size))
  unfold kLooking at Hst
  rcases h4 with h4 | ⟨b, off, rfl, _, hlb, hm⟩
  · cases h4
  have hm0 := hm 0 (by show 0 < 1; decide)
  obtain ⟨k0, k1, k2, _⟩ := hm0
  unfold kLook at k2
  dsimp only [List.getElem?_cons_zero, Option.getD_some, List.length_cons, List.length_nil, Nat.zero_add] at k0 k1 k2 ⊢
  rw [Nat.zero_mul, Nat.add_zero] at k0 k1 k2
  clear hm hb3 c15 d15 e1
  go_wp2_with fail
  refine Hst.out.mono ?_
  rintro e w4 ⟨rfl, rfl⟩
  go_wp2
  go_ret
  exact ⟨rfl, H3.out⟩
end
end Go.Proofs.YtabboioamdphmaaGreatDoor

