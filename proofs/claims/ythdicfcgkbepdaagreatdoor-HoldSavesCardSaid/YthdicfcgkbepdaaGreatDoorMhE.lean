/- Walk of the document's Put of a hold. -/
import Derived.Test.YthdicfcgkbepdaaGreatDoorMhC
import Derived.Test.YthdicfcgkbepdaaGreatDoorTagA
namespace Go.Proofs.YthdicfcgkbepdaaGreatDoor
section
open Go.RowKit Go.BigFrame

/-- is a row below a key and a tag? -/
def ltK (key : ByteArray) (n m : Int) (p : Kp) : Bool := Rg.tlt p.1 key || (decide (p.1 = key) && tagLt p.2.1 p.2.2.1 n m)
/-- how many rows lie ahead of a key and a tag. -/
def posL (l : List Kp) (key : ByteArray) (n m : Int) : Nat := (l.takeWhile (ltK key n m)).length
def insL (l : List Kp) (key : ByteArray) (x : Ver) : List Kp := l.take (posL l key x.1 x.2.1) ++ (key, x) :: l.drop (posL l key x.1 x.2.1)
theorem posL_is : ∀ (l : List Kp) (key : ByteArray) (n m : Int) (i : Nat), i ≤ l.length → (∀ j, j < i → ltK key n m (l[j]?.getD kp0) = true) → (i < l.length → ltK key n m (l[i]?.getD kp0) = false) → posL l key n m = i
  | [], _, _, _, i, h, _, _ => by
    have : i = 0 := by simpa using h
    subst this; rfl
  | p :: r, key, n, m, 0, _, _, h2 => by
    have h := h2 (by simp)
    unfold posL
    rw [List.takeWhile_cons_of_neg (by simpa using h)]
    rfl
  | p :: r, key, n, m, i + 1, h, h1, h2 => by
    have h0 := h1 0 (by omega)
    unfold posL
    rw [List.takeWhile_cons_of_pos (by simpa using h0), List.length_cons]
    have ih := posL_is r key n m i (by simpa using h) (fun j hj => by simpa using h1 (j + 1) (by omega)) (fun hi => by simpa using h2 (by simpa using hi))
    unfold posL at ih
    rw [ih]
/-- what the document's Put answers. -/
def putM (e : Int) : Int := if e < 0 then 0 else e
def MPutPost (G : Nat → Prop) (w w' : World) (mb : Nat) (sd : Bool) (l : List Kp) (key : ByteArray) (x : Ver) (e : Ending) : Prop :=
  e = .returned (.int .i64 (putM (errM sd l key x))) ∧ KeptBut (fun b => b = mb) w w' ∧
  ((errM sd l key x ≠ 0 ∧ MHAt G w' mb sd l) ∨ (errM sd l key x = 0 ∧ MHAt (fun b => b = mb ∨ (w.heap.size ≤ b ∧ b < w'.heap.size)) w' mb sd (insL l key x)))
theorem RecR.take {m n₀ : Nat} {w : World} {a : Option Addr} {l : List (List Value)} (h : RecR m n₀ w a l) (k : Nat) : RecR m n₀ w a (l.take k) := by
  rcases h with rfl | ⟨b, off, e, hb, hc⟩
  · left; simp
  · refine .inr ⟨b, off, e, hb, fun i j hi hj => ?_⟩
    have hi2 : i < l.length ∧ i < k := by rw [List.length_take] at hi; omega
    rw [List.getElem?_take_of_lt hi2.2]
    exact hc i j hi2.1 hj
theorem RecR.drop {m n₀ : Nat} {w : World} {b off : Nat} {l : List (List Value)} (h : RecR m n₀ w (some ⟨b, off, none⟩) l) (k : Nat) : RecR m n₀ w (some ⟨b, off + k * m, none⟩) (l.drop k) := by
  rcases h with rfl | ⟨b', off', e, hb, hc⟩
  · left; simp
  · cases e
    refine .inr ⟨b, off + k * m, rfl, hb, fun i j hi hj => ?_⟩
    rw [List.length_drop] at hi
    have h1 := hc (k + i) j (by omega) hj
    rw [List.getElem?_drop, show off + k * m + i * m + j = off + (k + i) * m + j by rw [Nat.add_mul]; omega]
    exact h1
set_option maxRecDepth 100000 in
set_option maxHeartbeats 8000000 in
theorem mput_walk (G : Nat → Prop) (w : World) (mb : Nat) (sd : Bool) (l : List Kp) (key : ByteArray) (x1 x2 x3 x4 : Int) (x5 : ByteArray) (h : MHAt G w mb sd l) (hl : l.length ≤ 1000) (hk : key.size ≤ maxLen) (hx5 : x5.size ≤ maxLen) :
    Calls Tryz.prog 31 #[.pointer (some ⟨mb, 0, none⟩), .string key, verV (x1, x2, x3, x4, x5)] w fun e w' => MPutPost G w w' mb sd l key (x1, x2, x3, x4, x5) e := by
  unfold verV
  dsimp only
  have hB0 : Below w.heap.size w (w.alloc (.cells #[.int .i64 x1, .int .i64 x2, .int .i64 x3, .int .i64 x4, .string x5] 49)) := (Below.refl _ w).alloc (Nat.le_refl _) _
  have hbox : BoxV (w.alloc (.cells #[.int .i64 x1, .int .i64 x2, .int .i64 x3, .int .i64 x4, .string x5] 49)) w.heap.size (x1, x2, x3, x4, x5) := BoxV.new w (x1, x2, x3, x4, x5)
  have HB0 := Lib.hid (And.intro hB0 (And.intro hbox (h.below hB0 (Nat.le_refl _))))
  have Hpe := Lib.hid (puterr_walk G (w.alloc (.cells #[.int .i64 x1, .int .i64 x2, .int .i64 x3, .int .i64 x4, .string x5] 49)) mb sd l key x1 x2 x3 x4 x5 HB0.out.2.2 hl hk hx5)
  have hb0 := hbox
  obtain ⟨b0, b1, b2, b3, b4⟩ := hbox
  dsimp only at b0 b1 b2 b3 b4
  obtain ⟨R, hR⟩ : ∃ R, errM sd l key (x1, x2, x3, x4, x5) = R := ⟨_, rfl⟩
  rw [hR] at Hpe
  have HR := Lib.hid hR
  obtain ⟨n, hn⟩ : ∃ n, l.length = n := ⟨_, rfl⟩
  have Hn := Lib.hid hn
  rw [hn] at hl
  have Hm := Lib.hid h
  unfold verV at Hpe
  dsimp only at Hpe
  obtain ⟨bx, hbx⟩ : ∃ bx, w.heap.size = bx := ⟨_, rfl⟩
  have Hbx := Lib.hid hbx
  clear h hB0 hb0 hR hn
  go_enter Tryz.func31, Tryz.ntmps31
  go_wp2_with fail
  refine Hpe.out.mono ?_
  rintro e w1 ⟨rfl, hb1⟩
  have H1 := Lib.hid (And.intro (HB0.out.1.trans (hb1.mono HB0.out.1.size)) (And.intro (HB0.out.2.1.below hb1 (Nat.le_refl _)) (HB0.out.2.2.below hb1 (Nat.le_refl _))))
  clear hb1 b0 b1 b2 b3 b4 Hpe HB0
  rw [hbx] at H1
  clear hbx
  have hcs : R < 0 ∨ (¬ R < 0 ∧ 0 < R) ∨ R = 0 := by omega
  rcases hcs with h1 | ⟨h1, h2⟩ | rfl
  · have hp : putM R = 0 := if_pos h1
    have hR0 : R ≠ 0 := by omega
    go_wp2
    go_ret
    refine ⟨by rw [HR.out, hp]; rfl, KeptBut.of_below H1.out.1 (fun k h1 h2 => by have := Hbx.out; omega), .inl ⟨by rw [HR.out]; exact hR0, H1.out.2.2⟩⟩
  · have hp : putM R = R := if_neg h1
    have hR0 : R ≠ 0 := by omega
    go_wp2
    go_ret
    refine ⟨by rw [HR.out, hp]; rfl, KeptBut.of_below H1.out.1 (fun k h1 h2 => by have := Hbx.out; omega), .inl ⟨by rw [HR.out]; exact hR0, H1.out.2.2⟩⟩
  · have hM := H1.out.2.2
    have hbw : bx ≤ w1.heap.size := by rw [← Hbx.out]; exact H1.out.1.size
    go_wp2
    go_loopw [8] (fun vk wr => ∃ i : Nat, i ≤ n ∧ vk = .int .i64 i ∧ Hid ((∀ j, j < i → ltK key x1 x2 (l[j]?.getD kp0) = true) ∧ Below w1.heap.size w1 wr)) (fun vk _ => n - (intOf vk).toNat)
    case atStart => exact ⟨0, by omega, rfl, Lib.hid ⟨fun j hj => by omega, Below.refl _ _⟩⟩
    case round =>
      obtain ⟨i, hi, rfl, Hr⟩ := hrel
      have hMr := hM.below Hr.out.2 (Nat.le_refl _)
      have hbr := H1.out.2.1.below Hr.out.2 (Nat.le_refl _)
      have Hw := Lib.hid (And.intro (H1.out.1.trans (Hr.out.2.mono hbw)) (And.intro hbr hMr))
      obtain ⟨a, cap, c0, hc, hcm, ha, _, hRd⟩ := hMr.c0
      rw [Hn.out] at c0 hc
      have hcs : (i < n ∧ (Rg.tlt (l[i]?.getD kp0).1 key = true ∨ (Rg.tlt (l[i]?.getD kp0).1 key = false ∧ (l[i]?.getD kp0).1 = key ∧ tagLt (l[i]?.getD kp0).2.1 (l[i]?.getD kp0).2.2.1 x1 x2 = true) ∨
          (Rg.tlt (l[i]?.getD kp0).1 key = false ∧ (l[i]?.getD kp0).1 = key ∧ tagLt (l[i]?.getD kp0).2.1 (l[i]?.getD kp0).2.2.1 x1 x2 = false) ∨ (Rg.tlt (l[i]?.getD kp0).1 key = false ∧ (l[i]?.getD kp0).1 ≠ key))) ∨ i = n := by
        rcases Nat.lt_or_ge i n with h | h
        · left
          refine ⟨h, ?_⟩
          cases Rg.tlt (l[i]?.getD kp0).1 key with
          | true => exact .inl rfl
          | false =>
            by_cases e : (l[i]?.getD kp0).1 = key
            · cases tagLt (l[i]?.getD kp0).2.1 (l[i]?.getD kp0).2.2.1 x1 x2 with
              | true => exact .inr (.inl ⟨rfl, e, rfl⟩)
              | false => exact .inr (.inr (.inl ⟨rfl, e, rfl⟩))
            · exact .inr (.inr (.inr ⟨rfl, e⟩))
        · right; omega
      obtain ⟨p, hp⟩ : ∃ p, l[i]?.getD kp0 = p := ⟨_, rfl⟩
      have hgo : ltK key x1 x2 p = true → ∀ j, j < i + 1 → ltK key x1 x2 (l[j]?.getD kp0) = true := fun h9 j hj => by
        by_cases e : j = i
        · rw [e, hp]; exact h9
        · exact Hr.out.1 j (by omega)
      have hstop : (i < n → ltK key x1 x2 p = false) → posL l key x1 x2 = i := fun h9 => posL_is l key x1 x2 i (by rw [Hn.out]; exact hi) Hr.out.1 (fun h => by rw [hp]; exact h9 (by rw [← Hn.out]; exact h))
      rw [hp] at hcs
      have Hgo := Lib.hid (And.intro hgo (And.intro hstop Hr.out.2))
      have hcell : i < n → ∃ b off, a = some ⟨b, off, none⟩ ∧ wr.cell? ⟨b, off + i * 6, none⟩ = some (.string p.1) ∧ wr.cell? ⟨b, off + i * 6 + 1, none⟩ = some (.int .i64 p.2.1) ∧ wr.cell? ⟨b, off + i * 6 + 1 + 1, none⟩ = some (.int .i64 p.2.2.1) := fun h => by
        rcases hRd with he | ⟨b, off, e, _, hcx⟩
        · exfalso
          have := Hn.out
          rw [he] at this; simp at this; omega
        · have h9 := hcx i (by rw [Hn.out]; exact h)
          rw [hp] at h9
          exact ⟨b, off, e, h9.1, h9.2.1, h9.2.2.1⟩
      obtain ⟨x, y1, y2, y3, y4, y5⟩ := p
      dsimp only at hcs hcell
      have b0 := hbr.1
      have b1 := hbr.2.1
      dsimp only at b0 b1
      clear hgo hstop hp Hr hbr hMr hRd ha
      have kc := cell_regrown c0
      have k0 := cell_regrown b0
      have k1 := cell_regrown b1
      clear c0 b0 b1
      rcases hcs with ⟨hilt, hcs⟩ | hin
      case' inl =>
        obtain ⟨b, off, rfl, q0, q1, q2⟩ := hcell hilt
        have g0 := cell_regrown q0
        have g1 := cell_regrown q1
        have g2 := cell_regrown q2
        have hilt2 : (i : Int) < n := by omega
        have hilt3 : decide ((i : Int) < n) = true := decide_eq_true hilt2
        clear q0 q1 q2 hcell
        rcases hcs with h9 | ⟨h8, hxk, h9⟩ | ⟨h8, hxk, h9⟩ | ⟨h8, h9⟩
      case' inl.inl =>
        have hlt : ltK key x1 x2 (x, y1, y2, y3, y4, y5) = true := by unfold ltK; rw [h9]; rfl
        have HN := Lib.hid (Hgo.out.1 hlt)
        unfold Rg.tlt at h9
        clear hlt
        go_wp2
        refine wp_region_quiet_below (by kernel_rfl) (by kernel_rfl) ?_
        repeat (go_big_quiet_step (fail))
      case' inl.inr.inl =>
        obtain rfl := hxk.symm
        have hlt : ltK key x1 x2 (key, y1, y2, y3, y4, y5) = true := by unfold ltK; dsimp only; rw [h8, h9]; simp
        have HN := Lib.hid (Hgo.out.1 hlt)
        have L := fun d os => Calls.regrown_of (rless_walk y1 y2 x1 x2 (Go.Sort.grow (redrawn wr d) os))
        rw [h9] at L
        unfold Rg.tlt at h8
        clear hlt h9
        go_wp2
        refine wp_region_quiet_below (by kernel_rfl) (by kernel_rfl) ?_
        repeat (go_big_quiet_step (exact L _ _))
      case' inl.inr.inr.inl =>
        obtain rfl := hxk.symm
        have hlt : ltK key x1 x2 (key, y1, y2, y3, y4, y5) = false := by unfold ltK; dsimp only; rw [h8, h9]; simp
        have HP := Lib.hid (Hgo.out.2.1 (fun _ => hlt))
        have L := fun d os => Calls.regrown_of (rless_walk y1 y2 x1 x2 (Go.Sort.grow (redrawn wr d) os))
        rw [h9] at L
        unfold Rg.tlt at h8
        clear hlt h9
        go_wp2
        refine wp_region_quiet_below (by kernel_rfl) (by kernel_rfl) ?_
        repeat (go_big_quiet_step (exact L _ _))
      case' inl.inr.inr.inr =>
        have hlt : ltK key x1 x2 (x, y1, y2, y3, y4, y5) = false := by unfold ltK; dsimp only; rw [h8, decide_eq_false h9]; rfl
        have HP := Lib.hid (Hgo.out.2.1 (fun _ => hlt))
        have e1 := txt_neW h9
        unfold Rg.tlt at h8
        clear hlt h9
        go_wp2
        refine wp_region_quiet_below (by kernel_rfl) (by kernel_rfl) ?_
        repeat (go_big_quiet_step (fail))
      case' inr =>
        have HP := Lib.hid (Hgo.out.2.1 (fun h => absurd h (by omega)))
        have hlt4 : ¬ (i : Int) < n := by omega
        have hlt3 : decide ((i : Int) < n) = false := decide_eq_false hlt4
        have hlt5 : ¬ i < n := by omega
        clear hin
        go_wp2
        refine wp_region_quiet_below (by kernel_rfl) (by kernel_rfl) ?_
        repeat (go_big_quiet_step (fail))
      all_goals
        refine wpQuiet_nil ?_
        intro w3 hw'
        obtain ⟨⟨dq, osq⟩, hw3⟩ := hw'
        have hb3 : Below wr.heap.size wr w3 := by rw [hw3]; exact below_regrown wr dq osq
        have H3 := Lib.hid (And.intro (Hw.out.1.trans (hb3.mono (by rw [← Hbx.out]; exact Hw.out.1.size))) (And.intro (Hw.out.2.1.below hb3 (Nat.le_refl _)) (Hw.out.2.2.below hb3 (Nat.le_refl _))))
        have HB3 := Lib.hid (Hgo.out.2.2.trans (hb3.mono Hgo.out.2.2.size))
        clear hb3 hw3 kc k0 k1 Hw Hgo
      case' inl.inl =>
        go_wp2
        go_roundw
        case rel => exact ⟨i + 1, by omega, by go_num, Lib.hid ⟨HN.out, HB3.out⟩⟩
        case measure => simp [intOf]; omega
      case' inl.inr.inl =>
        go_wp2
        go_roundw
        case rel => exact ⟨i + 1, by omega, by go_num, Lib.hid ⟨HN.out, HB3.out⟩⟩
        case measure => simp [intOf]; omega
      all_goals
        clear HB3
        obtain ⟨a', cap', d0, hc', hcm', ha', _, hRd'⟩ := H3.out.2.2.c0
        rw [Hn.out] at d0 hc'
        have hic : (i : Int) ≤ cap' := by omega
        have hic2 : i ≤ cap' := by omega
        have Hw3 : bx ≤ w3.heap.size := by rw [← Hbx.out]; exact H3.out.1.size
        have Hbw := Lib.hid Hw3
        have hMt : ((l.take i).map encKp).length = i := by rw [List.length_map, List.length_take, Hn.out]; omega
        have hMd : ((l.drop i).map encKp).length = n - i := by rw [List.length_map, List.length_drop, Hn.out]
        have hI0 := KpR.to_rec hRd'
        have HM := Lib.hid (And.intro hMt (And.intro hMd (And.intro hc' (And.intro hcm' hI0))))
        have Hb1 : Hid ((([] : List (List Value)).length + ((l.take i).map encKp).length) * 64 ≤ 140737488355328 ∧ ([] : List (List Value)).length + ((l.take i).map encKp).length ≤ maxLen) := Lib.hid (by
          rw [hMt]
          unfold maxLen
          simp only [List.length_nil]
          omega)
        have Hb2 : Hid ((((l.take i).map encKp).length + 1) * 64 ≤ 140737488355328 ∧ ((l.take i).map encKp).length + 1 ≤ maxLen) := Lib.hid (by
          rw [hMt]
          unfold maxLen
          omega)
        have HI1 : Hid (RecR 6 w3.heap.size w3 a' ((l.take i).map encKp)) := Lib.hid (by rw [List.map_take]; exact hI0.take i)
        obtain ⟨b0, b1, b2, b3, b4⟩ := H3.out.2.1
        dsimp only at b0 b1 b2 b3 b4
        clear hc hcm hc' hMt hMd hRd' hI0 hcm' Hw3
        cases a' with
        | none =>
          obtain rfl := ha' rfl
          have hn0 := HM.out.2.2.1
          obtain rfl : n = 0 := by omega
          obtain rfl : i = 0 := by omega
          clear hn0 ha'
          try (exfalso; omega)
          all_goals
            go_wp2_with (at_builtin; refine append_recs 40 51 _ 6 64 Tryz.underlying40 info_kept rfl (by decide) 66 72 rfl rfl bx _ [] w3.heap.size none 0 0 ((l.take 0).map encKp) rfl rfl (OwnRec.nil _ _ _ _) HM.out.1 (encKp_len _) (encKp_one _) Hb1.out.1 Hb1.out.2 (fun _ => rfl) HI1.out Hbw.out ?_)
            intro v' w' q1 q2 q3
            have hlt3 := H3.out.2.2.hlt
            have H4 := Lib.hid (show OwnRec 51 6 bx w' v' ((l.take 0).map encKp) ∧ Below bx w w' ∧ Below w3.heap.size w3 w' ∧ ∀ j, v'.ownBlock = some j → w3.heap.size ≤ j from ⟨by simpa using q1, H3.out.1.grown q2 Hbw.out (fun j e => by cases e), (Below.refl _ _).grown q2 (Nat.le_refl _) (fun j e => by cases e), fun j e => by
              rcases q3 with h9 | h9
              · rw [h9] at e; cases e
              · rw [h9] at e; cases e; exact Nat.le_refl _⟩)
            have D0 := Lib.hid d0
            clear q1 q2 q3 b0 b1 b2 b3 b4 d0
            obtain ⟨b0, b1, b2, b3, b4⟩ := H3.out.2.1.below H4.out.2.2.1 (Nat.le_refl _)
            have hsz4 : bx ≤ w'.heap.size := by rw [← Hbx.out]; exact H4.out.2.1.size
            dsimp only at b0 b1 b2 b3 b4
            go_wp2_with (at_builtin; refine append_rec 40 51 _ 6 64 Tryz.underlying40 info_kept rfl (by decide) 74 78 rfl rfl bx _ ((l.take 0).map encKp) [.string key, .int .i64 x1, .int .i64 x2, .int .i64 x3, .int .i64 x4, .string x5] rfl (encKp_one1 (key, x1, x2, x3, x4, x5)) rfl rfl H4.out.1 Hb2.out.1 Hb2.out.2 hsz4 ?_)
            intro v5 w5 q1 q2 q3
            have H5 := Lib.hid (show OwnRec 51 6 bx w5 v5 ((l.take 0).map encKp ++ [encKp (key, x1, x2, x3, x4, x5)]) ∧ Below bx w w5 ∧ Below w3.heap.size w3 w5 ∧ ∀ j, v5.ownBlock = some j → w3.heap.size ≤ j from by
              have hs3 := H4.out.2.2.1.size
              refine ⟨by simpa [encKp, encVr] using q1, (H4.out.2.1.alloc hsz4 _).grown q2 (by simp; omega) (fun j e => (OwnRec.lt H4.out.1 j e).1), (H4.out.2.2.1.alloc hs3 _).grown q2 (by simp; omega) (fun j e => H4.out.2.2.2 j e), fun j e => ?_⟩
              rcases q3 with h9 | h9
              · exact H4.out.2.2.2 j (h9.symm.trans e)
              · rw [h9] at e; cases e; omega)
            clear q1 q2 q3 b0 b1 b2 b3 b4 H4
            have hM5 := H3.out.2.2.below H5.out.2.2.1 (Nat.le_refl _)
            have hlt5 := hM5.hlt
            have d0 := (H5.out.2.2.1.cell (p := ⟨mb, 0, none⟩) hlt3).trans D0.out
            have hsz5 : bx ≤ w5.heap.size := by rw [← Hbx.out]; exact H5.out.2.1.size
            have Hs5 := Lib.hid hsz5
            have f0 := hM5.f0
            clear hM5 hsz5
            have Hfin : ∀ (v6 : Value) (w6 : World), OwnRec 51 6 bx w6 v6 ((l.take 0).map encKp ++ [encKp (key, x1, x2, x3, x4, x5)] ++ (l.drop 0).map encKp) → w5.grownBy w6 v5.ownBlock → Hid (MPutPost G w (w6.setCell ⟨mb, 0, none⟩ v6) mb sd l key (x1, x2, x3, x4, x5) (.returned (.int .i64 0)) ∧ w6.cell? ⟨mb, 0, none⟩ = some (.slice none 0 0) ∧ w6.frozen? ⟨mb, 0, none⟩ = false) := fun v6 w6 q1 q2 => by
              have hb6 := H5.out.2.1.grown q2 Hs5.out (fun j e => (OwnRec.lt H5.out.1 j e).1)
              have hb36 := H5.out.2.2.1.grown q2 H5.out.2.2.1.size (fun j e => H5.out.2.2.2 j e)
              have hv : OwnK w.heap.size w6 v6 (insL l key (x1, x2, x3, x4, x5)) := by
                unfold OwnK insL
                rw [HP.out, List.map_append, List.map_cons, Hbx.out]
                simpa using q1
              obtain ⟨p1, p2⟩ := MHAt.put Hm.out (by rw [Hbx.out]; exact hb6) hv
              have hsz : (w6.setCell ⟨mb, 0, none⟩ v6).heap.size = w6.heap.size := by simp [World.setCell]
              exact Lib.hid ⟨⟨by rw [HR.out]; rfl, p2, .inr ⟨HR.out, by rw [hsz]; exact p1⟩⟩, (hb36.cell (p := ⟨mb, 0, none⟩) hlt3).trans D0.out, (hb36.frozen (p := ⟨mb, 0, none⟩) hlt3).trans H3.out.2.2.f0⟩
            have HFin := Lib.hid Hfin
            clear Hfin
            have hzero : l.drop 0 = [] := List.drop_of_length_le (by have := HM.out.2.2.1; rw [Hn.out]; omega)
            have Hz : Hid ((l.drop 0).map encKp = [] ∧ (((l.take 0).map encKp ++ [encKp (key, x1, x2, x3, x4, x5)]).length + ((l.drop 0).map encKp).length) * 64 ≤ 140737488355328 ∧ ((l.take 0).map encKp ++ [encKp (key, x1, x2, x3, x4, x5)]).length + ((l.drop 0).map encKp).length ≤ maxLen) := Lib.hid (by
              rw [hzero]
              refine ⟨rfl, ?_⟩
              rw [List.length_append, HM.out.1]
              unfold maxLen
              simp)
            clear hzero
            go_wp2_with (at_builtin; refine append_recs 40 51 _ 6 64 Tryz.underlying40 info_kept rfl (by decide) 81 87 rfl rfl bx _ ((l.take 0).map encKp ++ [encKp (key, x1, x2, x3, x4, x5)]) w5.heap.size _ (0 - 0) _ ((l.drop 0).map encKp) rfl rfl H5.out.1 HM.out.2.1 (encKp_len _) (encKp_one _) Hz.out.2.1 Hz.out.2.2 (fun _ => rfl) (.inl Hz.out.1) Hs5.out ?_)
            intro v6 w6 q1 q2 _
            obtain ⟨a6, n6, c6, rfl⟩ : ∃ a n c, v6 = .slice a n c := by
              obtain ⟨a, c, e, _⟩ := q1.read
              exact ⟨a, _, c, e⟩
            have H6 := HFin.out _ w6 (by simpa using q1) (by simpa using q2)
            have d6 := H6.out.2.1
            have f6 := H6.out.2.2
            clear q1 q2
            go_wp2
            go_ret
            exact H6.out.1
        | some x =>
          clear ha'
          go_wp2_with (at_builtin; refine append_recs 40 51 _ 6 64 Tryz.underlying40 info_kept rfl (by decide) 66 72 rfl rfl bx _ [] w3.heap.size (some x) i cap' ((l.take i).map encKp) rfl rfl (OwnRec.nil _ _ _ _) HM.out.1 (encKp_len _) (encKp_one _) Hb1.out.1 Hb1.out.2 (fun e => by cases e) HI1.out Hbw.out ?_)
          intro v' w' q1 q2 q3
          have hlt3 := H3.out.2.2.hlt
          have H4 := Lib.hid (show OwnRec 51 6 bx w' v' ((l.take i).map encKp) ∧ Below bx w w' ∧ Below w3.heap.size w3 w' ∧ ∀ j, v'.ownBlock = some j → w3.heap.size ≤ j from ⟨by simpa using q1, H3.out.1.grown q2 Hbw.out (fun j e => by cases e), (Below.refl _ _).grown q2 (Nat.le_refl _) (fun j e => by cases e), fun j e => by
            rcases q3 with h9 | h9
            · rw [h9] at e; cases e
            · rw [h9] at e; cases e; exact Nat.le_refl _⟩)
          have D0 := Lib.hid d0
          clear q1 q2 q3 b0 b1 b2 b3 b4 d0
          obtain ⟨b0, b1, b2, b3, b4⟩ := H3.out.2.1.below H4.out.2.2.1 (Nat.le_refl _)
          have hsz4 : bx ≤ w'.heap.size := by rw [← Hbx.out]; exact H4.out.2.1.size
          dsimp only at b0 b1 b2 b3 b4
          go_wp2_with (at_builtin; refine append_rec 40 51 _ 6 64 Tryz.underlying40 info_kept rfl (by decide) 74 78 rfl rfl bx _ ((l.take i).map encKp) [.string key, .int .i64 x1, .int .i64 x2, .int .i64 x3, .int .i64 x4, .string x5] rfl (encKp_one1 (key, x1, x2, x3, x4, x5)) rfl rfl H4.out.1 Hb2.out.1 Hb2.out.2 hsz4 ?_)
          intro v5 w5 q1 q2 q3
          have H5 := Lib.hid (show OwnRec 51 6 bx w5 v5 ((l.take i).map encKp ++ [encKp (key, x1, x2, x3, x4, x5)]) ∧ Below bx w w5 ∧ Below w3.heap.size w3 w5 ∧ ∀ j, v5.ownBlock = some j → w3.heap.size ≤ j from by
            have hs3 := H4.out.2.2.1.size
            refine ⟨by simpa [encKp, encVr] using q1, (H4.out.2.1.alloc hsz4 _).grown q2 (by simp; omega) (fun j e => (OwnRec.lt H4.out.1 j e).1), (H4.out.2.2.1.alloc hs3 _).grown q2 (by simp; omega) (fun j e => H4.out.2.2.2 j e), fun j e => ?_⟩
            rcases q3 with h9 | h9
            · exact H4.out.2.2.2 j (h9.symm.trans e)
            · rw [h9] at e; cases e; omega)
          clear q1 q2 q3 b0 b1 b2 b3 b4 H4
          have hM5 := H3.out.2.2.below H5.out.2.2.1 (Nat.le_refl _)
          have hlt5 := hM5.hlt
          have d0 := (H5.out.2.2.1.cell (p := ⟨mb, 0, none⟩) hlt3).trans D0.out
          have hsz5 : bx ≤ w5.heap.size := by rw [← Hbx.out]; exact H5.out.2.1.size
          have Hs5 := Lib.hid hsz5
          have f0 := hM5.f0
          clear hM5 hsz5
          have Hfin : ∀ (v6 : Value) (w6 : World), OwnRec 51 6 bx w6 v6 ((l.take i).map encKp ++ [encKp (key, x1, x2, x3, x4, x5)] ++ (l.drop i).map encKp) → w5.grownBy w6 v5.ownBlock → Hid (MPutPost G w (w6.setCell ⟨mb, 0, none⟩ v6) mb sd l key (x1, x2, x3, x4, x5) (.returned (.int .i64 0)) ∧ w6.cell? ⟨mb, 0, none⟩ = some (.slice (some x) n cap') ∧ w6.frozen? ⟨mb, 0, none⟩ = false) := fun v6 w6 q1 q2 => by
            have hb6 := H5.out.2.1.grown q2 Hs5.out (fun j e => (OwnRec.lt H5.out.1 j e).1)
            have hb36 := H5.out.2.2.1.grown q2 H5.out.2.2.1.size (fun j e => H5.out.2.2.2 j e)
            have hv : OwnK w.heap.size w6 v6 (insL l key (x1, x2, x3, x4, x5)) := by
              unfold OwnK insL
              rw [HP.out, List.map_append, List.map_cons, Hbx.out]
              simpa using q1
            obtain ⟨p1, p2⟩ := MHAt.put Hm.out (by rw [Hbx.out]; exact hb6) hv
            have hsz : (w6.setCell ⟨mb, 0, none⟩ v6).heap.size = w6.heap.size := by simp [World.setCell]
            exact Lib.hid ⟨⟨by rw [HR.out]; rfl, p2, .inr ⟨HR.out, by rw [hsz]; exact p1⟩⟩, (hb36.cell (p := ⟨mb, 0, none⟩) hlt3).trans D0.out, (hb36.frozen (p := ⟨mb, 0, none⟩) hlt3).trans H3.out.2.2.f0⟩
          have HFin := Lib.hid Hfin
          clear Hfin
          by_cases hci : cap' = i
          · obtain rfl := hci.symm
            have hzero : l.drop i = [] := List.drop_of_length_le (by have := HM.out.2.2.1; rw [Hn.out]; omega)
            have Hz : Hid ((l.drop i).map encKp = [] ∧ (((l.take i).map encKp ++ [encKp (key, x1, x2, x3, x4, x5)]).length + ((l.drop i).map encKp).length) * 64 ≤ 140737488355328 ∧ ((l.take i).map encKp ++ [encKp (key, x1, x2, x3, x4, x5)]).length + ((l.drop i).map encKp).length ≤ maxLen) := Lib.hid (by
              rw [hzero]
              refine ⟨rfl, ?_⟩
              rw [List.length_append, HM.out.1]
              unfold maxLen
              simp
              omega)
            clear hzero
            go_wp2_with (at_builtin; refine append_recs 40 51 _ 6 64 Tryz.underlying40 info_kept rfl (by decide) 81 87 rfl rfl bx _ ((l.take i).map encKp ++ [encKp (key, x1, x2, x3, x4, x5)]) w5.heap.size _ (n - i) _ ((l.drop i).map encKp) rfl rfl H5.out.1 HM.out.2.1 (encKp_len _) (encKp_one _) Hz.out.2.1 Hz.out.2.2 (fun e => by cases e) (.inl Hz.out.1) Hs5.out ?_)
            intro v6 w6 q1 q2 _
            obtain ⟨a6, n6, c6, rfl⟩ : ∃ a n c, v6 = .slice a n c := by
              obtain ⟨a, c, e, _⟩ := q1.read
              exact ⟨a, _, c, e⟩
            have H6 := HFin.out _ w6 (by simpa using q1) (by simpa using q2)
            have d6 := H6.out.2.1
            have f6 := H6.out.2.2
            clear q1 q2
            go_wp2
            go_ret
            exact H6.out.1
          · have hin2 : (i : Int) ≤ n := by omega
            have Hb3 : Hid ((((l.take i).map encKp ++ [encKp (key, x1, x2, x3, x4, x5)]).length + ((l.drop i).map encKp).length) * 64 ≤ 140737488355328 ∧ ((l.take i).map encKp ++ [encKp (key, x1, x2, x3, x4, x5)]).length + ((l.drop i).map encKp).length ≤ maxLen) := Lib.hid (by
              rw [List.length_append, HM.out.1, HM.out.2.1]
              unfold maxLen
              simp
              omega)
            have hRd5 : (l.drop i).map encKp = [] ∨ ∃ b off, x = ⟨b, off, none⟩ ∧ RecR 6 w5.heap.size w5 (some ⟨b, off + i * 6, none⟩) ((l.drop i).map encKp) := by
              rcases HM.out.2.2.2.2 with he | ⟨b, off, e, hb, hc⟩
              · left
                have h9 : l = [] := by simpa using he
                rw [h9]; simp
              · cases e
                refine .inr ⟨b, off, rfl, ?_⟩
                have h9 : RecR 6 w3.heap.size w3 (some ⟨b, off, none⟩) (l.map encKp) := .inr ⟨b, off, rfl, hb, hc⟩
                have h10 := (h9.drop i).below H5.out.2.2.1
                rw [← List.map_drop] at h10
                exact h10.mono H5.out.2.2.1.size
            rcases hRd5 with hz | ⟨b, off, rfl, hI5⟩
            case' inl =>
              have Hz := Lib.hid hz
              clear hz
              go_wp2_with (at_builtin; refine append_recs 40 51 _ 6 64 Tryz.underlying40 info_kept rfl (by decide) 81 87 rfl rfl bx _ ((l.take i).map encKp ++ [encKp (key, x1, x2, x3, x4, x5)]) w5.heap.size _ (n - i) _ ((l.drop i).map encKp) rfl rfl H5.out.1 HM.out.2.1 (encKp_len _) (encKp_one _) Hb3.out.1 Hb3.out.2 (fun e => by cases e) (.inl Hz.out) Hs5.out ?_)
            case' inr =>
              have HI5 := Lib.hid hI5
              clear hI5
              go_wp2_with (at_builtin; refine append_recs 40 51 _ 6 64 Tryz.underlying40 info_kept rfl (by decide) 81 87 rfl rfl bx _ ((l.take i).map encKp ++ [encKp (key, x1, x2, x3, x4, x5)]) w5.heap.size (some ⟨b, off + i * 6, none⟩) (n - i) _ ((l.drop i).map encKp) rfl rfl H5.out.1 HM.out.2.1 (encKp_len _) (encKp_one _) Hb3.out.1 Hb3.out.2 (fun e => by cases e) HI5.out Hs5.out ?_)
            all_goals
              intro v6 w6 q1 q2 _
              obtain ⟨a6, n6, c6, rfl⟩ : ∃ a n c, v6 = .slice a n c := by
                obtain ⟨a, c, e, _⟩ := q1.read
                exact ⟨a, _, c, e⟩
              have H6 := HFin.out _ w6 (by simpa using q1) (by simpa using q2)
              have d6 := H6.out.2.1
              have f6 := H6.out.2.2
              clear q1 q2
              go_wp2
              go_ret
              exact H6.out.1
end
end Go.Proofs.YthdicfcgkbepdaaGreatDoor
