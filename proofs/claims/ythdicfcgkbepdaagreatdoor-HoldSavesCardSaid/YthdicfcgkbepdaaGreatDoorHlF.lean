/- The walk of a hold's Put. -/
import Derived.Test.YthdicfcgkbepdaaGreatDoorHlE
import Derived.Test.YthdicfcgkbepdaaGreatDoorNam
import Derived.Test.YthdicfcgkbepdaaGreatDoorNds
import Derived.Test.YthdicfcgkbepdaaGreatDoorCode
import Derived.BigQuiet
import Derived.Deep.RegionHeld3
namespace Go.Proofs.YthdicfcgkbepdaaGreatDoor
section
open Go.RowKit Go.Maps Go.BigFrame

/-- the errors that a hold hands back. -/
structure ErrHx (w : World) (E : Nat → Addr) : Prop where
  c1 : w.cell? ⟨3, 0, none⟩ = some (errV (E 1))
  c3 : w.cell? ⟨2, 0, none⟩ = some (errV (E 3))
  c5 : w.cell? ⟨4, 0, none⟩ = some (errV (E 5))
  c6 : w.cell? ⟨5, 0, none⟩ = some (errV (E 6))
  c9 : w.cell? ⟨1, 0, none⟩ = some (errV (E 9))
theorem ErrHx.below {n : Nat} {w w' : World} {E : Nat → Addr} (hb : Below n w w') (hn : w.heap.size ≤ n) (h : ErrHx w E) : ErrHx w' E := by
  have c : ∀ {p v}, w.cell? p = some v → w'.cell? p = some v := fun {p v} h => (hb.cell (Nat.lt_of_lt_of_le (lt_of_cell h) hn)).trans h
  exact ⟨c h.c1, c h.c3, c h.c5, c h.c6, c h.c9⟩
def insV (L : List Ver) (x : Ver) : List Ver := L.take (posV L x.1 x.2.1) ++ x :: L.drop (posV L x.1 x.2.1)
theorem insV_ne (L : List Ver) (x : Ver) : insV L x ≠ [] := by unfold insV; simp
/-- Put's error: its number. -/
def putErr (sd : Bool) (C : ByteArray → List Ver) (ks : List ByteArray) (key : ByteArray) (x : Ver) : Option Nat :=
  if sd = true then some 9 else if nameB key = false then some 3 else if rightB x = false then some 1 else
    if hasV (C key) x.1 x.2.1 = true then (if (C key)[posV (C key) x.1 x.2.1]?.getD ver0 = x then none else some 5) else if 60 ≤ totC C ks then some 6 else none
theorem len_le_tot {C : ByteArray → List Ver} {k : ByteArray} : ∀ {ks : List ByteArray}, k ∈ ks → (C k).length ≤ totC C ks
  | [], h => by cases h
  | a :: r, h => by
    have e : totC C (a :: r) = (C a).length + totC C r := by simp [totC]
    rw [e]
    rcases List.mem_cons.1 h with rfl | h
    · omega
    · have := len_le_tot (C := C) h
      omega
theorem HoldAt.len_le {F : Nat → Prop} {w : World} {hb : Nat} {sd : Bool} {C : ByteArray → List Ver} {ks : List ByteArray} {S : ByteArray → Value} (h : HoldAt F w hb sd C ks S) (k : ByteArray) : (C k).length ≤ totC C ks := by
  by_cases e : k ∈ ks
  · exact len_le_tot e
  · have : C k = [] := Classical.byContradiction fun h2 => e ((h.mem k).2 h2)
    rw [this]; exact Nat.zero_le _
/-- what Put leaves. -/
def PutPost (F : Nat → Prop) (w w' : World) (E : Nat → Addr) (hb : Nat) (sd : Bool) (C : ByteArray → List Ver) (ks : List ByteArray) (S : ByteArray → Value) (key : ByteArray) (x : Ver) (e : Ending) : Prop :=
  KeptBut F w w' ∧
  ((∃ i, putErr sd C ks key x = some i ∧ e = .returned (errV (E i)) ∧ HoldAt F w' hb sd C ks S) ∨
   (putErr sd C ks key x = none ∧ hasV (C key) x.1 x.2.1 = true ∧ e = .returned .nilIface ∧ HoldAt F w' hb sd C ks S) ∨
   (putErr sd C ks key x = none ∧ hasV (C key) x.1 x.2.1 = false ∧ e = .returned .nilIface ∧ ∃ S', HoldAt (fun b => F b ∨ w.heap.size ≤ b) w' hb sd (updC C key (insV (C key) x)) (addK ks key) S'))
theorem MapAt.below {F : Nat → Prop} {w w' : World} {hb : Nat} {ks : List ByteArray} {S : ByteArray → Value} {bm : Nat} {D : DataW Value} (h : MapAt F w hb ks S bm D) {n : Nat} (hk : Below n w w') (hn : w.heap.size ≤ n) : MapAt F w' hb ks S bm D := by
  obtain ⟨h1, h2, h3, h4, h5⟩ := h
  exact ⟨(hk.cell (Nat.lt_of_lt_of_le (lt_of_cell h1) hn)).trans h1, h2, h3, h4.kept (row := none) ⟨hk.os, hk.tape, hk.output, hk.size, fun k hk2 _ => hk.block k (by omega)⟩ (by simp), h5⟩
theorem ks_le_tot {C : ByteArray → List Ver} : ∀ {ks : List ByteArray}, (∀ k ∈ ks, C k ≠ []) → ks.length ≤ totC C ks
  | [], _ => Nat.zero_le _
  | a :: r, h => by
    have e : totC C (a :: r) = (C a).length + totC C r := by simp [totC]
    have h1 := ks_le_tot (C := C) (ks := r) (fun k hk => h k (List.mem_cons_of_mem _ hk))
    have h2 : 0 < (C a).length := List.length_pos_iff.2 (h a (List.mem_cons_self ..))
    rw [e, List.length_cons]
    omega
/-- the box of a version. -/
def BoxV (w : World) (b : Nat) (x : Ver) : Prop := w.cell? ⟨b, 0, none⟩ = some (.int .i64 x.1) ∧ w.cell? ⟨b, 1, none⟩ = some (.int .i64 x.2.1) ∧ w.cell? ⟨b, 2, none⟩ = some (.int .i64 x.2.2.1) ∧ w.cell? ⟨b, 3, none⟩ = some (.int .i64 x.2.2.2.1) ∧ w.cell? ⟨b, 4, none⟩ = some (.string x.2.2.2.2)
theorem BoxV.below {n : Nat} {w w' : World} {b : Nat} {x : Ver} (h : BoxV w b x) (hb : Below n w w') (hn : w.heap.size ≤ n) : BoxV w' b x := by
  have c : ∀ {p v}, w.cell? p = some v → w'.cell? p = some v := fun {p v} h => (hb.cell (Nat.lt_of_lt_of_le (lt_of_cell h) hn)).trans h
  exact ⟨c h.1, c h.2.1, c h.2.2.1, c h.2.2.2.1, c h.2.2.2.2⟩
theorem BoxV.new (w : World) (x : Ver) : BoxV (w.alloc (.cells #[.int .i64 x.1, .int .i64 x.2.1, .int .i64 x.2.2.1, .int .i64 x.2.2.2.1, .string x.2.2.2.2] 49)) w.heap.size x := ⟨by simp, by simp, by simp, by simp, by simp⟩
set_option maxRecDepth 100000 in
set_option maxHeartbeats 8000000 in
theorem hput_walk (F : Nat → Prop) (w : World) (hb : Nat) (sd : Bool) (C : ByteArray → List Ver) (ks : List ByteArray) (S : ByteArray → Value) (key : ByteArray) (x1 x2 x3 x4 : Int) (x5 : ByteArray) (E : Nat → Addr) (h : HoldAt F w hb sd C ks S) (hE : ErrHx w E) (hk : key.size ≤ maxLen) (ht : totC C ks ≤ 1000)
    (hs : VSorted (C key)) (hins : ∀ W gx, OwnV 0 W (S key) (C key) → OneV W gx (x1, x2, x3, x4, x5) → (S key).ownBlock ≠ some gx → Calls Tryz.prog 45 #[S key, .int .i64 (posV (C key) x1 x2 : Nat), .slice (some ⟨gx, 0, none⟩) 1 1] W fun e w' => InsOut 0 W w' (S key) (insV (C key) (x1, x2, x3, x4, x5)) e) :
    Calls Tryz.prog 15 #[.pointer (some ⟨hb, 0, none⟩), .string key, .agg #[.int .i64 x1, .int .i64 x2, .int .i64 x3, .int .i64 x4, .string x5]] w fun e w' => PutPost F w w' E hb sd C ks S key (x1, x2, x3, x4, x5) e := by
  obtain ⟨x, hx⟩ : ∃ x : Ver, x = (x1, x2, x3, x4, x5) := ⟨_, rfl⟩
  have hB : Below w.heap.size w (w.alloc (.cells #[.int .i64 x1, .int .i64 x2, .int .i64 x3, .int .i64 x4, .string x5] 49)) := (Below.refl _ w).alloc (Nat.le_refl _) _
  have hbox : BoxV (w.alloc (.cells #[.int .i64 x1, .int .i64 x2, .int .i64 x3, .int .i64 x4, .string x5] 49)) w.heap.size x := by rw [hx]; exact BoxV.new w (x1, x2, x3, x4, x5)
  have HH := Lib.hid (And.intro hB (And.intro hbox (And.intro (h.below hB (Nat.le_refl _)) (hE.below hB (Nat.le_refl _)))))
  have Hn := Lib.hid (name_walk key (w.alloc (.cells #[.int .i64 x1, .int .i64 x2, .int .i64 x3, .int .i64 x4, .string x5] 49)) hk)
  have Hr := Lib.hid (fun W => right_walk (x1, x2, x3, x4, x5) W)
  have s1 := HH.out.2.2.1.c1
  have e9 := HH.out.2.2.2.c9
  have Hh := Lib.hid h
  have Hs := Lib.hid hs
  have Hi := Lib.hid hins
  have Hx := Lib.hid hx
  obtain ⟨bx, hbx⟩ : ∃ bx, w.heap.size = bx := ⟨_, rfl⟩
  have Hbx := Lib.hid hbx
  clear hB hbox h hE hs hins hx hbx
  cases sd with
  | true =>
    go_enter Tryz.func15, Tryz.ntmps15
    go_wp2
    go_ret
    exact ⟨KeptBut.of_below HH.out.1 (fun k h1 h2 => by omega), .inl ⟨9, rfl, rfl, HH.out.2.2.1⟩⟩
  | false =>
    obtain ⟨nb, hnb⟩ : ∃ nb, nameB key = nb := ⟨_, rfl⟩
    rw [hnb] at Hn
    have Hnb := Lib.hid hnb
    clear hnb
    go_enter Tryz.func15, Tryz.ntmps15
    go_wp2_with fail
    refine Hn.out.mono ?_
    rintro e w1 ⟨rfl, hb1⟩
    have H1 := Lib.hid (And.intro (HH.out.1.trans (hb1.mono HH.out.1.size)) (And.intro (HH.out.2.1.below hb1 (Nat.le_refl _)) (And.intro (HH.out.2.2.1.below hb1 (Nat.le_refl _)) (HH.out.2.2.2.below hb1 (Nat.le_refl _)))))
    clear hb1 s1 e9 HH
    cases nb with
    | false =>
      have e3 := H1.out.2.2.2.c3
      go_wp2
      go_ret
      exact ⟨KeptBut.of_below H1.out.1 (fun k h1 h2 => by omega), .inl ⟨3, by unfold putErr; rw [Hnb.out]; rfl, rfl, H1.out.2.2.1⟩⟩
    | true =>
      obtain ⟨b0, b1, b2, b3, b4⟩ := H1.out.2.1
      rw [Hbx.out, Hx.out] at b0 b1 b2 b3 b4
      dsimp only at b0 b1 b2 b3 b4
      obtain ⟨rb, hrb⟩ : ∃ rb, rightB (x1, x2, x3, x4, x5) = rb := ⟨_, rfl⟩
      rw [hrb] at Hr
      have Hrb := Lib.hid hrb
      clear hrb
      rw [Hbx.out]
      go_wp2_with fail
      refine (Hr.out _).mono ?_
      rintro e w2 ⟨rfl, hb2⟩
      have H2 := Lib.hid (And.intro (H1.out.1.trans (hb2.mono H1.out.1.size)) (And.intro (H1.out.2.1.below hb2 (Nat.le_refl _)) (And.intro (H1.out.2.2.1.below hb2 (Nat.le_refl _)) (H1.out.2.2.2.below hb2 (Nat.le_refl _)))))
      clear hb2 b0 b1 b2 b3 b4 H1
      cases rb with
      | false =>
        have e1 := H2.out.2.2.2.c1
        go_wp2
        go_ret
        exact ⟨KeptBut.of_below H2.out.1 (fun k h1 h2 => by omega), .inl ⟨1, by unfold putErr; rw [Hnb.out, Hrb.out]; rfl, rfl, H2.out.2.2.1⟩⟩
      | true =>
        obtain ⟨b0, b1, b2, b3, b4⟩ := H2.out.2.1
        rw [Hbx.out, Hx.out] at b0 b1 b2 b3 b4
        dsimp only at b0 b1 b2 b3 b4
        obtain ⟨m, c0, hra⟩ := H2.out.2.2.1.lookAll hk
        obtain ⟨ad, cap, hv, hcap, _, ha, hI⟩ := (H2.out.2.2.1.row key).read
        have hlen := H2.out.2.2.1.len_le key
        have k0 := cell_regrown b0
        have k1 := cell_regrown b1
        have kc := cell_regrown c0
        rw [hv] at hra
        have L := fun d os => hra _ (below_regrown w2 d os)
        have Cb := fun d os => Calls.regrown_of (bsf_walk w2.heap.size ad (C key).length cap (C key) x1 x2 (Go.Sort.grow (redrawn w2 d) os) Hs.out rfl (by omega) (hI.below (below_regrown w2 d os)) (below_regrown w2 d os).size)
        obtain ⟨n, hn⟩ : ∃ n, (C key).length = n := ⟨_, rfl⟩
        obtain ⟨p, hp⟩ : ∃ p, posV (C key) x1 x2 = p := ⟨_, rfl⟩
        obtain ⟨hs, hhs⟩ : ∃ hs, hasV (C key) x1 x2 = hs := ⟨_, rfl⟩
        have Hps := Lib.hid (posV_spec x1 x2 Hs.out).1
        rw [hn] at L Cb hv hcap hlen Hps
        rw [hp, hhs] at Cb
        rw [hp] at Hps
        have Hp := Lib.hid (And.intro hn (And.intro hp hhs))
        have Hv := Lib.hid hv
        clear hra hI hn hp hhs hv b0 b1 c0
        go_wp2
        refine wp_region_quiet_below (by kernel_rfl) (by kernel_rfl) ?_
        repeat (go_big_quiet_step (first | exact Cb _ _))
        refine wpQuiet_nil ?_
        intro w3 hw'
        obtain ⟨⟨dq, osq⟩, hw3⟩ := hw'
        have hb3 : Below w2.heap.size w2 w3 := by rw [hw3]; exact below_regrown w2 dq osq
        have H3 := Lib.hid (And.intro (H2.out.1.trans (hb3.mono H2.out.1.size)) (And.intro (H2.out.2.1.below hb3 (Nat.le_refl _)) (And.intro (H2.out.2.2.1.below hb3 (Nat.le_refl _)) (H2.out.2.2.2.below hb3 (Nat.le_refl _)))))
        clear hb3 hw3 k0 k1 kc L Cb b2 b3 b4 H2 Hn Hr
        cases hs with
        | true =>
          obtain ⟨m', c0, hra⟩ := H3.out.2.2.1.lookAll hk
          have hyy : p < n ∧ ((C key)[p]?.getD ver0).1 = x1 ∧ ((C key)[p]?.getD ver0).2.1 = x2 := by
            have h9 := Hp.out.2.2
            unfold hasV at h9
            rw [Hp.out.2.1, Hp.out.1] at h9
            exact of_decide_eq_true h9
          obtain ⟨hpn, hy1, hy2⟩ := hyy
          have hpi : (p : Int) < n := by omega
          have hI3 := (H3.out.2.2.1.row key).read
          rw [Hv.out] at hra
          have hcell : ∃ b off, ad = some ⟨b, off, none⟩ ∧ w3.cell? ⟨b, off + p * 5, none⟩ = some (.int .i64 ((C key)[p]?.getD ver0).1) ∧ w3.cell? ⟨b, off + p * 5 + 1, none⟩ = some (.int .i64 ((C key)[p]?.getD ver0).2.1) ∧ w3.cell? ⟨b, off + p * 5 + 2, none⟩ = some (.int .i64 ((C key)[p]?.getD ver0).2.2.1) ∧
              w3.cell? ⟨b, off + p * 5 + 3, none⟩ = some (.int .i64 ((C key)[p]?.getD ver0).2.2.2.1) ∧ w3.cell? ⟨b, off + p * 5 + 4, none⟩ = some (.string ((C key)[p]?.getD ver0).2.2.2.2) := by
            obtain ⟨ad', cap', hv', _, _, _, hI'⟩ := hI3
            rw [Hv.out] at hv'
            simp only [Value.slice.injEq] at hv'
            rw [← hv'.1] at hI'
            rcases hI' with he | ⟨b, off, e, _, hcx⟩
            · exfalso
              have := Hp.out.1
              rw [he] at this; simp at this; omega
            · exact ⟨b, off, e, VrR.at5 hcx (by rw [Hp.out.1]; exact hpn)⟩
          obtain ⟨b, off, rfl, f0, f1, f2, f3, f4⟩ := hcell
          obtain ⟨⟨y1, y2, y3, y4, y5⟩, hy⟩ : ∃ y, (C key)[p]?.getD ver0 = y := ⟨_, rfl⟩
          rw [hy] at f0 f1 f2 f3 f4 hy1 hy2
          dsimp only at f0 f1 f2 f3 f4 hy1 hy2
          subst hy1 hy2
          have Hy := Lib.hid hy
          obtain ⟨b0, b1, b2, b3, b4⟩ := H3.out.2.1
          rw [Hbx.out, Hx.out] at b0 b1 b2 b3 b4
          dsimp only at b0 b1 b2 b3 b4
          have k0 := cell_regrown b0
          have k1 := cell_regrown b1
          have k2 := cell_regrown b2
          have k3 := cell_regrown b3
          have k4 := cell_regrown b4
          have kc := cell_regrown c0
          have g0 := cell_regrown f0
          have g1 := cell_regrown f1
          have g2 := cell_regrown f2
          have g3 := cell_regrown f3
          have g4 := cell_regrown f4
          have L := fun d os => hra _ (below_regrown w3 d os)
          have hcs : (y3 = x3 ∧ y4 = x4 ∧ y5 = x5) ∨ (((y1, y2, y3, y4, y5) : Ver) ≠ (y1, y2, x3, x4, x5) ∧ ((y3 == x3) = false ∨ (y3 = x3 ∧ (y4 == x4) = false) ∨ (y3 = x3 ∧ y4 = x4 ∧ (y5.toList == x5.toList) = false))) := by
            by_cases e3 : y3 = x3
            · by_cases e4 : y4 = x4
              · by_cases e5 : y5 = x5
                · exact .inl ⟨e3, e4, e5⟩
                · exact .inr ⟨fun e => e5 (by simp only [Prod.mk.injEq] at e; exact e.2.2.2.2), .inr (.inr ⟨e3, e4, txt_ne e5⟩)⟩
              · exact .inr ⟨fun e => e4 (by simp only [Prod.mk.injEq] at e; exact e.2.2.2.1), .inr (.inl ⟨e3, by simpa using e4⟩)⟩
            · exact .inr ⟨fun e => e3 (by simp only [Prod.mk.injEq] at e; exact e.2.2.1), .inl (by simpa using e3)⟩
          clear hra hI3 hy b0 b1 b2 b3 b4 c0 f0 f1 f2 f3 f4
          rcases hcs with ⟨rfl, rfl, rfl⟩ | ⟨hpn2, h9⟩
          · have Hpe : Hid (putErr false C ks key (y1, y2, y3, y4, y5) = none) := Lib.hid (by
              unfold putErr
              rw [Hnb.out, Hrb.out]
              simp only [Hp.out.2.2, Hp.out.2.1, Hy.out, if_true, Bool.false_eq_true, if_false, Bool.true_eq_false])
            go_wp2
            refine wp_region_quiet_below (by kernel_rfl) (by kernel_rfl) ?_
            repeat (go_big_quiet_step (fail))
            refine wpQuiet_nil ?_
            intro _ hw'
            obtain ⟨⟨dq, osq⟩, hw''⟩ := hw'
            subst hw''
            have H4 := Lib.hid (And.intro (H3.out.1.trans ((below_regrown w3 dq osq).mono H3.out.1.size)) (H3.out.2.2.1.below (below_regrown w3 dq osq) (Nat.le_refl _)))
            clear k0 k1 k2 k3 k4 kc g0 g1 g2 g3 g4 L
            go_wp2
            go_ret
            exact ⟨KeptBut.of_below H4.out.1 (fun k h1 h2 => by omega), .inr (.inl ⟨Hpe.out, Hp.out.2.2, rfl, H4.out.2⟩)⟩
          · have Hpe : Hid (putErr false C ks key (y1, y2, x3, x4, x5) = some 5) := Lib.hid (by
              unfold putErr
              rw [Hnb.out, Hrb.out]
              simp only [Hp.out.2.2, Hp.out.2.1, Hy.out, if_true, Bool.false_eq_true, if_false, Bool.true_eq_false, if_neg hpn2])
            have e5 := cell_regrown H3.out.2.2.2.c5
            clear hpn2
            rcases h9 with h9 | ⟨rfl, h9⟩ | ⟨rfl, rfl, h9⟩
            all_goals
              go_wp2
              refine wp_region_quiet_below (by kernel_rfl) (by kernel_rfl) ?_
              repeat (go_big_quiet_step (fail))
              refine wpQuiet_nil ?_
              intro _ hw'
              obtain ⟨⟨dq, osq⟩, hw''⟩ := hw'
              subst hw''
              have H4 := Lib.hid (And.intro (H3.out.1.trans ((below_regrown w3 dq osq).mono H3.out.1.size)) (H3.out.2.2.1.below (below_regrown w3 dq osq) (Nat.le_refl _)))
              clear k0 k1 k2 k3 k4 kc g0 g1 g2 g3 g4 L
              go_wp2
              go_ret
              exact ⟨KeptBut.of_below H4.out.1 (fun k h1 h2 => by omega), .inl ⟨5, Hpe.out, rfl, H4.out.2⟩⟩
        | false =>
          have Hc := Lib.hid (hcount_walk F w3 hb false C ks S H3.out.2.2.1 ht)
          obtain ⟨t, htt⟩ : ∃ t, totC C ks = t := ⟨_, rfl⟩
          rw [htt] at Hc ht hlen
          have Htt := Lib.hid htt
          clear htt
          go_wp2_with fail
          refine Hc.out.mono ?_
          rintro e w4 ⟨rfl, hb4⟩
          have H4 := Lib.hid (And.intro (H3.out.1.trans (hb4.mono H3.out.1.size)) (And.intro (H3.out.2.1.below hb4 (Nat.le_refl _)) (And.intro (H3.out.2.2.1.below hb4 (Nat.le_refl _)) (H3.out.2.2.2.below hb4 (Nat.le_refl _)))))
          clear hb4 H3 Hc
          by_cases h60 : 60 ≤ t
          · have h60a : (60 : Int) ≤ t := by omega
            have h60b : decide (60 ≤ t) = true := decide_eq_true h60
            have e6 := H4.out.2.2.2.c6
            have Hpe : Hid (putErr false C ks key (x1, x2, x3, x4, x5) = some 6) := Lib.hid (by
              unfold putErr
              rw [Hnb.out, Hrb.out]
              simp only [Hp.out.2.2, Htt.out, Bool.false_eq_true, if_false, Bool.true_eq_false, if_pos h60])
            clear h60
            go_wp2
            go_ret
            exact ⟨KeptBut.of_below H4.out.1 (fun k h1 h2 => by omega), .inl ⟨6, Hpe.out, rfl, H4.out.2.2.1⟩⟩
          · have h60a : ¬ (60 : Int) ≤ t := by omega
            have h60b : decide (60 ≤ t) = false := decide_eq_false h60
            have Hpe : Hid (putErr false C ks key (x1, x2, x3, x4, x5) = none) := Lib.hid (by
              unfold putErr
              rw [Hnb.out, Hrb.out]
              simp only [Hp.out.2.2, Htt.out, Bool.false_eq_true, if_false, Bool.true_eq_false, if_neg h60])
            have q := fun (W : World) (r : Option Nat) => run_eql_map_nil (P := Tryz.prog) W 36 _ _ r Tryz.underlying36
            have hmm := @run_makeMap Tryz.prog
            have hG : HoldAt (fun b => F b ∨ w.heap.size ≤ b) w4 hb false C ks S := H4.out.2.2.1.mono (fun b h => .inl h)
            have f0 := hG.f0
            have hmap := hG.map
            have HG := Lib.hid hG
            clear h60 hG
            have hpost : ∀ (W5 : World) (bm : Nat) (D : DataW Value), HoldAt (fun b => F b ∨ w.heap.size ≤ b) W5 hb false C ks S ∧ MapAt (fun b => F b ∨ w.heap.size ≤ b) W5 hb ks S bm D ∧ KeptBut F w W5 ∧ BoxV W5 bx (x1, x2, x3, x4, x5) → Hid (HoldAt (fun b => F b ∨ w.heap.size ≤ b) W5 hb false C ks S ∧ MapAt (fun b => F b ∨ w.heap.size ≤ b) W5 hb ks S bm D ∧ KeptBut F w W5 ∧ BoxV W5 bx (x1, x2, x3, x4, x5)) := fun _ _ _ h => Lib.hid h
            rcases hmap with ⟨c0, hk0⟩ | ⟨bm, D, hM⟩
            case' inl =>
              have hlt4 := HG.out.hlt
              have hB4 : Below w4.heap.size w4 (w4.alloc (.map #[] 0)) := (Below.refl _ w4).alloc (Nat.le_refl _) _
              have c0a := (hB4.cell (p := ⟨hb, 0, none⟩) hlt4).trans c0
              have f0a := (hB4.frozen (p := ⟨hb, 0, none⟩) hlt4).trans f0
              have hmade : HoldAt (fun b => F b ∨ w.heap.size ≤ b) ((w4.alloc (.map #[] 0)).setCell ⟨hb, 0, none⟩ (.map (some w4.heap.size))) hb false C ks S ∧ MapAt (fun b => F b ∨ w.heap.size ≤ b) ((w4.alloc (.map #[] 0)).setCell ⟨hb, 0, none⟩ (.map (some w4.heap.size))) hb ks S w4.heap.size (.map []) ∧ KeptBut F w ((w4.alloc (.map #[] 0)).setCell ⟨hb, 0, none⟩ (.map (some w4.heap.size))) := by
                subst hk0
                obtain ⟨m1, m2, _⟩ := HoldAt.made HG.out c0
                obtain ⟨_, _, m3⟩ := HoldAt.made H4.out.2.2.1 c0
                have hG2 : ∀ b, ((F b ∨ w.heap.size ≤ b) ∨ w4.heap.size ≤ b) → (F b ∨ w.heap.size ≤ b) := fun b h => by
                  rcases h with h | h
                  · exact h
                  · exact .inr (Nat.le_trans H4.out.1.size h)
                exact ⟨m1.mono hG2, ⟨m2.1, hG2 _ m2.2.1, m2.2.2⟩, (KeptBut.of_below H4.out.1 (fun k h1 h2 => by omega)).trans m3⟩
              have hbox5 : BoxV ((w4.alloc (.map #[] 0)).setCell ⟨hb, 0, none⟩ (.map (some w4.heap.size))) bx (x1, x2, x3, x4, x5) := by
                have hb4 := H4.out.2.1.below hB4 (Nat.le_refl _)
                rw [Hbx.out, Hx.out] at hb4
                have hne : ∀ j, (⟨hb, 0, none⟩ : Addr) ≠ ⟨bx, j, none⟩ := fun j e => by
                  have e2 : hb = bx := by simpa using congrArg Addr.block e
                  have := Hh.out.hlt
                  rw [Hbx.out] at this
                  omega
                exact ⟨by rw [World.cell?_setCell_other _ _ _ _ (hne 0)]; exact hb4.1, by rw [World.cell?_setCell_other _ _ _ _ (hne 1)]; exact hb4.2.1, by rw [World.cell?_setCell_other _ _ _ _ (hne 2)]; exact hb4.2.2.1, by rw [World.cell?_setCell_other _ _ _ _ (hne 3)]; exact hb4.2.2.2.1, by rw [World.cell?_setCell_other _ _ _ _ (hne 4)]; exact hb4.2.2.2.2⟩
              have H5 := hpost _ _ _ ⟨hmade.1, hmade.2.1, hmade.2.2, hbox5⟩
              clear hmade hbox5 hB4 hpost hlt4
              go_wp2
              obtain ⟨W5, hW5⟩ : ∃ W5, (w4.alloc (.map #[] 0)).setCell ⟨hb, 0, none⟩ (.map (some w4.heap.size)) = W5 := ⟨_, rfl⟩
              obtain ⟨bm, hbm⟩ : ∃ bm, w4.heap.size = bm := ⟨_, rfl⟩
              rw [hW5] at H5 ⊢
              rw [hbm] at H5
              obtain ⟨D, hD⟩ : ∃ D : DataW Value, (.map []) = D := ⟨_, rfl⟩
              rw [hD] at H5
              clear hW5 hbm hD c0 c0a f0 f0a hk0 q hmm HG H4
            case' inr =>
              have c0 := hM.1
              have H5 := hpost w4 bm D ⟨HG.out, hM, KeptBut.of_below H4.out.1 (fun k h1 h2 => by omega), by have h9 := H4.out.2.1; rw [Hbx.out, Hx.out] at h9; exact h9⟩
              clear hM hpost
              go_wp2
              clear c0 f0 q hmm HG H4
              obtain ⟨W5, hW5⟩ : ∃ W5, w4 = W5 := ⟨_, rfl⟩
              subst hW5
              obtain ⟨W5, hW5⟩ : ∃ W5, w4 = W5 := ⟨_, rfl⟩
              rw [hW5] at H5 ⊢
              clear hW5
            all_goals
              obtain ⟨h5, hM5, hK5, hbox5⟩ := H5.out
              obtain ⟨m5, c5, hra⟩ := h5.lookAll hk
              have hm5 : m5 = some bm := by have h9 := hM5.1; rw [c5] at h9; simpa using h9
              subst hm5
              have L1 := hra W5 (Below.refl _ _)
              have L2 := hra W5.drew (Below.refl _ W5).drew
              rw [Hv.out] at L1 L2
              have hB6 : Below W5.heap.size W5 (W5.alloc (.cells #[.int .i64 x1, .int .i64 x2, .int .i64 x3, .int .i64 x4, .string x5] 49)).drew := ((Below.refl _ W5).alloc (Nat.le_refl _) _).drew
              have h6 := h5.below hB6 (Nat.le_refl _)
              have hi := Hi.out _ W5.heap.size (h6.row key) (show OneV (W5.alloc (.cells #[.int .i64 x1, .int .i64 x2, .int .i64 x3, .int .i64 x4, .string x5] 49)).drew W5.heap.size (x1, x2, x3, x4, x5) from OneV.new W5 (x1, x2, x3, x4, x5)) (fun e => by have := h5.rowLt e; omega)
              rw [Hp.out.2.1] at hi
              have H6 := Lib.hid (And.intro hB6 (And.intro h6 (hM5.below hB6 (Nat.le_refl _))))
              have Hks := Lib.hid (ks_le_tot (C := C) (ks := ks) (fun k hk => (h5.mem k).1 hk))
              have hbx6 := hbox5.below hB6 (Nat.le_refl _)
              have hkeep : ∀ (w7 : World) (v' : Value), OwnV 0 w7 v' (insV (C key) (x1, x2, x3, x4, x5)) ∧ (W5.alloc (.cells #[.int .i64 x1, .int .i64 x2, .int .i64 x3, .int .i64 x4, .string x5] 49)).drew.grownBy w7 (S key).ownBlock ∧ (v'.ownBlock = (S key).ownBlock ∨ ∃ g, v'.ownBlock = some g ∧ (W5.alloc (.cells #[.int .i64 x1, .int .i64 x2, .int .i64 x3, .int .i64 x4, .string x5] 49)).drew.heap.size ≤ g) →
                  ∃ w8, (Instr.mapUpdate 36 (.map (some bm)) (.string key) v').run Tryz.prog w7 = .ok () w8 ∧ w7.cell? ⟨hb, 0, none⟩ = some (.map (some bm)) ∧ BoxV w7 bx (x1, x2, x3, x4, x5) ∧ w8.cell? ⟨hb, 0, none⟩ = some (.map (some bm)) ∧ BoxV w8 bx (x1, x2, x3, x4, x5) ∧
                    Hid (KeptBut F w w8 ∧ ∃ S', HoldAt (fun b => F b ∨ w.heap.size ≤ b) w8 hb false (updC C key (insV (C key) (x1, x2, x3, x4, x5))) (addK ks key) S') := fun w7 v' ⟨hv7, hg7, hbl7⟩ => by
                have hM6 := hM5.below hB6 (Nat.le_refl _)
                have hrow : ∀ g, (S key).ownBlock = some g → g ≠ hb ∧ g ≠ bm ∧ g ≠ bx := fun g hg => ⟨(h6.rowF key g hg).2, hM6.2.2.2.2.2.2.1 key g hg, by have := Hh.out.rowLt hg; have := Hbx.out; omega⟩
                have hown7 := hM6.2.2.2.1.kept hg7 (fun e => (hrow bm e.symm).2.1 rfl)
                obtain ⟨w8, hrun, hown8, hg8⟩ := hown7.update keyedS Tryz.underlying36 (by have := Hks.out; have := Htt.out; unfold maxLen; omega) (keyS hk) (d := .held v') (ps := []) rfl
                obtain ⟨hp1, hp2⟩ := HoldAt.put h6 hM6 hg7 hv7 (insV_ne _ _) hbl7 hown8 hg8 hk
                have hszW : w.heap.size ≤ (W5.alloc (.cells #[.int .i64 x1, .int .i64 x2, .int .i64 x3, .int .i64 x4, .string x5] 49)).drew.heap.size := Nat.le_trans hK5.size hB6.size
                have hc7 : ∀ {q : Addr} {u : Value}, (q.block = hb ∨ q.block = bx) → (W5.alloc (.cells #[.int .i64 x1, .int .i64 x2, .int .i64 x3, .int .i64 x4, .string x5] 49)).drew.cell? q = some u → w7.cell? q = some u := fun {q u} hq hc => hg7.cell hc (fun e => by
                  rcases hq with h | h
                  · exact (hrow _ e.symm).1 h
                  · exact (hrow _ e.symm).2.2 h)
                have hbxm : bx ≠ bm := fun e => by
                  obtain ⟨es, clock, hm, _⟩ := hown7
                  have h1 := hc7 (q := ⟨bx, 0, none⟩) (.inr rfl) hbx6.1
                  rw [e] at h1
                  simp [World.cell?, hm] at h1
                have hc8 : ∀ {q : Addr} {u : Value}, (q.block = hb ∨ q.block = bx) → w7.cell? q = some u → w8.cell? q = some u := fun {q u} hq hc => hg8.cell hc (fun e => by
                  rcases hq with h | h
                  · exact hM6.2.2.1 (by rw [← h]; exact (Option.some.inj e).symm)
                  · exact hbxm (by rw [← h]; exact Option.some.inj e))
                have hb7 : BoxV w7 bx (x1, x2, x3, x4, x5) := ⟨hc7 (.inr rfl) hbx6.1, hc7 (.inr rfl) hbx6.2.1, hc7 (.inr rfl) hbx6.2.2.1, hc7 (.inr rfl) hbx6.2.2.2.1, hc7 (.inr rfl) hbx6.2.2.2.2⟩
                have hm7 := hc7 (.inl rfl) hM6.1
                have hKG : KeptBut (fun b => F b ∨ w.heap.size ≤ b) w w8 := ((hK5.mono (fun k _ h => .inl h)).trans (KeptBut.of_below hB6 (fun k h1 h2 => by omega))).trans hp2
                refine ⟨w8, hrun, hm7, hb7, hc8 (.inl rfl) hm7, ⟨hc8 (.inr rfl) hb7.1, hc8 (.inr rfl) hb7.2.1, hc8 (.inr rfl) hb7.2.2.1, hc8 (.inr rfl) hb7.2.2.2.1, hc8 (.inr rfl) hb7.2.2.2.2⟩, Lib.hid ⟨hKG.mono (fun k h1 h2 => by
                  rcases h2 with h2 | h2
                  · exact h2
                  · omega), _, hp1.mono (fun b h => by
                  rcases h with h | h
                  · exact h
                  · exact .inr (Nat.le_trans hszW h))⟩⟩
              obtain ⟨b0, b1, b2, b3, b4⟩ := hbox5
              dsimp only at b0 b1 b2 b3 b4
              obtain ⟨d0, d1, d2, d3, d4⟩ := hbx6
              dsimp only at d0 d1 d2 d3 d4
              have dc := H6.out.2.2.1
              have L3 := hra _ hB6
              rw [Hv.out] at L3
              have Hkeep := Lib.hid hkeep
              have Hi2 := Lib.hid (by rw [Hv.out] at hi; exact hi)
              rw [Hv.out] at Hkeep
              clear h5 hM5 hK5 hra hB6 h6 hi hkeep
              go_region_held3 (fun W => W.cell? ⟨hb, 0, none⟩ = some (.map (some bm)) ∧ W.cell? ⟨bx, 0, none⟩ = some (.int .i64 x1) ∧ W.cell? ⟨bx, 1, none⟩ = some (.int .i64 x2) ∧ W.cell? ⟨bx, 2, none⟩ = some (.int .i64 x3) ∧ W.cell? ⟨bx, 3, none⟩ = some (.int .i64 x4) ∧ W.cell? ⟨bx, 4, none⟩ = some (.string x5))
                (first | exact ⟨c5, b0, b1, b2, b3, b4⟩ | exact ⟨dc, d0, d1, d2, d3, d4⟩ | exact ⟨e7, q0, q1, q2, q3, q4⟩ | exact ⟨e8, r0, r1, r2, r3, r4⟩)
                (first | (go_at_call 45; refine Hi2.out.mono ?_; rintro e w7 ⟨v', rfl, hins7⟩; obtain ⟨w8, hrun8, e7, ⟨q0, q1, q2, q3, q4⟩, e8, ⟨r0, r1, r2, r3, r4⟩, HF⟩ := Hkeep.out w7 v' hins7; clear hins7))
              all_goals
                go_wp2
                go_ret
                exact ⟨HF.out.1, .inr (.inr ⟨Hpe.out, Hp.out.2.2, rfl, HF.out.2⟩)⟩
end
section
open Go.RowKit Go.Maps Go.BigFrame

/-- a hold that is new. -/
theorem HoldAt.empty {F : Nat → Prop} {w : World} {hb : Nat} {sd : Bool} (hF : F hb) (h0 : w.cell? ⟨hb, 0, none⟩ = some (.map none)) (h1 : w.cell? ⟨hb, 1, none⟩ = some (.bool sd)) (f0 : w.frozen? ⟨hb, 0, none⟩ = false) (f1 : w.frozen? ⟨hb, 1, none⟩ = false) :
    HoldAt F w hb sd (fun _ => []) [] (fun _ => .slice none 0 0) :=
  ⟨hF, lt_of_cell h0, h1, f0, f1, .inl ⟨h0, rfl⟩, fun _ => OwnV.nil _ _, (fun _ g hg => by cases hg), (fun _ _ g _ hg => by cases hg), List.nodup_nil, (fun _ => by simp), (fun _ _ => rfl), (fun k hk => by cases hk)⟩
def verX : Ver := (1, 0, 1, 0, ⟨#[120]⟩)
theorem putX : putErr false (fun _ => []) [] ⟨#[107]⟩ verX = none := by decide +kernel
theorem insX : insV [] verX = [verX] := by decide +kernel
set_option maxRecDepth 100000 in
set_option maxHeartbeats 8000000 in
theorem holds_walk (w : World) (E : Nat → Addr) (hE : ErrHx w E) :
    Calls Tryz.prog 5 #[] w fun e w' => e = .returned (.bool true) ∧ Below w.heap.size w w' := by
  have hB : Below w.heap.size w ((w.alloc (.cells #[.map none, .bool false] 38)).alloc (.cells #[.int .i64 1, .int .i64 0, .int .i64 1, .int .i64 0, .string ⟨#[120]⟩] 49)) := ((Below.refl _ w).alloc (Nat.le_refl _) _).alloc (by simp) _
  have h0 : HoldAt (fun b => w.heap.size = b) ((w.alloc (.cells #[.map none, .bool false] 38)).alloc (.cells #[.int .i64 1, .int .i64 0, .int .i64 1, .int .i64 0, .string ⟨#[120]⟩] 49)) w.heap.size false (fun _ => []) [] (fun _ => .slice none 0 0) :=
    HoldAt.empty rfl (by simp) (by simp) (by simp) (by simp)
  have hbox : BoxV ((w.alloc (.cells #[.map none, .bool false] 38)).alloc (.cells #[.int .i64 1, .int .i64 0, .int .i64 1, .int .i64 0, .string ⟨#[120]⟩] 49)) (w.heap.size + 1) verX := ⟨by simp [verX], by simp [verX], by simp [verX], by simp [verX], by simp [verX]⟩
  have Hp := Lib.hid (hput_walk _ _ w.heap.size false _ _ _ ⟨#[107]⟩ 1 0 1 0 ⟨#[120]⟩ E h0 (hE.below hB (Nat.le_refl _)) (by decide +kernel) (by decide) List.Pairwise.nil
    (fun W gx ho hone hne => by
      have h := insert_end 0 (.slice none 0 0) [] gx verX W ho (by simp) hone (Nat.zero_le _)
      rw [show insV ((fun _ => [] : ByteArray → List Ver) ⟨#[107]⟩) (1, 0, 1, 0, ⟨#[120]⟩) = [] ++ [verX] from insX]
      exact h))
  have HB := Lib.hid (And.intro hB hbox)
  clear hB h0 hbox hE
  obtain ⟨s0, s1, s2, s3, s4⟩ := HB.out.2
  dsimp only [verX] at s0 s1 s2 s3 s4
  go_enter Tryz.func5, Tryz.ntmps5
  go_wp2_with fail
  refine Hp.out.mono ?_
  rintro e w2 ⟨hk2, hpost⟩
  have hpost2 : e = .returned .nilIface ∧ ∃ S', HoldAt (fun b => w.heap.size = b ∨ ((w.alloc (.cells #[.map none, .bool false] 38)).alloc (.cells #[.int .i64 1, .int .i64 0, .int .i64 1, .int .i64 0, .string ⟨#[120]⟩] 49)).heap.size ≤ b) w2 w.heap.size false (updC (fun _ => []) ⟨#[107]⟩ [verX]) [⟨#[107]⟩] S' := by
    rcases hpost with ⟨i, h1, _⟩ | ⟨_, h1, _⟩ | ⟨_, _, h3, S', h4⟩
    · rw [show putErr false (fun _ => []) [] ⟨#[107]⟩ (1, 0, 1, 0, ⟨#[120]⟩) = none from putX] at h1; cases h1
    · exact absurd h1 (by decide +kernel)
    · rw [show insV ((fun _ => [] : ByteArray → List Ver) ⟨#[107]⟩) (1, 0, 1, 0, ⟨#[120]⟩) = [verX] from insX] at h4
      exact ⟨h3, S', h4⟩
  obtain ⟨rfl, S', h2⟩ := hpost2
  have hbx2 : BoxV w2 (w.heap.size + 1) verX := by
    have c : ∀ {j v}, ((w.alloc (.cells #[.map none, .bool false] 38)).alloc (.cells #[.int .i64 1, .int .i64 0, .int .i64 1, .int .i64 0, .string ⟨#[120]⟩] 49)).cell? ⟨w.heap.size + 1, j, none⟩ = some v → w2.cell? ⟨w.heap.size + 1, j, none⟩ = some v := fun {j v} h => hk2.cell h (by show ¬ w.heap.size = w.heap.size + 1; omega)
    obtain ⟨a0, a1, a2, a3, a4⟩ := HB.out.2
    exact ⟨c a0, c a1, c a2, c a3, c a4⟩
  have hB2 : Below w.heap.size w w2 := HB.out.1.trans (hk2.below HB.out.1.size (fun k h => by omega))
  have H2 := Lib.hid (And.intro hB2 (And.intro hbx2 h2))
  clear hk2 hpost hbx2 hB2 h2 s0 s1 s2 s3 s4 HB Hp
  have Hg := Lib.hid (hget_walk _ w2 w.heap.size false _ _ _ ⟨#[107]⟩ H2.out.2.2 (by decide) (by decide))
  rw [show updC (fun _ => []) ⟨#[107]⟩ [verX] ⟨#[107]⟩ = [verX] from rfl] at Hg
  go_wp2_with fail
  refine Hg.out.mono ?_
  rintro e w3 ⟨hb3, v3, rfl, ho3⟩
  obtain ⟨a3, c3, rfl, hc3, _, _, hI3⟩ := ho3.read
  have H3 := Lib.hid (And.intro (H2.out.1.trans (hb3.mono H2.out.1.size)) (And.intro (H2.out.2.1.below hb3 (Nat.le_refl _)) (And.intro (H2.out.2.2.below hb3 (Nat.le_refl _)) hI3)))
  clear hb3 ho3 hI3 H2 Hg
  have Hl := Lib.hid (hlast_walk _ w3 w.heap.size false _ _ _ ⟨#[107]⟩ H3.out.2.2.1 (by decide) (by decide))
  rw [show updC (fun _ => []) ⟨#[107]⟩ [verX] ⟨#[107]⟩ = [verX] from rfl] at Hl
  rw [show [verX].length = 1 from rfl] at hc3 ⊢
  go_wp2_with fail
  refine Hl.out.mono ?_
  rintro e w4 ⟨rfl, hb4⟩
  have H4 := Lib.hid (And.intro (H3.out.1.trans (hb4.mono H3.out.1.size)) (And.intro (H3.out.2.1.below hb4 (Nat.le_refl _)) (And.intro (H3.out.2.2.1.below hb4 (Nat.le_refl _)) (H3.out.2.2.2.below hb4))))
  rw [show lastE [verX] = .returned (.tuple #[.agg #[.int .i64 1, .int .i64 0], .bool true]) from rfl]
  have h34 := hb4.size
  clear hb4 H3 Hl
  go_wp2
  obtain ⟨W5, hW5⟩ : ∃ W5, w4.alloc (.cells #[.int .i64 1, .int .i64 0] 45) = W5 := ⟨_, rfl⟩
  obtain ⟨b5, hb5⟩ : ∃ b5, w4.heap.size = b5 := ⟨_, rfl⟩
  have hB5 : Below w4.heap.size w4 W5 := by rw [← hW5]; exact (Below.refl _ _).alloc (Nat.le_refl _) _
  have t0 : W5.cell? ⟨w4.heap.size, 0, none⟩ = some (.int .i64 1) := by rw [← hW5]; simp
  have t1 : W5.cell? ⟨w4.heap.size, 1, none⟩ = some (.int .i64 0) := by rw [← hW5]; simp
  have H5 := Lib.hid (And.intro (H4.out.1.trans (hB5.mono H4.out.1.size)) (H4.out.2.2.1.below hB5 (Nat.le_refl _)))
  obtain ⟨s0, s1, s2, s3, s4⟩ := H4.out.2.1.below hB5 (Nat.le_refl _)
  dsimp only [verX] at s0 s1 s2 s3 s4
  have hI5 := (H4.out.2.2.2.mono h34).below hB5
  rw [hW5, hb5]
  rw [hb5] at t0 t1
  clear hW5 hb5 hB5 h34 H4
  rcases hI5 with he | ⟨b, off, rfl, _, hcx⟩
  · cases he
  obtain ⟨f0, f1, f2, f3, f4⟩ := VrR.at5 hcx (i := 0) (by decide)
  simp only [Nat.zero_mul, Nat.add_zero] at f0 f1 f2 f3 f4
  change W5.cell? ⟨b, off, none⟩ = some (.int .i64 1) at f0
  change W5.cell? ⟨b, off + 1, none⟩ = some (.int .i64 0) at f1
  change W5.cell? ⟨b, off + 2, none⟩ = some (.int .i64 1) at f2
  change W5.cell? ⟨b, off + 3, none⟩ = some (.int .i64 0) at f3
  change W5.cell? ⟨b, off + 4, none⟩ = some (.string ⟨#[120]⟩) at f4
  have g0 := cell_regrown f0
  have g1 := cell_regrown f1
  have g2 := cell_regrown f2
  have g3 := cell_regrown f3
  have g4 := cell_regrown f4
  have k0 := cell_regrown s0
  have k1 := cell_regrown s1
  have k2 := cell_regrown s2
  have k3 := cell_regrown s3
  have k4 := cell_regrown s4
  have m0 := cell_regrown t0
  have m1 := cell_regrown t1
  have Cc : ∀ d os, Calls Tryz.prog 10 #[.pointer (some ⟨w.heap.size, 0, none⟩)] (Go.Sort.grow (redrawn W5 d) os) fun e w'' => e = .returned (.int .i64 1) ∧ ∃ p : Regrown, w'' = Go.Sort.grow (redrawn W5 p.d) p.os :=
    fun d os => Calls.regrown_of (hcount_walk _ _ _ _ _ _ _ (H5.out.2.below (below_regrown W5 d os) (Nat.le_refl _)) (by decide))
  have Cl : ∀ d os, Calls Tryz.prog 18 #[.agg #[.int .i64 0, .int .i64 0], .agg #[.int .i64 1, .int .i64 0]] (Go.Sort.grow (redrawn W5 d) os) fun e w'' => e = .returned (.bool true) ∧ ∃ p : Regrown, w'' = Go.Sort.grow (redrawn W5 p.d) p.os :=
    fun d os => Calls.regrown_of (less_walk 0 0 1 0 (Go.Sort.grow (redrawn W5 d) os))
  clear hcx f0 f1 f2 f3 f4 s0 s1 s2 s3 s4 t0 t1
  refine wp_region_quiet_below (by kernel_rfl) (by kernel_rfl) ?_
  repeat (go_big_quiet_step (first | exact Cc _ _ | exact Cl _ _))
  refine wpQuiet_nil ?_
  intro _ hw'
  obtain ⟨⟨dq, osq⟩, hw''⟩ := hw'
  subst hw''
  go_wp2
  go_ret
  exact ⟨rfl, H5.out.1.trans ((below_regrown W5 dq osq).mono H5.out.1.size)⟩
end
end Go.Proofs.YthdicfcgkbepdaaGreatDoor
