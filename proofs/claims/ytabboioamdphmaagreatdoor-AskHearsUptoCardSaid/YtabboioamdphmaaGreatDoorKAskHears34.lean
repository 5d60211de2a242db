/- Walks: ask.begin, Get, Put. -/
import Derived.Test.YtabboioamdphmaaGreatDoorKAskHears32
import Derived.Test.YtabboioamdphmaaGreatDoorKAskHears33
import Derived.Test.YtabboioamdphmaaGreatDoorKAskHears18
import Derived.Test.YtabboioamdphmaaGreatDoorKAskHears31
namespace Go.Proofs.YtabboioamdphmaaGreatDoor
section
open Go.RowKit Go.Maps Go.BigFrame

/-- what a bid's check answers. -/
def bidF (who op n k : Int) (L : List ByteArray) (cf : Int) (key : ByteArray) (tsz : Nat) : Nat × Int :=
  if (configF n k L).1 ≠ 0 then configF n k L else if nameB key = false then (4, -1) else if who < 0 ∨ 6 ≤ who ∨ op < 0 ∨ cf < 0 ∨ 1000 < tsz then (2, -1) else (0, -1)
theorem bidF_cfg {who op n k : Int} {L : List ByteArray} {cf : Int} {key : ByteArray} {tsz : Nat} (h : (configF n k L).1 ≠ 0) : bidF who op n k L cf key tsz = configF n k L := by unfold bidF; rw [if_pos h]
theorem bidF_name {who op n k : Int} {L : List ByteArray} {cf : Int} {key : ByteArray} {tsz : Nat} (h : (configF n k L).1 = 0) (h2 : nameB key = false) : bidF who op n k L cf key tsz = (4, -1) := by unfold bidF; rw [if_neg (by omega), if_pos h2]
theorem bidF_bound {who op n k : Int} {L : List ByteArray} {cf : Int} {key : ByteArray} {tsz : Nat} (h : (configF n k L).1 = 0) (h2 : nameB key = true) (h3 : who < 0 ∨ 6 ≤ who ∨ op < 0 ∨ cf < 0 ∨ 1000 < tsz) : bidF who op n k L cf key tsz = (2, -1) := by unfold bidF; rw [if_neg (by omega), if_neg (by rw [h2]; decide), if_pos h3]
theorem bidF_ok {who op n k : Int} {L : List ByteArray} {cf : Int} {key : ByteArray} {tsz : Nat} (h : (configF n k L).1 = 0) (h2 : nameB key = true) (h3 : ¬ (who < 0 ∨ 6 ≤ who ∨ op < 0 ∨ cf < 0 ∨ 1000 < tsz)) : bidF who op n k L cf key tsz = (0, -1) := by unfold bidF; rw [if_neg (by omega), if_neg (by rw [h2]; decide), if_neg h3]
theorem bidF_zero {who op n k : Int} {L : List ByteArray} {cf : Int} {key : ByteArray} {tsz : Nat} (h : (bidF who op n k L cf key tsz).1 = 0) : (configF n k L).1 = 0 ∧ nameB key = true ∧ ¬ (who < 0 ∨ 6 ≤ who ∨ op < 0 ∨ cf < 0 ∨ 1000 < tsz) := by
  by_cases h1 : (configF n k L).1 = 0
  · cases h2 : nameB key with
    | false => rw [bidF_name h1 h2] at h; cases h
    | true =>
      by_cases h3 : who < 0 ∨ 6 ≤ who ∨ op < 0 ∨ cf < 0 ∨ 1000 < tsz
      · rw [bidF_bound h1 h2 h3] at h; cases h
      · exact ⟨h1, rfl, h3⟩
  · rw [bidF_cfg h1] at h; exact absurd h h1
/-- a client's ask that has just begun. -/
def newA (who op n k : Int) (L : List ByteArray) (cf : Int) (key text : ByteArray) (put : Bool) : AskS :=
  ⟨⟨⟨#[99]⟩ ++ digT who.toNat, key, op, cf, n.toNat, k.toNat, L, kTold, []⟩, who, put, false, 0, 0, [], 0, (0, 0), text, false⟩
/-- the cells of a talk. -/
def talkV (t : TalkS) (ma : Option Addr) (mc : Nat) (x7 x8 : Value) : List Value := [.string t.name, .string t.key, .int .i64 t.op, .int .i64 t.cf, .int .i64 (t.n : Nat), .int .i64 (t.k : Nat), .slice ma t.mem.length mc, x7, x8]
theorem CellsAt.new (w : World) (vs : List Value) (t : TypeId) : CellsAt (w.alloc (.cells vs.toArray t)) w.heap.size vs :=
  ⟨by simp, fun j hj => by rw [World.cell?_alloc_at _ _ _ _ rfl]; simp [List.getElem?_eq_getElem hj], fun j => by simp⟩
theorem CellsAt.drew {w : World} {mo : Nat} {vs : List Value} (h : CellsAt w mo vs) : CellsAt w.drew mo vs := ⟨h.lt, h.cell, h.z⟩
/-- a talk is born. -/
theorem TalkX.born {W : World} {tb B : Nat} {ma : Option Addr} {mc : Nat} {t : TalkS} {vs : List Value} {x7 x8 : Value} (h : CellsAt W tb (talkV t ma mc x7 x8 ++ vs)) (hB : B ≤ tb) (hm : t.mem.length ≤ mc ∧ mc ≤ maxLen ∧ (ma = none → mc = 0)) (hT : TxsS (fun b => B ≤ b ∧ b ≠ tb) W ma t.mem) (hg : t.got = []) :
    TalkX (fun b => B ≤ b ∧ b < (startW W tb t.wait).heap.size) (startW W tb t.wait) tb W.heap.size ma mc t vs := by
  have hl := h.lt
  have hk := startW_kept W tb t.wait
  have c : ∀ j, j < 9 → W.cell? ⟨tb, j, none⟩ = some ((talkV t ma mc x7 x8)[j]?.getD undef) := fun j hj => by
    have h9 := h.cell j (by rw [List.length_append]; show j < 9 + vs.length; omega)
    rw [List.getElem?_append_left (by show j < 9; exact hj)] at h9
    exact h9
  have e7 : (W.setCell ⟨tb, 7, none⟩ (.string t.wait)).cell? ⟨tb, 7, none⟩ = some (.string t.wait) := World.cell?_setCell_same _ _ _ (c 7 (by decide))
  have e8 : (W.setCell ⟨tb, 7, none⟩ (.string t.wait)).cell? ⟨tb, 8, none⟩ = some x8 := by
    rw [World.cell?_setCell_other _ _ _ _ (by simp)]; exact c 8 (by decide)
  have hb : Below (W.setCell ⟨tb, 7, none⟩ (.string t.wait)).heap.size (W.setCell ⟨tb, 7, none⟩ (.string t.wait)) ((W.setCell ⟨tb, 7, none⟩ (.string t.wait)).alloc (.map #[] 0)) := (Below.refl _ _).alloc (Nat.le_refl _) _
  have a7 := (hb.cell (lt_of_cell e7)).trans e7
  have a8 := (hb.cell (lt_of_cell e8)).trans e8
  have hz := startW_size W tb t.wait
  refine ⟨⟨⟨hB, by omega⟩, ⟨by omega, by omega⟩, fun e => by omega, fun b hb => hb.2, startW_cell (by decide) (by decide) (c 0 (by decide)), startW_cell (by decide) (by decide) (c 1 (by decide)), startW_cell (by decide) (by decide) (c 2 (by decide)), startW_cell (by decide) (by decide) (c 3 (by decide)), startW_cell (by decide) (by decide) (c 4 (by decide)), startW_cell (by decide) (by decide) (c 5 (by decide)), startW_cell (by decide) (by decide) (c 6 (by decide)), ?_, ?_, fun i => ?_, hm.1, hm.2.1, hm.2.2, ?_, ?_⟩, fun j hj => ?_⟩
  · unfold startW
    rw [World.cell?_setCell_other _ _ _ _ (by simp)]; exact a7
  · unfold startW
    exact World.cell?_setCell_same _ _ _ a8
  · unfold startW
    rw [World.frozen?_setCell]
    by_cases e : (W.setCell ⟨tb, 7, none⟩ (.string t.wait)).heap.size = tb
    · rw [setCell_size] at e; omega
    · rw [World.frozen?_alloc_old _ _ _ (fun e2 => e e2.symm), World.frozen?_setCell]; exact h.z i
  · rcases hT with e | ⟨b9, off, e, hb9, hl8, hc⟩
    · exact .inl e
    · exact .inr ⟨b9, off, e, ⟨⟨hb9.1, by omega⟩, hb9.2, by omega⟩, by omega, fun j hj => (World.cell?_of_block (a := ⟨b9, off + j, none⟩) (hk.block b9 hl8 hb9.2)).trans (hc j hj)⟩
  · rw [hg]
    have hg := GotAt.made (fun b => (B ≤ b ∧ b < (startW W tb t.wait).heap.size) ∧ b ≠ tb ∧ b ≠ W.heap.size) (W.setCell ⟨tb, 7, none⟩ (.string t.wait))
    rw [setCell_size] at hg
    exact hg.kept ((KeptBut.refl (fun b => b = tb) _).set1 (p := ⟨tb, 8, none⟩) rfl (.map (some W.heap.size))) (fun b _ hb => hb.2.1) (fun e => by omega)
  · have h9 := h.cell (9 + j) (by rw [List.length_append]; show 9 + j < 9 + vs.length; omega)
    rw [List.getElem?_append_right (by show 9 ≤ 9 + j; omega)] at h9
    have e9 : 9 + j - (talkV t ma mc x7 x8).length = j := by show 9 + j - 9 = j; omega
    rw [e9] at h9
    exact startW_cell (by omega) (by omega) h9
/-- what begin answers. -/
def BeginOut (w w' : World) (E : Nat → Addr) (F : Nat × Int) (a0 : AskS) (e : Ending) : Prop :=
  Below w.heap.size w w' ∧ ((F.1 ≠ 0 ∧ ∃ v, ((∃ x, v = errV x) ∨ ∃ m, v = faultV m) ∧ FltV w' E F v ∧ e = .returned (.tuple #[.pointer none, v])) ∨
    (F.1 = 0 ∧ ∃ ab bm ma mc, TalkX (fun b => w.heap.size ≤ b ∧ b < w'.heap.size) w' ab bm ma mc a0.t (askV a0) ∧ e = .returned (.tuple #[.pointer (some ⟨ab, 0, none⟩), .nilIface])))
theorem OwnT.readS {B : Nat} {w : World} {v : Value} {L : List ByteArray} (h : OwnT B w v L) : ∃ a cap, v = .slice a L.length cap ∧ L.length ≤ cap ∧ cap ≤ maxLen ∧ (a = none → cap = 0) ∧ TxsS (fun b => B ≤ b) w a L := by
  obtain ⟨a, cap, rfl, h1, h2, h3, h4⟩ := h.read
  refine ⟨a, cap, rfl, h1, h2, h3, ?_⟩
  rcases h4 with e | ⟨b, off, rfl, hb, hc⟩
  · exact .inl e
  · rcases h.2 with ⟨e, _⟩ | ⟨g, cap2, cur, e, hb2, hg, _⟩
    · cases (Value.slice.inj e).1
    · cases (Value.slice.inj e).1
      exact .inr ⟨_, _, rfl, hb2, (Array.getElem?_eq_some_iff.1 hg).1, hc⟩
set_option maxRecDepth 100000 in
set_option maxHeartbeats 8000000 in
theorem begin_walk (who op n k cf : Int) (n₀ : Nat) (a : Option Addr) (len cap : Nat) (L : List ByteArray) (key text : ByteArray) (put : Bool) (w : World) (E : Nat → Addr) (hE : ErrQx w E) (hlen : L.length = len) (hcap : len ≤ cap) (hl6 : len ≤ 1000000) (ha : a = none → cap = 0) (hsz : ∀ j : Nat, (L[j]?.getD (⟨#[]⟩ : ByteArray)).size ≤ maxLen) (hI : TxsAt n₀ w a L) (hn : n₀ ≤ w.heap.size) (hkey : key.size ≤ maxLen) (htext : text.size ≤ maxLen) :
    Calls Tryz.prog 54 #[.int .i64 who, .int .i64 op, cfgV n k (.slice a len cap), .int .i64 cf, .string key, .string text, .bool put] w fun e w' => BeginOut w w' E (bidF who op n k L cf key text.size) (newA who op n k L cf key text put) e := by
  obtain ⟨W1, hW1⟩ : ∃ W1, w.alloc (.cells #[.int .i64 n, .int .i64 k, .slice a len cap] 24) = W1 := ⟨_, rfl⟩
  obtain ⟨cb, hcb⟩ : ∃ cb, w.heap.size = cb := ⟨_, rfl⟩
  have hb1 : Below w.heap.size w W1 := by rw [← hW1]; exact (Below.refl _ _).alloc (Nat.le_refl _) _
  have hC : CfgAt W1 cb n k (.slice a len cap) := by rw [← hW1, ← hcb]; exact CfgAt.new w n k _
  have hz2 : W1.frozen? ⟨cb, 2, none⟩ = false := by rw [← hW1, ← hcb]; simp
  have hs1 : W1.heap.size = cb + 1 := by rw [← hW1, ← hcb]; simp
  have Hq := Lib.hid (qcheck_walk n k w.heap.size a len cap L W1 E (hE.below hb1 (Nat.le_refl _)) hlen hcap hsz ((hI.mono hn).below hb1) hb1.size)
  have H := Lib.hid (And.intro hb1 (And.intro hC (And.intro hz2 (And.intro hs1 (And.intro hE (And.intro hlen (And.intro (hI.mono hn) (And.intro hkey (And.intro htext (And.intro hW1 (And.intro hcb (And.intro ha (And.intro hcap hl6)))))))))))))
  obtain ⟨F, hF⟩ : ∃ F, configF n k L = F := ⟨_, rfl⟩
  have HF := Lib.hid hF
  rw [hF] at Hq
  obtain ⟨c0, c1, c2⟩ := hC
  clear hb1 hz2 hE hlen hI hkey htext ha hsz hF hcap hn
  go_enter Tryz.func54, Tryz.ntmps54
  go_wp2_with fail
  clear hW1 hcb c0 c1 c2
  refine Hq.out.mono ?_
  rintro e w2 ⟨⟨v, rfl, hv⟩, hb2⟩
  have H2 := Lib.hid (And.intro (H.out.1.trans (hb2.mono H.out.1.size)) (And.intro hb2 (H.out.2.1.below hb2 (by omega))))
  clear hb2
  by_cases h0 : F.1 = 0
  · obtain ⟨_, rfl⟩ := hv.nil h0
    have H0 := Lib.hid h0
    clear hv h0
    obtain ⟨nb, hnb⟩ : ∃ nb, nameB key = nb := ⟨_, rfl⟩
    have Hnb := Lib.hid hnb
    have Hna := Lib.hid (name_walk key w2 H.out.2.2.2.2.2.2.2.1)
    rw [hnb] at Hna
    clear hnb
    go_wp2_with fail
    refine Hna.out.mono ?_
    rintro e w3 ⟨rfl, hb3⟩
    have H3 := Lib.hid (And.intro (H2.out.1.trans (hb3.mono H2.out.1.size)) (And.intro (H2.out.2.2.below hb3 (lt_of_cell H2.out.2.2.c0)) (H2.out.2.1.trans (hb3.mono H2.out.2.1.size))))
    clear hb3
    cases nb with
    | false =>
      have hg3 := (H.out.2.2.2.2.1.below H3.out.1 (Nat.le_refl _)).nx.c3
      go_wp2
      go_quiet (fail)
      go_wp2
      go_ret2
      exact ⟨H3.out.1.trans ⟨rfl, rfl, rfl, Nat.le_refl _, fun _ _ => rfl⟩, .inl ⟨by rw [bidF_name (by rw [HF.out]; exact H0.out) Hnb.out]; decide, _, .inl ⟨_, rfl⟩, by rw [bidF_name (by rw [HF.out]; exact H0.out) Hnb.out]; exact .inr (.inl ⟨3, by decide, rfl, rfl⟩), rfl⟩⟩
    | true =>
      have hcs : (who < 0 ∨ 6 ≤ who ∨ op < 0 ∨ cf < 0 ∨ 1000 < text.size) ∨ ¬ (who < 0 ∨ 6 ≤ who ∨ op < 0 ∨ cf < 0 ∨ 1000 < text.size) := Classical.em _
      rcases hcs with hbd | hbd
      · have hbF := bidF_bound (by rw [HF.out]; exact H0.out) Hnb.out hbd
        have HbF := Lib.hid hbF
        have hg1 := (H.out.2.2.2.2.1.below H3.out.1 (Nat.le_refl _)).nx.c1
        have hcs : who < 0 ∨ (¬ who < 0 ∧ 6 ≤ who) ∨ (¬ who < 0 ∧ ¬ 6 ≤ who ∧ op < 0) ∨ (¬ who < 0 ∧ ¬ 6 ≤ who ∧ ¬ op < 0 ∧ cf < 0) ∨ (¬ who < 0 ∧ ¬ 6 ≤ who ∧ ¬ op < 0 ∧ ¬ cf < 0 ∧ (1000 : Int) < text.size) := by omega
        clear hbd hbF
        rcases hcs with h1 | ⟨h1, h2⟩ | ⟨h1, h2, h3⟩ | ⟨h1, h2, h3, h4⟩ | ⟨h1, h2, h3, h4, h5⟩
        all_goals
          go_wp2
          go_quiet (fail)
          go_wp2
          go_ret2
          exact ⟨H3.out.1.trans ⟨rfl, rfl, rfl, Nat.le_refl _, fun _ _ => rfl⟩, .inl ⟨by rw [HbF.out]; decide, _, .inl ⟨_, rfl⟩, by rw [HbF.out]; exact .inr (.inl ⟨1, by decide, rfl, rfl⟩), rfl⟩⟩
      · have hbF := bidF_ok (by rw [HF.out]; exact H0.out) Hnb.out hbd
        have HbF := Lib.hid hbF
        obtain ⟨h1, h2, h3, h4, h5⟩ : ¬ who < 0 ∧ ¬ 6 ≤ who ∧ ¬ op < 0 ∧ ¬ cf < 0 ∧ ¬ (1000 : Int) < text.size := by omega
        clear hbd hbF
        obtain ⟨c0, c1, c2⟩ := H3.out.2.1
        have Hcl := Lib.hid (tclone_walk w.heap.size a len cap L w3 H.out.2.2.2.2.2.1 H.out.2.2.2.2.2.2.2.2.2.2.2.2.1 H.out.2.2.2.2.2.2.2.2.2.2.2.2.2 H.out.2.2.2.2.2.2.2.2.2.2.2.1 (H.out.2.2.2.2.2.2.1.below H3.out.1) H3.out.1.size)
        go_wp2_with fail
        refine Hcl.out.mono ?_
        rintro e w4 ⟨hb4, v4, rfl, hv4⟩
        obtain ⟨a4, cp4, rfl, g1, g2, g3, g4⟩ := hv4.readS
        have hb4w := H3.out.1.trans (hb4.mono H3.out.1.size)
        have hcb3 : cb < w3.heap.size := lt_of_cell c0
        have hz4 : w4.frozen? ⟨cb, 2, none⟩ = false := (World.frozen?_of_block (a := ⟨cb, 2, none⟩) ((H3.out.2.2.trans (hb4.mono H3.out.2.2.size)).block cb (by have := H.out.2.2.2.1; omega))).trans H.out.2.2.1
        have hC4 := H3.out.2.1.below hb4 hcb3
        have x2 := hC4.c2
        obtain ⟨W5, hW5⟩ : ∃ W5, w4.setCell ⟨cb, 2, none⟩ (.slice a4 L.length cp4) = W5 := ⟨_, rfl⟩
        have hcbw : w.heap.size ≤ cb := by have := H.out.2.2.2.2.2.2.2.2.2.2.1; omega
        have d0 : W5.cell? ⟨cb, 0, none⟩ = some (.int .i64 n) := by rw [← hW5, World.cell?_setCell_other _ _ _ _ (by simp)]; exact hC4.c0
        have d1 : W5.cell? ⟨cb, 1, none⟩ = some (.int .i64 k) := by rw [← hW5, World.cell?_setCell_other _ _ _ _ (by simp)]; exact hC4.c1
        have d2 : W5.cell? ⟨cb, 2, none⟩ = some (.slice a4 L.length cp4) := by rw [← hW5]; exact World.cell?_setCell_same _ _ _ x2
        have hb5 : Below w.heap.size w W5 := by rw [← hW5]; exact hb4w.setCell hcbw _
        have hT5 : TxsS (fun b => w3.heap.size ≤ b) W5 a4 L := g4.kept (by rw [← hW5]; exact (KeptBut.refl (fun b => b = cb) w4).set1 (p := ⟨cb, 2, none⟩) rfl _) (fun b _ hb e => by omega)
        have K5 : Hid (∀ W, Below W5.heap.size W5 W → W.cell? ⟨cb, 0, none⟩ = some (.int .i64 n) ∧ W.cell? ⟨cb, 1, none⟩ = some (.int .i64 k) ∧ W.cell? ⟨cb, 2, none⟩ = some (.slice a4 L.length cp4)) := Lib.hid fun W hb => by
          have c : ∀ {p : Addr} {v}, W5.cell? p = some v → W.cell? p = some v := fun {p v} h => (hb.cell (lt_of_cell h)).trans h
          exact ⟨c d0, c d1, c d2⟩
        obtain ⟨i, rfl⟩ : ∃ i : Nat, who = (i : Int) := ⟨who.toNat, by omega⟩
        obtain ⟨n, rfl⟩ : ∃ m : Nat, n = (m : Int) := ⟨n.toNat, by have h9 := (configF_zero (by rw [HF.out]; exact H0.out)).1; omega⟩
        obtain ⟨k, rfl⟩ : ∃ m : Nat, k = (m : Int) := ⟨k.toNat, by have h9 := (configF_zero (by rw [HF.out]; exact H0.out)).1; omega⟩
        have hi8 : i < 8 := by omega
        have hdg : (digT i).size = 1 := rfl
        have H5 := Lib.hid (And.intro hb5 (And.intro hT5 (And.intro (show w.heap.size ≤ w3.heap.size from H3.out.1.size) (And.intro (And.intro g1 (And.intro g2 g3)) hW5))))
        clear hb4 hv4 hb4w hC4 hb5 hT5 g1 g2 g3 g4 c0 c1 c2 hcbw hcb3
        go_wp2_with fail
        clear hW5 x2 hz4
        go_region_held3 (fun W => W.cell? ⟨cb, 0, none⟩ = some (.int .i64 (n : Nat)) ∧ W.cell? ⟨cb, 1, none⟩ = some (.int .i64 (k : Nat)) ∧ W.cell? ⟨cb, 2, none⟩ = some (.slice a4 L.length cp4))
          (first | exact ⟨d0, d1, d2⟩ | (refine K5.out _ ?_; repeat (first | exact Below.refl _ _ | apply Below.drew | refine Below.alloc ?_ (Nat.le_refl _) _)))
          (first
            | (go_at_call 77; refine (itoa_walk i hi8 _).mono ?_; rintro e w6 ⟨rfl, rfl⟩)
            | fail)
        rename_i hHeld
        clear hHeld d0 d1 d2
        obtain ⟨ab, hab⟩ : ∃ ab, W5.heap.size = ab := ⟨_, rfl⟩
        obtain ⟨W6, hW6⟩ : ∃ W6, (W5.alloc (.cells #[.string (⟨#[99]⟩ ++ digT i), .string key, .int .i64 op, .int .i64 cf, .int .i64 (n : Nat), .int .i64 (k : Nat), .slice a4 L.length cp4, .string ⟨#[]⟩, .map none, .int .i64 0, .int .i64 0, .string text, .bool false, .int .i64 (i : Nat), .bool put, .string ⟨#[108, 111, 111, 107, 105, 110, 103]⟩] 106)).drew = W6 := ⟨_, rfl⟩
        have hc6 : CellsAt W6 ab (talkV (newA (i : Nat) op (n : Nat) (k : Nat) L cf key text put).t a4 cp4 (.string ⟨#[]⟩) (.map none) ++ askV (newA (i : Nat) op (n : Nat) (k : Nat) L cf key text put)) := by
          rw [← hW6, ← hab]
          exact (CellsAt.new W5 (talkV (newA (i : Nat) op (n : Nat) (k : Nat) L cf key text put).t a4 cp4 (.string ⟨#[]⟩) (.map none) ++ askV (newA (i : Nat) op (n : Nat) (k : Nat) L cf key text put)) 106).drew
        have hb56 : Below W5.heap.size W5 W6 := by rw [← hW6]; exact ((Below.refl _ _).alloc (Nat.le_refl _) _).drew
        have hs6 : W6.heap.size = ab + 1 := by rw [← hW6, ← hab]; simp
        have hT6 : TxsS (fun b => w.heap.size ≤ b ∧ b ≠ ab) W6 a4 L := by
          rcases H5.out.2.1 with e | ⟨b9, off, e, hb9, hl9, hc9⟩
          · exact .inl e
          · exact .inr ⟨b9, off, e, ⟨Nat.le_trans H5.out.2.2.1 hb9, by omega⟩, by omega, fun j hj => (hb56.cell (p := ⟨b9, off + j, none⟩) hl9).trans (hc9 j hj)⟩
        have hwa : w.heap.size ≤ ab := by rw [← hab]; exact H5.out.1.size
        have hX := TalkX.born hc6 hwa H5.out.2.2.2.1 hT6 rfl
        have hb6 : Below w.heap.size w W6 := H5.out.1.trans (hb56.mono H5.out.1.size)
        have hbS := (startW_kept W6 ab kTold).below hb6.size (fun b e => by rw [e]; exact hwa)
        have Hst := Lib.hid (start_walk W6 ab kTold _ _ (hc6.cell 7 (by show 7 < 16; decide)) (hc6.cell 8 (by show 8 < 16; decide)) hc6.z)
        have H6 := Lib.hid (And.intro hX (hb6.trans hbS))
        unfold kTold at Hst
        clear hc6 hb56 hs6 hT6 hwa hX hb6 hbS
        go_wp2_with fail
        clear hW6
        refine Hst.out.mono ?_
        rintro e w7 ⟨rfl, rfl⟩
        go_wp2
        go_ret2
        exact ⟨H6.out.2, .inr ⟨by rw [HbF.out], ab, _, a4, cp4, H6.out.1, rfl⟩⟩
  · have hvs := hv.some_ h0
    have HV := Lib.hid (And.intro h0 (And.intro hvs hv))
    clear hv h0
    rcases hvs with ⟨x, rfl⟩ | ⟨m, rfl⟩
    · go_wp2
      go_ret2
      exact ⟨H2.out.1, .inl ⟨by rw [bidF_cfg (by rw [HF.out]; exact HV.out.1), HF.out]; exact HV.out.1, _, HV.out.2.1, by rw [bidF_cfg (by rw [HF.out]; exact HV.out.1), HF.out]; exact HV.out.2.2, rfl⟩⟩
    · unfold faultV at HV ⊢
      go_wp2
      go_ret2
      exact ⟨H2.out.1, .inl ⟨by rw [bidF_cfg (by rw [HF.out]; exact HV.out.1), HF.out]; exact HV.out.1, _, HV.out.2.1, by rw [bidF_cfg (by rw [HF.out]; exact HV.out.1), HF.out]; exact HV.out.2.2, rfl⟩⟩
/-- what Get and Put answer, a box later. -/
theorem BeginOut.up {w W w' : World} {E : Nat → Addr} {F : Nat × Int} {a0 : AskS} {e : Ending} (hb : Below w.heap.size w W) (h : BeginOut W w' E F a0 e) : BeginOut w w' E F a0 e := by
  obtain ⟨h1, h2⟩ := h
  refine ⟨hb.trans (h1.mono hb.size), ?_⟩
  rcases h2 with h2 | ⟨h0, ab, bm, ma, mc, hX, he⟩
  · exact .inl h2
  · exact .inr ⟨h0, ab, bm, ma, mc, hX.mono (fun b hb9 => ⟨Nat.le_trans hb.size hb9.1, hb9.2⟩) (fun b hb9 => hb9.2), he⟩
set_option maxRecDepth 100000 in
set_option maxHeartbeats 2000000 in
theorem get_walk (who op n k cf : Int) (n₀ : Nat) (a : Option Addr) (len cap : Nat) (L : List ByteArray) (key : ByteArray) (w : World) (E : Nat → Addr) (hE : ErrQx w E) (hlen : L.length = len) (hcap : len ≤ cap) (hl6 : len ≤ 1000000) (ha : a = none → cap = 0) (hsz : ∀ j : Nat, (L[j]?.getD (⟨#[]⟩ : ByteArray)).size ≤ maxLen) (hI : TxsAt n₀ w a L) (hn : n₀ ≤ w.heap.size) (hkey : key.size ≤ maxLen) :
    Calls Tryz.prog 25 #[.int .i64 who, .int .i64 op, cfgV n k (.slice a len cap), .int .i64 cf, .string key] w fun e w' => BeginOut w w' E (bidF who op n k L cf key 0) (newA who op n k L cf key ⟨#[]⟩ false) e := by
  have hb1 : Below w.heap.size w (w.alloc (.cells #[.int .i64 n, .int .i64 k, .slice a len cap] 24)) := (Below.refl _ _).alloc (Nat.le_refl _) _
  have Hb := Lib.hid (And.intro hb1 (begin_walk who op n k cf n₀ a len cap L key ⟨#[]⟩ false _ E (hE.below hb1 (Nat.le_refl _)) hlen hcap hl6 ha hsz (hI.below (hb1.mono hn)) (Nat.le_trans hn hb1.size) hkey (Nat.zero_le _)))
  clear hb1 hE hlen hcap hl6 ha hsz hI hn hkey
  go_enter Tryz.func25, Tryz.ntmps25
  go_wp2_with fail
  refine Hb.out.2.mono ?_
  intro e w2 h2
  have H2 := Lib.hid (h2.up Hb.out.1)
  rcases h2 with ⟨_, ⟨_, v, hv, _, rfl⟩ | ⟨_, ab, bm, ma, mc, _, rfl⟩⟩
  · rcases hv with ⟨x, rfl⟩ | ⟨m, rfl⟩
    · go_wp2
      go_ret2
      exact H2.out
    · unfold faultV at H2 ⊢
      go_wp2
      go_ret2
      exact H2.out
  · go_wp2
    go_ret2
    exact H2.out
set_option maxRecDepth 100000 in
set_option maxHeartbeats 2000000 in
theorem put_walk (who op n k cf : Int) (n₀ : Nat) (a : Option Addr) (len cap : Nat) (L : List ByteArray) (key text : ByteArray) (w : World) (E : Nat → Addr) (hE : ErrQx w E) (hlen : L.length = len) (hcap : len ≤ cap) (hl6 : len ≤ 1000000) (ha : a = none → cap = 0) (hsz : ∀ j : Nat, (L[j]?.getD (⟨#[]⟩ : ByteArray)).size ≤ maxLen) (hI : TxsAt n₀ w a L) (hn : n₀ ≤ w.heap.size) (hkey : key.size ≤ maxLen) (htext : text.size ≤ maxLen) :
    Calls Tryz.prog 24 #[.int .i64 who, .int .i64 op, cfgV n k (.slice a len cap), .int .i64 cf, .string key, .string text] w fun e w' => BeginOut w w' E (bidF who op n k L cf key text.size) (newA who op n k L cf key text true) e := by
  have hb1 : Below w.heap.size w (w.alloc (.cells #[.int .i64 n, .int .i64 k, .slice a len cap] 24)) := (Below.refl _ _).alloc (Nat.le_refl _) _
  have Hb := Lib.hid (And.intro hb1 (begin_walk who op n k cf n₀ a len cap L key text true _ E (hE.below hb1 (Nat.le_refl _)) hlen hcap hl6 ha hsz (hI.below (hb1.mono hn)) (Nat.le_trans hn hb1.size) hkey htext))
  clear hb1 hE hlen hcap hl6 ha hsz hI hn hkey htext
  go_enter Tryz.func24, Tryz.ntmps24
  go_wp2_with fail
  refine Hb.out.2.mono ?_
  intro e w2 h2
  have H2 := Lib.hid (h2.up Hb.out.1)
  rcases h2 with ⟨_, ⟨_, v, hv, _, rfl⟩ | ⟨_, ab, bm, ma, mc, _, rfl⟩⟩
  · rcases hv with ⟨x, rfl⟩ | ⟨m, rfl⟩
    · go_wp2
      go_ret2
      exact H2.out
    · unfold faultV at H2 ⊢
      go_wp2
      go_ret2
      exact H2.out
  · go_wp2
    go_ret2
    exact H2.out
end
end Go.Proofs.YtabboioamdphmaaGreatDoor
/- Walks of a client's Begin, State, Answer. -/
namespace Go.Proofs.YtabboioamdphmaaGreatDoor
section
open Go.RowKit Go.Maps Go.BigFrame

set_option maxHeartbeats 1000000 in
theorem abegin_walk (F : Nat → Prop) (w : World) (ab bm : Nat) (ma : Option Addr) (mc : Nat) (t : TalkS) (vs : List Value) (h : TalkX F w ab bm ma mc t vs) (hok : TalkOk t) :
    Calls Tryz.prog 28 #[.pointer (some ⟨ab, 0, none⟩)] w fun e w' => Below w.heap.size w w' ∧ RetMsgs (fun b => w.heap.size ≤ b) w' e (sendT t kLook (fun _ => [])) := by
  have Hs := Lib.hid (send_nil F w ab bm ma mc t kLook h.talk hok)
  unfold kLook at Hs ⊢
  clear h hok
  go_enter Tryz.func28, Tryz.ntmps28
  go_wp2_with fail
  refine Hs.out.mono ?_
  rintro e w2 ⟨hb, a, cap, rfl, h1, h2, h3, h4⟩
  have H := Lib.hid (And.intro hb (And.intro h1 (And.intro h2 (And.intro h3 h4))))
  clear hb h1 h2 h3 h4
  go_wp2
  go_ret
  exact ⟨H.out.1, a, cap, rfl, H.out.2.1, H.out.2.2.1, H.out.2.2.2.1, H.out.2.2.2.2⟩
set_option maxHeartbeats 1000000 in
theorem astate_walk (w : World) (ab : Nat) (s : ByteArray) (h : w.cell? ⟨ab, 15, none⟩ = some (.string s)) :
    Calls Tryz.prog 30 #[.pointer (some ⟨ab, 0, none⟩)] w fun e w' => e = .returned (.string s) ∧ w = w' := by
  go_enter Tryz.func30, Tryz.ntmps30
  go_wp2
  go_ret
  exact ⟨rfl, rfl⟩
/-- what Answer hands back. -/
def ansE (a : AskS) : Ending := if a.st = 2 then .returned (.tuple #[.agg #[.int .i64 a.tag.1, .int .i64 a.tag.2], .string a.text, .bool a.found]) else .returned (.tuple #[.agg #[.int .i64 0, .int .i64 0], .string ⟨#[]⟩, .bool false])
set_option maxRecDepth 100000 in
set_option maxHeartbeats 2000000 in
theorem aanswer_walk (F : Nat → Prop) (w : World) (ab bm : Nat) (ma : Option Addr) (mc : Nat) (a : AskS) (h : TalkX F w ab bm ma mc a.t (askV a)) (hmv : a.moves = false) (hst : a.st ≤ 3) :
    Calls Tryz.prog 31 #[.pointer (some ⟨ab, 0, none⟩)] w fun e w' => e = ansE a ∧ Below w.heap.size w w' := by
  obtain ⟨t, who, put, moves, n2, k2, mem2, st, ⟨t1, t2⟩, text, found⟩ := a
  dsimp only at h hmv hst
  subst hmv
  obtain ⟨W1, hW1⟩ : ∃ W1, w.alloc (.cells #[.int .i64 0, .int .i64 0] 44) = W1 := ⟨_, rfl⟩
  obtain ⟨tb, htb⟩ : ∃ tb, w.heap.size = tb := ⟨_, rfl⟩
  have hb1 : Below w.heap.size w W1 := by rw [← hW1]; exact (Below.refl _ _).alloc (Nat.le_refl _) _
  have hT : W1.heap[tb]? = some (.cells #[.int .i64 0, .int .i64 0] 44 (0, 0)) := by rw [← hW1, ← htb]; exact heap_alloc_new _ _
  have h1 := h.below hb1 (Nat.le_refl _)
  have d9 : W1.cell? ⟨ab, 9, none⟩ = some (.int .i64 t1) := h1.cell 0 (by show 0 < 7; decide)
  have d10 : W1.cell? ⟨ab, 10, none⟩ = some (.int .i64 t2) := h1.cell 1 (by show 1 < 7; decide)
  have d11 : W1.cell? ⟨ab, 11, none⟩ = some (.string text) := h1.cell 2 (by show 2 < 7; decide)
  have d12 : W1.cell? ⟨ab, 12, none⟩ = some (.bool found) := h1.cell 3 (by show 3 < 7; decide)
  have d15 : W1.cell? ⟨ab, 15, none⟩ = some (.string (stT ⟨t, who, put, false, n2, k2, mem2, st, (t1, t2), text, found⟩)) := h1.cell 6 (by show 6 < 7; decide)
  have x0 := cell_of_heap hT 0
  have x1 := cell_of_heap hT 1
  have z0 := frozen_of_heap hT 0
  have z1 := frozen_of_heap hT 1
  have c0 : W1.cell? ⟨tb, 0, none⟩ = some (.int .i64 0) := x0.trans rfl
  have c1 : W1.cell? ⟨tb, 1, none⟩ = some (.int .i64 0) := x1.trans rfl
  have hab : ab < tb := by rw [← htb]; exact h.talk.lt ab h.talk.hF
  have H := Lib.hid (And.intro (show Below tb w W1 by rw [← htb]; exact hb1) (And.intro hT (And.intro hW1 htb)))
  have hcs : st = 0 ∨ st = 1 ∨ st = 2 ∨ st = 3 := by omega
  clear h h1 hst x0 x1 hb1 hT
  unfold ansE
  dsimp only
  rcases hcs with rfl | rfl | rfl | rfl
  · have e15 : W1.cell? ⟨ab, 15, none⟩ = some (.string ⟨#[108, 111, 111, 107, 105, 110, 103]⟩) := d15
    clear d15
    go_enter Tryz.func31, Tryz.ntmps31
    go_wp2
    have T := tag_set H.out.2.1 (.int .i64 0) (.int .i64 0)
    have T1 := T.2.1
    have T2 := T.2.2
    exact bodyPost_ret (v := .tuple #[.agg #[.int .i64 0, .int .i64 0], .string ⟨#[]⟩, .bool false]) (by simp [results, Tryz.results31, go_sem, T1, T2]) rfl ⟨rfl, below_tag H.out.1 (Nat.le_refl _) _ _⟩
  · have e15 : W1.cell? ⟨ab, 15, none⟩ = some (.string ⟨#[107, 101, 101, 112, 105, 110, 103]⟩) := d15
    clear d15
    go_enter Tryz.func31, Tryz.ntmps31
    go_wp2
    have T := tag_set H.out.2.1 (.int .i64 0) (.int .i64 0)
    have T1 := T.2.1
    have T2 := T.2.2
    exact bodyPost_ret (v := .tuple #[.agg #[.int .i64 0, .int .i64 0], .string ⟨#[]⟩, .bool false]) (by simp [results, Tryz.results31, go_sem, T1, T2]) rfl ⟨rfl, below_tag H.out.1 (Nat.le_refl _) _ _⟩
  · have e15 : W1.cell? ⟨ab, 15, none⟩ = some (.string ⟨#[100, 111, 110, 101]⟩) := d15
    clear d15
    have KC : Hid (∀ W, Below tb W1 W → W.cell? ⟨ab, 9, none⟩ = some (.int .i64 t1) ∧ W.cell? ⟨ab, 10, none⟩ = some (.int .i64 t2) ∧ W.cell? ⟨ab, 11, none⟩ = some (.string text) ∧ W.cell? ⟨ab, 12, none⟩ = some (.bool found)) := Lib.hid fun W hb => by
      have c : ∀ {j v}, W1.cell? ⟨ab, j, none⟩ = some v → W.cell? ⟨ab, j, none⟩ = some v := fun {j v} h => (hb.cell (p := ⟨ab, j, none⟩) hab).trans h
      exact ⟨c d9, c d10, c d11, c d12⟩
    go_enter Tryz.func31, Tryz.ntmps31
    go_wp2
    go_region_held3 (fun W => W.cell? ⟨ab, 9, none⟩ = some (.int .i64 t1) ∧ W.cell? ⟨ab, 10, none⟩ = some (.int .i64 t2) ∧ W.cell? ⟨ab, 11, none⟩ = some (.string text) ∧ W.cell? ⟨ab, 12, none⟩ = some (.bool found))
      (first | exact ⟨d9, d10, d11, d12⟩ | (refine KC.out _ ?_; repeat (first | exact Below.refl _ _ | refine Below.setCell ?_ (Nat.le_refl tb) _ | apply Below.drew)))
      (fail)
    go_wp2
    have T := tag_set H.out.2.1 (.int .i64 t1) (.int .i64 t2)
    have T1 := T.2.1
    have T2 := T.2.2
    exact bodyPost_ret (v := .tuple #[.agg #[.int .i64 t1, .int .i64 t2], .string text, .bool found]) (by simp [results, Tryz.results31, go_sem, T1, T2]) rfl ⟨rfl, by first | exact (below_tag H.out.1 (Nat.le_refl _) _ _).drew | exact below_tag H.out.1 (Nat.le_refl _) _ _ | exact below_tag H.out.1.drew (Nat.le_refl _) _ _⟩
  · have e15 : W1.cell? ⟨ab, 15, none⟩ = some (.string ⟨#[114, 101, 102, 117, 115, 101, 100]⟩) := d15
    clear d15
    go_enter Tryz.func31, Tryz.ntmps31
    go_wp2
    have T := tag_set H.out.2.1 (.int .i64 0) (.int .i64 0)
    have T1 := T.2.1
    have T2 := T.2.2
    exact bodyPost_ret (v := .tuple #[.agg #[.int .i64 0, .int .i64 0], .string ⟨#[]⟩, .bool false]) (by simp [results, Tryz.results31, go_sem, T1, T2]) rfl ⟨rfl, below_tag H.out.1 (Nat.le_refl _) _ _⟩
end
end Go.Proofs.YtabboioamdphmaaGreatDoor
