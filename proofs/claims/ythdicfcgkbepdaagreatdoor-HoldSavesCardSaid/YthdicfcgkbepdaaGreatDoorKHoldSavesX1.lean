/- Walks of a builder's copyCheck, WriteString. -/
import Derived.Test.YthdicfcgkbepdaaGreatDoorHld
import Derived.Lib.Builder
import Derived.Lib.AppendStr
import Derived.Lib.UnsafeStr
import Derived.Lib.MakeNoZero
import Derived.Laws.Externs
import Derived.Test.YthdicfcgkbepdaaGreatDoorSlP
import Derived.Test.YthdicfcgkbepdaaGreatDoorOpen
import Derived.Test.YthdicfcgkbepdaaGreatDoorEnv
import Derived.Lib.Strings
import Derived.Lib.LaidTab
import Derived.Lib.ItoaMem
import Derived.Test.YthdicfcgkbepdaaGreatDoorHpE
import Derived.Test.YthdicfcgkbepdaaGreatDoorShelf
import Derived.Deep.RegionHeld3
import Derived.Deep.DeepCutAuto
import Derived.Deep.CutRange
import Derived.Deep.CutBlock
import Derived.BigQuiet
import Derived.IntWalk
import Derived.OwnWalk
import Derived.Lib.AtoiErrMem
import Derived.Lib.AtoiAllCases
namespace Go.Proofs.YthdicfcgkbepdaaGreatDoor
section
open Go.RowKit

abbrev BldAt (B b : Nat) (bs : List UInt8) (w : World) : Prop := Lib.BuilderAt 79 5 B b (.pointer (some ⟨b, 0, none⟩)) (Lib.byteCells bs) w
abbrev IsBld (B b : Nat) (bs : List UInt8) (w : World) : Prop := Lib.IsBuilder 79 5 B b (Lib.byteCells bs) w
theorem bld_size : (Tryz.prog.info? 79).map (·.size) = some 2 := by kernel_rfl
theorem bld_lies : liesAt Tryz.prog Tryz.prog.depth 79 (2 / Tryz.prog.cellsOf 79) 0 79 1 = true := by kernel_rfl
theorem info_u8 : (Tryz.prog.info? 5).map (fun i => (i.zero, i.size, i.bytes)) = some (some (.int .u8 0), 1, 1) := by kernel_rfl
set_option maxHeartbeats 1000000 in
set_option maxRecDepth 100000 in
theorem copycheck_used (b : Nat) (w : World) (h0 : w.cell? ⟨b, 0, none⟩ = some (.pointer (some ⟨b, 0, none⟩))) :
    Calls Tryz.prog 53 #[.pointer (some ⟨b, 0, none⟩)] w fun e w' => e = .returned (.tuple #[]) ∧ w' = w := by
  obtain ⟨j, hj, _⟩ := Option.map_eq_some_iff.1 bld_size
  have hq := Lib.run_neq_ptr_same (P := Tryz.prog) (w := w) (tp := 77) ⟨b, 0, none⟩ Tryz.underlying77 hj
  go_enter Tryz.func53, Tryz.ntmps53
  go_wp2
  go_end0
  exact ⟨rfl, rfl⟩
set_option maxHeartbeats 1000000 in
set_option maxRecDepth 100000 in
theorem copycheck_fresh (b : Nat) (w : World) (h0 : w.cell? ⟨b, 0, none⟩ = some (.pointer none)) (hsh : w.shape? b = some (79, 2)) (hfz : w.frozen? ⟨b, 0, none⟩ = false) :
    Calls Tryz.prog 53 #[.pointer (some ⟨b, 0, none⟩)] w fun e w' => e = .returned (.tuple #[]) ∧ w' = w.setCell ⟨b, 0, none⟩ (.pointer (some ⟨b, 0, none⟩)) := by
  obtain ⟨j, hj, hjs⟩ := Option.map_eq_some_iff.1 bld_size
  have hq := Lib.run_neq_ptr_same (P := Tryz.prog) (w := w.setCell ⟨b, 0, none⟩ (.pointer (some ⟨b, 0, none⟩))) (tp := 77) ⟨b, 0, none⟩ Tryz.underlying77 hj
  go_enter Tryz.func53, Tryz.ntmps53
  go_wp2
  rw [Lib.run_to_unsafe w ⟨b, 0, none⟩ Tryz.underlying77 Tryz.underlying125 hj (by rw [hjs]; decide) hsh (Nat.zero_lt_succ 1)]
  simp only [Result.andThen]
  rw [Oper.upon_value]
  go_wp2
  rw [run_callFunc_extern Tryz.func79 (by kernel_rfl) (by kernel_rfl) (by kernel_rfl) (e := Extern.AbiNoEscape.same) (by kernel_rfl)]
  rw [Lib.run_noEscape]
  simp only [Result.andThen]
  rw [Oper.upon_value]
  go_wp2
  rw [Lib.run_from_unsafe w ⟨b, 0, none⟩ Tryz.underlying125 Tryz.underlying77 hj hsh bld_lies]
  simp only [Result.andThen]
  rw [Oper.upon_value]
  go_wp2
  go_end0
  exact ⟨rfl, rfl⟩
theorem copycheck_walk (B b : Nat) (bs : List UInt8) (w : World) (h : IsBld B b bs w) :
    Calls Tryz.prog 53 #[.pointer (some ⟨b, 0, none⟩)] w fun e w' => e = .returned (.tuple #[]) ∧ (BldAt B b bs w' ∧ Below B w w' ∧ ∀ k, k ≠ b → w'.heap[k]? = w.heap[k]?) := by
  rcases h with h | h
  · refine (copycheck_fresh b w h.cell0 h.shape h.frozen0).mono ?_
    rintro e w' ⟨rfl, rfl⟩
    exact ⟨rfl, h.used _, (Below.refl B w).setCell (p := ⟨b, 0, none⟩) h.1 _, fun k hk => Below.heap_setCell _ _ _ _ hk⟩
  · refine (copycheck_used b w h.cell0).mono ?_
    rintro e w' ⟨rfl, rfl⟩
    exact ⟨rfl, h, Below.refl B _, fun _ _ => rfl⟩
/-- every block but b and the rows of bytes is as it was. -/
def Kept8 (b : Nat) (w w' : World) : Prop := w.heap.size ≤ w'.heap.size ∧ ∀ k, k < w.heap.size → k ≠ b → (∀ cs fr, w.heap[k]? ≠ some (.cells cs 5 fr)) → w'.heap[k]? = w.heap[k]?
theorem Kept8.cell {b : Nat} {w w' : World} (h : Kept8 b w w') {p : Addr} {v : Value} (hc : w.cell? p = some v) (hp : p.block ≠ b) (h8 : ∀ cs fr, w.heap[p.block]? ≠ some (.cells cs 5 fr)) : w'.cell? p = some v :=
  (World.cell?_of_block (h.2 p.block (lt_of_cell hc) hp h8)).trans hc
theorem bld_ne : 79 ≠ 5 := by decide
set_option maxHeartbeats 2000000 in
set_option maxRecDepth 100000 in
theorem writestring_walk (B b : Nat) (bs : List UInt8) (s : ByteArray) (w : World) (h : IsBld B b bs w) (hlen : bs.length + s.size ≤ 140737488355328) (hBw : B ≤ w.heap.size) :
    Calls Tryz.prog 26 #[.pointer (some ⟨b, 0, none⟩), .string s] w fun e w' => e = .returned (.tuple #[.int .i64 s.size, .nilIface]) ∧ (BldAt B b (bs ++ s.data.toList) w' ∧ Below B w w' ∧ Kept8 b w w') := by
  obtain ⟨i0, hi, hz0, hz1, hz2⟩ := info_parts info_u8
  go_enter Tryz.func26, Tryz.ntmps26
  go_wp2_with (go_at_call 53; refine (copycheck_walk B b bs _ h).mono ?_)
  rintro e w1 ⟨rfl, h1, hb1, hk1⟩
  obtain ⟨hB, v, hbk, hown, hne⟩ := h1
  have c0 : w1.cell? ⟨b, 0, none⟩ = some (.pointer (some ⟨b, 0, none⟩)) := by rw [Lib.cell_of_heap hbk]; rfl
  have c1 : w1.cell? ⟨b, 1, none⟩ = some v := by rw [Lib.cell_of_heap hbk]; rfl
  have hlb := Lib.byteCells_length bs
  go_wp2_with (at_builtin; refine Lib.wpList_append_own_string _ rfl _ _ 53 9 rfl B 5 i0 Tryz.underlying53 Tryz.underlying9 hi hz0 hz1 hz2 _ _ _ rfl hown s rfl ?c3 ?c4 ?c5 ?_)
  case c3 => unfold maxLen; omega
  case c4 => omega
  case c5 => have := hb1.size; omega
  intro v' w2 hown' hgrow _
  have hlt : b < w1.heap.size := by
    rcases Nat.lt_or_ge b w1.heap.size with h' | h'
    · exact h'
    · simp [Array.getElem?_eq_none h'] at hbk
  have hb2 : w2.heap[b]? = some (.cells #[.pointer (some ⟨b, 0, none⟩), v] 79 (0, 0)) := by
    rw [hgrow.block b hlt (fun e => hne e.symm)]
    exact hbk
  have d0 : w2.cell? ⟨b, 0, none⟩ = some (.pointer (some ⟨b, 0, none⟩)) := by rw [Lib.cell_of_heap hb2]; rfl
  have d1 : w2.cell? ⟨b, 1, none⟩ = some v := by rw [Lib.cell_of_heap hb2]; rfl
  have f1 : w2.frozen? ⟨b, 1, none⟩ = false := Lib.frozen_of_heap hb2 1
  obtain ⟨ao, n', cap, rfl⟩ : ∃ ao n' cap, v' = .slice ao n' cap := by
    rcases hown'.2 with ⟨hv, _⟩ | ⟨g, cap, cur, hv, _⟩
    · exact ⟨_, _, _, hv⟩
    · exact ⟨_, _, _, hv⟩
  go_wp2
  go_ret2
  refine ⟨rfl, ?_, ?_, ?_⟩
  · have h9 := Lib.BuilderAt.put (T := 79) (e := 5) hB hb2 (bs' := Lib.byteCells bs ++ Lib.strCells s) (by rw [List.length_append, hlb, Lib.strCells_length]; exact hown') bld_ne
    rw [Lib.strCells_eq, ← Lib.byteCells_append] at h9
    exact h9
  · exact (hb1.grown hgrow (by have := hb1.size; omega) (fun k hk => (hown.lt k hk).1)).setCell (p := ⟨b, 1, none⟩) hB _
  · have h1s := hb1.size
    refine ⟨by have := hgrow.size; simp [World.setCell]; omega, fun k hk hkb h8 => ?_⟩
    have e1 : (w2.setCell ⟨b, 1, none⟩ (.slice ao n' cap)).heap[k]? = w2.heap[k]? := Below.heap_setCell _ _ _ _ hkb
    rw [e1, hgrow.block k (by omega) (fun e => ?_), hk1 k hkb]
    rcases hown.2 with ⟨rfl, _⟩ | ⟨g, cap2, cur, rfl, _, hg, _⟩
    · cases e
    · simp only [Value.ownBlock, Option.some.injEq] at e
      subst e
      rw [hk1 _ hkb] at hg
      exact h8 _ _ hg
end
end Go.Proofs.YthdicfcgkbepdaaGreatDoor
/- Plain: a hold's rows, key by key, are its rows. -/
namespace Go.Proofs.YthdicfcgkbepdaaGreatDoor
section
open Go.RowKit

theorem kLt_irrefl (p : Kp) : ¬ kLt p p := fun h => by
  rcases h with h | ⟨_, h⟩
  · rw [Rg.tlt_irrefl] at h; cases h
  · unfold tagLt at h; simp at h
/-- two lists in one strict order with the same members are one. -/
theorem strict_one {α : Type} {R : α → α → Prop} (hi : ∀ a, ¬ R a a) (ht : ∀ a b c, R a b → R b c → R a c) : ∀ {A B : List α}, A.Pairwise R → B.Pairwise R → (∀ x, x ∈ A ↔ x ∈ B) → A = B
  | [], [], _, _, _ => rfl
  | [], b :: B, _, _, h => by have := (h b).2 (List.mem_cons_self ..); cases this
  | a :: A, [], _, _, h => by have := (h a).1 (List.mem_cons_self ..); cases this
  | a :: A, b :: B, hA, hB, h => by
    obtain ⟨hA1, hA2⟩ := List.pairwise_cons.1 hA
    obtain ⟨hB1, hB2⟩ := List.pairwise_cons.1 hB
    have hab : a = b := by
      rcases List.mem_cons.1 ((h a).1 (List.mem_cons_self ..)) with e | e
      · exact e
      · rcases List.mem_cons.1 ((h b).2 (List.mem_cons_self ..)) with e2 | e2
        · exact e2.symm
        · exact absurd (ht _ _ _ (hA1 _ e2) (hB1 _ e)) (hi a)
    subst hab
    rw [strict_one hi ht hA2 hB2 (fun x => ?_)]
    constructor
    · intro hx
      rcases List.mem_cons.1 ((h x).1 (List.mem_cons_of_mem _ hx)) with e | e
      · subst e; exact absurd (hA1 _ hx) (hi _)
      · exact e
    · intro hx
      rcases List.mem_cons.1 ((h x).2 (List.mem_cons_of_mem _ hx)) with e | e
      · subst e; exact absurd (hB1 _ hx) (hi _)
      · exact e
theorem keysL_rise {l : List Kp} (hs : Srt l) : (keysL l).Pairwise (fun x y => Rg.tlt x y = true) := (keys_fold l [] List.Pairwise.nil (fun o h => by cases h) hs).1
/-- key by key. -/
def byKey (l : List Kp) (ks : List ByteArray) : List Kp := ks.flatMap fun k => (getL l k).map fun v => (k, v)
theorem byKey_all {l : List Kp} (hs : Srt l) : byKey l (keysL l) = l := by
  refine strict_one kLt_irrefl (fun a b c => kLt_trans) ?_ hs (fun p => ?_)
  · unfold byKey
    rw [List.pairwise_flatMap]
    refine ⟨fun k hk => ?_, (keysL_rise hs).imp fun {a b} hab x hx y hy => ?_⟩
    · rw [List.pairwise_map]
      exact (hs.get k).imp fun {x y} h => .inr ⟨rfl, h⟩
    · obtain ⟨v, _, rfl⟩ := List.mem_map.1 hx
      obtain ⟨u, _, rfl⟩ := List.mem_map.1 hy
      exact .inl hab
  · unfold byKey
    rw [List.mem_flatMap]
    constructor
    · rintro ⟨k, _, h⟩
      obtain ⟨v, hv, rfl⟩ := List.mem_map.1 h
      exact mem_getL.1 hv
    · intro h
      have h1 : p.2 ∈ getL l p.1 := mem_getL.2 h
      exact ⟨p.1, (keysL_mem hs p.1).2 (fun e => by rw [e] at h1; cases h1), List.mem_map.2 ⟨p.2, h1, rfl⟩⟩
/-- the text, key by key. -/
theorem save_keys {l : List Kp} (hs : Srt l) : (keysL l).flatMap (fun k => (getL l k).flatMap fun v => rowB (k, v)) = l.flatMap rowB := by
  have h := congrArg (fun x => List.flatMap rowB x) (byKey_all hs)
  simp only [byKey, List.flatMap_assoc, List.flatMap_map] at h
  exact h
end
end Go.Proofs.YthdicfcgkbepdaaGreatDoor
/- The closed fact of chapter 4, and what is sealed is opened. -/
namespace Go.Proofs.YthdicfcgkbepdaaGreatDoor
open Go.RowKit

theorem below_drewN' (w : World) (n : Nat) : Below w.heap.size w (w.drewN n) := ⟨rfl, rfl, rfl, Nat.le_refl _, fun _ _ => rfl⟩
theorem crc_known : Sm.crc (Sm.nats ⟨#[49, 50, 51, 52, 53, 54, 55, 56, 57]⟩) = 3421780262 ∧ Sm.hash (Sm.nats ⟨#[97]⟩) = 3826002220 ∧ Sm.crc (Sm.nats ⟨#[]⟩) = 0 := by decide +kernel
theorem data_inj {a b : ByteArray} (h : a.data.toList = b.data.toList) : a = b := by
  obtain ⟨a⟩ := a
  obtain ⟨b⟩ := b
  exact congrArg ByteArray.mk (Array.toList_inj.1 h)
theorem append_list (a b : ByteArray) : (a ++ b).data.toList = a.data.toList ++ b.data.toList := by simp
theorem bodyOf_append {s f : ByteArray} (hf : f.size = 4) : bodyOf (s ++ f) = s := by
  apply data_inj
  unfold bodyOf
  have hl : (s ++ f).size - 4 = s.data.toList.length := by
    have : (s ++ f).size = s.size + f.size := by simp
    rw [this, hf]; simp
  rw [Lib.extract_data, append_list, hl]
  simp
theorem tailOf_append {s f : ByteArray} (hf : f.size = 4) : tailOf (s ++ f) = f := by
  apply data_inj
  unfold tailOf
  have hl : (s ++ f).size - 4 = s.data.toList.length := by
    have : (s ++ f).size = s.size + f.size := by simp
    rw [this, hf]; simp
  have hz : (s ++ f).size - s.data.toList.length = f.data.toList.length := by
    have : (s ++ f).size = s.size + f.size := by simp
    rw [this]; simp
  rw [Lib.extract_data, append_list, hl, hz, List.drop_left]
  exact List.take_of_length_le (Nat.le_refl _)
theorem fourS_size (n : Nat) : (fourS n).size = 4 := rfl
end Go.Proofs.YthdicfcgkbepdaaGreatDoor
/- Plain law: a burst of at most 32 bits turns the CRC. -/
namespace Go.Proofs.YthdicfcgkbepdaaGreatDoor
namespace Sm
theorem cstep_xor (a b : Nat) : cstep (a ^^^ b) = cstep a ^^^ cstep b := by
  unfold cstep
  have h2 : (a ^^^ b) / 2 = a / 2 ^^^ b / 2 := by
    have := Nat.shiftRight_xor_distrib (a := a) (b := b) (i := 1)
    simpa [Nat.shiftRight_eq_div_pow] using this
  have hm : (a ^^^ b) % 2 = a % 2 ^^^ b % 2 := by
    have := Nat.xor_mod_two_pow (a := a) (b := b) (n := 1)
    simpa using this
  have hp : 3988292384 * (a % 2 ^^^ b % 2) = (3988292384 * (a % 2)) ^^^ (3988292384 * (b % 2)) := by
    rcases Nat.mod_two_eq_zero_or_one a with h | h <;> rcases Nat.mod_two_eq_zero_or_one b with h' | h' <;> rw [h, h'] <;> simp
  rw [h2, hm, hp]
  ac_rfl
theorem cstep_two (b : Nat) : cstep (2 * b) = b := by
  unfold cstep
  rw [Nat.mul_div_cancel_left _ (by decide), Nat.mul_mod_right]
  simp
theorem cstepN_xor : ∀ (n a b : Nat), cstepN n (a ^^^ b) = cstepN n a ^^^ cstepN n b
  | 0, _, _ => rfl
  | n + 1, a, b => by
    show cstepN n (cstep (a ^^^ b)) = _
    rw [cstep_xor, cstepN_xor n]; rfl
theorem cstepN_pow : ∀ (n b : Nat), cstepN n (2 ^ n * b) = b
  | 0, b => by simp [cstepN]
  | n + 1, b => by
    show cstepN n (cstep _) = _
    rw [Nat.pow_succ, Nat.mul_comm (2 ^ n) 2, Nat.mul_assoc, cstep_two, cstepN_pow n]
theorem cstepN_add : ∀ (m n c : Nat), cstepN (m + n) c = cstepN n (cstepN m c)
  | 0, n, c => by rw [Nat.zero_add]; rfl
  | m + 1, n, c => by
    rw [Nat.add_right_comm]
    exact cstepN_add m n (cstep c)
theorem cstep_ne {c : Nat} (h : c < 4294967296) (h0 : c ≠ 0) : cstep c ≠ 0 := by
  unfold cstep
  intro he
  have he2 : c / 2 = 3988292384 * (c % 2) := by
    have := congrArg (fun x => x ^^^ (3988292384 * (c % 2))) he
    simpa [Nat.xor_assoc] using this
  omega
theorem cstepN_ne : ∀ (n : Nat) {c : Nat}, c < 4294967296 → c ≠ 0 → cstepN n c ≠ 0
  | 0, _, _, h => h
  | n + 1, _, h, h0 => cstepN_ne n (cstep_lt h) (cstep_ne h h0)
/-- byte j of a number. -/
def byteAt (D j : Nat) : Nat := D / 256 ^ j % 256
theorem split256 (x : Nat) : x = (x % 256) ^^^ (256 * (x / 256)) := by
  have h : 256 * (x / 256) + x % 256 = (256 * (x / 256)) ||| (x % 256) := by
    have := Nat.two_pow_add_eq_or_of_lt (i := 8) (b := x % 256) (Nat.mod_lt _ (by decide)) (x / 256)
    simpa using this
  apply Nat.eq_of_testBit_eq
  intro i
  rw [Nat.testBit_xor]
  have h1 : (256 * (x / 256)).testBit i = (decide (8 ≤ i) && (x / 256).testBit (i - 8)) := by
    have := Nat.testBit_two_pow_mul (a := x / 256) (i := 8) (j := i)
    simpa using this
  have h2 : (x % 256).testBit i = (decide (i < 8) && x.testBit i) := by
    have := Nat.testBit_mod_two_pow x 8 i
    simpa using this
  have h3 : (x / 256).testBit (i - 8) = x.testBit (8 + (i - 8)) := by
    have := Nat.testBit_div_two_pow (n := 8) x (i - 8)
    rw [show (256 : Nat) = 2 ^ 8 from rfl, this, Nat.add_comm]
  rw [h1, h2, h3]
  by_cases h8 : i < 8
  · simp [h8, Nat.not_le.2 h8]
  · have : 8 ≤ i := Nat.not_lt.1 h8
    simp [h8, this, Nat.add_sub_cancel' this]
theorem crc_burst {l l' : List Nat} {D : Nat} {n : Nat} (h : ∀ j, j < n → l'[j]?.getD 0 = l[j]?.getD 0 ^^^ byteAt D j) :
    ∀ k, k ≤ n → crcN l' k ^^^ (D / 256 ^ k) = crcN l k ^^^ cstepN (8 * k) D
  | 0, _ => by simp [crcN, cstepN]
  | k + 1, hk => by
    have ih := crc_burst h k (by omega)
    have e := split256 (D / 256 ^ k)
    have ed : D / 256 ^ k / 256 = D / 256 ^ (k + 1) := by rw [Nat.div_div_eq_div_mul, Nat.pow_succ]
    rw [ed] at e
    show cstepN 8 (crcN l' k ^^^ l'[k]?.getD 0) ^^^ _ = cstepN 8 (crcN l k ^^^ l[k]?.getD 0) ^^^ _
    rw [show 8 * (k + 1) = 8 * k + 8 by omega, cstepN_add, ← cstepN_xor, h k (by omega)]
    have e8 : D / 256 ^ (k + 1) = cstepN 8 (256 * (D / 256 ^ (k + 1))) := (cstepN_pow 8 _).symm
    have step : cstepN 8 (crcN l' k ^^^ (l[k]?.getD 0 ^^^ byteAt D k)) ^^^ D / 256 ^ (k + 1) = cstepN 8 ((crcN l' k ^^^ (l[k]?.getD 0 ^^^ byteAt D k)) ^^^ (256 * (D / 256 ^ (k + 1)))) := by
      rw [cstepN_xor 8 _ (256 * _), ← e8]
    rw [step]
    congr 1
    have e2 : byteAt D k ^^^ (256 * (D / 256 ^ (k + 1))) = D / 256 ^ k := e.symm
    calc crcN l' k ^^^ (l[k]?.getD 0 ^^^ byteAt D k) ^^^ (256 * (D / 256 ^ (k + 1)))
        = (crcN l' k ^^^ (byteAt D k ^^^ (256 * (D / 256 ^ (k + 1))))) ^^^ l[k]?.getD 0 := by ac_rfl
      _ = (crcN l k ^^^ cstepN (8 * k) D) ^^^ l[k]?.getD 0 := by rw [e2, ih]
      _ = crcN l k ^^^ l[k]?.getD 0 ^^^ cstepN (8 * k) D := by ac_rfl
/-- the bits that are turned, i of them looked at. -/
def turned (burst at' n8 : Nat) : Nat → Nat
  | 0 => 0
  | i + 1 => if burst / 2 ^ i % 2 = 1 ∧ at' + i < n8 then turned burst at' n8 i ^^^ 2 ^ i else turned burst at' n8 i
theorem turned_lt (b a n : Nat) : ∀ i, turned b a n i < 2 ^ i
  | 0 => by simp [turned]
  | i + 1 => by
    have h := turned_lt b a n i
    have hp : 2 ^ i < 2 ^ (i + 1) := Nat.pow_lt_pow_right (by decide) (by omega)
    unfold turned
    split
    · exact Nat.xor_lt_two_pow (Nat.lt_trans h hp) hp
    · exact Nat.lt_trans h hp
theorem xor_mul_pow (x y n : Nat) : (x ^^^ y) * 2 ^ n = x * 2 ^ n ^^^ y * 2 ^ n := by
  have := Nat.shiftLeft_xor_distrib (a := x) (b := y) (i := n)
  simpa [Nat.shiftLeft_eq] using this
theorem turned_in (b a n : Nat) : ∀ i, turned b a n i * 2 ^ a < 2 ^ n
  | 0 => by simp [turned, Nat.two_pow_pos]
  | i + 1 => by
    have h := turned_in b a n i
    unfold turned
    split
    · rename_i hc
      rw [xor_mul_pow, ← Nat.pow_add]
      exact Nat.xor_lt_two_pow h (Nat.pow_lt_pow_right (by decide) (by omega))
    · exact h
theorem byteAt_xor (D m j : Nat) : byteAt (D ^^^ 2 ^ m) j = if j = m / 8 then byteAt D j ^^^ 2 ^ (m % 8) else byteAt D j := by
  have hx : byteAt (D ^^^ 2 ^ m) j = byteAt D j ^^^ byteAt (2 ^ m) j := by
    unfold byteAt
    have e : (256 : Nat) ^ j = 2 ^ (8 * j) := by rw [Nat.pow_mul]
    have h1 := Nat.shiftRight_xor_distrib (a := D) (b := 2 ^ m) (i := 8 * j)
    have h2 := Nat.xor_mod_two_pow (a := D / 2 ^ (8 * j)) (b := 2 ^ m / 2 ^ (8 * j)) (n := 8)
    rw [Nat.shiftRight_eq_div_pow, Nat.shiftRight_eq_div_pow, Nat.shiftRight_eq_div_pow] at h1
    rw [e, h1]
    exact h2
  have hb : byteAt (2 ^ m) j = if j = m / 8 then 2 ^ (m % 8) else 0 := by
    unfold byteAt
    have e : (256 : Nat) ^ j = 2 ^ (8 * j) := by rw [Nat.pow_mul]
    rw [e]
    by_cases h : m < 8 * j
    · rw [Nat.div_eq_of_lt (Nat.pow_lt_pow_right (by decide) h), if_neg (by omega)]
    · have em : 2 ^ m = 2 ^ (8 * j) * 2 ^ (m - 8 * j) := by rw [← Nat.pow_add]; congr 1; omega
      rw [em, Nat.mul_div_cancel_left _ (Nat.two_pow_pos _)]
      by_cases h8 : m - 8 * j < 8
      · rw [if_pos (by omega), show m % 8 = m - 8 * j by omega]
        exact Nat.mod_eq_of_lt (Nat.lt_of_lt_of_le (Nat.pow_lt_pow_right (by decide) h8) (Nat.le_refl _))
      · rw [if_neg (by omega), show m - 8 * j = 8 + (m - 8 * j - 8) by omega, Nat.pow_add]
        exact Nat.mul_mod_right _ _
  rw [hx, hb]
  split <;> simp
theorem byteAt_lt (D j : Nat) : byteAt D j < 256 := Nat.mod_lt _ (by decide)
theorem byteAt_high {D n j : Nat} (h : D < 2 ^ (8 * n)) (hj : n ≤ j) : byteAt D j = 0 := by
  unfold byteAt
  have e : (256 : Nat) ^ j = 2 ^ (8 * j) := by rw [Nat.pow_mul]
  rw [e, Nat.div_eq_of_lt (Nat.lt_of_lt_of_le h (Nat.pow_le_pow_right (by decide) (by omega)))]
/-- the text with the bits turned. -/
def flipB (q : ByteArray) (D : Nat) : ByteArray := ⟨((nats q).mapIdx fun j x => UInt8.ofNat (x ^^^ byteAt D j)).toArray⟩
theorem flip_size (q : ByteArray) (D : Nat) : (flipB q D).size = q.size := by
  show (List.toArray _).size = _
  simp [nats]
theorem flip_nats (q : ByteArray) (D j : Nat) (h : j < q.size) : (nats (flipB q D))[j]?.getD 0 = (nats q)[j]?.getD 0 ^^^ byteAt D j := by
  have hl : j < (nats q).length := by rwa [nats_length]
  have hlt := nats_lt q j
  rw [List.getElem?_eq_getElem hl] at hlt ⊢
  have hd : (nats (flipB q D))[j]? = some ((nats q)[j] ^^^ byteAt D j) := by
    show (List.map UInt8.toNat (((nats q).mapIdx fun j x => UInt8.ofNat (x ^^^ byteAt D j)).toArray).toList)[j]? = _
    rw [List.getElem?_map, List.getElem?_mapIdx, List.getElem?_eq_getElem hl]
    simp only [Option.map_some, UInt8.toNat_ofNat']
    congr 1
    exact Nat.mod_eq_of_lt (Nat.xor_lt_two_pow (n := 8) hlt (byteAt_lt _ _))
  rw [hd]
  rfl
theorem nats_inj {a b : ByteArray} (h : a.size = b.size) (hn : ∀ j, j < a.size → (nats a)[j]?.getD 0 = (nats b)[j]?.getD 0) : a = b := by
  apply data_inj
  apply List.ext_getElem
  · simpa using h
  intro j h1 h2
  have h1' : j < a.size := by simpa using h1
  have h2' : j < b.size := by simpa using h2
  have := hn j h1'
  rw [nats_at h1', nats_at h2'] at this
  exact UInt8.toNat_inj.1 this
theorem nats_append (a b : ByteArray) : nats (a ++ b) = nats a ++ nats b := by
  unfold nats
  rw [append_list, List.map_append]
/-- the bits lie within the text: its sum stays. -/
theorem flip_append {s f : ByteArray} {D : Nat} (hD : D < 2 ^ (8 * s.size)) : flipB (s ++ f) D = flipB s D ++ f := by
  apply nats_inj
  · rw [flip_size, ByteArray.size_append, ByteArray.size_append, flip_size]
  intro j hj
  rw [flip_size] at hj
  rw [flip_nats _ _ _ hj, nats_append, nats_append]
  by_cases h : j < s.size
  · rw [List.getElem?_append_left (by rwa [nats_length]), List.getElem?_append_left (by rwa [nats_length, flip_size]), flip_nats _ _ _ h]
  · rw [List.getElem?_append_right (by rw [nats_length]; omega), List.getElem?_append_right (by rw [nats_length, flip_size]; omega), byteAt_high hD (by omega), nats_length, nats_length, flip_size]
    simp
theorem flip_zero (q : ByteArray) : flipB q 0 = q := by
  apply nats_inj (flip_size _ _)
  intro j hj
  rw [flip_size] at hj
  rw [flip_nats _ _ _ hj]
  simp [byteAt]
/-- THE LAW. -/
theorem burst_crc {s : ByteArray} {b a : Nat} (ha : a ≤ 8 * s.size) (h0 : turned b a (8 * s.size) 32 ≠ 0) :
    crc (nats (flipB s (turned b a (8 * s.size) 32 * 2 ^ a))) ≠ crc (nats s) := by
  have hD := turned_in b a (8 * s.size) 32
  have hv := turned_lt b a (8 * s.size) 32
  generalize turned b a (8 * s.size) 32 = v at *
  have h := crc_burst (l := nats s) (l' := nats (flipB s (v * 2 ^ a))) (D := v * 2 ^ a) (n := s.size) (fun j hj => flip_nats s _ j hj) s.size (Nat.le_refl _)
  have e : (256 : Nat) ^ s.size = 2 ^ (8 * s.size) := by rw [Nat.pow_mul]
  rw [e, Nat.div_eq_of_lt hD, Nat.xor_zero] at h
  have hn : cstepN (8 * s.size) (v * 2 ^ a) = cstepN (8 * s.size - a) v := by
    rw [show 8 * s.size = a + (8 * s.size - a) by omega, cstepN_add, Nat.mul_comm v, cstepN_pow]
    congr 1
    omega
  rw [hn] at h
  intro he
  unfold crc at he
  rw [nats_length, nats_length, flip_size] at he
  have he2 : crcN (nats (flipB s (v * 2 ^ a))) s.size = crcN (nats s) s.size := by
    have := congrArg (fun x => x ^^^ 4294967295) he
    simpa [Nat.xor_assoc] using this
  rw [he2] at h
  have hz : cstepN (8 * s.size - a) v = 0 := by
    have := congrArg (fun x => crcN (nats s) s.size ^^^ x) h
    simpa [← Nat.xor_assoc] using this.symm
  exact cstepN_ne _ hv h0 hz
theorem fourS_inj {m n : Nat} (hm : m < 4294967296) (hn : n < 4294967296) (h : fourS m = fourS n) : m = n := by
  have h1 : fourL m = fourL n := by
    have := congrArg (fun x : ByteArray => x.data.toList) h
    simpa [fourS] using this
  unfold fourL at h1
  simp only [List.cons.injEq, and_true] at h1
  obtain ⟨h1, h2, h3, h4⟩ := h1
  have g1 := congrArg UInt8.toNat h1
  have g2 := congrArg UInt8.toNat h2
  have g3 := congrArg UInt8.toNat h3
  have g4 := congrArg UInt8.toNat h4
  simp only [UInt8.toNat_ofNat'] at g1 g2 g3 g4
  omega
end Sm
end Go.Proofs.YthdicfcgkbepdaaGreatDoor
/- The errors' sentinels, a table, two errors of strconv out of a laid list that holds more. -/
namespace Go.Proofs.YthdicfcgkbepdaaGreatDoor
open Go.RowKit

theorem env_of_sub {W : World} {l : List (String × DataW Unit)} (hsub : ∀ x ∈ fullLaid, x ∈ l) (h : laidMetH Tryz.prog l W) : ∃ E, ErrEnv W E := by
  have one : ∀ i, i < 12 → ∃ a, ErrIs W (errGlob.getD i 0) (errText i) a := fun i hi => by
    have hok := List.all_eq_true.1 errGlob_ok i (List.mem_range.2 hi)
    simp only [Bool.and_eq_true, beq_iff_eq] at hok
    refine err_of_laid h (n := (errTexts[i]?.getD ("", [])).1) ?_ hok.1 hok.2
    refine hsub _ (List.mem_cons_of_mem _ (List.mem_map.2 ⟨errTexts[i]?.getD ("", []), ?_, rfl⟩))
    have hl : i < errTexts.length := hi
    rw [List.getElem?_eq_getElem hl]
    exact List.getElem_mem hl
  refine ⟨fun i => if hi : i < 12 then Classical.choose (one i hi) else default, ?_⟩
  have sp : ∀ i (hi : i < 12), ErrIs W (errGlob.getD i 0) (errText i) (if hi : i < 12 then Classical.choose (one i hi) else default) := fun i hi => by
    rw [dif_pos hi]; exact Classical.choose_spec (one i hi)
  exact ⟨(sp 0 (by decide)).cell, (sp 1 (by decide)).cell, (sp 2 (by decide)).cell, (sp 3 (by decide)).cell, (sp 4 (by decide)).cell, (sp 5 (by decide)).cell, (sp 6 (by decide)).cell, (sp 7 (by decide)).cell, (sp 8 (by decide)).cell, (sp 9 (by decide)).cell, (sp 10 (by decide)).cell, (sp 11 (by decide)).cell,
    handle_of_laid h (hsub _ (List.mem_cons_self)), fun k hk => (sp k hk).block, fun i j hi hj hij => (sp i hi).ne' (sp j hj) (errText_ne i hi j hj hij)⟩
end Go.Proofs.YthdicfcgkbepdaaGreatDoor
/- Walks of item, number, Save. -/
namespace Go.Proofs.YthdicfcgkbepdaaGreatDoor
section
open Go.RowKit

/-- the table of tens lies in the world. -/
def TabAt (w : World) : Prop := Lib.TabIs Tryz.prog w "internal/strconv.uint64pow10" .u64 Lib.pow10Tab
theorem TabAt.below {w w' : World} (h : TabAt w) {n : Nat} (hb : Below n w w') (hn : w.heap.size ≤ n) : TabAt w' := by
  unfold TabAt Lib.TabIs World.var? at h ⊢
  obtain ⟨g, hg, h1⟩ := Option.bind_eq_some_iff.1 h
  rw [hg]
  show (match w'.heap[g]? with | some (.cells cs _ _) => some cs | _ => none) = _
  have hlt : g < w.heap.size := by
    rcases Nat.lt_or_ge g w.heap.size with h' | h'
    · exact h'
    · rw [Array.getElem?_eq_none h'] at h1; cases h1
  rw [hb.block g (by omega)]
  exact h1
theorem below_growN (w : World) (k : Nat) (os : Array Obj) : Below w.heap.size w (Go.Sort.grow (w.drewN k) os) := below_grow (Nat.le_refl _) ⟨k, os, rfl⟩
theorem ba_three (a b : List UInt8) (s : ByteArray) : ((⟨a.toArray⟩ : ByteArray) ++ (⟨b.toArray⟩ : ByteArray) ++ s : ByteArray) = ⟨(a ++ b ++ s.data.toList).toArray⟩ := by
  apply data_inj
  simp
set_option maxRecDepth 100000 in
set_option maxHeartbeats 4000000 in
theorem item_walk (s : ByteArray) (w : World) (ht : TabAt w) (hs : s.size ≤ 1000000) :
    Calls Tryz.prog 28 #[.string s] w fun e w' => e = .returned (.string ⟨(itemB s.data.toList).toArray⟩) ∧ Below w.heap.size w w' := by
  have h1 := Tryz.strconv_Itoa (s.size : Int) (by omega) (by omega) w ht
  have hl : (Lib.itoa (s.size : Int)).length ≤ 1000000 := Nat.le_of_lt (num_len (by omega) (by omega))
  have hT := Lib.hid (ba_three (Lib.itoa (s.size : Int)) [58] s)
  have hI : Hid (itemB s.data.toList = Lib.itoa (s.size : Int) ++ [58] ++ s.data.toList) := Lib.hid (by unfold itemB; simp)
  generalize Lib.itoa (s.size : Int) = t at h1 hl hT hI
  have H1 := Lib.hid h1
  clear h1
  have hz : (⟨t.toArray⟩ : ByteArray).size ≤ 1000000 := by show t.toArray.size ≤ _; simpa using hl
  go_enter Tryz.func28, Tryz.ntmps28
  go_wp2_with fail
  refine H1.out.mono ?_
  rintro e w1 ⟨rfl, k, os, rfl⟩
  go_wp2
  go_ret
  refine ⟨?_, below_growN _ _ _⟩
  rw [hI.out, ← hT.out]
  rfl
set_option maxRecDepth 100000 in
set_option maxHeartbeats 4000000 in
theorem number_walk (n : Int) (w : World) (ht : TabAt w) (h0 : 0 ≤ n) (h1 : n ≤ 9223372036854775807) :
    Calls Tryz.prog 29 #[.int .i64 n] w fun e w' => e = .returned (.string ⟨(numB n).toArray⟩) ∧ Below w.heap.size w w' := by
  have h1 := Tryz.strconv_Itoa n (by omega) h1 w ht
  have hl : (Lib.itoa n).length ≤ 1000000 := Nat.le_of_lt (num_len h0 (by omega))
  have hN : Hid (numB n = itemB (Lib.itoa n)) := Lib.hid rfl
  generalize Lib.itoa n = t at h1 hl hN
  have H1 := Lib.hid h1
  clear h1
  have hz : (⟨t.toArray⟩ : ByteArray).size ≤ 1000000 := by show t.toArray.size ≤ _; simpa using hl
  go_enter Tryz.func29, Tryz.ntmps29
  go_wp2_with fail
  refine H1.out.mono ?_
  rintro e w1 ⟨rfl, k, os, rfl⟩
  have hb := below_growN w k os
  go_wp2_with fail
  refine (item_walk _ _ (ht.below hb (Nat.le_refl _)) hz).mono ?_
  rintro e w2 ⟨rfl, hb2⟩
  go_wp2
  go_ret
  refine ⟨?_, hb.trans (hb2.mono hb.size)⟩
  rw [hN.out]
  rfl

/-! ### a version's row -/
theorem ba_row (a b c d e f : List UInt8) : ((⟨a.toArray⟩ : ByteArray) ++ ⟨b.toArray⟩ ++ ⟨c.toArray⟩ ++ ⟨d.toArray⟩ ++ ⟨e.toArray⟩ ++ ⟨f.toArray⟩ : ByteArray) = ⟨(a ++ b ++ c ++ d ++ e ++ f).toArray⟩ := by
  apply data_inj
  simp
theorem ba_size (l : List UInt8) : (⟨l.toArray⟩ : ByteArray).size = l.length := by show l.toArray.size = _; simp
theorem item_len (s : List UInt8) (h : s.length < 1000000) : (itemB s).length ≤ s.length + 1000001 := by
  unfold itemB
  have := num_len (n := (s.length : Int)) (by omega) (by omega)
  simp only [List.length_append, List.length_cons]
  omega
theorem num_len2 {n : Int} (h0 : 0 ≤ n) (h1 : n ≤ 9223372036854775807) : (numB n).length ≤ 3000000 := by
  have := num_len h0 h1
  have := item_len _ this
  unfold numB
  omega
end
end Go.Proofs.YthdicfcgkbepdaaGreatDoor
/- Walk of Save. -/
namespace Go.Proofs.YthdicfcgkbepdaaGreatDoor
section
open Go.RowKit Go.BigFrame

theorem Bld.type_of {B b : Nat} {bs : List UInt8} {w : World} (h : BldAt B b bs w) : ∃ cs, w.heap[b]? = some (.cells cs 79 (0, 0)) := by
  obtain ⟨_, v, hb, _⟩ := h
  exact ⟨_, hb⟩
theorem OwnT.kept8 {n B b : Nat} {bs : List UInt8} {w w' : World} {v : Value} {L : List ByteArray} (h : OwnT n w v L) (hk : Kept8 b w w') (hb : BldAt B b bs w) : OwnT n w' v L := by
  obtain ⟨cs, hc⟩ := Bld.type_of hb
  refine ⟨h.1, ?_⟩
  rcases h.2 with hn | ⟨g, cap, cur, rfl, hB, hg, rest⟩
  · exact .inl hn
  · refine .inr ⟨g, cap, cur, rfl, hB, ?_, rest⟩
    rw [hk.2 g (Array.getElem?_eq_some_iff.1 hg).1 (fun e => ?_) (fun cs fr e => ?_)]
    · exact hg
    · subst e
      rw [hc] at hg
      simp only [Option.some.injEq, Obj.cells.injEq] at hg
      exact absurd hg.2.1 (by decide)
    · rw [hg] at e
      simp only [Option.some.injEq, Obj.cells.injEq] at e
      exact absurd e.2.1 (by decide)
theorem BldAt.below' {B b n : Nat} {bs : List UInt8} {w w' : World} (h : BldAt B b bs w) (hk : Below n w w') (hn : w.heap.size ≤ n) : BldAt B b bs w' := by
  obtain ⟨hB, v, hb, hown, hne⟩ := h
  have hlt : b < w.heap.size := (Array.getElem?_eq_some_iff.1 hb).1
  refine ⟨hB, v, (hk.block b (by omega)).trans hb, ⟨hown.1, ?_⟩, hne⟩
  rcases hown.2 with hn | ⟨g, cap, cur, rfl, hB, hg, rest⟩
  · exact .inl hn
  · exact .inr ⟨g, cap, cur, rfl, hB, (hk.block g (by have := (Array.getElem?_eq_some_iff.1 hg).1; omega)).trans hg, rest⟩
/-- what is written when i keys are through, and j versions of the next. -/
def headB (sd : Bool) (l : List Kp) (i : Nat) : List UInt8 := holdW ++ markB sd ++ ((keysL l).take i).flatMap fun k => (getL l k).flatMap fun v => rowB (k, v)
def partB (l : List Kp) (k : ByteArray) (j : Nat) : List UInt8 := ((getL l k).take j).flatMap fun v => rowB (k, v)
theorem head_zero (sd : Bool) (l : List Kp) : headB sd l 0 = holdW ++ markB sd := by simp [headB]
theorem head_succ {sd : Bool} {l : List Kp} {i : Nat} {k : ByteArray} (hi : i < (keysL l).length) (hk : (keysL l)[i]?.getD ⟨#[]⟩ = k) : headB sd l (i + 1) = headB sd l i ++ partB l k (getL l k).length := by
  have e : (keysL l)[i]? = some k := by
    rw [List.getElem?_eq_getElem hi] at hk ⊢
    simpa using hk
  unfold headB partB
  rw [List.take_add_one, e, Option.toList_some, List.flatMap_append, List.flatMap_cons, List.flatMap_nil, List.append_nil, List.take_length]
  simp only [List.append_assoc]
theorem part_zero (l : List Kp) (k : ByteArray) : partB l k 0 = [] := by simp [partB]
theorem part_succ {l : List Kp} {k : ByteArray} {j : Nat} (hj : j < (getL l k).length) : partB l k (j + 1) = partB l k j ++ rowB (k, (getL l k)[j]?.getD ver0) := by
  unfold partB
  rw [List.take_add_one, List.getElem?_eq_getElem hj, Option.toList_some, List.flatMap_append, List.flatMap_cons, List.flatMap_nil, List.append_nil, Option.getD_some]
theorem head_all {sd : Bool} {l : List Kp} (hs : Srt l) : headB sd l (keysL l).length = saveB sd l := by
  unfold headB saveB
  rw [List.take_length, save_keys hs]
theorem row_len {p : Kp} (h : RowOkP p) : (rowB p).length ≤ 17000000 := by
  obtain ⟨hn, hr, hk⟩ := h
  obtain ⟨⟨a1, a2⟩, ⟨b1, b2⟩, ⟨c1, c2⟩, ⟨d1, d2⟩, e1⟩ := right_num hr
  have i1 := item_len p.1.data.toList (by simpa using hk)
  have i2 := num_len2 a1 (by omega)
  have i3 := num_len2 b1 (by omega)
  have i4 := num_len2 c1 (by omega)
  have i5 := num_len2 d1 (by omega)
  have i6 := item_len p.2.2.2.2.2.data.toList (by have h9 : p.2.2.2.2.2.data.toList.length = p.2.2.2.2.2.size := by simp
                                                  omega)
  have h8 : p.2.2.2.2.2.data.toList.length = p.2.2.2.2.2.size := by simp
  have h9 : p.1.data.toList.length = p.1.size := by simp
  unfold rowB
  simp only [List.length_append]
  omega
/-- where a saving stands. -/
def SavAt (n0 n1 : Nat) (w0 wr : World) (bb : Nat) (bs : List UInt8) (N : Nat) (v : Value) (K : List ByteArray) : Prop := Below n0 w0 wr ∧ BldAt n0 bb bs wr ∧ bs.length ≤ 10 + N * 17000000 ∧ OwnT n1 wr v K
theorem SavAt.below {n0 n1 : Nat} {w0 wr w' : World} {bb N : Nat} {bs : List UInt8} {v : Value} {K : List ByteArray} (h : SavAt n0 n1 w0 wr bb bs N v K) (hb : Below wr.heap.size wr w') (hn : n0 ≤ w0.heap.size) : SavAt n0 n1 w0 w' bb bs N v K :=
  ⟨h.1.trans (hb.mono (Nat.le_trans hn h.1.size)), h.2.1.below' hb (Nat.le_refl _), h.2.2.1, Own1.below h.2.2.2 hb (Nat.le_refl _)⟩
set_option maxRecDepth 100000 in
set_option maxHeartbeats 8000000 in
theorem save_walk {F : Nat → Prop} {w : World} {hb : Nat} {sd : Bool} {l : List Kp} {ks : List ByteArray} {S : ByteArray → Value} (h1 : HoldAt F w hb sd (getL l) ks S) (hf : FineR l) (ht : TabAt w) :
    Calls Tryz.prog 9 #[.pointer (some ⟨hb, 0, none⟩)] w fun e w' => e = .returned (.tuple #[.string ((⟨(saveB sd l).toArray⟩ : ByteArray) ++ fourS (Sm.crc (Sm.nats ⟨(saveB sd l).toArray⟩))), .nilIface]) ∧ Below w.heap.size w w' := by
  have htot := h1.tot
  have hl60 := hf.1.2
  have hks := keys_same hf.1.1 h1.nodup h1.mem
  have hksl : ks.length ≤ 60 := by have := ks_le_tot (C := getL l) (ks := ks) (fun k hk => (h1.mem k).1 hk); omega
  have Hkeys := Lib.hid (fun W (hb : Below w.heap.size w W) => by have h9 := hkeys_walk F W _ sd (getL l) ks S (h1.below hb (Nat.le_refl _)) (by omega); rw [hks] at h9; exact h9)
  have Hkz := Lib.hid (fun (k : ByteArray) (hk : k ∈ keysL l) => And.intro ((keysL_mem hf.1.1 k).1 hk) (h1.kz k ((h1.mem k).2 ((keysL_mem hf.1.1 k).1 hk))))
  have hK60 : (keysL l).length ≤ 60 := by
    rw [← hks]; simp [sortK]; omega
  have H := Lib.hid (And.intro h1 (And.intro hf (And.intro ht hK60)))
  have hlt := h1.hlt
  have c1 := h1.c1
  obtain ⟨m0, c0⟩ : ∃ m0, w.cell? ⟨hb, 0, none⟩ = some (.map m0) := by obtain ⟨m0, c0, _⟩ := h1.look (k := ⟨#[]⟩) (Nat.zero_le _); exact ⟨m0, c0⟩
  have C := Lib.hid (fun W (hb' : Below w.heap.size w W) => And.intro ((hb'.cell (p := ⟨hb, 0, none⟩) hlt).trans c0) ((hb'.cell (p := ⟨hb, 1, none⟩) hlt).trans c1))
  clear h1 hf ht hks hksl htot hl60 hK60 hlt c0 c1
  go_enter Tryz.func9, Tryz.ntmps9
  go_wp2_with fail
  have hB0 : Below w.heap.size w (w.alloc (.cells #[.pointer none, .slice none 0 0] 79)) := (Below.refl _ _).alloc (Nat.le_refl _) _
  have hF0 := Lib.fresh_isBuilder 79 5 w
  refine (writestring_walk w.heap.size w.heap.size [] ⟨#[104, 111, 108, 100]⟩ _ hF0 (by decide) hB0.size).mono ?_
  rintro e w1 ⟨rfl, hb1, hw1, _⟩
  have H1 : Hid (Below w.heap.size w w1 ∧ BldAt w.heap.size w.heap.size holdW w1) := Lib.hid ⟨hB0.trans hw1, hb1⟩
  obtain ⟨bb, hbb⟩ : ∃ bb, bb = w.heap.size := ⟨_, rfl⟩
  have hbb' : w.heap.size = bb := hbb.symm
  have Hbb := Lib.hid hbb
  rw [hbb'] at H1 ⊢
  obtain ⟨c0, c1⟩ := C.out w1 (by have := H1.out.1; rw [hbb] at this; exact this)
  clear hB0 hF0 hb1 hw1 hbb hbb'
  go_upto_if 13 with fail
  go_cut [] from 10 (fun wx => Hid (Below bb w wx ∧ BldAt bb bb (holdW ++ markB sd) wx))
  case first =>
    cases sd with
    | true =>
      go_wp2_with fail
      refine (writestring_walk bb bb holdW ⟨#[33]⟩ _ (.inr H1.out.2) (by decide) (by rw [Hbb.out]; exact (by have := H1.out.1; rw [Hbb.out] at this; exact this.size))).mono ?_
      rintro e w2 ⟨rfl, hb2, hw2, _⟩
      have H2 : Hid (Below bb w w2 ∧ BldAt bb bb (holdW ++ markB true) w2) := Lib.hid ⟨H1.out.1.trans hw2, hb2⟩
      clear hb2 hw2
      go_wp2
      go_meet
      exact H2
    | false =>
      go_wp2_with fail
      go_meet
      exact Lib.hid ⟨H1.out.1, by simpa [markB] using H1.out.2⟩
  case rest =>
    have hwc : Below w.heap.size w wc := by have := hcut.out.1; rw [Hbb.out] at this; exact this
    have Hwc := Lib.hid hwc
    go_wp2_with fail
    refine (Hkeys.out _ hwc).mono ?_
    rintro e w2 ⟨⟨v2, rfl, o2⟩, hb2⟩
    obtain ⟨a2, cap2, rfl, _, _, _, _⟩ := o2.read
    obtain ⟨K, hK⟩ : ∃ K, keysL l = K := ⟨_, rfl⟩
    rw [hK] at o2 Hkz H ⊢
    obtain ⟨m, hm⟩ : ∃ m, K.length = m := ⟨_, rfl⟩
    rw [hm] at o2 H ⊢
    have hm60 := H.out.2.2.2
    obtain ⟨n1, hn1⟩ : ∃ n1, wc.heap.size = n1 := ⟨_, rfl⟩
    have HS : Hid (SavAt bb n1 w w2 bb (headB sd l 0) 0 (.slice a2 m cap2) K) := Lib.hid ⟨hcut.out.1.trans (hb2.mono (by rw [Hbb.out]; exact hwc.size)), by rw [head_zero]; exact hcut.out.2.below' hb2 (Nat.le_refl _), by rw [head_zero]; cases sd <;> decide, by rw [← hn1]; exact o2⟩
    have HK := Lib.hid (And.intro hK hm)
    clear o2 hb2 hcut hwc hK hm hn1 c0 c1 H1 Hwc
    go_wp2
    go_loopw [18] (fun vi wr => ∃ i : Nat, i ≤ m ∧ vi = .int .i64 i ∧ Hid (SavAt bb n1 w wr bb (headB sd l i) (i * 61) (.slice a2 m cap2) K)) (fun vi _ => m - (intOf vi).toNat)
    case atStart => exact ⟨0, by omega, rfl, HS⟩
    case round =>
      obtain ⟨i, hi, rfl, Hr⟩ := hrel
      have hi2 : i < m ∨ m = i := by omega
      rcases hi2 with hilt | rfl
      · have hilt2 : (i : Int) < m := by omega
        have hil : i < K.length := by rw [HK.out.2]; exact hilt
        have hbw : Below w.heap.size w wr := by have := Hr.out.1; rw [Hbb.out] at this; exact this
        obtain ⟨b, off, rfl, kk⟩ : ∃ b off, a2 = some ⟨b, off, none⟩ ∧ wr.cell? ⟨b, off + i, none⟩ = some (.string (K[i]?.getD ⟨#[]⟩)) := by
          obtain ⟨a9, cap9, e9, _, _, _, t9⟩ := Hr.out.2.2.2.read
          simp only [Value.slice.injEq] at e9
          obtain ⟨rfl, _, rfl⟩ := e9
          rcases t9 with he | ⟨b, off, e, _, hc⟩
          · exfalso; rw [he] at hil; simp at hil
          · exact ⟨b, off, e, hc i hil⟩
        have hmem : (K[i]?.getD ⟨#[]⟩) ∈ K := by rw [List.getElem?_eq_getElem hil]; exact List.getElem_mem hil
        obtain ⟨key, hkey⟩ : ∃ key, K[i]?.getD (⟨#[]⟩ : ByteArray) = key := ⟨_, rfl⟩
        rw [hkey] at kk hmem
        obtain ⟨hne, hksz⟩ := Hkz.out key hmem
        obtain ⟨c0, c1⟩ := C.out wr hbw
        have hlk : (Instr.lookup 36 (.map m0) (.string key) false).run Tryz.prog wr = .ok (S key) wr := by
          obtain ⟨m', e1, e2⟩ := H.out.1.lookAll hksz
          have := (C.out w (Below.refl _ _)).1
          rw [this] at e1
          simp only [Option.some.injEq, Value.map.injEq] at e1
          subst e1
          exact e2 wr hbw
        obtain ⟨ad, cap, hv, hcap, hcm, ha, hI⟩ := (H.out.1.row key).read
        obtain ⟨mv, hmv⟩ : ∃ mv, (getL l key).length = mv := ⟨_, rfl⟩
        have hmv60 : mv ≤ 60 := by have := getL_le l key; have := H.out.2.1.1.2; omega
        rw [hmv] at hv
        rw [hv] at hlk
        have hd : headB sd l (i + 1) = headB sd l i ++ partB l key mv := by
          rw [← hmv]
          exact head_succ (by rw [HK.out.1]; exact hil) (by rw [HK.out.1]; exact hkey)
        have Hk := Lib.hid (And.intro hd (And.intro hI (And.intro hmv hmem)))
        clear hv hcap hcm ha hI hmv hkey hmem hksz hne c1 HS hbw hil hd
        go_wp2
        have HS0 : Hid (SavAt bb n1 w wr bb (headB sd l i ++ partB l key 0) (i * 61 + 0) (.slice (some ⟨b, off, none⟩) m cap2) K) := Lib.hid (by rw [part_zero, List.append_nil]; exact Hr.out)
        clear kk hlk c0
        go_loopw [29] (fun vj wq => ∃ j : Nat, j ≤ mv ∧ vj = .int .i64 j ∧ Hid (SavAt bb n1 w wq bb (headB sd l i ++ partB l key j) (i * 61 + j) (.slice (some ⟨b, off, none⟩) m cap2) K)) (fun vj _ => mv - (intOf vj).toNat)
        case atStart => exact ⟨0, by omega, rfl, HS0⟩
        case round =>
          obtain ⟨j, hj, rfl, Hq⟩ := hrel
          have hj2 : j < mv ∨ mv = j := by omega
          rcases hj2 with hjlt | rfl
          · have hjlt2 : (j : Int) < mv := by omega
            have hjl : j < (getL l key).length := by rw [Hk.out.2.2.1]; exact hjlt
            have hbq : Below w.heap.size w wr := by have := Hq.out.1; rw [Hbb.out] at this; exact this
            obtain ⟨b3, off3, rfl, hbl3, hcx3⟩ : ∃ b3 off3, ad = some ⟨b3, off3, none⟩ ∧ b3 < w.heap.size ∧ ∀ i j, i < (getL l key).length → j < 5 → w.cell? ⟨b3, off3 + i * 5 + j, none⟩ = (encVr ((getL l key)[i]?.getD ver0))[j]? := by
              rcases Hk.out.2.1 with he | ⟨b3, off3, e, hbl, hcx⟩
              · exfalso; rw [he] at hjl; simp at hjl
              · exact ⟨b3, off3, e, hbl, hcx⟩
            obtain ⟨f0, f1, f2, f3, f4⟩ := VrR.at5 hcx3 hjl
            have hrow : RowOkP (key, (getL l key)[j]?.getD ver0) := H.out.2.1.2 _ (mem_getL.1 (by rw [List.getElem?_eq_getElem hjl]; exact List.getElem_mem hjl))
            have hps := part_succ (l := l) (k := key) hjl
            obtain ⟨⟨x1, x2, x3, x4, x5⟩, hx⟩ : ∃ x, (getL l key)[j]?.getD ver0 = x := ⟨_, rfl⟩
            rw [hx] at f0 f1 f2 f3 f4 hrow hps
            dsimp only at f0 f1 f2 f3 f4
            have g0 := (hbq.cell (p := ⟨b3, off3 + j * 5, none⟩) hbl3).trans f0
            have g1 := (hbq.cell (p := ⟨b3, off3 + j * 5 + 1, none⟩) hbl3).trans f1
            have g2 := (hbq.cell (p := ⟨b3, off3 + j * 5 + 2, none⟩) hbl3).trans f2
            have g3 := (hbq.cell (p := ⟨b3, off3 + j * 5 + 3, none⟩) hbl3).trans f3
            have g4 := (hbq.cell (p := ⟨b3, off3 + j * 5 + 4, none⟩) hbl3).trans f4
            have Hv := Lib.hid (And.intro hrow hps)
            clear f0 f1 f2 f3 f4 hcx3 hx hjl hbq hrow hps HS0
            go_wp2
            obtain ⟨W0, hW0⟩ : ∃ W0, wr.alloc (.cells #[.int .i64 x1, .int .i64 x2, .int .i64 x3, .int .i64 x4, .string x5] 49) = W0 := ⟨_, rfl⟩
            obtain ⟨ob, hob⟩ : ∃ ob, wr.heap.size = ob := ⟨_, rfl⟩
            have gm : W0.heap[ob]? = some (.cells #[.int .i64 x1, .int .i64 x2, .int .i64 x3, .int .i64 x4, .string x5] 49 (0, 0)) := by rw [← hW0, ← hob]; exact heap_alloc_new _ _
            have hb0 : Below wr.heap.size wr W0 := by rw [← hW0]; exact (Below.refl _ _).alloc (Nat.le_refl _) _
            have hs0 : ob < W0.heap.size := by rw [← hW0, ← hob]; simp
            have HS1 := Lib.hid (Hq.out.below hb0 (by rw [Hbb.out]; exact Nat.le_refl _))
            rw [hW0, hob]
            have HG : Hid (∀ W, Below W0.heap.size W0 W → W.heap[ob]? = some (.cells #[.int .i64 x1, .int .i64 x2, .int .i64 x3, .int .i64 x4, .string x5] 49 (0, 0))) := Lib.hid fun W hb => (hb.block ob hs0).trans gm
            have KB : Hid (∀ W : World, W.heap[ob]? = some (.cells #[.int .i64 x1, .int .i64 x2, .int .i64 x3, .int .i64 x4, .string x5] 49 (0, 0)) → W.cell? ⟨ob, 0, none⟩ = some (.int .i64 x1) ∧ W.cell? ⟨ob, 1, none⟩ = some (.int .i64 x2) ∧ W.cell? ⟨ob, 2, none⟩ = some (.int .i64 x3) ∧ W.cell? ⟨ob, 3, none⟩ = some (.int .i64 x4) ∧ W.cell? ⟨ob, 4, none⟩ = some (.string x5)) := Lib.hid fun W g =>
              ⟨(cell_of_heap g 0).trans rfl, (cell_of_heap g 1).trans rfl, (cell_of_heap g 2).trans rfl, (cell_of_heap g 3).trans rfl, (cell_of_heap g 4).trans rfl⟩
            have KT : Hid (∀ W, Below W0.heap.size W0 W → TabAt W) := Lib.hid fun W hb => by
              have h9 : Below w.heap.size w W0 := by have := HS1.out.1; rw [Hbb.out] at this; exact this
              exact H.out.2.2.1.below (h9.trans (hb.mono h9.size)) (Nat.le_refl _)
            have q0 := KB.out W0.drew (HG.out _ (Below.refl _ _).drew)
            have hn5 : (0 ≤ x1 ∧ x1 ≤ 1099511627776) ∧ (0 ≤ x2 ∧ x2 ≤ 1099511627776) ∧ (0 ≤ x3 ∧ x3 ≤ 1000) ∧ (0 ≤ x4 ∧ x4 < 12) ∧ x5.size ≤ 1000 := right_num Hv.out.1.2.1
            have hk5 : key.size < 1000000 := Hv.out.1.2.2
            have hk6 : key.data.toList.length = key.size := by simp
            have hk7 : x5.data.toList.length = x5.size := by simp
            have hrr := ba_row (itemB key.data.toList) (numB x1) (numB x2) (numB x3) (numB x4) (itemB x5.data.toList)
            obtain ⟨⟨a1, a2⟩, ⟨a3, a4⟩, ⟨a5, a6⟩, ⟨a7, a8⟩, a9⟩ := hn5
            have C1 := fun W (hT : TabAt W) => item_walk key W hT (Nat.le_of_lt hk5)
            have C2 := fun W (hT : TabAt W) => number_walk x1 W hT a1 (by omega)
            have C3 := fun W (hT : TabAt W) => number_walk x2 W hT a3 (by omega)
            have C4 := fun W (hT : TabAt W) => number_walk x3 W hT a5 (by omega)
            have C5 := fun W (hT : TabAt W) => number_walk x4 W hT a7 (by omega)
            have C6 := fun W (hT : TabAt W) => item_walk x5 W hT (by omega)
            have l1 := item_len key.data.toList (by omega)
            have l2 := num_len2 a1 (by omega)
            have l3 := num_len2 a3 (by omega)
            have l4 := num_len2 a5 (by omega)
            have l5 := num_len2 a7 (by omega)
            have l6 := item_len x5.data.toList (by omega)
            have l7 := row_len Hv.out.1
            rw [← ba_size] at l1 l2 l3 l4 l5 l6
            generalize (⟨(itemB key.data.toList).toArray⟩ : ByteArray) = t1 at hrr C1 l1
            generalize (⟨(numB x1).toArray⟩ : ByteArray) = t2 at hrr C2 l2
            generalize (⟨(numB x2).toArray⟩ : ByteArray) = t3 at hrr C3 l3
            generalize (⟨(numB x3).toArray⟩ : ByteArray) = t4 at hrr C4 l4
            generalize (⟨(numB x4).toArray⟩ : ByteArray) = t5 at hrr C5 l5
            generalize (⟨(itemB x5.data.toList).toArray⟩ : ByteArray) = t6 at hrr C6 l6
            have z1 : t1.size ≤ 3000000 := by omega
            have z6 : t6.size ≤ 3000000 := by omega
            have C7 := fun W (hB : BldAt bb bb (headB sd l i ++ partB l key j) W) (hs : bb ≤ W.heap.size) => writestring_walk bb bb (headB sd l i ++ partB l key j) (t1 ++ t2 ++ t3 ++ t4 ++ t5 ++ t6) W (.inr hB) (by
              have h9 := Hq.out.2.2.1
              have h8 : (t1 ++ t2 ++ t3 ++ t4 ++ t5 ++ t6).size ≤ 17000000 := by rw [hrr, ba_size]; exact l7
              have h7 : (i * 61 + j) * 17000000 ≤ 4000 * 17000000 := Nat.mul_le_mul_right _ (by omega)
              omega) hs
            have e7 : (t1 ++ t2 ++ t3 ++ t4 ++ t5 ++ t6).data.toList = rowB (key, x1, x2, x3, x4, x5) := by rw [hrr]; simp [rowB]
            rw [e7] at C7
            obtain ⟨u2, hu2⟩ : ∃ u, t1 ++ t2 = u := ⟨_, rfl⟩
            obtain ⟨u3, hu3⟩ : ∃ u, u2 ++ t3 = u := ⟨_, rfl⟩
            obtain ⟨u4, hu4⟩ : ∃ u, u3 ++ t4 = u := ⟨_, rfl⟩
            obtain ⟨u5, hu5⟩ : ∃ u, u4 ++ t5 = u := ⟨_, rfl⟩
            obtain ⟨u6, hu6⟩ : ∃ u, u5 ++ t6 = u := ⟨_, rfl⟩
            have y2 : u2.size = t1.size + t2.size := by rw [← hu2]; simp
            have y3 : u3.size = u2.size + t3.size := by rw [← hu3]; simp
            have y4 : u4.size = u3.size + t4.size := by rw [← hu4]; simp
            have y5 : u5.size = u4.size + t5.size := by rw [← hu5]; simp
            have r2 : ∀ W, (Op.stringOp .add t1 t2).run Tryz.prog W = .ok (.string u2) W := fun W => by rw [run_string_add_sum _ _ _ (by omega), hu2]
            have r3 : ∀ W, (Op.stringOp .add u2 t3).run Tryz.prog W = .ok (.string u3) W := fun W => by rw [run_string_add_sum _ _ _ (by omega), hu3]
            have r4 : ∀ W, (Op.stringOp .add u3 t4).run Tryz.prog W = .ok (.string u4) W := fun W => by rw [run_string_add_sum _ _ _ (by omega), hu4]
            have r5 : ∀ W, (Op.stringOp .add u4 t5).run Tryz.prog W = .ok (.string u5) W := fun W => by rw [run_string_add_sum _ _ _ (by omega), hu5]
            have r6 : ∀ W, (Op.stringOp .add u5 t6).run Tryz.prog W = .ok (.string u6) W := fun W => by rw [run_string_add_sum _ _ _ (by omega), hu6]
            rw [hu2, hu3, hu4, hu5, hu6] at C7
            have Y := Lib.hid (And.intro hu2 (And.intro hu3 (And.intro hu4 (And.intro hu5 hu6))))
            clear y2 y3 y4 y5 l2 l3 l4 l5 z1 z6 hu2 hu3 hu4 hu5 hu6
            have D1 := Lib.hid C1
            have D2 := Lib.hid C2
            have D3 := Lib.hid C3
            have D4 := Lib.hid C4
            have D5 := Lib.hid C5
            have D6 := Lib.hid C6
            have D7 := Lib.hid C7
            clear C7 e7 l7 a1 a2 a3 a4 a5 a6 a7 a8 a9 hk5 hk6 hk7
            clear hrr C1 C2 C3 C4 C5 C6 l1 l6
            have HE : Hid (∀ W W', W.heap[ob]? = some (.cells #[.int .i64 x1, .int .i64 x2, .int .i64 x3, .int .i64 x4, .string x5] 49 (0, 0)) → BldAt bb bb (headB sd l i ++ partB l key j) W → Kept8 bb W W' → W'.heap[ob]? = some (.cells #[.int .i64 x1, .int .i64 x2, .int .i64 x3, .int .i64 x4, .string x5] 49 (0, 0))) := Lib.hid fun W W' g hB hk => by
              obtain ⟨cs, hcs⟩ := Bld.type_of hB
              rw [hk.2 ob (Array.getElem?_eq_some_iff.1 g).1 (fun e => ?_) (fun cs fr e => ?_)]
              · exact g
              · rw [e, hcs] at g
                simp only [Option.some.injEq, Obj.cells.injEq] at g
                exact absurd g.2.1 (by decide)
              · rw [g] at e
                simp only [Option.some.injEq, Obj.cells.injEq] at e
                exact absurd e.2.1 (by decide)
            have HL := Lib.hid (row_len Hv.out.1)
            have HD : Hid (Below W0.heap.size W0 W0.drew) := Lib.hid (Below.refl _ _).drew
            clear hb0 hs0 gm hW0 hob g0 g1 g2 g3 g4
            go_region_held3 (fun W => W.cell? ⟨ob, 0, none⟩ = some (.int .i64 x1) ∧ W.cell? ⟨ob, 1, none⟩ = some (.int .i64 x2) ∧ W.cell? ⟨ob, 2, none⟩ = some (.int .i64 x3) ∧ W.cell? ⟨ob, 3, none⟩ = some (.int .i64 x4) ∧ W.cell? ⟨ob, 4, none⟩ = some (.string x5))
              (first | exact q0 | exact q3 | exact q4 | exact q5 | exact q6 | exact q7 | exact q8 | exact q9)
              (first
                | (go_at_call 28; refine (D1.out W0.drew (KT.out _ HD.out)).mono ?_; rintro e w3 ⟨rfl, hb3⟩; have HB3 := Lib.hid (HD.out.trans hb3); have q3 := KB.out w3 (HG.out _ HB3.out); clear hb3)
                | (go_at_call 29; refine (D2.out w3 (KT.out _ HB3.out)).mono ?_; rintro e w4 ⟨rfl, hb4⟩; have HB4 := Lib.hid (HB3.out.trans (hb4.mono HB3.out.size)); have q4 := KB.out w4 (HG.out _ HB4.out); clear hb4)
                | (go_at_call 29; refine (D3.out w4 (KT.out _ HB4.out)).mono ?_; rintro e w5 ⟨rfl, hb5⟩; have HB5 := Lib.hid (HB4.out.trans (hb5.mono HB4.out.size)); have q5 := KB.out w5 (HG.out _ HB5.out); clear hb5)
                | (go_at_call 29; refine (D4.out w5 (KT.out _ HB5.out)).mono ?_; rintro e w6 ⟨rfl, hb6⟩; have HB6 := Lib.hid (HB5.out.trans (hb6.mono HB5.out.size)); have q6 := KB.out w6 (HG.out _ HB6.out); clear hb6)
                | (go_at_call 29; refine (D5.out w6 (KT.out _ HB6.out)).mono ?_; rintro e w7 ⟨rfl, hb7⟩; have HB7 := Lib.hid (HB6.out.trans (hb7.mono HB6.out.size)); have q7 := KB.out w7 (HG.out _ HB7.out); clear hb7)
                | (go_at_call 28; refine (D6.out w7 (KT.out _ HB7.out)).mono ?_; rintro e w8 ⟨rfl, hb8⟩; have HB8 := Lib.hid (HB7.out.trans (hb8.mono HB7.out.size)); have q8 := KB.out w8 (HG.out _ HB8.out); clear hb8)
                | (go_at_call 26; refine (D7.out w8 (HS1.out.below HB8.out (by rw [Hbb.out]; exact Nat.le_refl _)).2.1 (Nat.le_trans (by rw [Hbb.out]; have := HS1.out.1; rw [Hbb.out] at this; exact this.size) HB8.out.size)).mono ?_; rintro e w9 ⟨rfl, hb9, hw9, hk9⟩; have q9 := KB.out w9 (HE.out w8 w9 (HG.out _ HB8.out) (HS1.out.below HB8.out (by rw [Hbb.out]; exact Nat.le_refl _)).2.1 hk9); have H9 := Lib.hid (And.intro hb9 (And.intro hw9 hk9)); clear hb9 hw9 hk9)
                | fail)
            have HS8 := HS1.out.below HB8.out (by rw [Hbb.out]; exact Nat.le_refl _)
            have HN9 : Hid (SavAt bb n1 w w9 bb (headB sd l i ++ partB l key (j + 1)) (i * 61 + (j + 1)) (.slice (some ⟨b, off, none⟩) m cap2) K) := Lib.hid ⟨HS8.1.trans H9.out.2.1, by
              rw [Hv.out.2, ← List.append_assoc]; exact H9.out.1, by
              have e9 : (i * 61 + (j + 1)) * 17000000 = (i * 61 + j) * 17000000 + 17000000 := by rw [← Nat.add_assoc, Nat.add_mul, Nat.one_mul]
              rw [Hv.out.2, ← List.append_assoc, List.length_append, e9, ← Nat.add_assoc]
              exact Nat.add_le_add HS8.2.2.1 HL.out, HS8.2.2.2.kept8 H9.out.2.2 HS8.2.1⟩
            clear HS8 q0 q3 q4 q5 q6 q7 q8 q9 HB3 HB4 HB5 HB6 HB7 HB8 H9 D1 D2 D3 D4 D5 D6 D7 r2 r3 r4 r5 r6 HG KB KT HE HS1
            go_wp2
            go_roundw
            case rel => exact ⟨j + 1, by omega, by go_num, HN9⟩
            case measure => simp [intOf]; omega
          · go_wp2
            go_roundw
            case rel => exact ⟨i + 1, by omega, by go_num, Lib.hid ⟨Hq.out.1, by
              rw [Hk.out.1]
              exact Hq.out.2.1, by
              rw [Hk.out.1]
              exact Nat.le_trans Hq.out.2.2.1 (Nat.add_le_add_left (Nat.mul_le_mul_right _ (by omega)) _), Hq.out.2.2.2⟩⟩
            case measure => simp [intOf]; omega
      · have hbw : Below w.heap.size w wr := by have := Hr.out.1; rw [Hbb.out] at this; exact this
        have hen : headB sd l m = saveB sd l := by rw [← HK.out.2, ← HK.out.1]; exact head_all H.out.2.1.1.1
        rw [hen] at Hr
        have hlen : (saveB sd l).length ≤ 70000000000 := by have := Hr.out.2.2.1; omega
        have Hbw := Lib.hid hbw
        clear hen hbw
        go_wp2_with fail
        refine (Tryz.Builder_String_any bb bb (saveB sd l) wr (.inr Hr.out.2.1) (by rw [Hbb.out]; exact Hbw.out.size)).mono ?_
        rintro e w3 ⟨rfl, hb3⟩
        have Hb3 := Lib.hid hb3
        clear hb3
        go_wp2_with fail
        refine (seal_walk ⟨(saveB sd l).toArray⟩ w3 (by rw [ba_size]; omega)).mono ?_
        rintro e w4 ⟨rfl, hb4⟩
        have Hb4 := Lib.hid hb4
        clear hb4
        go_wp2
        go_ret2
        refine ⟨rfl, ?_⟩
        have h3 : Below w.heap.size w w3 := Hbw.out.trans (by have := Hb3.out; rw [Hbb.out] at this; exact this)
        exact h3.trans (Hb4.out.mono h3.size)
end
end Go.Proofs.YthdicfcgkbepdaaGreatDoor
/- Walk of cut. -/
namespace Go.Proofs.YthdicfcgkbepdaaGreatDoor
section
open Go.RowKit Go.BigFrame

theorem indexByte_lt : ∀ (l : List UInt8) (c : UInt8), Lib.indexByte l c < (l.length : Int) ∨ l = []
  | [], c => .inr rfl
  | a :: l, c => by
    left
    rw [Lib.indexByte]
    split
    · simp
    · rcases indexByte_lt l c with h | h
      · split <;> simp only [List.length_cons] <;> omega
      · subst h
        simp [Lib.indexByte]
/-- strconv's two errors lie in the world. -/
def NumErr (w : World) : Prop := (∃ ev, w.cell? ⟨13, 0, none⟩ = some ev ∧ (ev = .nilIface ∨ ∃ te pe, ev = .iface te pe)) ∧ ∃ ev, w.cell? ⟨14, 0, none⟩ = some ev ∧ (ev = .nilIface ∨ ∃ te pe, ev = .iface te pe)
theorem NumErr.below {w w' : World} (h : NumErr w) {n : Nat} (hb : Below n w w') (hn : w.heap.size ≤ n) : NumErr w' := by
  obtain ⟨⟨e1, h1, h2⟩, ⟨e3, h3, h4⟩⟩ := h
  exact ⟨⟨e1, (hb.cell (Nat.lt_of_lt_of_le (lt_of_cell h1) hn)).trans h1, h2⟩, ⟨e3, (hb.cell (Nat.lt_of_lt_of_le (lt_of_cell h3) hn)).trans h3, h4⟩⟩
/-- what Atoi hands back: a number and nil, or something with an error. -/
def AtoiOut (w : World) (s : ByteArray) (e : Ending) (w' : World) : Prop := Below w.heap.size w w' ∧ ((∃ v, Lib.atoiAll s.data.toList = .ok v ∧ -9223372036854775808 ≤ v ∧ v ≤ 9223372036854775807 ∧ e = .returned (.tuple #[.int .i64 v, .nilIface])) ∨ (okN s.data.toList = none ∧ ∃ (z : Int) (te : TypeId) (pe : Value), -9223372036854775808 ≤ z ∧ z ≤ 9223372036854775807 ∧ e = .returned (.tuple #[.int .i64 z, .iface te pe])))
theorem atoi_walk (s : ByteArray) (w : World) (hs : s.size ≤ 281474976710656) (hE : NumErr w) : Calls Tryz.prog 22 #[.string s] w (AtoiOut w s) := by
  obtain ⟨⟨e1, h1, h2⟩, ⟨e3, h3, h4⟩⟩ := hE
  rcases hat : Lib.atoiAll s.data.toList with v | _ | _
  · refine (Tryz.strconv_Atoi_ok s (by omega) v hat w).mono ?_
    rintro e w' ⟨rfl, hw⟩
    refine ⟨?_, .inl ⟨v, hat, (Lib.atoiAll_bounds hat).1, (Lib.atoiAll_bounds hat).2, rfl⟩⟩
    rcases hw with rfl | ⟨t, rfl⟩
    · exact Below.refl _ _
    · exact Lib.bytesWorld_below _ _ _
  · refine (Any.strconv_Atoi_syntax Tryz.laysC172 s hs hat e1 w h1 h2).mono ?_
    rintro e w' ⟨N, rfl, _, _, hb⟩
    exact ⟨hb, .inr ⟨by unfold okN; rw [hat], 0, _, _, by omega, by omega, rfl⟩⟩
  · refine (Tryz.strconv_Atoi_range s hs hat e3 w h3 h4).mono ?_
    rintro e w' ⟨N, rfl, _, _, hb⟩
    exact ⟨hb, .inr ⟨by unfold okN; rw [hat], _, _, _, (Lib.atoiSat_bounds _).1, (Lib.atoiSat_bounds _).2, rfl⟩⟩
theorem ext_list (s : ByteArray) (a b : Nat) : (s.extract a b).data.toList = (s.data.toList.take b).drop a := by
  simp [List.drop_take]
def cutE (s : ByteArray) : Ending := match cutB s.data.toList with
  | none => .returned (.tuple #[.string ⟨#[]⟩, .string ⟨#[]⟩, .bool false])
  | some (t, r) => .returned (.tuple #[.string ⟨t.toArray⟩, .string ⟨r.toArray⟩, .bool true])
set_option maxRecDepth 100000 in
set_option maxHeartbeats 4000000 in
theorem cut_walk (s : ByteArray) (w : World) (hs : s.size ≤ 281474976710656) (hE : NumErr w) :
    Calls Tryz.prog 21 #[.string s] w fun e w' => e = cutE s ∧ Below w.heap.size w w' := by
  have hi := Tryz.strings_IndexByte s 58 w
  have h58 : ((58 : Int).toNat.toUInt8) = (58 : UInt8) := rfl
  rw [h58] at hi
  have hlt := indexByte_lt s.data.toList 58
  have hge := Lib.indexByte_ge s.data.toList 58
  have hsl : s.data.toList.length = s.size := by simp
  have hcE : cutE s = match cutB s.data.toList with
    | none => .returned (.tuple #[.string ⟨#[]⟩, .string ⟨#[]⟩, .bool false])
    | some (t, r) => .returned (.tuple #[.string ⟨t.toArray⟩, .string ⟨r.toArray⟩, .bool true]) := rfl
  unfold cutB at hcE
  obtain ⟨x, hx⟩ : ∃ x, Lib.indexByte s.data.toList 58 = x := ⟨_, rfl⟩
  rw [hx] at hi hge hcE hlt
  have Hi := Lib.hid hi
  by_cases hbad : x < 1 ∨ 6 < x
  · rw [if_pos hbad] at hcE
    rw [hcE]
    have hx2 : x ≤ 281474976710656 := by rcases hlt with h | h <;> first | omega | (rw [h] at hx; simp [Lib.indexByte] at hx; omega)
    clear hcE hlt hx hsl hi
    rcases hbad with hb | hb
    all_goals
      go_enter Tryz.func21, Tryz.ntmps21
      go_wp2_with fail
      refine Hi.out.mono ?_
      rintro e w1 ⟨rfl, rfl⟩
      go_wp2
      go_ret3
      exact ⟨rfl, Below.refl _ _⟩
  · rw [if_neg hbad] at hcE
    obtain ⟨k, rfl⟩ : ∃ k : Nat, x = (k : Int) := ⟨x.toNat, by omega⟩
    have hk1 : 1 ≤ k := by omega
    have hk6 : k ≤ 6 := by omega
    have hks : k < s.size := by
      rcases hlt with h | h
      · omega
      · rw [h] at hx; simp [Lib.indexByte] at hx
    have hext : (s.extract 0 k).data.toList = s.data.toList.take k := by rw [ext_list]; simp
    have Ha := fun W (hE : NumErr W) => atoi_walk (s.extract 0 k) W (by simp; omega) hE
    have hk9 : ((k : Int)).toNat = k := by omega
    have HA := Lib.hid Ha
    have hks2 : (k : Int) ≤ s.size := by omega
    have hks3 : (k : Int) < s.size := by omega
    rw [hk9] at hcE
    clear Ha hi hlt hx hge h58 hsl
    go_enter Tryz.func21, Tryz.ntmps21
    go_wp2_with fail
    refine Hi.out.mono ?_
    rintro e w1 ⟨rfl, rfl⟩
    go_wp2_with fail
    refine (HA.out _ hE).mono ?_
    rintro e w2 ⟨hb, ⟨v, hat, v1, v2, rfl⟩ | ⟨hno, z, te, pe, z1, z2, rfl⟩⟩
    · have Hb := Lib.hid hb
      rw [hext] at hat
      rw [hat] at hcE
      dsimp only at hcE
      clear hb hE
      by_cases hv : v < 0 ∨ (s.data.toList.length : Int) - k - 1 < v
      · rw [if_pos hv] at hcE
        have HE := Lib.hid hcE
        have hv2 : v < 0 ∨ (0 ≤ v ∧ (s.size : Int) - k - 1 < v) := by
          have hsl : s.data.toList.length = s.size := by simp
          rw [hsl] at hv; omega
        clear hcE hv hat hext
        rcases hv2 with h | ⟨h, h'⟩
        all_goals
          go_wp2
          go_ret3
          exact ⟨HE.out.symm, Hb.out⟩
      · rw [if_neg hv] at hcE
        obtain ⟨m, rfl⟩ : ∃ m : Nat, v = (m : Int) := ⟨v.toNat, by omega⟩
        have hm : k + 1 + m ≤ s.size := by
          have hsl : s.data.toList.length = s.size := by simp
          rw [hsl] at hv; omega
        have hm9 : ((m : Int)).toNat = m := by omega
        rw [hm9] at hcE
        dsimp only at hcE
        have hs1 : ∀ W, (Instr.slice 9 (.string s) (some (.int .i64 ((k : Int) + 1))) (some (.int .i64 ((k : Int) + 1 + m))) none).run Tryz.prog W = .ok (.string ⟨((s.data.toList.drop (k + 1)).take m).toArray⟩) W := fun W => by
          rw [run_slice_string W 9 s .i64 .i64 _ _ Tryz.underlying9 (by omega) (by omega) (by omega)]
          have e1 : ((k : Int) + 1).toNat = k + 1 := by omega
          have e2 : ((k : Int) + 1 + m).toNat = k + 1 + m := by omega
          rw [e1, e2]
          have : s.extract (k + 1) (k + 1 + m) = ⟨((s.data.toList.drop (k + 1)).take m).toArray⟩ := by
            apply data_inj
            rw [ext_list]
            simp [List.drop_take]
          rw [this]
        have hs2 : ∀ W, (Instr.slice 9 (.string s) (some (.int .i64 ((k : Int) + 1 + m))) none none).run Tryz.prog W = .ok (.string ⟨(s.data.toList.drop (k + 1 + m)).toArray⟩) W := fun W => by
          have h := run_slice_string_from_if (P := Tryz.prog) (w := W) 9 s .i64 ((k : Int) + 1 + m) Tryz.underlying9
          rw [if_pos (by omega)] at h
          have e2 : ((k : Int) + 1 + m).toNat = k + 1 + m := by omega
          rw [e2] at h
          have : s.extract (k + 1 + m) s.size = ⟨(s.data.toList.drop (k + 1 + m)).toArray⟩ := by
            apply data_inj
            rw [ext_list]
            have hsl : s.data.toList.length = s.size := by simp
            rw [← hsl, List.take_length]
          rw [this] at h
          exact h
        have hw1 : IntKind.i64.wrap ((k : Int) + 1) = (k : Int) + 1 := IntWalk.i64_in _ (by omega)
        have hw2 : IntKind.i64.wrap ((k : Int) + 1 + m) = (k : Int) + 1 + m := IntWalk.i64_in _ (by omega)
        have hmi : 0 ≤ (m : Int) := by omega
        have hmj : (m : Int) ≤ (s.size : Int) - k - 1 := by omega
        generalize (⟨((s.data.toList.drop (k + 1)).take m).toArray⟩ : ByteArray) = t at hs1 hcE
        generalize (⟨(s.data.toList.drop (k + 1 + m)).toArray⟩ : ByteArray) = r at hs2 hcE
        have HE := Lib.hid hcE
        clear hcE hv hat hext
        go_wp2_with fail
        go_quiet (fail)
        go_wp2
        go_ret3
        exact ⟨HE.out.symm, Hb.out.trans ((below_drewN' _ _).mono Hb.out.size)⟩
    · have Hb := Lib.hid hb
      have hno2 : okN (s.data.toList.take k) = none := by rw [← hext]; exact hno
      have HE : Hid (Ending.returned (.tuple #[.string ⟨#[]⟩, .string ⟨#[]⟩, .bool false]) = cutE s) := Lib.hid (by
        rw [hcE]
        unfold okN at hno2
        split at hno2
        · cases hno2
        · rename_i h9
          rcases hat : Lib.atoiAll (s.data.toList.take k) with v | _ | _
          · exact absurd hat (h9 v)
          · rfl
          · rfl)
      clear hb hE hcE hno hno2 hext
      go_wp2
      go_ret3
      exact ⟨HE.out, Hb.out⟩
end
end Go.Proofs.YthdicfcgkbepdaaGreatDoor
/- One hold alone; six texts; what Load needs. -/
namespace Go.Proofs.YthdicfcgkbepdaaGreatDoor
section
open Go.RowKit Go.BigFrame

/-- a hold at hb, of blocks of P; what is new is of P. -/
def OneH (P : Nat → Prop) (w : World) (hb : Nat) (sd : Bool) (l : List Kp) : Prop :=
  ∃ (F : Nat → Prop) (ks : List ByteArray) (S : ByteArray → Value), HoldAt F w hb sd (getL l) ks S ∧ (∀ b, F b → P b ∧ b < w.heap.size) ∧ ∀ b, w.heap.size ≤ b → P b
theorem OneH.below {P : Nat → Prop} {w w' : World} {hb : Nat} {sd : Bool} {l : List Kp} (h : OneH P w hb sd l) {n : Nat} (hk : Below n w w') (hn : w.heap.size ≤ n) : OneH P w' hb sd l := by
  obtain ⟨F, ks, S, h1, h4, hB⟩ := h
  exact ⟨F, ks, S, h1.below hk hn, fun b hb => ⟨(h4 b hb).1, Nat.lt_of_lt_of_le (h4 b hb).2 hk.size⟩, fun b hb => hB b (Nat.le_trans hk.size hb)⟩
theorem OneH.mono {P Q : Nat → Prop} {w : World} {hb : Nat} {sd : Bool} {l : List Kp} (h : OneH P w hb sd l) (hPQ : ∀ b, P b → Q b) : OneH Q w hb sd l := by
  obtain ⟨F, ks, S, h1, h4, hB⟩ := h
  exact ⟨F, ks, S, h1, fun b hb => ⟨hPQ b (h4 b hb).1, (h4 b hb).2⟩, fun b hb => hPQ b (hB b hb)⟩
theorem OneH.past {P : Nat → Prop} {w w' : World} {hb : Nat} {sd : Bool} {l : List Kp} (h : OneH P w hb sd l) (hk : Below w.heap.size w w') : OneH (fun b => P b ∧ (b < w.heap.size ∨ w'.heap.size ≤ b)) w' hb sd l := by
  obtain ⟨F, ks, S, h1, h4, hB⟩ := h
  exact ⟨F, ks, S, h1.below hk (Nat.le_refl _), fun b hb => ⟨⟨(h4 b hb).1, .inl (h4 b hb).2⟩, Nat.lt_of_lt_of_le (h4 b hb).2 hk.size⟩, fun b hb => ⟨hB b (Nat.le_trans hk.size hb), .inr hb⟩⟩
theorem OneH.kept {P Q : Nat → Prop} {w w' : World} {hb : Nat} {sd : Bool} {l : List Kp} (h : OneH P w hb sd l) (hk : KeptBut Q w w') (hPQ : ∀ b, P b → b < w.heap.size → ¬ Q b) : OneH P w' hb sd l := by
  obtain ⟨F, ks, S, h1, h4, hB⟩ := h
  exact ⟨F, ks, S, h1.kept hk (fun b hb hf => hPQ b (h4 b hf).1 hb), fun b hb => ⟨(h4 b hb).1, Nat.lt_of_lt_of_le (h4 b hb).2 hk.size⟩, fun b hb => hB b (Nat.le_trans hk.size hb)⟩
theorem one_hput {P : Nat → Prop} {w : World} {hb : Nat} {sd : Bool} {l : List Kp} (h : OneH P w hb sd l) (hf : Fine l) (E : Nat → Addr) (hE : ErrHx w E) (key : ByteArray) (x1 x2 x3 x4 : Int) (x5 : ByteArray) (hk : key.size ≤ maxLen) :
    Calls Tryz.prog 15 #[.pointer (some ⟨hb, 0, none⟩), .string key, .agg #[.int .i64 x1, .int .i64 x2, .int .i64 x3, .int .i64 x4, .string x5]] w fun e w' => (∃ v, e = .returned v ∧ errOf E (putM (errM sd l key (x1, x2, x3, x4, x5))) v) ∧ OneH P w' hb sd (afterP sd l key (x1, x2, x3, x4, x5)) ∧ KeptBut P w w' := by
  obtain ⟨F, ks, S, h1, h4, hB⟩ := h
  have ht := h1.tot
  refine (hput_any F w hb sd (getL l) ks S key x1 x2 x3 x4 x5 E h1 hE hk (by rw [ht]; have := hf.2; omega) (hf.1.get key)).mono fun e w' hp => ?_
  obtain ⟨hkp, hc⟩ := hp
  have fin : ∀ {F' : Nat → Prop} {l' : List Kp} {ks' : List ByteArray} {S' : ByteArray → Value}, (∀ b, F' b → F b ∨ w.heap.size ≤ b) → HoldAt F' w' hb sd (getL l') ks' S' → OneH P w' hb sd l' ∧ KeptBut P w w' := fun {F' l' ks' S'} hF h => by
    refine ⟨⟨_, ks', S', h.restrict, fun b hb => ⟨?_, hb.2⟩, fun b hb => hB b (Nat.le_trans hkp.size hb)⟩, hkp.mono (fun k _ hf => (h4 k hf).1)⟩
    rcases hF b hb.1 with h9 | h9
    · exact (h4 b h9).1
    · exact hB b h9
  have hs := err_same (sd := sd) (key := key) (x := (x1, x2, x3, x4, x5)) hf.1 ht
  unfold afterP putM
  rcases hc with ⟨i, hpe, he, hh⟩ | ⟨hpe, hhv, he, hh⟩ | ⟨hpe, hhv, he, S', hh⟩
  · rcases hs with ⟨j, h6, h7, h8⟩ | ⟨h6, _⟩ | ⟨h6, _⟩
    · rw [hpe] at h6
      obtain rfl := Option.some.inj h6
      rw [h7, if_neg (by omega), if_neg (by omega)]
      exact ⟨⟨_, he, .inr ⟨i, by omega, by omega, rfl⟩⟩, fin (fun b hb => .inl hb) hh⟩
    · rw [hpe] at h6; cases h6
    · rw [hpe] at h6; cases h6
  · rcases hs with ⟨j, h6, _⟩ | ⟨_, _, h7⟩ | ⟨_, h7, _⟩
    · rw [hpe] at h6; cases h6
    · rw [h7, if_pos (by omega), if_neg (by omega)]
      exact ⟨⟨_, he, .inl ⟨rfl, rfl⟩⟩, fin (fun b hb => .inl hb) hh⟩
    · rw [hhv] at h7; cases h7
  · rcases hs with ⟨j, h6, _⟩ | ⟨_, h7, _⟩ | ⟨_, _, h7, _⟩
    · rw [hpe] at h6; cases h6
    · rw [hhv] at h7; cases h7
    · rw [h7, if_neg (by omega), if_pos rfl]
      rw [← getL_ins hf.1] at hh
      exact ⟨⟨_, he, .inl ⟨rfl, rfl⟩⟩, fin (fun b hb => hb) hh⟩
/-- a row of cells at b. -/
def RowIs (w : World) (b : Nat) (T : TypeId) (vs : List Value) : Prop := w.heap[b]? = some (.cells vs.toArray T (0, 0))
theorem RowIs.cell {w : World} {b : Nat} {T : TypeId} {vs : List Value} (h : RowIs w b T vs) (j : Nat) : w.cell? ⟨b, j, none⟩ = vs[j]? := by
  rw [cell_of_heap h j]; simp
theorem RowIs.frozen {w : World} {b : Nat} {T : TypeId} {vs : List Value} (h : RowIs w b T vs) (j : Nat) : w.frozen? ⟨b, j, none⟩ = false := Lib.frozen_of_heap h j
theorem RowIs.lt {w : World} {b : Nat} {T : TypeId} {vs : List Value} (h : RowIs w b T vs) : b < w.heap.size := (Array.getElem?_eq_some_iff.1 h).1
theorem RowIs.set {w : World} {b : Nat} {T : TypeId} {vs : List Value} (h : RowIs w b T vs) (j : Nat) (v : Value) : RowIs (w.setCell ⟨b, j, none⟩ v) b T (vs.set j v) := by
  unfold RowIs at h ⊢
  simp [World.setCell, Array.getElem?_modify, h, Array.setIfInBounds_def]
  exact fun h => (List.set_eq_of_length_le h).symm
theorem RowIs.below {w w' : World} {b n : Nat} {T : TypeId} {vs : List Value} (h : RowIs w b T vs) (hk : Below n w w') (hn : b < n) : RowIs w' b T vs := (hk.block b hn).trans h
theorem RowIs.kept {P : Nat → Prop} {w w' : World} {b : Nat} {T : TypeId} {vs : List Value} (h : RowIs w b T vs) (hk : KeptBut P w w') (hP : ¬ P b) : RowIs w' b T vs := (hk.block b h.lt hP).trans h
theorem keptBut_set {w : World} {b j : Nat} {v : Value} : KeptBut (fun k => k = b) w (w.setCell ⟨b, j, none⟩ v) := ⟨rfl, rfl, rfl, by simp [World.setCell], fun k _ h2 => Below.heap_setCell _ _ _ _ h2⟩
theorem below_set {w : World} {n b j : Nat} {v : Value} (h : n ≤ b) : Below n w (w.setCell ⟨b, j, none⟩ v) := (Below.refl _ _).setCell (p := ⟨b, j, none⟩) h _
theorem pre_of (l p : List UInt8) : Lib.hasPrefix l p = decide (l.take p.length = p) := by
  unfold Lib.hasPrefix
  rw [Bool.eq_iff_iff, List.isPrefixOf_iff_prefix, decide_eq_true_eq, List.prefix_iff_eq_take]
  exact ⟨fun h => h.symm, fun h => h.symm⟩
theorem OneH.seal_ {P : Nat → Prop} {w : World} {hb : Nat} {sd : Bool} {l : List Kp} (h : OneH P w hb sd l) (b : Bool) : OneH P (w.setCell ⟨hb, 1, none⟩ (.bool b)) hb b l := by
  obtain ⟨F, ks, S, h1, h4, hB⟩ := h
  exact ⟨F, ks, S, h1.seal_ b, fun b hb => ⟨(h4 b hb).1, by simpa [World.setCell] using (h4 b hb).2⟩, fun b hb => hB b (by simpa [World.setCell] using hb)⟩
theorem OneH.new {n : Nat} {w : World} {hb : Nat} (h : RowIs w hb 38 [.map none, .bool false]) (hn : n ≤ hb) : OneH (fun b => n ≤ b) w hb false [] := by
  refine ⟨fun b => b = hb, [], fun _ => .slice none 0 0, ?_, fun b e => ?_, fun b h9 => ?_⟩
  · rw [getL_nil]
    exact HoldAt.empty rfl (h.cell 0) (h.cell 1) (h.frozen 0) (h.frozen 1)
  · rw [e]; exact ⟨hn, h.lt⟩
  · have := h.lt; omega
theorem OneH.c1 {P : Nat → Prop} {w : World} {hb : Nat} {sd : Bool} {l : List Kp} (h : OneH P w hb sd l) : w.cell? ⟨hb, 1, none⟩ = some (.bool sd) ∧ w.frozen? ⟨hb, 1, none⟩ = false ∧ P hb ∧ hb < w.heap.size := by
  obtain ⟨F, ks, S, h1, h4, hB⟩ := h
  exact ⟨h1.c1, h1.f1, (h4 hb h1.hF).1, h1.hlt⟩
theorem one_save {P : Nat → Prop} {w : World} {hb : Nat} {sd : Bool} {l : List Kp} (h : OneH P w hb sd l) (hf : FineR l) (ht : TabAt w) :
    Calls Tryz.prog 9 #[.pointer (some ⟨hb, 0, none⟩)] w fun e w' => e = .returned (.tuple #[.string ((⟨(saveB sd l).toArray⟩ : ByteArray) ++ fourS (Sm.crc (Sm.nats ⟨(saveB sd l).toArray⟩))), .nilIface]) ∧ Below w.heap.size w w' := by
  obtain ⟨F, ks, S, h1, h4, hB⟩ := h
  exact save_walk h1 hf ht
/-- what Load hands back. -/
def rLoad (p : Option Addr) (v : Value) : Ending := .returned (.tuple #[.pointer p, v])
def LoadPost (E : Nat → Addr) (w w' : World) (s : ByteArray) (e : Ending) : Prop :=
  Below w.heap.size w w' ∧
  ((s.size < 4 ∧ e = rLoad none (errV (E 0))) ∨ (4 ≤ s.size ∧ fourS (Sm.crc (Sm.nats (bodyOf s))) ≠ tailOf s ∧ e = rLoad none (errV (E 8))) ∨
   (4 ≤ s.size ∧ fourS (Sm.crc (Sm.nats (bodyOf s))) = tailOf s ∧ ((loadB (bodyOf s).data.toList = none ∧ e = rLoad none (errV (E 0))) ∨
     ∃ l sd hb, loadB (bodyOf s).data.toList = some (l, sd) ∧ FineR l ∧ OneH (fun b => w.heap.size ≤ b) w' hb sd l ∧ e = rLoad (some ⟨hb, 0, none⟩) .nilIface)))
end
end Go.Proofs.YthdicfcgkbepdaaGreatDoor
/- Walk of Load. -/
namespace Go.Proofs.YthdicfcgkbepdaaGreatDoor
section
open Go.RowKit Go.BigFrame

set_option maxRecDepth 100000 in
set_option maxHeartbeats 4000000 in
theorem load_fail (E : Nat → Addr) (i : Nat) (s : ByteArray) (w : World) (h : Calls Tryz.prog 19 #[.string s] w fun e w' => e = .returned (.tuple #[.string ⟨#[]⟩, errV (E i)]) ∧ Below w.heap.size w w') :
    Calls Tryz.prog 6 #[.string s] w (fun e w' => e = rLoad none (errV (E i)) ∧ Below w.heap.size w w') := by
  have h1 := Lib.hid h
  clear h
  go_enter Tryz.func6, Tryz.ntmps6
  go_wp2_with fail
  refine h1.out.mono ?_
  rintro e w1 ⟨rfl, hb⟩
  go_wp2
  go_ret2
  exact ⟨rfl, hb⟩
/-- a string's length. -/
def strZ : Value → Nat
  | .string s => s.size
  | _ => 0
theorem split_s {s : ByteArray} : s = bodyOf s ++ tailOf s := by
  apply data_inj
  rw [append_list]
  unfold bodyOf tailOf
  rw [ext_list, ext_list]
  have hsl : s.data.toList.length = s.size := by simp
  rw [List.drop_zero, ← hsl, List.take_length, List.take_append_drop]
/-- six texts, so many of them cut. -/
def cutV (ts : List (List UInt8)) : List Value := (ts.map fun t => Value.string ⟨t.toArray⟩) ++ List.replicate (6 - ts.length) (.string ⟨#[]⟩)
theorem cutV_set {ts : List (List UInt8)} {t : List UInt8} {i : Nat} (h : ts.length = i) (hi : i < 6) : (cutV ts).set i (.string ⟨t.toArray⟩) = cutV (ts ++ [t]) := by
  unfold cutV
  obtain ⟨k, hk⟩ : ∃ k, 6 - ts.length = k + 1 := ⟨5 - i, by omega⟩
  have hk2 : 6 - (ts ++ [t]).length = k := by rw [List.length_append, List.length_singleton]; omega
  rw [hk, hk2, List.replicate_succ, List.set_append_right _ _ (by rw [List.length_map]; omega), List.length_map, h, Nat.sub_self]
  simp
theorem cutV_at {ts : List (List UInt8)} {i : Nat} (h : ts.length = i) (hi : i < 6) : (cutV ts)[i]? = some (.string ⟨#[]⟩) := by
  unfold cutV
  rw [List.getElem?_append_right (by rw [List.length_map]; omega), List.length_map, h, Nat.sub_self]
  rw [List.getElem?_replicate, if_pos (by omega)]
theorem six_of {ts : List (List UInt8)} (h : ts.length = 6) : ∃ s0 s1 s2 s3 s4 s5, ts = [s0, s1, s2, s3, s4, s5] := by
  match ts, h with
  | [s0, s1, s2, s3, s4, s5], _ => exact ⟨s0, s1, s2, s3, s4, s5, rfl⟩
def CuSt (ab : Nat) (wo wq : World) (r0 : List UInt8) (i : Nat) (r' : List UInt8) : Prop := ∃ ts, ts.length = i ∧ Below ab wo wq ∧ RowIs wq ab 65 (cutV ts) ∧ cutN 6 r0 = (cutN (6 - i) r').map (fun p => (ts ++ p.1, p.2)) ∧ r'.length ≤ r0.length
theorem cutN_fail {n : Nat} {r : List UInt8} (h : cutB r = none) (hn : 0 < n) : cutN n r = none := by
  obtain ⟨k, rfl⟩ : ∃ k, n = k + 1 := ⟨n - 1, by omega⟩
  rw [cutN, h]
theorem cutN_step {n : Nat} {r t r' : List UInt8} (h : cutB r = some (t, r')) (hn : 0 < n) : cutN n r = (cutN (n - 1) r').map fun p => (t :: p.1, p.2) := by
  obtain ⟨k, rfl⟩ : ∃ k, n = k + 1 := ⟨n - 1, by omega⟩
  rw [cutN, h]
  rfl
/-- a version, so many of its numbers read. -/
def verN (ns : List Int) (s5 : List UInt8) : List Value := ns.map (Value.int .i64) ++ (List.replicate (4 - ns.length) (.int .i64 0) ++ [.string ⟨s5.toArray⟩])
theorem verN_set {ns : List Int} {s5 : List UInt8} {v : Int} {i : Nat} (h : ns.length = i) (hi : i < 4) : (verN ns s5).set i (.int .i64 v) = verN (ns ++ [v]) s5 := by
  unfold verN
  obtain ⟨k, hk⟩ : ∃ k, 4 - ns.length = k + 1 := ⟨3 - i, by omega⟩
  have hk2 : 4 - (ns ++ [v]).length = k := by rw [List.length_append, List.length_singleton]; omega
  rw [hk, hk2, List.replicate_succ, List.set_append_right _ _ (by rw [List.length_map]; omega), List.length_map, h, Nat.sub_self]
  simp
theorem verN_at {ns : List Int} {s5 : List UInt8} {i : Nat} (h : ns.length = i) (hi : i < 4) : (verN ns s5)[i]? = some (.int .i64 0) := by
  unfold verN
  rw [List.getElem?_append_right (by rw [List.length_map]; omega), List.length_map, h, Nat.sub_self]
  rw [List.getElem?_append_left (by rw [List.length_replicate]; omega), List.getElem?_replicate, if_pos (by omega)]
def ptrV (vb : Nat) : List Value := [.pointer (some ⟨vb, 0, none⟩), .pointer (some ⟨vb, 1, none⟩), .pointer (some ⟨vb, 2, none⟩), .pointer (some ⟨vb, 3, none⟩)]
theorem ptrV_at {vb i : Nat} (hi : i < 4) : (ptrV vb)[i]? = some (.pointer (some ⟨vb, i, none⟩)) := by
  obtain rfl | rfl | rfl | rfl : i = 0 ∨ i = 1 ∨ i = 2 ∨ i = 3 := by omega
  all_goals rfl
def NuSt (ab vb : Nat) (wo wq : World) (ts : List (List UInt8)) (s5 : List UInt8) (j : Nat) : Prop := ∃ ns : List Int, ns.length = j ∧ Below ab wo wq ∧ RowIs wq ab 65 (ts.map fun t => Value.string ⟨t.toArray⟩) ∧ RowIs wq vb 49 (verN ns s5) ∧ RowIs wq (vb + 1) 68 (ptrV vb) ∧ (∀ k, k < j → okN (ts[k + 1]?.getD []) = some (ns[k]?.getD 0)) ∧ ab < vb
theorem four_of {ns : List Int} (h : ns.length = 4) : ∃ a b c d, ns = [a, b, c, d] := by
  match ns, h with
  | [a, b, c, d], _ => exact ⟨a, b, c, d, rfl⟩
theorem putR_bad {l : List Kp} {ts : List (List UInt8)} {k : Nat} (hk : k < 4) (h : okN (ts[k + 1]?.getD []) = none) : putR l ts = none := by
  unfold putR
  obtain rfl | rfl | rfl | rfl : k = 0 ∨ k = 1 ∨ k = 2 ∨ k = 3 := by omega
  all_goals
    simp only [Nat.zero_add, Nat.reduceAdd] at h
    rw [h] <;> first
      | rfl
      | (split <;> first
          | rfl
          | (rename_i e1 e2 e3 e4; first | cases e1 | cases e2 | cases e3 | cases e4))
theorem cutB_len {s t r : List UInt8} (h : cutB s = some (t, r)) : t.length ≤ s.length := by
  unfold cutB at h
  split at h
  · cases h
  · split at h
    · split at h
      · cases h
      · simp only [Option.some.injEq, Prod.mk.injEq] at h
        rw [← h.1, List.length_take, List.length_drop]
        omega
    · cases h
theorem cutN_len : ∀ (n : Nat) {s : List UInt8} {ts : List (List UInt8)} {r : List UInt8}, cutN n s = some (ts, r) → ∀ t ∈ ts, t.length ≤ s.length
  | 0, s, ts, r, h, t, ht => by
    simp only [cutN, Option.some.injEq, Prod.mk.injEq] at h
    rw [← h.1] at ht; cases ht
  | n + 1, s, ts, r, h, t, ht => by
    rw [cutN] at h
    split at h
    · cases h
    · rename_i t' r' hc
      cases hn : cutN n r' with
      | none => rw [hn] at h; cases h
      | some p =>
        rw [hn] at h
        simp only [Option.map_some, Option.some.injEq, Prod.mk.injEq] at h
        rw [← h.1] at ht
        rcases List.mem_cons.1 ht with rfl | ht
        · exact cutB_len hc
        · have h1 := cutN_len n hn t ht
          have h2 := cutB_lt hc
          omega
def LoSt (n0 : Nat) (w0 : World) (hb : Nat) (wr : World) (R0 r : List UInt8) : Prop := ∃ l, Below n0 w0 wr ∧ OneH (fun b => n0 ≤ b) wr hb false l ∧ FineR l ∧ loadR [] R0 = loadR l r ∧ r.length ≤ R0.length
set_option maxRecDepth 100000 in
set_option maxHeartbeats 8000000 in
theorem load_ok (E : Nat → Addr) (s : ByteArray) (w : World) (hE : ErrEnv w E) (hN : NumErr w) (hT : TabAt w) (hs : 4 ≤ s.size) (hs2 : s.size ≤ 1000000) (hne : fourS (Sm.crc (Sm.nats (bodyOf s))) = tailOf s) :
    Calls Tryz.prog 6 #[.string s] w (fun e w' => Below w.heap.size w w' ∧ ((loadB (bodyOf s).data.toList = none ∧ e = rLoad none (errV (E 0))) ∨
     ∃ l sd hb, loadB (bodyOf s).data.toList = some (l, sd) ∧ FineR l ∧ OneH (fun b => w.heap.size ≤ b) w' hb sd l ∧ e = rLoad (some ⟨hb, 0, none⟩) .nilIface)) := by
  have H0 := Lib.hid (open_ok s w hs (by omega) hne)
  have HH := Lib.hid (And.intro hE (And.intro hN hT))
  obtain ⟨T, hTT⟩ : ∃ T, (bodyOf s).data.toList = T := ⟨_, rfl⟩
  have hb : bodyOf s = ⟨T.toArray⟩ := by rw [← hTT]
  have hTl : T.length ≤ 1000000 := by
    rw [← hTT]
    have : (bodyOf s).data.toList.length = (bodyOf s).size := by simp
    rw [this]; unfold bodyOf; simp; omega
  have HS := Lib.hid (And.intro hne hb)
  rw [hTT]
  rw [hb] at H0
  have hp1 : ∀ W, Calls Tryz.prog 20 #[.string ⟨T.toArray⟩, .string ⟨#[104, 111, 108, 100]⟩] W fun e w' => e = .returned (.tuple #[.string ⟨(Lib.trimPrefix T holdW).toArray⟩, .bool (Lib.hasPrefix T holdW)]) ∧ w' = W := fun W => Tryz.strings_CutPrefix ⟨T.toArray⟩ ⟨#[104, 111, 108, 100]⟩ W
  have hp2 : ∀ (U : List UInt8) W, Calls Tryz.prog 20 #[.string ⟨U.toArray⟩, .string ⟨#[33]⟩] W fun e w' => e = .returned (.tuple #[.string ⟨(Lib.trimPrefix U [33]).toArray⟩, .bool (Lib.hasPrefix U [33])]) ∧ w' = W := fun (U : List UInt8) W => Tryz.strings_CutPrefix ⟨U.toArray⟩ ⟨#[33]⟩ W
  clear hE hN hT hne hTT hb
  go_enter Tryz.func6, Tryz.ntmps6
  go_wp2_with fail
  refine H0.out.mono ?_
  rintro e w1 ⟨rfl, hb1⟩
  have HB1 := Lib.hid hb1
  clear hb1 H0
  go_wp2_with fail
  have HP2 := Lib.hid hp2
  refine (hp1 w1).mono ?_
  rintro e w2 ⟨rfl, rfl⟩
  clear hp1 hp2
  have hz := (HH.out.1.below HB1.out (Nat.le_refl _)).c0
  by_cases hpre : T.take 4 = holdW
  · have hq1 : Lib.hasPrefix T holdW = true := by rw [pre_of]; exact decide_eq_true hpre
    have hq2 : Lib.trimPrefix T holdW = T.drop 4 := by unfold Lib.trimPrefix; rw [hq1, if_pos rfl]; rfl
    have HQ := Lib.hid hpre
    rw [hq1, hq2]
    clear hq1 hq2 hpre
    go_wp2_with fail
    refine (HP2.out (T.drop 4) w2).mono ?_
    rintro e w3 ⟨rfl, rfl⟩
    obtain ⟨R0, hR0⟩ : ∃ R0, (if (T.drop 4).take 1 = [33] then T.drop 5 else T.drop 4) = R0 := ⟨_, rfl⟩
    obtain ⟨sd, hsd⟩ : ∃ sd, decide ((T.drop 4).take 1 = [33]) = sd := ⟨_, rfl⟩
    have hq1 : Lib.hasPrefix (T.drop 4) [33] = sd := by rw [pre_of]; exact hsd
    have hq2 : Lib.trimPrefix (T.drop 4) [33] = R0 := by
      unfold Lib.trimPrefix
      rw [hq1, ← hR0, ← hsd]
      by_cases h9 : (T.drop 4).take 1 = [33]
      · rw [if_pos h9, if_pos (decide_eq_true h9), List.drop_drop]; rfl
      · rw [if_neg h9, if_neg (by simpa using h9)]
    have hlB : loadB T = match loadR [] R0 with
      | none => none
      | some l => if saveB sd l = T then some (l, sd) else none := by
      unfold loadB
      rw [if_pos HQ.out, hR0, hsd]
      cases loadR [] R0 <;> rfl
    have hRl : R0.length ≤ 1000000 := by rw [← hR0]; split <;> simp <;> omega
    rw [hq1, hq2]
    have HL := Lib.hid (And.intro hlB hRl)
    clear hq1 hq2 hR0 hsd hlB hRl HP2
    go_wp2_with fail
    obtain ⟨W3, hW3⟩ : ∃ W3, w3.alloc (.cells #[.map none, .bool false] 38) = W3 := ⟨_, rfl⟩
    obtain ⟨hb, hhb⟩ : ∃ hb, w3.heap.size = hb := ⟨_, rfl⟩
    have hr3 : RowIs W3 hb 38 [.map none, .bool false] := by rw [← hW3, ← hhb]; exact heap_alloc_new _ _
    have hn3 : w.heap.size ≤ hb := by rw [← hhb]; exact HB1.out.size
    have hb3 : Below w.heap.size w W3 := by rw [← hW3]; exact HB1.out.trans ((Below.refl _ _).alloc HB1.out.size _)
    rw [hW3, hhb]
    have HST : Hid (LoSt w.heap.size w hb W3 R0 R0) := Lib.hid ⟨[], hb3, OneH.new hr3 hn3, FineR.nil, rfl, Nat.le_refl _⟩
    clear hW3 hhb hr3 hn3 hb3 hz
    go_loopw [6] (fun v6 wr => ∃ r : ByteArray, v6 = .string r ∧ Hid (LoSt w.heap.size w hb wr R0 r.data.toList)) (fun v6 _ => strZ v6)
    case atStart => exact ⟨⟨R0.toArray⟩, rfl, HST⟩
    case round =>
      obtain ⟨r, rfl, Hr⟩ := hrel
      clear HST
      obtain ⟨l, hbr, hone, hfr, hld, hlen⟩ := Hr.out
      by_cases hr0 : r = ⟨#[]⟩
      · subst hr0
        have hl0 : loadR [] R0 = some l := by rw [hld]; exact loadR_nil l
        have h91 : ((⟨#[]⟩ : ByteArray).toList == (⟨#[]⟩ : ByteArray).toList) = true := by simp
        have hsl := hone.seal_ sd
        obtain ⟨c1, f1, hP, hlt⟩ := hone.c1
        have HF := Lib.hid (And.intro hbr (And.intro hone (And.intro hfr (And.intro hl0 hsl))))
        clear hbr hone hfr hld hlen hl0 hsl Hr
        go_wp2_with fail
        refine (one_save HF.out.2.2.2.2 HF.out.2.2.1 (HH.out.2.2.below (HF.out.1.trans (below_set hP)) (Nat.le_refl _))).mono ?_
        rintro e w8 ⟨rfl, hb8⟩
        have HB8 := Lib.hid (And.intro ((HF.out.1.trans (below_set hP)).trans (hb8.mono (HF.out.1.trans (below_set (v := .bool sd) (j := 1) hP)).size)) (HF.out.2.2.2.2.below hb8 (Nat.le_refl _)))
        have hz8 := (HH.out.1.below HB8.out.1 (Nat.le_refl _)).c0
        clear hb8
        obtain ⟨X, hX⟩ : ∃ X, (⟨(saveB sd l).toArray⟩ : ByteArray) ++ fourS (Sm.crc (Sm.nats ⟨(saveB sd l).toArray⟩)) = X := ⟨_, rfl⟩
        rw [hX]
        by_cases hsv : saveB sd l = T
        · have hXs : X = s := by
            rw [← hX, hsv, ← HS.out.2, HS.out.1]
            exact split_s.symm
          subst hXs
          have h92 : (X.toList == X.toList) = true := by simp
          have HR := Lib.hid (show loadB T = some (l, sd) by rw [HL.out.1, HF.out.2.2.2.1]; dsimp only; rw [if_pos hsv])
          clear hX hsv hz8
          go_wp2
          go_ret2
          exact ⟨HB8.out.1, .inr ⟨l, sd, hb, HR.out, HF.out.2.2.1, HB8.out.2, rfl⟩⟩
        · have hXs : X ≠ s := fun e => by
            refine hsv ?_
            have h7 : bodyOf X = ⟨(saveB sd l).toArray⟩ := by rw [← hX]; exact bodyOf_append (fourS_size _)
            rw [e, HS.out.2] at h7
            have := congrArg (fun b : ByteArray => b.data.toList) h7
            exact this.symm
          have h92 := ne_list hXs
          have HR := Lib.hid (show loadB T = none by rw [HL.out.1, HF.out.2.2.2.1]; dsimp only; rw [if_neg hsv])
          clear hX hsv hXs
          go_wp2_with fail
          go_quiet (fail)
          go_wp2
          go_ret2
          exact ⟨HB8.out.1.trans ((below_drewN' _ _).mono HB8.out.1.size), .inl ⟨HR.out, rfl⟩⟩
      · have hne0 : r.toList.isEmpty = false := by have := ne_list hr0; simpa using this
        obtain ⟨ab, hab⟩ : ∃ ab, wr.heap.size = ab := ⟨_, rfl⟩
        have HF := Lib.hid (And.intro hbr (And.intro hone (And.intro hfr (And.intro hld hlen))))
        clear hbr hone hfr hld hlen
        go_wp2_with fail
        obtain ⟨W1, hW1⟩ : ∃ W1, wr.alloc (.cells #[.string ⟨#[]⟩, .string ⟨#[]⟩, .string ⟨#[]⟩, .string ⟨#[]⟩, .string ⟨#[]⟩, .string ⟨#[]⟩] 65) = W1 := ⟨_, rfl⟩
        have hra : RowIs W1 ab 65 (cutV []) := by rw [← hW1, ← hab]; exact heap_alloc_new _ _
        have hb1 : Below ab wr W1 := by rw [← hW1, ← hab]; exact (Below.refl _ _).alloc (Nat.le_refl _) _
        rw [hW1]
        have HC0 : Hid (CuSt ab wr W1 r.data.toList 0 r.data.toList) := Lib.hid ⟨[], rfl, hb1, hra, by cases cutN 6 r.data.toList <;> simp, Nat.le_refl _⟩
        have hrz : r.data.toList.length ≤ 1000000 := Nat.le_trans HF.out.2.2.2.2 HL.out.2
        have HA := Lib.hid (And.intro hab hrz)
        clear hra hb1 hW1 hab hrz
        obtain ⟨wo, hwo⟩ : ∃ wo, wo = wr := ⟨_, rfl⟩
        subst hwo
        go_loopw [42, 6] (fun vi v6 wq => ∃ (i : Nat) (q : ByteArray), i ≤ 6 ∧ vi = .int .i64 i ∧ v6 = .string q ∧ Hid (CuSt ab wo wq r.data.toList i q.data.toList)) (fun vi _ _ => 6 - (intOf vi).toNat)
        case atStart => exact ⟨0, r, by omega, rfl, rfl, HC0⟩
        case round =>
          obtain ⟨i, q, hi, rfl, rfl, Hq⟩ := hrel
          clear HC0
          obtain ⟨ts, htl, hbq, hrow, hcut, hrl⟩ := Hq.out
          have hi2 : i < 6 ∨ i = 6 := by omega
          have hoab : wo.heap.size ≤ ab := Nat.le_of_eq HA.out.1
          have hbw : Below w.heap.size w wr := HF.out.1.trans (hbq.mono (by have := HF.out.1.size; rw [HA.out.1] at this; exact this))
          rcases hi2 with hilt | rfl
          · have hilt2 : (i : Int) < 6 := by omega
            have hqz : q.size ≤ 281474976710656 := by
              have h1 := HA.out.2
              have h2 : q.data.toList.length = q.size := by simp
              omega
            have hcw := cut_walk q wr hqz (HH.out.2.1.below hbw (Nat.le_refl _))
            have hcE : cutE q = match cutB q.data.toList with
              | none => .returned (.tuple #[.string ⟨#[]⟩, .string ⟨#[]⟩, .bool false])
              | some (t, r) => .returned (.tuple #[.string ⟨t.toArray⟩, .string ⟨r.toArray⟩, .bool true]) := rfl
            cases hcb : cutB q.data.toList with
            | none =>
              rw [hcb] at hcE
              dsimp only at hcE
              rw [hcE] at hcw
              have hbad : loadB T = none := by
                rw [HL.out.1, HF.out.2.2.2.1, loadR_none (fun e => hr0 (by apply data_inj; rw [e])) (by rw [hcut, cutN_fail hcb (by omega)]; rfl)]
              have HX := Lib.hid (And.intro hbad (And.intro hbq (And.intro hrow hbw)))
              have HCW := Lib.hid hcw
              have hzz := fun (W : World) (h : Below w.heap.size w W) => (HH.out.1.below h (Nat.le_refl _)).c0
              have HZ := Lib.hid hzz
              have c0 : ∀ W, Below wr.heap.size wr W → W.cell? ⟨ab, i, none⟩ = some (.string ⟨#[]⟩) ∧ W.frozen? ⟨ab, i, none⟩ = false := fun W h => ⟨((hrow.below h hrow.lt).cell i).trans (cutV_at htl hilt), (hrow.below h hrow.lt).frozen i⟩
              have HC := Lib.hid c0
              clear hbad hcw hcE hcb hcut hrow hbq htl hrl Hq hzz c0 hbw
              go_wp2_with fail
              refine HCW.out.mono ?_
              rintro e w2 ⟨rfl, hb2⟩
              obtain ⟨c0, f0⟩ := HC.out w2 hb2
              have hb9 : Below w.heap.size w (w2.setCell ⟨ab, i, none⟩ (.string ⟨#[]⟩)) := (HX.out.2.2.2.trans (hb2.mono HX.out.2.2.2.size)).trans (below_set (by rw [← HA.out.1]; exact HF.out.1.size))
              have hz9 := HZ.out _ hb9
              have HB9 := Lib.hid hb9
              clear hb2 hb9
              go_wp2_with fail
              go_quiet (fail)
              go_wp2
              go_ret2
              exact ⟨HB9.out.trans ((below_drewN' _ _).mono HB9.out.size), .inl ⟨HX.out.1, rfl⟩⟩
            | some p =>
              obtain ⟨t, q'⟩ := p
              rw [hcb] at hcE
              dsimp only at hcE
              rw [hcE] at hcw
              have hstp : cutN 6 r.data.toList = (cutN (6 - (i + 1)) q').map (fun p => (ts ++ [t] ++ p.1, p.2)) := by
                rw [hcut, cutN_step hcb (by omega), show 6 - i - 1 = 6 - (i + 1) from by omega]
                cases cutN (6 - (i + 1)) q' <;> simp
              have hql := cutB_lt hcb
              have HX := Lib.hid (And.intro hstp (And.intro hbq (And.intro hrow (And.intro hbw (And.intro htl (show q'.length ≤ r.data.toList.length by omega))))))
              have HCW := Lib.hid hcw
              have c0 : ∀ W, Below wr.heap.size wr W → W.cell? ⟨ab, i, none⟩ = some (.string ⟨#[]⟩) ∧ W.frozen? ⟨ab, i, none⟩ = false := fun W h => ⟨((hrow.below h hrow.lt).cell i).trans (cutV_at htl hilt), (hrow.below h hrow.lt).frozen i⟩
              have HC := Lib.hid c0
              clear hstp hcw hcE hcb hcut hrow hbq htl hrl Hq c0 hbw hql
              go_wp2_with fail
              refine HCW.out.mono ?_
              rintro e w2 ⟨rfl, hb2⟩
              obtain ⟨c0, f0⟩ := HC.out w2 hb2
              have HN : Hid (CuSt ab wo (w2.setCell ⟨ab, i, none⟩ (.string ⟨t.toArray⟩)) r.data.toList (i + 1) q') := Lib.hid ⟨ts ++ [t], by rw [List.length_append, HX.out.2.2.2.2.1]; rfl, (HX.out.2.1.trans (hb2.mono (Nat.le_of_lt HX.out.2.2.1.lt))).trans (below_set (Nat.le_refl _)), by
                have h9 := (HX.out.2.2.1.below hb2 HX.out.2.2.1.lt).set i (.string ⟨t.toArray⟩)
                rw [cutV_set HX.out.2.2.2.2.1 hilt] at h9
                exact h9, HX.out.1, HX.out.2.2.2.2.2⟩
              clear hb2
              go_wp2_with fail
              go_roundw
              case rel => exact ⟨i + 1, ⟨q'.toArray⟩, by omega, by go_num, rfl, HN⟩
              case measure => simp [intOf]; omega
          · obtain ⟨s0, s1, s2, s3, s4, s5, rfl⟩ := six_of htl
            have hc6 : cutN 6 r.data.toList = some ([s0, s1, s2, s3, s4, s5], q.data.toList) := by rw [hcut]; simp [cutN]
            have hr6 : RowIs wr ab 65 [.string ⟨s0.toArray⟩, .string ⟨s1.toArray⟩, .string ⟨s2.toArray⟩, .string ⟨s3.toArray⟩, .string ⟨s4.toArray⟩, .string ⟨s5.toArray⟩] := hrow
            have hql := (cutN_le 6 hc6).2.1 (by omega)
            have c0 : wr.cell? ⟨ab, 0, none⟩ = some (.string ⟨s0.toArray⟩) := hr6.cell 0
            have c5 : wr.cell? ⟨ab, 5, none⟩ = some (.string ⟨s5.toArray⟩) := hr6.cell 5
            have HX := Lib.hid (And.intro hc6 (And.intro hr6 (And.intro hql (And.intro hbq hbw))))
            clear hc6 hr6 hql hbq hbw hrow hcut htl hrl Hq
            go_wp2_with fail
            obtain ⟨W5, hW5⟩ : ∃ W5, ((wr.alloc (.cells #[.int .i64 0, .int .i64 0, .int .i64 0, .int .i64 0, .string ⟨s5.toArray⟩] 49)).alloc (.cells #[.pointer (some ⟨wr.heap.size, 0, none⟩), .pointer (some ⟨wr.heap.size, 1, none⟩), .pointer (some ⟨wr.heap.size, 2, none⟩), .pointer (some ⟨wr.heap.size, 3, none⟩)] 68)) = W5 := ⟨_, rfl⟩
            have hbV : Below wr.heap.size wr (wr.alloc (.cells #[.int .i64 0, .int .i64 0, .int .i64 0, .int .i64 0, .string ⟨s5.toArray⟩] 49)) := (Below.refl _ _).alloc (Nat.le_refl _) _
            have hb5 : Below wr.heap.size wr W5 := by rw [← hW5]; exact hbV.alloc hbV.size _
            have hvr : RowIs W5 wr.heap.size 49 (verN [] s5) := by
              rw [← hW5]
              unfold RowIs
              rw [heap_alloc_old _ _ (by simp)]
              exact heap_alloc_new _ _
            have hpr : RowIs W5 (wr.heap.size + 1) 68 (ptrV wr.heap.size) := by
              rw [← hW5]
              have := heap_alloc_new (wr.alloc (.cells #[.int .i64 0, .int .i64 0, .int .i64 0, .int .i64 0, .string ⟨s5.toArray⟩] 49)) (.cells #[.pointer (some ⟨wr.heap.size, 0, none⟩), .pointer (some ⟨wr.heap.size, 1, none⟩), .pointer (some ⟨wr.heap.size, 2, none⟩), .pointer (some ⟨wr.heap.size, 3, none⟩)] 68)
              simpa [RowIs, ptrV] using this
            have hlt6 := HX.out.2.1.lt
            rw [hW5]
            obtain ⟨vb, hvb⟩ : ∃ vb, wr.heap.size = vb := ⟨_, rfl⟩
            rw [hvb] at hvr hpr hlt6 ⊢
            have HN0 : Hid (NuSt ab vb wo W5 [s0, s1, s2, s3, s4, s5] s5 0) := Lib.hid ⟨[], rfl, HX.out.2.2.2.1.trans (hb5.mono (by rw [hvb]; omega)), HX.out.2.1.below hb5 (by rw [hvb]; omega), hvr, hpr, fun k hk => by omega, hlt6⟩
            have HY := Lib.hid (show Below w.heap.size w W5 from HX.out.2.2.2.2.trans (hb5.mono HX.out.2.2.2.2.size))
            clear hbV hb5 hvr hpr hlt6 hW5 hvb c0 c5
            go_loopw [70] (fun vj wq => ∃ j : Nat, j ≤ 4 ∧ vj = .int .i64 j ∧ Hid (NuSt ab vb wo wq [s0, s1, s2, s3, s4, s5] s5 j)) (fun vj _ => 4 - (intOf vj).toNat)
            case atStart => exact ⟨0, by omega, rfl, HN0⟩
            case round =>
              obtain ⟨j, hj, rfl, Hq⟩ := hrel
              clear HN0
              obtain ⟨ns, hnl, hbq, hra, hrv, hrp, hok, hvab⟩ := Hq.out
              have hbw : Below w.heap.size w wr := HF.out.1.trans (hbq.mono (by have := HF.out.1.size; rw [HA.out.1] at this; exact this))
              have hj2 : j < 4 ∨ j = 4 := by omega
              rcases hj2 with hjlt | rfl
              · have hjlt2 : (j : Int) < 4 := by omega
                have hw1 : IntKind.i64.wrap (1 + (j : Int)) = 1 + (j : Int) := IntWalk.i64_in _ (by omega)
                have hw2 : (1 + (j : Int)).toNat = j + 1 := by omega
                have hw3 : 0 ≤ 1 + (j : Int) := by omega
                have hw4 : 1 + (j : Int) < 6 := by omega
                have k1 : wr.cell? ⟨vb + 1, j, none⟩ = some (.pointer (some ⟨vb, j, none⟩)) := (hrp.cell j).trans (ptrV_at hjlt)
                obtain ⟨sj, hsj⟩ : ∃ sj, ([s0, s1, s2, s3, s4, s5] : List (List UInt8))[j + 1]?.getD [] = sj := ⟨_, rfl⟩
                have hsj2 : ([s0, s1, s2, s3, s4, s5] : List (List UInt8))[j + 1]? = some sj := by
                  rw [List.getElem?_eq_getElem (by simp; omega)] at hsj ⊢
                  simpa using hsj
                have k2 : wr.cell? ⟨ab, j + 1, none⟩ = some (.string ⟨sj.toArray⟩) := by
                  rw [hra.cell (j + 1), List.getElem?_map, hsj2]; rfl
                have hsz : sj.length ≤ 1000000 := by
                  have h1 := cutN_len 6 HX.out.1 sj (List.mem_of_getElem? hsj2)
                  have h2 := HA.out.2
                  omega
                have hat := atoi_walk ⟨sj.toArray⟩ wr (by rw [ba_size]; omega) (HH.out.2.1.below hbw (Nat.le_refl _))
                have hc : ∀ W, Below wr.heap.size wr W → W.cell? ⟨vb, j, none⟩ = some (.int .i64 0) ∧ W.frozen? ⟨vb, j, none⟩ = false := fun W h => ⟨((hrv.below h hrv.lt).cell j).trans (verN_at hnl hjlt), (hrv.below h hrv.lt).frozen j⟩
                have hbad : okN sj = none → loadB T = none := fun h => by
                  rw [HL.out.1, HF.out.2.2.2.1, loadR_bad (fun e => hr0 (by apply data_inj; rw [e])) HX.out.1 (putR_bad hjlt (by rw [hsj]; exact h))]
                have hvn : w.heap.size ≤ vb := by
                  have h1 := HF.out.1.size
                  have h2 := HA.out.1
                  omega
                have HJ := Lib.hid (And.intro hat (And.intro hc (And.intro hbad (And.intro hbw (And.intro hsj hvn)))))
                have HQ2 := Lib.hid (And.intro hnl (And.intro hbq (And.intro hra (And.intro hrv (And.intro hrp (And.intro hok hvab))))))
                clear hat hc hbad hbw hsj hsj2 hsz hnl hbq hra hrv hrp hok hvab hvn Hq
                go_wp2_with fail
                refine HJ.out.1.mono ?_
                rintro e w6 ⟨hb6, ⟨v, hv, v1, v2, rfl⟩ | ⟨hno, z, te, pe, z1, z2, rfl⟩⟩
                · obtain ⟨c0, f0⟩ := HJ.out.2.1 w6 hb6
                  have HN : Hid (NuSt ab vb wo (w6.setCell ⟨vb, j, none⟩ (.int .i64 v)) [s0, s1, s2, s3, s4, s5] s5 (j + 1)) := Lib.hid (by
                    obtain ⟨hnl, hbq, hra, hrv, hrp, hok, hvab⟩ := HQ2.out
                    have hk := keptBut_set (w := w6) (b := vb) (j := j) (v := .int .i64 v)
                    refine ⟨ns ++ [v], by rw [List.length_append, hnl]; rfl, (hbq.trans (hb6.mono (Nat.le_of_lt hra.lt))).trans (below_set (by omega)), (hra.below hb6 hra.lt).kept hk (by omega), ?_, (hrp.below hb6 hrp.lt).kept hk (by omega), fun k hk => ?_, hvab⟩
                    · have h9 := (hrv.below hb6 hrv.lt).set j (.int .i64 v)
                      rw [verN_set hnl hjlt] at h9
                      exact h9
                    · by_cases h9 : k < j
                      · rw [hok k h9, List.getElem?_append_left (by omega)]
                      · have h8 : k = j := by omega
                        subst h8
                        rw [HJ.out.2.2.2.2.1, List.getElem?_append_right (by omega), hnl, Nat.sub_self]
                        unfold okN
                        rw [show sj = (⟨sj.toArray⟩ : ByteArray).data.toList from rfl, hv]
                        rfl)
                  clear hb6 hv
                  go_wp2_with fail
                  go_roundw
                  case rel =>
                    first
                    | exact ⟨j + 1, by omega, by go_num, HN⟩
                    | (repeat apply Exists.intro); exact ⟨⟨j + 1, by omega, by go_num, HN⟩, rfl⟩
                  case measure => simp [intOf]; omega
                · obtain ⟨c0, f0⟩ := HJ.out.2.1 w6 hb6
                  have hb9 : Below w.heap.size w (w6.setCell ⟨vb, j, none⟩ (.int .i64 z)) := (HJ.out.2.2.2.1.trans (hb6.mono HJ.out.2.2.2.1.size)).trans (below_set HJ.out.2.2.2.2.2)
                  have hz9 := (HH.out.1.below hb9 (Nat.le_refl _)).c0
                  have HB9 := Lib.hid (And.intro hb9 (HJ.out.2.2.1 hno))
                  clear hb6 hb9 hno
                  go_wp2_with fail
                  go_quiet (fail)
                  go_wp2
                  go_ret2
                  exact ⟨HB9.out.1.trans ((below_drewN' _ _).mono HB9.out.1.size), .inl ⟨HB9.out.2, rfl⟩⟩
              · obtain ⟨a, b, c, d, rfl⟩ := four_of hnl
                have k0 : wr.cell? ⟨ab, 0, none⟩ = some (.string ⟨s0.toArray⟩) := hra.cell 0
                have m0 : wr.cell? ⟨vb, 0, none⟩ = some (.int .i64 a) := hrv.cell 0
                have m1 : wr.cell? ⟨vb, 1, none⟩ = some (.int .i64 b) := hrv.cell 1
                have m2 : wr.cell? ⟨vb, 2, none⟩ = some (.int .i64 c) := hrv.cell 2
                have m3 : wr.cell? ⟨vb, 3, none⟩ = some (.int .i64 d) := hrv.cell 3
                have m4 : wr.cell? ⟨vb, 4, none⟩ = some (.string ⟨s5.toArray⟩) := hrv.cell 4
                have o1 : okN s1 = some a := hok 0 (by omega)
                have o2 : okN s2 = some b := hok 1 (by omega)
                have o3 : okN s3 = some c := hok 2 (by omega)
                have o4 : okN s4 = some d := hok 3 (by omega)
                have hput : putR l [s0, s1, s2, s3, s4, s5] = if putM (errM false l ⟨s0.toArray⟩ (a, b, c, d, ⟨s5.toArray⟩)) = 0 then some (afterP false l ⟨s0.toArray⟩ (a, b, c, d, ⟨s5.toArray⟩)) else none := by
                  unfold putR
                  simp only [List.getElem?_cons_succ, List.getElem?_cons_zero, Option.getD_some, o1, o2, o3, o4]
                have hsz : s0.length ≤ 1000000 := by
                  have h1 := cutN_len 6 HX.out.1 s0 (List.mem_cons_self ..)
                  have h2 := HA.out.2
                  omega
                have hone := HF.out.2.1.below hbq (Nat.le_of_eq HA.out.1)
                have hpw := one_hput hone HF.out.2.2.1.1 E (HH.out.1.below hbw (Nat.le_refl _)).hx ⟨s0.toArray⟩ a b c d ⟨s5.toArray⟩ (by rw [ba_size]; unfold maxLen; omega)
                have HP := Lib.hid (And.intro hput (And.intro hpw hbw))
                clear hput hpw hbw hone hsz o1 o2 o3 o4 hok hra hrv hrp hbq hnl hvab Hq
                go_wp2_with fail
                refine HP.out.2.1.mono ?_
                rintro e w6 ⟨⟨v, rfl, hv⟩, h6, hk6⟩
                have hb6 : Below w.heap.size w w6 := HP.out.2.2.trans (hk6.below HP.out.2.2.size (fun _ h => h))
                rcases hv with ⟨hv0, rfl⟩ | ⟨ie, _, hv0, rfl⟩
                · have HN : Hid (LoSt w.heap.size w hb w6 R0 q.data.toList) := Lib.hid ⟨_, hb6, h6, HF.out.2.2.1.put, by
                    rw [HF.out.2.2.2.1, loadR_ok (fun e => hr0 (by apply data_inj; rw [e])) HX.out.1 (by rw [HP.out.1, if_pos hv0])], by
                    have h1 := HX.out.2.2.1
                    have h2 := HF.out.2.2.2.2
                    omega⟩
                  have hqs : q.size < r.size := by
                    have h1 := HX.out.2.2.1
                    simpa using h1
                  clear hb6 h6 hk6 hv0
                  go_wp2_with fail
                  go_roundw
                  case rel => exact ⟨q, rfl, HN⟩
                  case measure => exact hqs
                · have hz9 := (HH.out.1.below hb6 (Nat.le_refl _)).c0
                  have HB9 := Lib.hid (And.intro hb6 (show loadB T = none by
                    rw [HL.out.1, HF.out.2.2.2.1, loadR_bad (fun e => hr0 (by apply data_inj; rw [e])) HX.out.1 (by rw [HP.out.1, if_neg (by omega)])]))
                  clear hb6 h6 hk6 hv0
                  go_wp2_with fail
                  go_quiet (fail)
                  go_wp2
                  go_ret2
                  exact ⟨HB9.out.1.trans ((below_drewN' _ _).mono HB9.out.1.size), .inl ⟨HB9.out.2, rfl⟩⟩
  · have hq1 : Lib.hasPrefix T holdW = false := by rw [pre_of]; exact decide_eq_false hpre
    have hlB : loadB T = none := by unfold loadB; rw [if_neg hpre]
    rw [hq1]
    have HL := Lib.hid hlB
    clear hq1 hpre hlB
    go_wp2_with fail
    go_quiet (fail)
    go_wp2
    go_ret2
    exact ⟨HB1.out.trans ((below_drewN' _ _).mono HB1.out.size), .inl ⟨HL.out, rfl⟩⟩
end
end Go.Proofs.YthdicfcgkbepdaaGreatDoor
/- What Load and Save need, out of the laid list. -/
namespace Go.Proofs.YthdicfcgkbepdaaGreatDoor
section
open Go.RowKit Go.BigFrame

def p10T : DataW Unit := Lib.tabData .u64 Lib.pow10Tab
theorem tab_of_laidMet {l : List (String × DataW Unit)} {W : World} (h : laidMet Tryz.prog l W) (hm : ("internal/strconv.uint64pow10", p10T) ∈ l) : TabAt W := by
  obtain ⟨ps, hl, _, _⟩ := h
  obtain ⟨g0, t0, cs, fuel, p, hg0, ht0, hv, hd, hr1, hr2⟩ := laidVars_mem hl hm
  have hg : Tryz.prog.globalNamed "internal/strconv.uint64pow10" = some 16 := by kernel_rfl
  have ht : (Tryz.prog.globals[16]?).map (·.type) = some 194 := by kernel_rfl
  obtain rfl := Option.some.inj (hg.symm.trans hg0)
  obtain rfl := Option.some.inj (ht.symm.trans ht0)
  unfold TabAt Lib.TabIs
  rw [hv, ← Lib.cells_of_tab (n := 20) (by kernel_rfl) (show Tryz.prog.underlying 144 = some (.int .u64) by kernel_rfl) (by kernel_rfl) (by kernel_rfl) hd]
theorem tab_of_laid {l : List (String × DataW Unit)} {W : World} (h : laidMetH Tryz.prog l W) (hm : ("internal/strconv.uint64pow10", p10T) ∈ l) : TabAt W := by
  unfold laidMetH at h
  split at h
  · exact tab_of_laidMet h hm
  · exact tab_of_laidMet h.1 (List.mem_filter.2 ⟨hm, rfl⟩)
def synT : List UInt8 := [105, 110, 118, 97, 108, 105, 100, 32, 115, 121, 110, 116, 97, 120]
def ranT : List UInt8 := [118, 97, 108, 117, 101, 32, 111, 117, 116, 32, 111, 102, 32, 114, 97, 110, 103, 101]
theorem numErr_of_laid {l : List (String × DataW Unit)} {W : World} (h : laidMetH Tryz.prog l W) (h1 : ("strconv.ErrSyntax", sent synT) ∈ l) (h2 : ("strconv.ErrRange", sent ranT) ∈ l) : NumErr W := by
  obtain ⟨a, ha⟩ := err_of_laid h h1 (g := 13) (by kernel_rfl) (by kernel_rfl)
  obtain ⟨b, hb⟩ := err_of_laid h h2 (g := 14) (by kernel_rfl) (by kernel_rfl)
  exact ⟨⟨_, ha.cell, .inr ⟨_, _, rfl⟩⟩, ⟨_, hb.cell, .inr ⟨_, _, rfl⟩⟩⟩
theorem loads_env {W : World} {l : List (String × DataW Unit)} (k : Nat) (hk : (l.drop k).take 13 = fullLaid) (h1 : ("internal/strconv.uint64pow10", p10T) ∈ l) (h2 : ("strconv.ErrSyntax", sent synT) ∈ l) (h3 : ("strconv.ErrRange", sent ranT) ∈ l) (h : laidMetH Tryz.prog l W) : ∃ E, ErrEnv W E ∧ NumErr W ∧ TabAt W := by
  obtain ⟨E, hE⟩ := env_of_sub (fun x hx => List.mem_of_mem_drop (List.mem_of_mem_take (by rw [hk]; exact hx))) h
  exact ⟨E, hE, numErr_of_laid h h2 h3, tab_of_laid h h1⟩
theorem loadB_save {T : List UInt8} {l : List Kp} {sd : Bool} (h : loadB T = some (l, sd)) : saveB sd l = T := by
  unfold loadB at h
  split at h
  · split at h
    · cases h
    · split at h
      · rename_i h9
        simp only [Option.some.injEq, Prod.mk.injEq] at h
        rw [← h.1, ← h.2]
        exact h9
      · cases h
  · cases h
theorem one_count {P : Nat → Prop} {w : World} {hb : Nat} {sd : Bool} {l : List Kp} (h : OneH P w hb sd l) (hf : FineR l) :
    Calls Tryz.prog 10 #[.pointer (some ⟨hb, 0, none⟩)] w fun e w' => e = .returned (.int .i64 (l.length : Nat)) ∧ Below w.heap.size w w' := by
  obtain ⟨F, ks, S, h1, h4, hB⟩ := h
  have := hcount_walk F w hb sd (getL l) ks S h1 (by rw [h1.tot]; have := hf.1.2; omega)
  rw [h1.tot] at this
  exact this
theorem one_sealed {P : Nat → Prop} {w : World} {hb : Nat} {sd : Bool} {l : List Kp} (h : OneH P w hb sd l) :
    Calls Tryz.prog 11 #[.pointer (some ⟨hb, 0, none⟩)] w fun e w' => e = .returned (.bool sd) ∧ w = w' := by
  obtain ⟨F, ks, S, h1, h4, hB⟩ := h
  exact hsealed_walk F w hb sd (getL l) ks S h1
/-- Load of a text that is sealed. -/
theorem load_sealed (E : Nat → Addr) (t : ByteArray) (w : World) (hE : ErrEnv w E) (hN : NumErr w) (hT : TabAt w) (ht : t.size ≤ 900000) :
    Calls Tryz.prog 6 #[.string (t ++ fourS (Sm.crc (Sm.nats t)))] w (fun e w' => Below w.heap.size w w' ∧ ((loadB t.data.toList = none ∧ e = rLoad none (errV (E 0))) ∨
     ∃ l sd hb, loadB t.data.toList = some (l, sd) ∧ FineR l ∧ OneH (fun b => w.heap.size ≤ b) w' hb sd l ∧ e = rLoad (some ⟨hb, 0, none⟩) .nilIface)) := by
  have h4 := fourS_size (Sm.crc (Sm.nats t))
  have hz : (t ++ fourS (Sm.crc (Sm.nats t))).size = t.size + 4 := by rw [ByteArray.size_append, h4]
  have h := load_ok E (t ++ fourS (Sm.crc (Sm.nats t))) w hE hN hT (by omega) (by omega) (by rw [bodyOf_append h4, tailOf_append h4])
  rw [bodyOf_append h4] at h
  exact h
end
end Go.Proofs.YthdicfcgkbepdaaGreatDoor
