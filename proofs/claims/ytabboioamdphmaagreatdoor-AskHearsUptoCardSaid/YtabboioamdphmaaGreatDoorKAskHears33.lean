/- The walks of sums.CRC, sums.Hash, sums.Four and of the document's. -/
import Derived.Test.YtabboioamdphmaaGreatDoorProg
import Derived.Test.YtabboioamdphmaaGreatDoorKAskHears02
import Derived.Laws.BitsAllLaws
import Derived.Test.YtabboioamdphmaaGreatDoorKAskHears30
import Derived.Test.YtabboioamdphmaaGreatDoorKAskHears32
namespace Go.Proofs.YtabboioamdphmaaGreatDoor
open Go.RowKit

namespace Sm
/-- the bytes of a text. -/
def nats (s : ByteArray) : List Nat := s.data.toList.map UInt8.toNat
theorem nats_length (s : ByteArray) : (nats s).length = s.size := by simp [nats]
theorem nats_at {s : ByteArray} {k : Nat} (h : k < s.size) : (nats s)[k]?.getD 0 = s[k].toNat := by
  have h' : k < s.data.toList.length := by simpa using h
  simp only [nats, List.getElem?_map, List.getElem?_eq_getElem h']
  rfl
/-- one bit. -/
def cstep (c : Nat) : Nat := (c / 2) ^^^ (3988292384 * (c % 2))
def cstepN : Nat → Nat → Nat
  | 0, c => c
  | n + 1, c => cstepN n (cstep c)
def crcN (l : List Nat) : Nat → Nat
  | 0 => 4294967295
  | k + 1 => cstepN 8 (crcN l k ^^^ l[k]?.getD 0)
def crc (l : List Nat) : Nat := crcN l l.length ^^^ 4294967295
theorem xor_lt32 {a b : Nat} (ha : a < 4294967296) (hb : b < 4294967296) : a ^^^ b < 4294967296 := Nat.xor_lt_two_pow (n := 32) ha hb
theorem cstep_lt {c : Nat} (h : c < 4294967296) : cstep c < 4294967296 := by
  unfold cstep
  exact xor_lt32 (by omega) (by omega)
theorem cstepN_lt : ∀ (n : Nat) {c : Nat}, c < 4294967296 → cstepN n c < 4294967296
  | 0, _, h => h
  | n + 1, _, h => cstepN_lt n (cstep_lt h)
theorem crcN_lt {l : List Nat} (hl : ∀ j : Nat, l[j]?.getD 0 < 256) : ∀ k, crcN l k < 4294967296
  | 0 => (by decide : 4294967295 < 4294967296)
  | k + 1 => cstepN_lt 8 (xor_lt32 (crcN_lt hl k) (Nat.lt_trans (hl k) (by decide)))
theorem nats_lt (s : ByteArray) (j : Nat) : (nats s)[j]?.getD 0 < 256 := by
  by_cases h : j < (nats s).length
  · rw [nats_at (by rwa [nats_length] at h)]
    exact UInt8.toNat_lt _
  · rw [List.getElem?_eq_none (by omega)]; decide
end Sm

/-- four bytes of a number, the highest first. -/
def fourL (n : Nat) : List UInt8 := [UInt8.ofNat (n / 16777216), UInt8.ofNat (n / 65536 % 256), UInt8.ofNat (n / 256 % 256), UInt8.ofNat (n % 256)]
theorem string_of_four (n : Nat) (hn : n < 4294967296) (w : World) :
    (convert 112 9 (.slice (some ⟨w.heap.size, 0, none⟩) 4 4)).run Tryz.prog (w.alloc (.cells #[.int .u8 ((n : Int) / 16777216), .int .u8 ((n : Int) / 65536 % 256), .int .u8 ((n : Int) / 256 % 256), .int .u8 ((n : Int) % 256)] 5))
      = .ok (.string ⟨(fourL n).toArray⟩) (w.alloc (.cells #[.int .u8 ((n : Int) / 16777216), .int .u8 ((n : Int) / 65536 % 256), .int .u8 ((n : Int) / 256 % 256), .int .u8 ((n : Int) % 256)] 5)) := by
  refine run_convert_bytes_back _ 112 9 5 ⟨w.heap.size, 0, none⟩ 4 (fourL n) Tryz.underlying112 Tryz.underlying5 Tryz.underlying9 (fun j hj => ?_)
  have hj4 : j < 4 := hj
  rw [Go.WideShapes.add_plain, Nat.zero_add, World.cell?_alloc_at _ _ _ _ rfl]
  rcases (show j = 0 ∨ j = 1 ∨ j = 2 ∨ j = 3 by omega) with rfl | rfl | rfl | rfl <;> simp [fourL] <;> omega
theorem string_of_byte (x : Int) (hx : 0 ≤ x ∧ x < 256) (w : World) :
    (convert 112 9 (.slice (some ⟨w.heap.size, 0, none⟩) 1 1)).run Tryz.prog (w.alloc (.cells #[.int .u8 x] 5)) = .ok (.string ⟨#[UInt8.ofNat x.toNat]⟩) (w.alloc (.cells #[.int .u8 x] 5)) := by
  have h := run_convert_bytes_back (P := Tryz.prog) (w.alloc (.cells #[.int .u8 x] 5)) 112 9 5 ⟨w.heap.size, 0, none⟩ 1 [UInt8.ofNat x.toNat] Tryz.underlying112 Tryz.underlying5 Tryz.underlying9 (fun j hj => by
    have hj1 : j < 1 := hj
    obtain rfl : j = 0 := by omega
    rw [Go.WideShapes.add_plain, Nat.zero_add, World.cell?_alloc_at _ _ _ _ rfl]
    simp
    omega)
  exact h
set_option maxRecDepth 100000 in
set_option maxHeartbeats 1000000 in
theorem rbyte_walk (n : Nat) (w : World) (_hn : n < 9223372036854775808) :
    Calls Tryz.prog 78 #[.int .i64 n] w fun e w' => e = .returned (.string ⟨#[UInt8.ofNat (n % 256)]⟩) ∧ Below w.heap.size w w' := by
  have hc := string_of_byte ((n : Int) % 256) (by omega) w
  have ht : ((n : Int) % 256).toNat = n % 256 := by omega
  go_enter Tryz.func78, Tryz.ntmps78
  go_wp2
  go_ret
  exact ⟨rfl, (Below.refl _ _).alloc (Nat.le_refl _) _⟩
/-! ### the document's CRC; both Hash -/
namespace Sm
/-- one bit of the document's, b the byte, k the bit. -/
def rstep (b k c : Nat) : Nat := if (c ^^^ b / 2 ^ k) % 2 = 1 then (c / 2) ^^^ 3988292384 else c / 2
def rstepN (b : Nat) : Nat → Nat → Nat
  | 0, c => c
  | k + 1, c => rstep b k (rstepN b k c)
theorem rstep_lt {b k c : Nat} (h : c < 4294967296) : rstep b k c < 4294967296 := by
  unfold rstep
  split
  · exact xor_lt32 (by omega) (by decide)
  · omega
theorem rstepN_lt {b c : Nat} (h : c < 4294967296) : ∀ k, rstepN b k c < 4294967296
  | 0 => h
  | k + 1 => rstep_lt (rstepN_lt h k)
theorem cstepN_succ (n c : Nat) : cstepN (n + 1) c = cstep (cstepN n c) := by
  induction n generalizing c with
  | zero => rfl
  | succ n ih => exact ih (cstep c)
/-- the program puts the byte in at once, the document bit by bit. -/
theorem steps_eq (b c : Nat) : ∀ k, cstepN k (c ^^^ b) = rstepN b k c ^^^ b / 2 ^ k
  | 0 => by show c ^^^ b = c ^^^ b / 2 ^ 0; simp
  | k + 1 => by
    rw [cstepN_succ, steps_eq b c k]
    show cstep _ = rstep b k (rstepN b k c) ^^^ b / 2 ^ (k + 1)
    have e2 : b / 2 ^ (k + 1) = b / 2 ^ k / 2 := by rw [Nat.pow_succ, Nat.div_div_eq_div_mul]
    rw [e2]
    generalize rstepN b k c = r
    have er : rstep b k r = if (r ^^^ b / 2 ^ k) % 2 = 1 then (r / 2) ^^^ 3988292384 else r / 2 := rfl
    rw [er]
    generalize b / 2 ^ k = d
    unfold cstep
    rw [Gf.xor_div_two]
    rcases (show (r ^^^ d) % 2 = 0 ∨ (r ^^^ d) % 2 = 1 by omega) with h | h
    · rw [h, if_neg (by decide)]; simp
    · rw [h, if_pos rfl]
      show (r / 2 ^^^ d / 2) ^^^ 3988292384 = (r / 2 ^^^ 3988292384) ^^^ d / 2
      rw [Nat.xor_assoc, Nat.xor_comm (d / 2), ← Nat.xor_assoc]
theorem steps8 {b : Nat} (hb : b < 256) (c : Nat) : cstepN 8 (c ^^^ b) = rstepN b 8 c := by
  rw [steps_eq b c 8]
  have : b / 2 ^ 8 = 0 := by omega
  rw [this, Nat.xor_zero]
def hashN (l : List Nat) : Nat → Nat
  | 0 => 2166136261
  | k + 1 => (hashN l k ^^^ l[k]?.getD 0) * 16777619 % 4294967296
def hash (l : List Nat) : Nat := hashN l l.length
theorem hashN_lt (l : List Nat) : ∀ k, hashN l k < 4294967296
  | 0 => (by decide : 2166136261 < 4294967296)
  | k + 1 => Nat.mod_lt _ (by decide)
end Sm
theorem xor_i64_32 (a b : Nat) (ha : a < 4294967296) (hb : b < 4294967296) : bits .xor .i64 (a : Int) (b : Int) = ((a ^^^ b : Nat) : Int) := by
  have hx : a ^^^ b < 4294967296 := Sm.xor_lt32 ha hb
  have e : ∀ n : Nat, n < 4294967296 → (BitVec.ofInt 64 (n : Int)).toNat = n := fun n hn => by
    rw [BitVec.toNat_ofInt]; omega
  show IntKind.i64.wrap ((BitVec.ofInt 64 (a : Int) ^^^ BitVec.ofInt 64 (b : Int)).toNat : Nat) = _
  rw [BitVec.toNat_xor, e a ha, e b hb, IntKind.wrap_i64]
  omega

end Go.Proofs.YtabboioamdphmaaGreatDoor
/- Walks: strconv.Itoa of a digit; the document's Decimal of a digit. (Split off PtB, PfA: PtB, PfA hold the same names; never import both.) -/
namespace Go.Proofs.YtabboioamdphmaaGreatDoor
open Go.RowKit

/-- a digit's text. -/
def digT (i : Nat) : ByteArray := ⟨#[UInt8.ofNat (48 + i)]⟩
set_option maxHeartbeats 1000000 in
theorem small_walk (i : Nat) (hi : i < 8) (w : World) : Calls Tryz.prog 146 #[.int .i64 i] w fun e w' => e = .returned (.string (digT i)) ∧ w = w' := by
  rcases (show i = 0 ∨ i = 1 ∨ i = 2 ∨ i = 3 ∨ i = 4 ∨ i = 5 ∨ i = 6 ∨ i = 7 by omega) with rfl | rfl | rfl | rfl | rfl | rfl | rfl | rfl
  all_goals
    go_enter Tryz.func146, Tryz.ntmps146
    go_wp2
    go_ret
    exact ⟨rfl, rfl⟩
set_option maxHeartbeats 1000000 in
theorem itoa_walk (i : Nat) (hi : i < 8) (w : World) : Calls Tryz.prog 77 #[.int .i64 i] w fun e w' => e = .returned (.string (digT i)) ∧ w = w' := by
  have H1 := Lib.hid (small_walk i hi w)
  have H2 : Hid (Calls Tryz.prog 132 #[.int .i64 i, .int .i64 10] w fun e w' => e = .returned (.string (digT i)) ∧ w = w') := by
    have g1 : (0 : Int) ≤ i := by omega
    have g2 : (i : Int) < 100 := by omega
    have g2d : decide (i < 100) = true := decide_eq_true (by omega)
    refine Lib.hid ?_
    go_enter Tryz.func132, Tryz.ntmps132
    go_wp2_with fail
    refine H1.out.mono ?_
    rintro e w' ⟨rfl, rfl⟩
    go_wp2
    go_ret
    exact ⟨rfl, rfl⟩
  have H3 : Hid (Calls Tryz.prog 109 #[.int .i64 i] w fun e w' => e = .returned (.string (digT i)) ∧ w = w') := by
    refine Lib.hid ?_
    go_enter Tryz.func109, Tryz.ntmps109
    go_wp2_with fail
    refine H2.out.mono ?_
    rintro e w' ⟨rfl, rfl⟩
    go_wp2
    go_ret
    exact ⟨rfl, rfl⟩
  go_enter Tryz.func77, Tryz.ntmps77
  go_wp2_with fail
  refine H3.out.mono ?_
  rintro e w' ⟨rfl, rfl⟩
  go_wp2
  go_ret
  exact ⟨rfl, rfl⟩
set_option maxRecDepth 100000 in
set_option maxHeartbeats 4000000 in
theorem rbelow_walk (k : Nat) (hk : k < 8) (w : World) :
    Calls Tryz.prog 55 #[.int .i64 (-(k : Int))] w fun e w' => e = .returned (.string (digT k)) ∧ Below w.heap.size w w' := by
  have Hb := Lib.hid (fun (W : World) => rbyte_walk (48 + k) W (by omega))
  rcases (show k = 0 ∨ k = 1 ∨ k = 2 ∨ k = 3 ∨ k = 4 ∨ k = 5 ∨ k = 6 ∨ k = 7 by omega) with rfl | rfl | rfl | rfl | rfl | rfl | rfl | rfl
  all_goals
    clear hk
    go_enter Tryz.func55, Tryz.ntmps55
    go_wp2_with fail
    refine (Hb.out _).mono ?_
    rintro e w' ⟨rfl, hb⟩
    have HB := Lib.hid hb
    clear hb
    go_wp2
    go_ret
    exact ⟨rfl, HB.out⟩
set_option maxRecDepth 100000 in
set_option maxHeartbeats 1000000 in
theorem rdec_walk (k : Nat) (hk : k < 8) (w : World) :
    Calls Tryz.prog 27 #[.int .i64 k] w fun e w' => e = .returned (.string (digT k)) ∧ Below w.heap.size w w' := by
  have H1 := Lib.hid (rbelow_walk k hk w)
  have g1 : ¬ (k : Int) < 0 := by omega
  go_enter Tryz.func27, Tryz.ntmps27
  go_wp2_with fail
  refine H1.out.mono ?_
  rintro e w' ⟨rfl, hb⟩
  have HB := Lib.hid hb
  clear hb
  go_wp2
  go_ret
  exact ⟨rfl, HB.out⟩
end Go.Proofs.YtabboioamdphmaaGreatDoor
/- The document's ask in memory; the walks of waits and told. -/
namespace Go.Proofs.YtabboioamdphmaaGreatDoor
section
open Go.RowKit Go.Maps Go.BigFrame

/-- the cells of a struct behind a pointer. -/
structure CellsAt (w : World) (mo : Nat) (vs : List Value) : Prop where
  lt : mo < w.heap.size
  cell : ∀ j, j < vs.length → w.cell? ⟨mo, j, none⟩ = some (vs[j]?.getD undef)
  z : ∀ j, w.frozen? ⟨mo, j, none⟩ = false
theorem CellsAt.kept {G : Nat → Prop} {w w' : World} {mo : Nat} {vs : List Value} (h : CellsAt w mo vs) (hk : KeptBut G w w') (hG : ¬ G mo) : CellsAt w' mo vs :=
  ⟨Nat.lt_of_lt_of_le h.lt hk.size, fun j hj => hk.cell (h.cell j hj) hG, fun j => (hk.frozen (p := ⟨mo, j, none⟩) h.lt hG).trans (h.z j)⟩
theorem CellsAt.below {n : Nat} {w w' : World} {mo : Nat} {vs : List Value} (h : CellsAt w mo vs) (hb : Below n w w') (hn : mo < n) : CellsAt w' mo vs :=
  h.kept (KeptBut.of_below (F := fun b => n ≤ b) hb (fun _ _ h => h)) (by omega)
theorem CellsAt.set {w : World} {mo : Nat} {vs : List Value} (h : CellsAt w mo vs) (i : Nat) (hi : i < vs.length) (v : Value) : CellsAt (w.setCell ⟨mo, i, none⟩ v) mo (vs.set i v) := by
  refine ⟨by rw [setCell_size]; exact h.lt, fun j hj => ?_, fun j => by rw [World.frozen?_setCell]; exact h.z j⟩
  rw [List.length_set] at hj
  by_cases e : j = i
  · subst e
    rw [World.cell?_setCell_same _ _ _ (h.cell j hj)]
    simp [hj]
  · rw [World.cell?_setCell_other _ _ _ _ (by intro e2; have := congrArg Addr.off e2; simp at this; omega), h.cell j hj, List.getElem?_set_ne (by omega)]
/-- the cells of the document's ask. -/
def rAskV (a : AskS) (cv nv fv lv : Value) : List Value := [.string a.t.name, .string a.t.key, .int .i64 a.who, .int .i64 a.t.op, .int .i64 a.t.cf, .int .i64 (a.t.n : Nat), .int .i64 (a.t.k : Nat), cv, .int .i64 (a.n2 : Nat), .int .i64 (a.k2 : Nat), nv, .bool a.put, .bool a.moves, .string (stT a), fv, lv, .int .i64 a.tag.1, .int .i64 a.tag.2, .string a.text, .bool a.found]
/-- the document's ask lies at mo; its members' names lie in S, which is none of its. -/
structure RAskAt (S F : Nat → Prop) (w : World) (mo : Nat) (ma : Option Addr) (mc : Nat) (na : Option Addr) (nc : Nat) (fv lv : Value) (us : List Value) (a : AskS) : Prop where
  hF : F mo
  lt : ∀ b, F b → b < w.heap.size
  cs : CellsAt w mo (rAskV a (.slice ma a.t.mem.length mc) (.slice na a.mem2.length nc) fv lv)
  fr : OwnT 0 w fv (a.t.got.map (·.1))
  L : OwnVs 0 w lv (a.t.got.map (·.2)) us
  frF : ∀ g, fv.ownBlock = some g → F g ∧ g ≠ mo
  lF : ∀ g, lv.ownBlock = some g → F g ∧ g ≠ mo
  uF : ∀ i, i < us.length → ∀ g, (us[i]?.getD undef).ownBlock = some g → F g ∧ g ≠ mo
  mcap : a.t.mem.length ≤ mc ∧ mc ≤ maxLen ∧ (ma = none → mc = 0)
  mem : TxsS S w ma a.t.mem
  ncap : a.mem2.length ≤ nc ∧ nc ≤ maxLen ∧ (na = none → nc = 0)
  mem2 : TxsS S w na a.mem2
  dis : ∀ b, S b → ¬ F b
theorem OwnT.heapK {B : Nat} {w w' : World} {v : Value} {L : List ByteArray} (h : OwnT B w v L) (hg : ∀ g, v.ownBlock = some g → w'.heap[g]? = w.heap[g]?) : OwnT B w' v L := by
  refine ⟨h.1, ?_⟩
  rcases h.2 with hn | ⟨g, cap, cur, rfl, hb, hgg, rest⟩
  · exact .inl hn
  · exact .inr ⟨g, cap, cur, rfl, hb, (hg g rfl).trans hgg, rest⟩
theorem OwnVs.kept' {B : Nat} {G : Nat → Prop} {w w' : World} {v : Value} {ls : List (List Ver)} {us : List Value} (h : OwnVs B w v ls us) (hk : KeptBut G w w') (hv : ∀ g, v.ownBlock = some g → ¬ G g) (hu : ∀ i, i < us.length → ∀ g, (us[i]?.getD undef).ownBlock = some g → ¬ G g) : OwnVs B w' v ls us :=
  ⟨h.lenu, h.own.heapK (fun g e => hk.block g (h.own.lt g e).2 (hv g e)), fun i hi => (h.row i hi).heapK (fun g e => hk.block g ((h.row i hi).lt g e).2 (hu i (by rw [h.lenu]; exact hi) g e))⟩
theorem grownF_lt' {F : Nat → Prop} {w w' : World} (h : ∀ b, F b → b < w.heap.size) (hs : w.heap.size ≤ w'.heap.size) : ∀ b, grownF F w w' b → b < w'.heap.size := fun b hb => by
  rcases hb with hb | hb
  · exact Nat.lt_of_lt_of_le (h b hb) hs
  · exact hb.2
theorem RAskAt.kept {S F G : Nat → Prop} {w w' : World} {mo : Nat} {ma : Option Addr} {mc : Nat} {na : Option Addr} {nc : Nat} {fv lv : Value} {us : List Value} {a : AskS} (h : RAskAt S F w mo ma mc na nc fv lv us a) (hk : KeptBut G w w') (hG : ∀ b, F b → ¬ G b) (hS : ∀ b, b < w.heap.size → S b → ¬ G b) : RAskAt S F w' mo ma mc na nc fv lv us a :=
  ⟨h.hF, fun b hb => Nat.lt_of_lt_of_le (h.lt b hb) hk.size, h.cs.kept hk (hG mo h.hF), h.fr.heapK (fun g e => hk.block g (h.fr.lt g e).2 (hG g (h.frF g e).1)), h.L.kept' hk (fun g e => hG g (h.lF g e).1) (fun i hi g e => hG g (h.uF i hi g e).1), h.frF, h.lF, h.uF, h.mcap, h.mem.kept hk hS, h.ncap, h.mem2.kept hk hS, h.dis⟩
theorem RAskAt.below {S F : Nat → Prop} {w w' : World} {mo : Nat} {ma : Option Addr} {mc : Nat} {na : Option Addr} {nc : Nat} {fv lv : Value} {us : List Value} {a : AskS} (h : RAskAt S F w mo ma mc na nc fv lv us a) {n : Nat} (hb : Below n w w') (hn : w.heap.size ≤ n) : RAskAt S F w' mo ma mc na nc fv lv us a :=
  h.kept (KeptBut.of_below (F := fun b => w.heap.size ≤ b) (hb.mono hn) (fun _ _ h => h)) (fun b hb h9 => by have := h.lt b hb; omega) (fun b hb _ => by omega)
def rwaitT (a : AskS) : ByteArray := if a.st < 2 then waitT a else ⟨#[]⟩
set_option maxHeartbeats 1000000 in
theorem rwaits_walk (w : World) (mo : Nat) (a : AskS) (hst : a.st ≤ 3) (hc : w.cell? ⟨mo, 13, none⟩ = some (.string (stT a))) :
    Calls Tryz.prog 49 #[.pointer (some ⟨mo, 0, none⟩)] w fun e w' => e = .returned (.string (rwaitT a)) ∧ w = w' := by
  have hcs : (stT a = ⟨#[108, 111, 111, 107, 105, 110, 103]⟩ ∧ rwaitT a = kTold) ∨ (stT a = ⟨#[115, 101, 97, 108, 105, 110, 103]⟩ ∧ rwaitT a = kSealed) ∨ (stT a = ⟨#[107, 101, 101, 112, 105, 110, 103]⟩ ∧ rwaitT a = kKept) ∨ (stT a = ⟨#[100, 111, 110, 101]⟩ ∧ rwaitT a = ⟨#[]⟩) ∨ (stT a = ⟨#[114, 101, 102, 117, 115, 101, 100]⟩ ∧ rwaitT a = ⟨#[]⟩) := by
    unfold stT rwaitT waitT
    obtain ⟨t, who, put, moves, n2, k2, mem2, st, tag, text, found⟩ := a
    dsimp only at hst ⊢
    have : st = 0 ∨ st = 1 ∨ st = 2 ∨ st = 3 := by omega
    rcases this with rfl | rfl | rfl | rfl
    · cases moves
      · exact .inl ⟨rfl, rfl⟩
      · exact .inr (.inl ⟨rfl, rfl⟩)
    · exact .inr (.inr (.inl ⟨rfl, rfl⟩))
    · exact .inr (.inr (.inr (.inl ⟨rfl, rfl⟩)))
    · exact .inr (.inr (.inr (.inr ⟨rfl, rfl⟩)))
  clear hst
  rcases hcs with ⟨e1, e2⟩ | ⟨e1, e2⟩ | ⟨e1, e2⟩ | ⟨e1, e2⟩ | ⟨e1, e2⟩
  all_goals
    rw [e1] at hc
    rw [e2]
    clear e1 e2
    go_enter Tryz.func49, Tryz.ntmps49
    go_wp2
    go_ret
    exact ⟨rfl, rfl⟩
theorem idxT_hit {L : List ByteArray} {s : ByteArray} (h : 0 ≤ idxT L s) : ∃ i : Nat, idxT L s = i ∧ i < L.length ∧ L[i]? = some s := by
  unfold idxT at h ⊢
  cases hf : (List.range L.length).find? (fun i => decide ((L[i]?.getD ⟨#[]⟩) = s)) with
  | none => rw [hf] at h; simp at h
  | some i =>
    have h1 := List.find?_some hf
    have h2 := List.mem_range.1 (List.mem_of_find?_eq_some hf)
    simp only [decide_eq_true_eq] at h1
    rw [List.getElem?_eq_getElem h2] at h1
    exact ⟨i, rfl, h2, by rw [List.getElem?_eq_getElem h2]; exact congrArg some h1⟩
theorem idx_getT {g : Got} {s : ByteArray} (hn : (g.map (·.1)).Nodup) : (idxT (g.map (·.1)) s = -1 ∧ getT g s = none) ∨ ∃ i : Nat, i < g.length ∧ idxT (g.map (·.1)) s = i ∧ getT g s = some ((g.map (·.2))[i]?.getD []) := by
  by_cases hs : 0 ≤ idxT (g.map (·.1)) s
  · right
    obtain ⟨i, h1, h2, h3⟩ := idxT_hit hs
    rw [List.length_map] at h2
    refine ⟨i, h2, h1, ?_⟩
    rw [List.getElem?_map, List.getElem?_eq_getElem h2] at h3
    have h4 : g[i].1 = s := by simpa using h3
    have h5 := getT_mem hn (List.getElem_mem h2)
    rw [h4] at h5
    rw [h5, List.getElem?_map, List.getElem?_eq_getElem h2]
    rfl
  · left
    have hr := idxT_range (g.map (·.1)) s
    refine ⟨by omega, getT_none.2 (fun h9 => hs (hr.2.2.2 h9))⟩
set_option maxRecDepth 100000 in
set_option maxHeartbeats 4000000 in
theorem rtold_walk (S F : Nat → Prop) (w : World) (mo : Nat) (ma : Option Addr) (mc : Nat) (na : Option Addr) (nc : Nat) (fv lv : Value) (us : List Value) (a : AskS) (h : RAskAt S F w mo ma mc na nc fv lv us a) (hok : TalkOk a.t) :
    Calls Tryz.prog 53 #[.pointer (some ⟨mo, 0, none⟩)] w fun e w' => Below w.heap.size w w' ∧ ∃ a' cap, e = .returned (.slice a' (toldT a.t).length cap) ∧ VssR w' a' (toldT a.t) := by
  obtain ⟨⟨name, tkey, top, tcf, n, k, mem, wait, got⟩, who, put, moves, n2, k2, mem2, st, tag, text, found⟩ := a
  unfold toldT
  dsimp only at h hok ⊢
  have hn12 : mem.length ≤ 12 := by
    have := talk_cfg hok
    dsimp only at this
    omega
  have hg12 := Nat.le_trans (got_len hok) hn12
  have hnd := hok.nd
  dsimp only at hg12 hnd
  have hms := mem_size hok
  dsimp only at hms
  obtain ⟨m, hm⟩ : ∃ m, mem.length = m := ⟨_, rfl⟩
  obtain ⟨fa, fc, hfv, f1, f2, f3, f4⟩ := h.fr.read
  obtain ⟨la, lc, hlv, l4⟩ := h.L.read
  rw [List.length_map] at hfv hlv
  obtain ⟨g, hg⟩ : ∃ g, got.length = g := ⟨_, rfl⟩
  rw [hg] at hfv hlv hg12
  have c7 : w.cell? ⟨mo, 7, none⟩ = some (.slice ma mem.length mc) := h.cs.cell 7 (by show 7 < 20; decide)
  have c14 : w.cell? ⟨mo, 14, none⟩ = some fv := h.cs.cell 14 (by show 14 < 20; decide)
  have c15 : w.cell? ⟨mo, 15, none⟩ = some lv := h.cs.cell 15 (by show 15 < 20; decide)
  rw [hm] at c7 hn12
  rw [hfv] at c14
  rw [hlv] at c15
  have hm9 : m ≤ 9223372036854775807 := by omega
  have H := Lib.hid (And.intro h (And.intro hm (And.intro hms (And.intro hn12 (And.intro hnd (And.intro hg (And.intro f4 (And.intro l4 hg12))))))))
  have hlt := h.cs.lt
  have KC : Hid (∀ W, Below w.heap.size w W → W.cell? ⟨mo, 7, none⟩ = some (.slice ma m mc) ∧ W.cell? ⟨mo, 14, none⟩ = some (.slice fa g fc) ∧ W.cell? ⟨mo, 15, none⟩ = some (.slice la g lc)) := Lib.hid fun W hb => by
    have c : ∀ {p : Addr} {v}, w.cell? p = some v → W.cell? p = some v := fun {p v} h => (hb.cell (lt_of_cell h)).trans h
    exact ⟨c c7, c c14, c c15⟩
  clear h hok hm hms hn12 hnd f1 f2 f3 f4 l4 hfv hlv hg hg12
  go_enter Tryz.func53, Tryz.ntmps53
  go_wp2
  go_loopw [3, 4] (fun vl vi wr => ∃ (i : Nat) (v : Value), i ≤ m ∧ vi = .int .i64 i ∧ v = vl ∧ Hid (Below w.heap.size w wr ∧ ∃ us, OwnHs w.heap.size (fun b => b < w.heap.size) wr v ((mem.take i).filterMap (getT got)) us)) (fun _ vi _ => m - (intOf vi).toNat)
  case atStart => exact ⟨0, _, by omega, rfl, rfl, Lib.hid ⟨Below.refl _ _, [], OwnHs.nil _ _ _⟩⟩
  case round =>
    obtain ⟨i, v, hi, rfl, hv, Hr⟩ := hrel
    subst hv
    obtain ⟨hbr, us2, hus⟩ := Hr.out
    obtain ⟨d7, d14, d15⟩ := KC.out wr hbr
    have hi2 : i < m ∨ m = i := by omega
    rcases hi2 with hilt | rfl
    · have hilt2 : (i : Int) < m := by omega
      have hil : i < mem.length := by rw [H.out.2.1]; exact hilt
      obtain ⟨b, off, rfl, hcx⟩ : ∃ b off, ma = some ⟨b, off, none⟩ ∧ wr.cell? ⟨b, off + i, none⟩ = some (.string (mem[i]?.getD ⟨#[]⟩)) := by
        rcases H.out.1.mem with he | ⟨b, off, e, _, hl, hc⟩
        · exfalso; dsimp only at he; rw [he] at hil; simp at hil
        · exact ⟨b, off, e, (hbr.cell (p := ⟨b, off + i, none⟩) hl).trans (hc i hil)⟩
      have hsn := told_snoc got mem i hil
      obtain ⟨s, hs⟩ : ∃ s, mem[i]?.getD (⟨#[]⟩ : ByteArray) = s := ⟨_, rfl⟩
      rw [hs] at hcx hsn
      have hszr : w.heap.size ≤ wr.heap.size := hbr.size
      have Ci := fun d os => Calls.regrown_of ((ridx_walk w.heap.size fa g fc (got.map (·.1)) s (Go.Sort.grow (redrawn wr d) os) (by rw [List.length_map]; exact H.out.2.2.2.2.2.1) (by have := H.out.2.2.2.2.2.2.2.2; unfold maxLen; omega) ((H.out.2.2.2.2.2.2.1.below hbr).below ((below_regrown wr d os).mono hszr))).mono fun e w' h => ⟨h.1, h.2 ▸ Below.refl _ _⟩)
      have k7 := cell_regrown d7
      have k14 := cell_regrown d14
      have kx := cell_regrown hcx
      have HX := Lib.hid (And.intro hbr (And.intro hus (And.intro hsn hszr)))
      rcases idx_getT (s := s) H.out.2.2.2.2.1 with ⟨hx, hgt⟩ | ⟨q, hq, hx, hgt⟩
      · rw [hx] at Ci
        have Hgt := Lib.hid hgt
        clear hx hgt hsn hil hbr hus hs Hr
        go_wp2
        refine wp_region_quiet_below (by kernel_rfl) (by kernel_rfl) ?_
        repeat (go_big_quiet_step (first | exact Ci _ _))
        refine wpQuiet_nil ?_
        intro w2 hw'
        obtain ⟨⟨dq, osq⟩, hw2⟩ := hw'
        have hb2 : Below wr.heap.size wr w2 := by rw [hw2]; exact below_regrown wr dq osq
        have HN : Hid (Below w.heap.size w w2 ∧ ∃ us, OwnHs w.heap.size (fun b => b < w.heap.size) w2 v ((mem.take (i + 1)).filterMap (getT got)) us) := Lib.hid ⟨HX.out.1.trans (hb2.mono hszr), us2, by rw [HX.out.2.2.1, Hgt.out]; simpa using HX.out.2.1.heapK hb2⟩
        clear hw2 hb2 k7 k14 kx Ci d7 d14 d15 hcx
        go_wp2
        go_roundw
        case rel =>
          first
          | exact ⟨i + 1, _, by omega, by go_num, rfl, HN⟩
          | (repeat apply Exists.intro); exact ⟨⟨i + 1, _, by omega, by go_num, rfl, HN⟩, rfl⟩
        case measure => simp [intOf]; omega
      · rw [hx] at Ci
        have Hgt := Lib.hid (And.intro hgt hq)
        clear hx hgt hq hsn hil hbr hus hs Hr
        go_wp2
        refine wp_region_quiet_below (by kernel_rfl) (by kernel_rfl) ?_
        repeat (go_big_quiet_step (first | exact Ci _ _))
        refine wpQuiet_nil ?_
        intro w2 hw'
        obtain ⟨⟨dq, osq⟩, hw2⟩ := hw'
        have hb2 : Below wr.heap.size wr w2 := by rw [hw2]; exact below_regrown wr dq osq
        have hbw2 := HX.out.1.trans (hb2.mono hszr)
        obtain ⟨e7, e14, e15⟩ := KC.out w2 hbw2
        obtain ⟨lb, lo, rfl, hlc⟩ : ∃ lb lo, la = some ⟨lb, lo, none⟩ ∧ ∃ ad cp, w2.cell? ⟨lb, lo + q, none⟩ = some (.slice ad ((got.map (·.2))[q]?.getD []).length cp) ∧ RowOk (fun b => b < w.heap.size) w2 (.slice ad ((got.map (·.2))[q]?.getD []).length cp) ((got.map (·.2))[q]?.getD []) := by
          rcases H.out.2.2.2.2.2.2.2.1 with he | ⟨lb, lo, e, hlb, hc⟩
          · exfalso
            have h9 := congrArg List.length he
            rw [List.length_map, List.length_nil] at h9
            have := Hgt.out.2
            omega
          · obtain ⟨ad, cp, h1, h2, h3, h4, h5⟩ := hc q (by rw [List.length_map]; exact Hgt.out.2)
            refine ⟨lb, lo, e, ad, cp, (hbw2.cell (p := ⟨lb, lo + q, none⟩) hlb).trans h1, ad, cp, rfl, h2, h3, h4, ?_⟩
            exact (VrR.toS h5 (Nat.le_refl _) (fun b hb => hb)).kept (KeptBut.of_below (F := fun b => w.heap.size ≤ b) hbw2 (fun _ _ h => h)) (fun b hb _ => by omega)
        obtain ⟨ad, cp, cx, hro⟩ := hlc
        have hlu : us2.length ≤ 2000000 := by
          rw [HX.out.2.1.lenu]
          have h1 := List.length_filterMap_le (getT got) (mem.take i)
          rw [List.length_take] at h1
          have := H.out.2.2.2.1
          have := H.out.2.1
          omega
        have hqi : (q : Int) < g := by have := Hgt.out.2; have := H.out.2.2.2.2.2.1; omega
        obtain ⟨l, hl⟩ : ∃ l, (got.map (·.2))[q]?.getD [] = l := ⟨_, rfl⟩
        rw [hl] at cx hro
        have HQ := Lib.hid (And.intro hbw2 (And.intro (HX.out.2.1.heapK hb2) (And.intro hro (And.intro hlu hl))))
        clear hw2 hb2 k7 k14 kx Ci d7 d14 d15 hcx hro hlu hl hbw2
        go_wp2_with (at_builtin; refine append_one 42 53 (.slice none 0 0) 24 Tryz.underlying42 info_vers rfl 31 39 rfl rfl w.heap.size v us2 _ rfl rfl rfl HQ.out.2.1.own (by have := HQ.out.2.2.2.1; omega) (by have := HQ.out.2.2.2.1; unfold maxLen; omega) HQ.out.1.size ?_)
        intro v6 w6 h1 h2 _
        have HN : Hid (Below w.heap.size w w6 ∧ ∃ us, OwnHs w.heap.size (fun b => b < w.heap.size) w6 v6 ((mem.take (i + 1)).filterMap (getT got)) us) := Lib.hid ⟨HQ.out.1.trans (((Below.refl _ _).alloc HQ.out.1.size _).trans (World.grownBy.below h2 (by simp; have := HQ.out.1.size; omega) (fun k e => (HQ.out.2.1.own.lt k e).1))), _, by
          rw [HX.out.2.2.1, Hgt.out.1, HQ.out.2.2.2.2]; exact OwnHs.snoc HQ.out.2.1 HQ.out.2.2.1 (fun b hb => hb) h1 h2⟩
        clear h1 h2
        go_wp2
        go_roundw
        case rel =>
          first
          | exact ⟨i + 1, _, by omega, by go_num, rfl, HN⟩
          | (repeat apply Exists.intro); exact ⟨⟨i + 1, _, by omega, by go_num, rfl, HN⟩, rfl⟩
        case measure => simp [intOf]; omega
    · rw [← H.out.2.1, List.take_length] at hus
      obtain ⟨a', cap', hv, hrd⟩ := hus.read
      subst hv
      have HE := Lib.hid (And.intro hbr hrd)
      clear hbr hrd hus
      go_wp2
      go_ret
      exact ⟨HE.out.1, _, _, rfl, HE.out.2⟩
end
end Go.Proofs.YtabboioamdphmaaGreatDoor
