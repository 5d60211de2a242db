/- Walks of coder.wide and coder.product. -/
import Derived.Test.YtabboioamdphmaaGreatDoorSCarryHears01
import Derived.Test.YtabboioamdphmaaGreatDoorSCarryHears10
import Derived.Deep.SlicePairs
import Derived.Shelf.Strings.Repeat
import Derived.Test.YtabboioamdphmaaGreatDoorShelf
namespace Go.Proofs.YtabboioamdphmaaGreatDoor
open Go.RowKit

def wideN (k size : Nat) : Nat := (size + k - 1) / k
theorem wide_walk2 (k size : Nat) (w : World) (hk : 1 ≤ k) (hk2 : k ≤ 1000) (hs : size ≤ 100000) :
    Calls Tryz.prog 104 #[.int .i64 k, .int .i64 size] w fun e w' => e = .returned (.int .i64 (wideN k size : Nat)) ∧ w = w' := by
  have h1 : (0 : Int) ≤ (size : Int) + k - 1 := by omega
  have h2 : ((wideN k size : Nat) : Int) = ((size : Int) + k - 1) / k := by
    unfold wideN
    have : ((size + k - 1 : Nat) : Int) = (size : Int) + k - 1 := by omega
    rw [Int.natCast_ediv, this]
  have H2 := Lib.hid h2
  clear h2
  have hk3 : (1 : Int) ≤ k := by omega
  have hk4 : ((k : Int) == 0) = false := by simp; omega
  go_enter Tryz.func104, Tryz.ntmps104
  go_wp2
  go_ret
  exact ⟨by rw [H2.out]; rfl, rfl⟩

def prodN (M : Nat → Nat → Nat) (t : Nat → ByteArray) (i j : Nat) : Nat → Nat := fun c => Mx.dot (M i) (fun l => sb (t l) c) j
theorem prodN_lt {M : Nat → Nat → Nat} (hM : Mx.ByM M) (t : Nat → ByteArray) (i j c : Nat) : prodN M t i j c < 256 := Mx.dot_lt (hM i) j
def prodT (M : Nat → Nat → Nat) (t : Nat → ByteArray) (k W i : Nat) : ByteArray := ⟨(rowText (prodN M t i k) W).toArray⟩
theorem prodT_size (M : Nat → Nat → Nat) (t : Nat → ByteArray) (k W i : Nat) : (prodT M t k W i).size = W := by
  show (rowText (prodN M t i k) W).toArray.size = W
  simp [rowText]
theorem sb_prodT {M : Nat → Nat → Nat} (hM : Mx.ByM M) (t : Nat → ByteArray) (k W i : Nat) {c : Nat} (hc : c < W) : sb (prodT M t k W i) c = prodN M t i k c := by
  unfold sb prodT rowText
  simp [hc]
  exact prodN_lt hM t i k c

set_option maxRecDepth 100000 in
set_option maxHeartbeats 4000000 in
theorem product_walk (n₀ gm om n k cm gt ot ct W : Nat) (p o caps : Nat → Nat) (M : Nat → Nat → Nat) (t : Nat → ByteArray) (w : World) (hn₀ : n₀ ≤ w.heap.size)
    (hM : MatR n₀ w gm om n k p o caps M) (bM : Mx.ByM M) (hT : TxtR n₀ w gt ot k W t) (hn2 : n ≤ 16) (hk : 1 ≤ k) (hk2 : k ≤ 16) (hW : W ≤ 100000) :
    Calls Tryz.prog 103 #[.slice (some ⟨gm, om, none⟩) n cm, .slice (some ⟨gt, ot, none⟩) k ct] w fun e w' => (∃ v, e = .returned v ∧ Own1 9 w.heap.size w' v ((List.range n).map fun i => Value.string (prodT M t k W i))) ∧ Below w.heap.size w w' := by
  have hmk := fun (V : World) => run_make_row' (P := Tryz.prog) (w := V) 112 5 (.int .u8 0) 1 Tryz.underlying112 info_uint8 rfl .i64 .i64 W (by omega) (by omega)
  have Hmk := Lib.hid hmk
  have HM := Lib.hid hM
  have HT := Lib.hid hT
  clear hmk hM hT
  go_enter Tryz.func103, Tryz.ntmps103
  go_wp2
  go_loopw [5, 14] (fun vo vi wr => ∃ i : Nat, i ≤ n ∧ vi = .int .i64 i ∧ Hid (Own1 9 w.heap.size wr vo ((List.range i).map fun i => Value.string (prodT M t k W i)) ∧ Below w.heap.size w wr)) (fun _ i _ => n - (intOf i).toNat)
  case atStart => exact ⟨0, by omega, rfl, Lib.hid ⟨Own1.nil _ _ _, Below.refl _ _⟩⟩
  case round =>
    obtain ⟨i, hi, rfl, H⟩ := hrel
    have hi2 : i < n ∨ i = n := by omega
    rcases hi2 with hlt | rfl
    · have hlt2 : (i : Int) < n := by omega
      have hA1 := (HM.out.below (H.out.2.mono hn₀)).head i hlt
      have hB1 := (HT.out.below (H.out.2.mono hn₀)).cell 0 (by omega)
      rw [Nat.add_zero] at hB1
      have hsz0 := HT.out.size 0 (by omega)
      obtain ⟨t0, ht0⟩ : ∃ t0, t 0 = t0 := ⟨_, rfl⟩
      rw [ht0] at hB1 hsz0
      have hsz0' : (t0.size : Int) = W := by omega
      have hK3 : (0 : Int) < k := by omega
      have hmk := Hmk.out wr
      rw [← hsz0] at hmk
      clear ht0
      obtain ⟨wo, rfl⟩ : ∃ wo : World, wo = wr := ⟨_, rfl⟩
      have Hs0 := Lib.hid hsz0
      clear hsz0 hsz0'
      go_wp2
      rw [Hs0.out]
      have hsz := H.out.2.size
      have hrow := RowV.made wo W
      obtain ⟨W0, hW0⟩ : ∃ W0, (wo.alloc (.cells (madeCells #[.int .u8 0] W) 5)) = W0 := ⟨_, rfl⟩
      have hb0 : Below w.heap.size w W0 := by rw [← hW0]; exact H.out.2.alloc hsz _
      have hm0 : Own1 9 w.heap.size W0 u5 ((List.range i).map fun i => Value.string (prodT M t k W i)) := by rw [← hW0]; exact H.out.1.alloc _
      have hs0 : W0.heap.size = wo.heap.size + 1 := by rw [← hW0]; simp
      have ho0 : u5.ownBlock ≠ some wo.heap.size := fun e => by have := (H.out.1.lt _ e).2; omega
      rw [hW0] at hrow ⊢
      obtain ⟨g, hg⟩ : ∃ g, wo.heap.size = g := ⟨_, rfl⟩
      rw [hg] at hrow hs0 ho0 hsz ⊢
      have Hx := Lib.hid (And.intro hrow (And.intro hb0 (And.intro hm0 (And.intro hs0 ho0))))
      clear hrow hb0 hm0 hs0 ho0 hW0 hg hmk hA1 hB1
      go_loopw [25] (fun vt wr => ∃ j : Nat, j ≤ k ∧ vt = .int .i64 j ∧ Hid (OnlyB g W0 wr ∧ RowV wr g W (prodN M t i j))) (fun t _ => k - (intOf t).toNat)
      case atStart => exact ⟨0, by omega, rfl, Lib.hid ⟨OnlyB.refl _ _, Hx.out.1⟩⟩
      case round =>
        obtain ⟨j, hj, rfl, H2⟩ := hrel
        have hj2 : j < k ∨ j = k := by omega
        rcases hj2 with hjl | rfl
        · have hjl2 : (j : Int) < k := by omega
          have hA2 := (HM.out.below (Hx.out.2.1.mono hn₀))
          have hcA : wr.cell? ⟨p i, o i + j, none⟩ = some (.int .u8 (M i j : Nat)) := (H2.out.1.cell (p := ⟨p i, o i + j, none⟩) (by have := HM.out.plo i hlt; show p i ≠ g; omega)).trans (hA2.cell i hlt j hjl)
          have hx := bM i j
          obtain ⟨x, hxe⟩ : ∃ x, M i j = x := ⟨_, rfl⟩
          rw [hxe] at hcA hx
          have Hxe := Lib.hid hxe
          clear hxe hA2
          obtain ⟨wm, rfl⟩ : ∃ wm : World, wm = wr := ⟨_, rfl⟩
          go_wp2
          go_loopw [32] (fun vs wr => ∃ c : Nat, c ≤ W ∧ vs = .int .i64 c ∧ Hid (OnlyB g W0 wr ∧ RowV wr g W (firstK c (prodN M t i (j + 1)) (prodN M t i j)))) (fun s _ => W - (intOf s).toNat)
          case atStart => exact ⟨0, by omega, rfl, Lib.hid ⟨H2.out.1, H2.out.2.congr fun j _ => by unfold firstK; rw [if_neg (by omega)]⟩⟩
          case round =>
            obtain ⟨c, hc, rfl, H3⟩ := hrel
            have hc2 : c < W ∨ c = W := by omega
            rcases hc2 with hcl | rfl
            · have hcl2 : (c : Int) < W := by omega
              have hB2 := (HT.out.below (Hx.out.2.1.mono hn₀))
              have hcB : wr.cell? ⟨gt, ot + j, none⟩ = some (.string (t j)) := (H3.out.1.cell (p := ⟨gt, ot + j, none⟩) (by have := HT.out.lo; show gt ≠ g; omega)).trans (hB2.cell j hjl)
              have hcD : wr.cell? ⟨g, c, none⟩ = some (.int .u8 (prodN M t i j c : Nat)) := by
                have := H3.out.2.cell c hcl
                unfold firstK at this; rwa [if_neg (by omega)] at this
              have hfr := H3.out.2.free c hcl
              have hd : prodN M t i j c < 256 := prodN_lt bM t i j c
              have hts := HT.out.size j hjl
              have hcs : c < (t j).size := by omega
              have hsb := sb_get (t j) c hcs
              have hnew : prodN M t i (j + 1) c = prodN M t i j c ^^^ Gf.mul x (sb (t j) c) := by
                unfold prodN
                show Mx.dot _ _ j ^^^ Gf.mul (M i j) (sb (t j) c) = _
                rw [Hxe.out]
              rw [hsb] at hnew
              obtain ⟨tj, htj⟩ : ∃ tj, tj = t j := ⟨_, rfl⟩
              have hkey : ∃ (hcs' : c < tj.size), prodN M t i (j + 1) c = prodN M t i j c ^^^ Gf.mul x (tj[c]'hcs').toNat := by subst htj; exact ⟨hcs, hnew⟩
              rw [← htj] at hcB
              obtain ⟨hcs', hnew'⟩ := hkey
              have hy : (tj[c]'hcs').toNat < 256 := (tj[c]'hcs').toNat_lt
              obtain ⟨d, hde⟩ : ∃ d, prodN M t i j c = d := ⟨_, rfl⟩
              rw [hde] at hcD hd hnew'
              have hml := Gf.mul_lt (tj[c]'hcs').toNat hx
              have hz3 : bits .xor .u8 (d : Int) ((Gf.mul x (tj[c]'hcs').toNat : Nat) : Int) = ((d ^^^ Gf.mul x (tj[c]'hcs').toNat : Nat) : Int) := u8_xor_nat _ _ hd hml
              have hmq := fun V => mul_q x (tj[c]'hcs').toNat V hx hy
              obtain ⟨q, hqe⟩ : ∃ q, Gf.mul x (tj[c]'hcs').toNat = q := ⟨_, rfl⟩
              rw [hqe] at hz3 hmq hml hnew'
              have Hz3 := Lib.hid hz3
              have Hnew := Lib.hid hnew'
              have Hmq := Lib.hid hmq
              have hcs3 : (c : Int) < tj.size := by omega
              clear hz3 hnew hnew' hmq hsb htj hde hqe hB2 hts hcs
              go_wp2
              refine wp_region_still_tail 14 (by kernel_rfl) (by kernel_rfl) ?_
              simp only [List.take_succ_cons, List.take_zero, List.drop_succ_cons, List.drop_zero]
              repeat still_step
              still_call (Hmq.out _)
              repeat still_step
              refine wpStill_nil ?_
              change wpList _ _ _ _ _ wr.drew
              go_wp2
              go_roundw
              case rel =>
                refine ⟨c + 1, by omega, by go_num, Lib.hid ⟨?_, ?_⟩⟩
                · exact (H3.out.1.trans (OnlyB.setCell _ _ _ _)).trans (OnlyB.drewN _ _ 1)
                · refine RowV.drewN 1 ?_
                  rw [Hz3.out]
                  refine (H3.out.2.set (x := d ^^^ q) hcl).congr fun j' hj' => ?_
                  unfold Mx.upd firstK
                  by_cases e : j' = c
                  · subst e; rw [if_pos rfl, if_pos (by omega)]; exact Hnew.out.symm
                  · rw [if_neg e]
                    by_cases e2 : j' < c
                    · rw [if_pos e2, if_pos (by omega)]
                    · rw [if_neg e2, if_neg (by omega)]
              case measure => simp [intOf]; omega
            · go_wp2
              go_roundw
              case rel => exact ⟨j + 1, by omega, by go_num, Lib.hid ⟨H3.out.1, H3.out.2.congr fun j' hj' => by unfold firstK; rw [if_pos hj']⟩⟩
              case measure => simp [intOf]; omega
        · obtain ⟨_, hb0, hm0, hs0, ho0⟩ := Hx.out
          have hm1 : Own1 9 w.heap.size wr u5 ((List.range i).map fun i => Value.string (prodT M t j W i)) :=
            hm0.kept (row := some g) ⟨H2.out.1.os, H2.out.1.tape, H2.out.1.output, Nat.le_of_eq H2.out.1.size.symm, fun q _ hq => H2.out.1.block q (fun e => hq (by rw [e]))⟩ (by
              cases e : u5.ownBlock with
              | none => exact .inl rfl
              | some q => exact .inr (fun e2 => ho0 (by rw [e, ← e2])))
          have hb1 := hb0.trans (H2.out.1.below hsz)
          have hown := Lib.hid hm1
          have hul : ((List.range i).map fun i => Value.string (prodT M t j W i)).length ≤ 1000000 := by simp; omega
          have hsz1 := hb1.size
          have hcv := conv_row wr g 0 W W (prodN M t i j) (prodN_lt bM t i j) (fun c hc => by rw [Nat.zero_add]; exact H2.out.2.cell c hc)
          have hpt : (⟨(rowText (prodN M t i j) W).toArray⟩ : ByteArray) = prodT M t j W i := rfl
          rw [hpt] at hcv
          obtain ⟨pt, hpte⟩ : ∃ pt, prodT M t j W i = pt := ⟨_, rfl⟩
          rw [hpte] at hcv
          have Hpte := Lib.hid hpte
          have Hy := Lib.hid (And.intro hm1 hb1)
          clear hb0 hm0 hs0 ho0 hm1 hb1 hpt hpte
          go_wp2_with (at_builtin; refine append_str 51 54 rfl rfl w.heap.size _ _ pt rfl rfl hown.out hul hsz1 ?_)
          intro v' w' k1 k2 k3
          obtain ⟨hm1, hb1⟩ := Hy.out
          have hb2 : Below w.heap.size w w' := (hb1.alloc hsz1 _).grown k2 (by simp; omega) (fun j e => (hm1.lt j e).1)
          have hm3 : Own1 9 w.heap.size w' v' ((List.range (i + 1)).map fun i => Value.string (prodT M t j W i)) := by
            rw [List.range_succ, List.map_append, List.map_cons, List.map_nil, Hpte.out]; exact k1
          have HR := Lib.hid (And.intro hm3 hb2)
          clear hm1 hb1 hb2 hm3 k1 k2 k3 Hy hown hcv
          go_wp2
          go_roundw
          case rel => exact ⟨i + 1, by omega, by go_num, HR⟩
          case measure => simp [intOf]; omega
    · go_wp2
      go_ret
      exact ⟨⟨_, rfl, H.out.1⟩, H.out.2⟩
end Go.Proofs.YtabboioamdphmaaGreatDoor
/- Slices of shards: that are read, and that are the call's own. -/
namespace Go.Proofs.YtabboioamdphmaaGreatDoor
open Go.RowKit

abbrev Sh := Int × ByteArray
def shV : List Sh → List Value
  | [] => []
  | x :: r => .int .i64 x.1 :: .string x.2 :: shV r
theorem shV_append : ∀ (a b : List Sh), shV (a ++ b) = shV a ++ shV b
  | [], _ => rfl
  | x :: r, b => by show _ :: _ :: shV (r ++ b) = _; rw [shV_append r b]; rfl
theorem shV_length : ∀ l : List Sh, (shV l).length = l.length * 2
  | [] => rfl
  | x :: r => by show (shV r).length + 1 + 1 = (r.length + 1) * 2; rw [shV_length r]; omega
theorem shV_at : ∀ (l : List Sh) (i : Nat), i < l.length → (shV l)[i * 2]? = some (.int .i64 (l[i]?.getD (0, ⟨#[]⟩)).1) ∧ (shV l)[i * 2 + 1]? = some (.string (l[i]?.getD (0, ⟨#[]⟩)).2)
  | [], _, h => by simp at h
  | x :: r, 0, _ => ⟨rfl, rfl⟩
  | x :: r, i + 1, h => by
    have := shV_at r i (by simpa using h)
    rw [show (i + 1) * 2 = i * 2 + 1 + 1 by omega]
    exact this
def OwnS (B : Nat) (w : World) (v : Value) (l : List Sh) : Prop := w.ownsRow B 74 2 v l.length (shV l)
theorem OwnS.nil (B : Nat) (w : World) : OwnS B w (.slice none 0 0) [] := World.ownsRow_nil _ _ _ _
theorem OwnS.lt {B : Nat} {w : World} {v : Value} {l : List Sh} (h : OwnS B w v l) : ∀ k, v.ownBlock = some k → B ≤ k ∧ k < w.heap.size := World.ownsRow.lt h
theorem OwnS.kept {B : Nat} {w w' : World} {row : Option Nat} {v : Value} {l : List Sh} (h : OwnS B w v l) (hg : w.grownBy w' row) (hne : v.ownBlock = none ∨ v.ownBlock ≠ row) : OwnS B w' v l := World.ownsRow.kept h hg hne
theorem OwnS.below {B n₀ : Nat} {w w' : World} {v : Value} {l : List Sh} (h : OwnS B w v l) (hb : Below n₀ w w') (hn : w.heap.size ≤ n₀) : OwnS B w' v l :=
  OwnS.kept (row := none) h ⟨hb.os, hb.tape, hb.output, hb.size, fun k hk _ => hb.block k (by omega)⟩ (by cases v.ownBlock <;> simp)
theorem OwnS.lower {B B' : Nat} {w : World} {v : Value} {l : List Sh} (h : OwnS B w v l) (hB : B' ≤ B) : OwnS B' w v l := by
  unfold OwnS World.ownsRow at *
  refine ⟨h.1, ?_⟩
  rcases h.2 with h2 | ⟨g, cap, cur, e, hb, h3⟩
  · exact .inl h2
  · exact .inr ⟨g, cap, cur, e, Nat.le_trans hB hb, h3⟩
theorem info_shard : (Tryz.prog.info? 74).map (fun i => (i.zero, i.size, i.bytes)) = some (some (.agg #[.int .i64 0, .string ⟨#[]⟩]), 2, 24) := by kernel_rfl
theorem append_shard {ops : Array Oper} {rest : List Oper} {o : Oper} {a : Act} {Q : Exit → Act → World → Prop} {w0 : World} (s x : Nat) (hgd : o.guard = none)
    (ho : o.op = .call { callee := .builtin .append, args := #[.tmp s, .tmp x], argTypes := #[125, 125] }) (B : Nat) (v : Value) (l : List Sh) (n : Int) (t : ByteArray)
    (hs : a.eval (.tmp s) = v) (hx : a.eval (.tmp x) = .slice (some ⟨w0.heap.size, 0, none⟩) 1 1) (hown : OwnS B w0 v l) (hl : l.length ≤ 1000000) (hB : B ≤ w0.heap.size)
    (h : ∀ v' w', OwnS B w' v' (l ++ [(n, t)]) → (w0.alloc (.cells #[.int .i64 n, .string t] 74)).grownBy w' v.ownBlock → (v'.ownBlock = v.ownBlock ∨ v'.ownBlock = some (w0.heap.size + 1)) → wpList Tryz.prog ops Q rest (a.put o.dst v') w') :
    wpList Tryz.prog ops Q (o :: rest) a (w0.alloc (.cells #[.int .i64 n, .string t] 74)) := by
  obtain ⟨i, hi, hz0, hz1, hz2⟩ := info_parts info_shard
  have hown' : (w0.alloc (.cells #[.int .i64 n, .string t] 74)).ownsRow B 74 2 v l.length (shV l) := World.ownsRow.alloc hown _
  refine wpList_append_own_at _ hgd (.tmp s) (.tmp x) 125 ho B 74 i _ 2 24 Tryz.underlying125 hi hz0 hz1 hz2 rfl (by decide) v l.length (shV l) hs hown' ⟨w0.heap.size, 0, none⟩ 1 1 [.int .i64 n, .string t] hx rfl (fun j u hj => ?_) (fun u hu => ?_) (by unfold maxLen; omega) (by omega) (by simp; omega) ?_
  · have hj2 : j < 2 := by have := (List.getElem?_eq_some_iff.1 hj).1; simpa using this
    rw [Go.WideShapes.add_plain, Nat.zero_add, World.cell?_alloc_at _ _ _ _ rfl]
    rcases (show j = 0 ∨ j = 1 by omega) with rfl | rfl <;> simpa using hj
  · simp at hu
    rcases hu with rfl | rfl <;> rfl
  · intro v' w' h1 h2 _ h4
    refine h v' w' ?_ h2 (by simpa using h4)
    unfold OwnS
    rw [shV_append, List.length_append]
    exact h1
def ShR (n₀ : Nat) (w : World) (a : Option Addr) (l : List Sh) : Prop :=
  l = [] ∨ ∃ b off, a = some ⟨b, off, none⟩ ∧ b < n₀ ∧ ∀ i, i < l.length → w.cell? ⟨b, off + i * 2, none⟩ = some (.int .i64 (l[i]?.getD (0, ⟨#[]⟩)).1) ∧ w.cell? ⟨b, off + i * 2 + 1, none⟩ = some (.string (l[i]?.getD (0, ⟨#[]⟩)).2)
theorem ShR.below {n₀ : Nat} {A B : World} (h : Below n₀ A B) {a : Option Addr} {l : List Sh} : ShR n₀ A a l → ShR n₀ B a l
  | .inl e => .inl e
  | .inr ⟨b, off, e, hb, hc⟩ => .inr ⟨b, off, e, hb, fun j hj => ⟨(h.cell (p := ⟨b, off + j * 2, none⟩) hb).trans (hc j hj).1, (h.cell (p := ⟨b, off + j * 2 + 1, none⟩) hb).trans (hc j hj).2⟩⟩
theorem ShR.mono {n₀ n₁ : Nat} {A : World} (h : n₀ ≤ n₁) {a : Option Addr} {l : List Sh} : ShR n₀ A a l → ShR n₁ A a l
  | .inl e => .inl e
  | .inr ⟨b, off, e, hb, hc⟩ => .inr ⟨b, off, e, by omega, hc⟩
theorem OwnS.read {B : Nat} {w : World} {v : Value} {l : List Sh} (h : OwnS B w v l) : ∃ a cap, v = .slice a l.length cap ∧ l.length ≤ cap ∧ cap ≤ maxLen ∧ ShR w.heap.size w a l := by
  rcases h.2 with ⟨rfl, hn⟩ | ⟨g, cap, cur, rfl, hb, hg, hc, hm, hs, ht⟩
  · have : l = [] := List.length_eq_zero_iff.1 hn
    subst this
    exact ⟨none, 0, rfl, Nat.le_refl _, by simp [maxLen], .inl rfl⟩
  · have hh : w.ownsRow B 74 2 (.slice (some ⟨g, 0, none⟩) l.length cap) l.length (shV l) := ⟨h.1, .inr ⟨g, cap, cur, rfl, hb, hg, hc, hm, hs, ht⟩⟩
    refine ⟨_, cap, rfl, hc, hm, .inr ⟨g, 0, rfl, (Array.getElem?_eq_some_iff.1 hg).1, fun i hi => ?_⟩⟩
    have h1 := shV_at l i hi
    have hlen := shV_length l
    have c1 := hh.cellAt (i * 2) (by omega)
    have c2 := hh.cellAt (i * 2 + 1) (by omega)
    rw [Nat.zero_add]
    exact ⟨c1.trans h1.1, c2.trans h1.2⟩
end Go.Proofs.YtabboioamdphmaaGreatDoor
/- The walk of coder.Encode. -/
namespace Go.Proofs.YtabboioamdphmaaGreatDoor
open Go.RowKit

theorem wide_facts (k size : Nat) (hk : 1 ≤ k) : size ≤ k * wideN k size ∧ k * wideN k size ≤ size + k - 1 := by
  unfold wideN
  have h1 := Nat.div_add_mod (size + k - 1) k
  have h2 := Nat.mod_lt (size + k - 1) (show k > 0 by omega)
  omega
theorem wide_le (k size : Nat) (hk : 1 ≤ k) : wideN k size ≤ size + k - 1 := by
  have h := (wide_facts k size hk).2
  have : 1 * wideN k size ≤ k * wideN k size := Nat.mul_le_mul_right _ hk
  omega
theorem sb_append (s z : ByteArray) (hz : ∀ i, sb z i = 0) (i : Nat) : sb (s ++ z) i = sb s i := by
  unfold sb
  have e : (s ++ z).data.toList = s.data.toList ++ z.data.toList := by
    simp
  rw [e]
  by_cases h : i < s.data.toList.length
  · rw [List.getElem?_append_left h]
  · rw [List.getElem?_append_right (by omega), List.getElem?_eq_none (l := s.data.toList) (by omega)]
    have := hz (i - s.data.toList.length)
    unfold sb at this
    exact this
theorem sb_extract (s : ByteArray) (a b c : Nat) (hc : a + c < b) : sb (s.extract a b) c = sb s (a + c) := by
  unfold sb
  have e : (s.extract a b).data.toList = (s.data.toList.drop a).take (b - a) := by
    simp [ByteArray.data_extract, Array.toList_extract, List.extract_eq_take_drop]
  rw [e, List.getElem?_take, if_pos (by omega), List.getElem?_drop]
def encF (k : Nat) (s : ByteArray) (i c : Nat) : Nat := Mx.dot (Mx.spr k i) (fun l => sb s (l * wideN k s.size + c)) k
theorem encF_lt (k : Nat) (s : ByteArray) (i c : Nat) : encF k s i c < 256 := Mx.dot_lt (Mx.by_spr k i) k
def encT (k : Nat) (s : ByteArray) (i : Nat) : ByteArray := ⟨(rowText (encF k s i) (wideN k s.size)).toArray⟩
theorem encT_size (k : Nat) (s : ByteArray) (i : Nat) : (encT k s i).size = wideN k s.size := by
  show (rowText _ _).toArray.size = _
  simp [rowText]
def encL (n k : Nat) (s : ByteArray) : List Sh := (List.range n).map fun i : Nat => ((i : Int), encT k s i)
theorem encL_length (n k : Nat) (s : ByteArray) : (encL n k s).length = n := by simp [encL]
def objT (s : ByteArray) (W j : Nat) : ByteArray := s.extract (j * W) ((j + 1) * W)
theorem prod_enc {k : Nat} {s s2 : ByteArray} (h : ∀ i, sb s2 i = sb s i) (i : Nat) : prodT (Mx.spr k) (objT s2 (wideN k s.size)) k (wideN k s.size) i = encT k s i := by
  unfold prodT encT
  have e : rowText (prodN (Mx.spr k) (objT s2 (wideN k s.size)) i k) (wideN k s.size) = rowText (encF k s i) (wideN k s.size) := by
    unfold rowText
    refine List.map_congr_left fun c hc => ?_
    have hc := List.mem_range.1 hc
    congr 1
    unfold prodN encF
    refine Mx.dot_congr (fun _ _ => rfl) (fun l _ => ?_)
    unfold objT
    rw [sb_extract _ _ _ _ (by rw [Nat.add_mul]; omega), h]
  rw [e]
theorem sb_zeros (m : Nat) (i : Nat) : sb ⟨(Lib.repeatL [0] m).toArray⟩ i = 0 := by
  have e : Lib.repeatL [0] m = List.replicate m 0 := by
    have := Lib.repeatL_replicate 0 1 m
    simpa using this
  unfold sb
  rw [e]
  simp [List.getElem?_replicate]
  split <;> rfl

set_option maxRecDepth 100000 in
set_option maxHeartbeats 4000000 in
theorem encode_walk (n k : Nat) (s : ByteArray) (w : World) (E : Nat → Addr) (hE : ErrEz w E) (hk : 1 ≤ k) (hkn : k ≤ n) (hn : n ≤ 12) (hs : s.size ≤ 1000) :
    Calls Tryz.prog 72 #[.int .i64 n, .int .i64 k, .string s] w fun e w' => (∃ v, e = .returned (.tuple #[v, .nilIface]) ∧ OwnS w.heap.size w' v (encL n k s)) ∧ Below w.heap.size w w' := by
  have HE := Lib.hid hE; clear hE
  have hwf := wide_facts k s.size hk
  have hwl := wide_le k s.size hk
  obtain ⟨P, hP⟩ : ∃ P, k * wideN k s.size = P := ⟨_, rfl⟩
  rw [hP] at hwf
  have hwk := fun V => wide_walk2 k s.size V hk (by omega) (by omega)
  have hpe := fun (s2 : ByteArray) h1 i => prod_enc (k := k) (s := s) (s2 := s2) h1 i
  obtain ⟨W, hW⟩ : ∃ W, wideN k s.size = W := ⟨_, rfl⟩
  rw [hW] at hwk hwl hP hpe
  have hPi : (k : Int) * (W : Int) = (P : Int) := by rw [← hP]; push_cast; rfl
  have HP := Lib.hid hP
  have Hpe := Lib.hid hpe
  have Hwk := Lib.hid hwk
  clear hW hwk hP hpe
  have hsl : ¬ (1000 : Int) < s.size := by omega
  go_enter Tryz.func72, Tryz.ntmps72
  go_wp2_with fail
  refine (spread_walk n k w E HE.out hk hkn hn).mono ?_
  rintro e w1 ⟨⟨v1, bs1, cp1, rfl, hm1⟩, hb1⟩
  obtain ⟨g1, c1, hve, _, _, hV1⟩ := hm1.mat (by omega)
  rw [hve]
  have H1 := Lib.hid hb1
  have HV1 := Lib.hid (hV1.read (by omega) (by omega))
  clear hve hV1 hm1 hb1
  go_wp2_with fail
  refine (Hwk.out _).mono ?_
  rintro e w' ⟨rfl, rfl⟩
  go_wp2_with fail
  have hrep := Tryz.strings_Repeat ⟨#[0]⟩ (P - s.size) w1 (by omega) (by show 1 * (P - s.size) ≤ _; omega)
  have ecs : ((P : Int) - s.size) = ((P - s.size : Nat) : Int) := by omega
  rw [ecs]
  refine hrep.mono ?_
  rintro e w2 ⟨rfl, hb2⟩
  have hz0 : ∀ i, sb ⟨(Lib.repeatL [0] (P - s.size)).toArray⟩ i = 0 := sb_zeros _
  have hz1 : (⟨(Lib.repeatL [0] (P - s.size)).toArray⟩ : ByteArray).size = P - s.size := by
    show (Lib.repeatL [0] (P - s.size)).toArray.size = _
    simp [Lib.repeatL_length]
  have hzd : (⟨#[0]⟩ : ByteArray).data.toList = [0] := rfl
  rw [hzd]
  obtain ⟨z, hz⟩ : ∃ z, (⟨(Lib.repeatL [0] (P - s.size)).toArray⟩ : ByteArray) = z := ⟨_, rfl⟩
  rw [hz] at hz0 hz1 ⊢
  have hz2 : P ≤ s.size + z.size := by omega
  have hz3 : s.size + z.size ≤ P := by omega
  have H2 := Lib.hid (H1.out.trans (hb2.mono H1.out.size))
  have HV2 := Lib.hid ((HV1.out.below hb2).mono hb2.size)
  have Hz0 := Lib.hid hz0
  have Hpe2 := Lib.hid (Hpe.out (s ++ z) (sb_append s z hz0))
  clear hz hz0 hz1 hzd hrep hb2 ecs HV1
  go_wp2
  go_loopw [11, 43] (fun vo vi wr => ∃ i : Nat, i ≤ k ∧ vi = .int .i64 i ∧ Hid (Own1 9 w2.heap.size wr vo ((List.range i).map fun j => Value.string (objT (s ++ z) W j)) ∧ Below w2.heap.size w2 wr)) (fun _ i _ => k - (intOf i).toNat)
  case atStart => exact ⟨0, by omega, rfl, Lib.hid ⟨Own1.nil _ _ _, Below.refl _ _⟩⟩
  case round =>
    obtain ⟨i, hi, rfl, H⟩ := hrel
    have hi2 : i < k ∨ i = k := by omega
    rcases hi2 with hlt | rfl
    · have hlt2 : (i : Int) < k := by omega
      obtain ⟨a, ha⟩ : ∃ a, i * W = a := ⟨_, rfl⟩
      obtain ⟨b, hb⟩ : ∃ b, (i + 1) * W = b := ⟨_, rfl⟩
      have hab : a ≤ b := by rw [← ha, ← hb]; exact Nat.mul_le_mul_right _ (by omega)
      have hbP : b ≤ P := by rw [← hb, ← HP.out]; exact Nat.mul_le_mul_right _ (by omega)
      have hai : (i : Int) * (W : Int) = (a : Int) := by rw [← ha]; push_cast; rfl
      have hbi : ((i : Int) + 1) * (W : Int) = (b : Int) := by rw [← hb]; push_cast; rfl
      have hobj : objT (s ++ z) W i = (s ++ z).extract a b := by unfold objT; rw [ha, hb]
      have Hobj := Lib.hid hobj
      have hul : ((List.range i).map fun j => Value.string (objT (s ++ z) W j)).length ≤ 1000000 := by simp; omega
      have hsz1 := H.out.2.size
      clear ha hb hobj
      go_wp2_with (at_builtin; refine append_str 46 56 rfl rfl w2.heap.size _ _ ((s ++ z).extract a b) rfl rfl H.out.1 hul hsz1 ?_)
      intro v' w' k1 k2 k3
      have hb2 : Below w2.heap.size w2 w' := (H.out.2.alloc hsz1 _).grown k2 (by simp; omega) (fun j e => (H.out.1.lt j e).1)
      have hm3 : Own1 9 w2.heap.size w' v' ((List.range (i + 1)).map fun j => Value.string (objT (s ++ z) W j)) := by
        rw [List.range_succ, List.map_append, List.map_cons, List.map_nil, Hobj.out]; exact k1
      have HR := Lib.hid (And.intro hm3 hb2)
      clear hb2 hm3 k1 k2 k3
      go_wp2
      go_roundw
      case rel => exact ⟨i + 1, by omega, by go_num, HR⟩
      case measure => simp [intOf]; omega
    · have hobs : ∀ j, j < i → (objT (s ++ z) W j).size = W := fun j hj => by
        have h1 : (j + 1) * W ≤ P := by rw [← HP.out]; exact Nat.mul_le_mul_right _ (by omega)
        unfold objT
        rw [ByteArray.size_extract, ByteArray.size_append, Nat.add_mul]
        rw [Nat.add_mul] at h1
        omega
      obtain ⟨gt, ct, hve, _, _, hTx⟩ := txt_of_own H.out.1 (by omega) hobs
      rw [hve]
      have hMx := (HV2.out.below H.out.2).mono H.out.2.size
      have Hpr := Lib.hid (product_walk wr.heap.size g1 0 n i c1 gt 0 ct W bs1 (fun _ => 0) cp1 (Mx.spr i) (objT (s ++ z) W) wr (Nat.le_refl _) hMx (Mx.by_spr i) hTx (by omega) hk (by omega) (by omega))
      have HB := Lib.hid (H2.out.trans (H.out.2.mono H2.out.size))
      clear hve hTx hMx hobs
      go_wp2_with fail
      refine Hpr.out.mono ?_
      rintro e w3 ⟨⟨v3, rfl, hv3⟩, hb3⟩
      have hsame : ((List.range n).map fun j => Value.string (prodT (Mx.spr i) (objT (s ++ z) W) i W j)) = (List.range n).map fun j => Value.string (encT i s j) :=
        List.map_congr_left fun j _ => by rw [Hpe2.out j]
      rw [hsame] at hv3
      obtain ⟨gp, cp, hve, _, _, hTp⟩ := txt_of_own hv3 (by omega) (fun j _ => encT_size i s j)
      rw [hve]
      have H3 := Lib.hid (HB.out.trans (hb3.mono HB.out.size))
      have HTp := Lib.hid hTp
      clear hve hv3 hTp hb3 hsame Hpr
      go_wp2
      go_loopw [13, 63] (fun vo vi wr => ∃ j : Nat, j ≤ n ∧ vi = .int .i64 j ∧ Hid (OwnS w3.heap.size wr vo (encL j i s) ∧ Below w3.heap.size w3 wr)) (fun _ i _ => n - (intOf i).toNat)
      case atStart => exact ⟨0, by omega, rfl, Lib.hid ⟨OwnS.nil _ _, Below.refl _ _⟩⟩
      case round =>
        obtain ⟨j, hj, rfl, H4⟩ := hrel
        have hj2 : j < n ∨ j = n := by omega
        rcases hj2 with hjl | rfl
        · have hjl2 : (j : Int) < n := by omega
          have hc1 := (HTp.out.below H4.out.2).cell j hjl
          rw [Nat.zero_add] at hc1
          obtain ⟨tx, htx⟩ : ∃ tx, encT i s j = tx := ⟨_, rfl⟩
          rw [htx] at hc1
          have Htx := Lib.hid htx
          have hul : (encL j i s).length ≤ 1000000 := by rw [encL_length]; omega
          have hsz4 := H4.out.2.size
          clear htx
          go_wp2_with (at_builtin; refine append_shard 68 72 rfl rfl w3.heap.size _ _ (j : Int) tx rfl rfl H4.out.1 hul hsz4 ?_)
          intro v' w' k1 k2 k3
          have hb5 : Below w3.heap.size w3 w' := (H4.out.2.alloc hsz4 _).grown k2 (by simp; omega) (fun q e => (H4.out.1.lt q e).1)
          have hm5 : OwnS w3.heap.size w' v' (encL (j + 1) i s) := by
            unfold encL at k1 ⊢
            rw [List.range_succ, List.map_append, List.map_cons, List.map_nil, Htx.out]; exact k1
          have HR := Lib.hid (And.intro hm5 hb5)
          clear hb5 hm5 k1 k2 k3
          go_wp2
          go_roundw
          case rel => exact ⟨j + 1, by omega, by go_num, HR⟩
          case measure => simp [intOf]; omega
        · go_wp2
          go_ret2
          exact ⟨⟨_, rfl, H4.out.1.lower H3.out.size⟩, H3.out.trans (H4.out.2.mono H3.out.size)⟩

end Go.Proofs.YtabboioamdphmaaGreatDoor
/- The walk of the laws' single. -/
namespace Go.Proofs.YtabboioamdphmaaGreatDoor
open Go.RowKit

theorem OwnS.at_ {B : Nat} {w : World} {v : Value} {l : List Sh} (h : OwnS B w v l) (hl : 0 < l.length) : ∃ g cap, v = .slice (some ⟨g, 0, none⟩) l.length cap ∧ B ≤ g ∧ g < w.heap.size ∧ l.length ≤ cap ∧
    ∀ i, i < l.length → w.cell? ⟨g, i * 2, none⟩ = some (.int .i64 (l[i]?.getD (0, ⟨#[]⟩)).1) ∧ w.cell? ⟨g, i * 2 + 1, none⟩ = some (.string (l[i]?.getD (0, ⟨#[]⟩)).2) := by
  rcases h.2 with ⟨rfl, hn⟩ | ⟨g, cap, cur, rfl, hb, hg, hc, hm, hs, ht⟩
  · omega
  · have hh : w.ownsRow B 74 2 (.slice (some ⟨g, 0, none⟩) l.length cap) l.length (shV l) := ⟨h.1, .inr ⟨g, cap, cur, rfl, hb, hg, hc, hm, hs, ht⟩⟩
    refine ⟨g, cap, rfl, hb, (Array.getElem?_eq_some_iff.1 hg).1, hc, fun i hi => ?_⟩
    have h1 := shV_at l i hi
    have hlen := shV_length l
    exact ⟨(hh.cellAt (i * 2) (by omega)).trans h1.1, (hh.cellAt (i * 2 + 1) (by omega)).trans h1.2⟩
end Go.Proofs.YtabboioamdphmaaGreatDoor
