/- The walk of the law CoderDecodes: Agree, Rebuild, the document's Decode, the law's cases (refused; true at once; told) and their joining. -/
import Derived.Test.YtmaalkjimppnkaaDoorCodM
import Derived.Test.YtmaalkjimppnkaaDoorCodE
import Derived.Test.YtmaalkjimppnkaaDoorCodF
import Derived.Test.YtmaalkjimppnkaaDoorCodG
import Derived.Test.YtmaalkjimppnkaaDoorOpen
import Derived.Test.YtmaalkjimppnkaaDoorCodC
import Derived.RegionTactic
import Derived.Deep.SlicePairs
import Derived.Test.YtmaalkjimppnkaaDoorEnv
namespace Go.Proofs.YtmaalkjimppnkaaDoor
open Go.RowKit

/-- what Some answers. -/
def SomeOut (w w' : World) (n k W : Nat) (l : List Sh) (e : Ending) : Prop := Below w.heap.size w w' ∧
  ((¬ (∀ s ∈ l, GoodS n W s) ∧ e = .returned (.tuple #[.slice none 0 0, .int .i64 3])) ∨ ((∀ s ∈ l, GoodS n W s) ∧ (pickS k l).length < k ∧ e = .returned (.tuple #[.slice none 0 0, .int .i64 8])) ∨
    ((∀ s ∈ l, GoodS n W s) ∧ (pickS k l).length = k ∧ ∃ v, e = .returned (.tuple #[v, .int .i64 0]) ∧ OwnS w.heap.size w' v (pickS k l)))
theorem any_take (P : List Sh) (s1 : Int) {j : Nat} (hj : j < P.length) : (P.take (j + 1)).any (fun x => decide (x.1 = s1)) = ((P.take j).any (fun x => decide (x.1 = s1)) || decide ((P[j]?.getD (0, ⟨#[]⟩)).1 = s1)) := by
  rw [List.take_succ_eq_append_getElem hj, List.any_append, List.getElem?_eq_getElem hj]
  simp
set_option maxRecDepth 100000 in
set_option maxHeartbeats 8000000 in
theorem rsome_walk (n₀ n k size : Nat) (a : Option Addr) (cap : Nat) (l : List Sh) (w : World)
    (hk : 1 ≤ k) (hkn : k ≤ n) (hn : n ≤ 12) (hs : size ≤ 1000) (hl : l.length ≤ maxLen) (hn₀ : n₀ ≤ w.heap.size) (hI : ShR n₀ w a l) :
    Calls Tryd.prog 97 #[.int .i64 n, .int .i64 k, .int .i64 size, .slice a l.length cap] w fun e w' => SomeOut w w' n k (wideN k size) l e := by
  have Hwq := Lib.hid (fun V => rwide_walk k size V hk (by omega) (by omega))
  obtain ⟨W, hW⟩ : ∃ W, wideN k size = W := ⟨_, rfl⟩
  rw [hW] at Hwq ⊢
  obtain ⟨len, hlen⟩ : ∃ len, l.length = len := ⟨_, rfl⟩
  have hm' : len ≤ 9223372036854775807 := by rw [← hlen]; exact hl
  have Hlen := Lib.hid hlen
  have HI := Lib.hid hI
  rw [hlen]
  have es : isSpreadB n k = true := decide_eq_true (by omega)
  have Es := Lib.hid es
  clear hlen hI hl hW es
  have g1 : ¬ (size : Int) < 0 := by omega
  have g2 : ¬ (1000 : Int) < size := by omega
  go_enter Tryd.func97, Tryd.ntmps97
  go_wp2_with fail
  refine (isspread_walk n k w).mono ?_
  rintro e w' ⟨rfl, hw'⟩
  subst hw'
  rw [Es.out]
  go_wp2
  go_loopw [11, 12] (fun vo vi wr => ∃ i : Nat, i ≤ len ∧ vi = .int .i64 i ∧ Hid (OwnS w.heap.size wr vo (pickS k (l.take i)) ∧ Below w.heap.size w wr ∧ ∀ j, j < i → GoodS n W (l[j]?.getD (0, ⟨#[]⟩)))) (fun _ i _ => len - (intOf i).toNat)
  case atStart => exact ⟨0, by omega, rfl, Lib.hid ⟨OwnS.nil _ _, Below.refl _ _, fun j hj => by omega⟩⟩
  case round =>
    obtain ⟨i, hi, rfl, H⟩ := hrel
    have hi2 : i < len ∨ i = len := by omega
    obtain ⟨ao, co, hve, hco, _, hso⟩ := OwnS.read H.out.1
    have hple := pickS_le k (l.take i)
    rcases hi2 with hlt | hie
    · have hlt2 : (i : Int) < len := by omega
      rcases (HI.out.mono hn₀).below H.out.2.1 with he | ⟨g, off, rfl, hg, hc⟩
      · exfalso
        have := Hlen.out
        rw [he] at this
        simp at this; omega
      obtain ⟨c1, c2⟩ := hc i (by have := Hlen.out; omega)
      clear hc
      obtain ⟨x, hx⟩ : ∃ x, l[i]?.getD (0, ⟨#[]⟩) = x := ⟨_, rfl⟩
      rw [hx] at c1 c2
      have Hx := Lib.hid hx
      clear hx
      obtain ⟨s1, s2⟩ := x
      simp only at c1 c2
      have hil : i < l.length := by have := Hlen.out; omega
      have hmem : (s1, s2) ∈ l := by
        have := Hx.out
        rw [List.getElem?_eq_getElem hil] at this
        simp at this
        rw [← this]; exact List.getElem_mem hil
      have Hmem := Lib.hid hmem
      clear hmem
      by_cases b1 : s1 < 0
      · have d1 : decide (s1 < 0) = true := by simpa using b1
        go_wp2
        go_quiet (first | (go_at_call 99; exact Calls.quiet_of_same (Hwq.out _)))
        go_wp2
        go_ret2
        exact ⟨H.out.2.1.trans (same_below' _ _), .inl ⟨fun h => by have := (h _ Hmem.out).1; omega, rfl⟩⟩
      have d1 : decide (s1 < 0) = false := by simpa using b1
      by_cases b2 : (n : Int) ≤ s1
      · have d2 : decide ((n : Int) ≤ s1) = true := by simpa using b2
        go_wp2
        go_quiet (first | (go_at_call 99; exact Calls.quiet_of_same (Hwq.out _)))
        go_wp2
        go_ret2
        exact ⟨H.out.2.1.trans (same_below' _ _), .inl ⟨fun h => by have := (h _ Hmem.out).2.1; omega, rfl⟩⟩
      have d2 : decide ((n : Int) ≤ s1) = false := by simpa using b2
      by_cases b3 : s2.size = W
      · have d3 : ((s2.size : Int) != (W : Int)) = false := by simp; omega
        have d4 : (s2.size != W) = false := by simp; omega
        have Hb3 := Lib.hid b3
        clear b3
        obtain ⟨wo, rfl⟩ : ∃ wo : World, wo = wr := ⟨_, rfl⟩
        go_wp2
        go_quiet (first | (go_at_call 99; exact Calls.quiet_of_same (Hwq.out _)))
        have hgood : ∀ j, j < i + 1 → GoodS n W (l[j]?.getD (0, ⟨#[]⟩)) := fun j hj => by
          by_cases e : j = i
          · rw [e, Hx.out]; exact ⟨by omega, by omega, Hb3.out⟩
          · exact H.out.2.2 j (by omega)
        have htk : l.take (i + 1) = l.take i ++ [(s1, s2)] := by
          rw [List.take_succ_eq_append_getElem hil, ← Hx.out]
          simp [hil]
        have hpk : pickS k (l.take (i + 1)) = stepS k (pickS k (l.take i)) (s1, s2) := by rw [htk, pickS_snoc]
        have HG := Lib.hid (And.intro hgood hpk)
        clear hgood htk hpk
        obtain ⟨P, hP⟩ : ∃ P, pickS k (l.take i) = P := ⟨_, rfl⟩
        rw [hP] at hve hco hso hple HG H ⊢
        have hplI : (P.length : Int) ≤ k := by omega
        have Hso := Lib.hid hso
        have Hve := Lib.hid hve
        clear hP hso hve
        go_wp2
        go_loopw [13, 14] (fun vb vj wr' => ∃ j : Nat, j ≤ P.length ∧ vj = .int .i64 j ∧ vb = .bool ((P.take j).any (fun x => decide (x.1 = s1))) ∧ Hid (∃ q, wr' = wo.drewN q)) (fun _ j _ => P.length - (intOf j).toNat)
        case atStart => exact ⟨0, by omega, rfl, by simp, Lib.hid ⟨nq, rfl⟩⟩
        case round =>
          obtain ⟨j, hj, rfl, rfl, H2⟩ := hrel
          obtain ⟨q, hq⟩ := H2.out
          have Hq := Lib.hid hq; clear hq
          have f1 : wr.cell? ⟨g, off + i * 2, none⟩ = some (.int .i64 s1) := by rw [Hq.out]; exact c1
          have f2 : wr.cell? ⟨g, off + i * 2 + 1, none⟩ = some (.string s2) := by rw [Hq.out]; exact c2
          obtain ⟨r, hr⟩ : ∃ r, (P.take j).any (fun x => decide (x.1 = s1)) = r := ⟨_, rfl⟩
          have Hr := Lib.hid hr
          rw [hr]
          clear hr
          have hj2 : j < P.length ∨ j = P.length := by omega
          rcases hj2 with hjl | hje
          · have hjl2 : (j : Int) < P.length := by omega
            rcases Hso.out with he | ⟨gp, op, rfl, _, hc⟩
            · rw [he] at hjl; simp at hjl
            obtain ⟨e1, _⟩ := hc j hjl
            clear hc
            have hat := any_take P s1 hjl
            rw [Hr.out] at hat
            obtain ⟨y, hy⟩ : ∃ y, P[j]?.getD (0, ⟨#[]⟩) = y := ⟨_, rfl⟩
            rw [hy] at e1 hat
            obtain ⟨y1, y2⟩ := y
            simp only at e1 hat
            have e2 : wr.cell? ⟨gp, op + j * 2, none⟩ = some (.int .i64 y1) := by rw [Hq.out]; exact e1
            clear e1 hy c1 c2
            by_cases hy1 : y1 = s1
            · subst hy1
              have Hat := Lib.hid hat
              clear hat
              go_wp2
              go_quiet (fail)
              go_wp2
              go_roundw
              case rel => exact ⟨j + 1, by omega, by go_num, by rw [Hat.out]; simp, Lib.hid ⟨q + nq, by rw [Hq.out, World.drewN_drewN]⟩⟩
              case measure => simp [intOf]; omega
            · have hd : decide (y1 = s1) = false := by simpa using hy1
              have Hat := Lib.hid (And.intro hat hd)
              clear hat hd
              go_wp2
              go_quiet (fail)
              go_wp2
              go_roundw
              case rel => exact ⟨j + 1, by omega, by go_num, by rw [Hat.out.1, Hat.out.2]; simp, Lib.hid ⟨q + nq, by rw [Hq.out, World.drewN_drewN]⟩⟩
              case measure => simp [intOf]; omega
          · have hjl3 : ¬ (j : Int) < P.length := by omega
            have hra : P.any (fun x => decide (x.1 = s1)) = r := by
              rw [← Hr.out, List.take_of_length_le (by omega)]
            have Hra := Lib.hid hra
            have hown : OwnS w.heap.size wr u11 P := by rw [Hq.out]; exact H.out.1.below (same_below' _ q) (Nat.le_refl _)
            rw [Hve.out] at hown
            have hbw : Below w.heap.size w wr := by rw [Hq.out]; exact H.out.2.1.trans (same_below' _ q)
            have Hw := Lib.hid (And.intro hown hbw)
            have hszw := hbw.size
            clear hra hown hbw c1 c2
            by_cases hp : P.length < k
            · have p1 : (P.length : Int) < k := by omega
              have p2 : decide (P.length < k) = true := by simpa using hp
              cases r with
              | true =>
                go_wp2
                go_roundw
                case rel => exact ⟨i + 1, by omega, by go_num, Lib.hid ⟨by
                  rw [HG.out.2]
                  unfold stepS
                  rw [if_neg (by intro h; rw [Hra.out] at h; exact absurd h.2 (by simp))]
                  exact Hw.out.1, Hw.out.2, HG.out.1⟩⟩
                case measure => simp [intOf]; omega
              | false =>
                have hul : P.length ≤ 1000000 := by omega
                go_wp2_with (at_builtin; refine append_shard 86 91 rfl rfl w.heap.size _ P s1 s2 rfl rfl Hw.out.1 hul hszw ?_)
                intro v' w' k1 k2 k3
                have hb5 : Below w.heap.size w w' := (Hw.out.2.alloc hszw _).grown k2 (by simp; omega) (fun q e => (Hw.out.1.lt q e).1)
                have hm5 : OwnS w.heap.size w' v' (pickS k (l.take (i + 1))) := by
                  rw [HG.out.2]
                  unfold stepS
                  rw [if_pos ⟨hp, Hra.out⟩]
                  exact k1
                have HR := Lib.hid (And.intro hm5 (And.intro hb5 HG.out.1))
                clear hb5 hm5 k1 k2 k3
                go_wp2
                go_roundw
                case rel => exact ⟨i + 1, by omega, by go_num, HR⟩
                case measure => simp [intOf]; omega
            · have p1 : ¬ (P.length : Int) < k := by omega
              have p2 : decide (P.length < k) = false := by simpa using hp
              cases r
              all_goals
                go_wp2
                go_roundw
                case rel => exact ⟨i + 1, by omega, by go_num, Lib.hid ⟨by
                  rw [HG.out.2]
                  unfold stepS
                  rw [if_neg (by intro h; exact hp h.1)]
                  exact Hw.out.1, Hw.out.2, HG.out.1⟩⟩
                case measure => simp [intOf]; omega
      · have d3 : ((s2.size : Int) != (W : Int)) = true := by simp; omega
        have d4 : (s2.size != W) = true := by simp; omega
        go_wp2
        go_quiet (first | (go_at_call 99; exact Calls.quiet_of_same (Hwq.out _)))
        go_wp2
        go_ret2
        exact ⟨H.out.2.1.trans (same_below' _ _), .inl ⟨fun h => b3 (h _ Hmem.out).2.2, rfl⟩⟩
    · subst hie
      have htl : l.take i = l := List.take_of_length_le (by have := Hlen.out; omega)
      rw [htl] at hve hco hso hple H
      have hall : ∀ s ∈ l, GoodS n W s := fun s hs => by
        obtain ⟨j, hj, rfl⟩ := List.getElem_of_mem hs
        have := H.out.2.2 j (by have := Hlen.out; omega)
        rw [List.getElem?_eq_getElem hj] at this
        exact this
      have Hall := Lib.hid hall
      obtain ⟨P, hP⟩ : ∃ P, pickS k l = P := ⟨_, rfl⟩
      have HP := Lib.hid hP
      rw [hP] at hve hso hple hco H
      rw [hve]
      have Hve := Lib.hid hve
      clear htl hall hP hso hve hco
      by_cases hp : P.length < k
      · have p1 : (P.length : Int) < k := by omega
        go_wp2
        go_ret2
        exact ⟨H.out.2.1, .inr (.inl ⟨Hall.out, by rw [HP.out]; exact hp, rfl⟩)⟩
      · have p1 : ¬ (P.length : Int) < k := by omega
        go_wp2
        go_ret2
        exact ⟨H.out.2.1, .inr (.inr ⟨Hall.out, by rw [HP.out]; omega, _, rfl, by rw [HP.out, ← Hve.out]; exact H.out.1⟩)⟩

set_option maxHeartbeats 1000000 in
theorem rsome_bad (n k size : Int) (a : Option Addr) (len cap : Nat) (w : World) (h : ¬ (1 ≤ k ∧ k ≤ n ∧ n ≤ 12) ∨ size < 0 ∨ 1000 < size) :
    Calls Tryd.prog 97 #[.int .i64 n, .int .i64 k, .int .i64 size, .slice a len cap] w fun e w' => e = .returned (.tuple #[.slice none 0 0, .int .i64 2]) ∧ w' = w := by
  by_cases hs : 1 ≤ k ∧ k ≤ n ∧ n ≤ 12
  · have es : isSpreadB n k = true := decide_eq_true hs
    have hcase : size < 0 ∨ (¬ size < 0 ∧ 1000 < size) := by omega
    have Es := Lib.hid es
    clear h hs es
    rcases hcase with h | ⟨h, h2⟩
    all_goals
      go_enter Tryd.func97, Tryd.ntmps97
      go_wp2_with fail
      refine (isspread_walk n k w).mono ?_
      rintro e w' ⟨rfl, hw'⟩
      subst hw'
      rw [Es.out]
      go_wp2
      go_ret2
      exact ⟨rfl, rfl⟩
  · have es : isSpreadB n k = false := decide_eq_false hs
    have Es := Lib.hid es
    clear h hs es
    go_enter Tryd.func97, Tryd.ntmps97
    go_wp2_with fail
    refine (isspread_walk n k w).mono ?_
    rintro e w' ⟨rfl, hw'⟩
    subst hw'
    rw [Es.out]
    go_wp2
    go_ret2
    exact ⟨rfl, rfl⟩
end Go.Proofs.YtmaalkjimppnkaaDoor
/- The walk of the document's Decode. -/
namespace Go.Proofs.YtmaalkjimppnkaaDoor
open Go.RowKit

theorem sb_app (s z : ByteArray) (i : Nat) : sb (s ++ z) i = if i < s.size then sb s i else sb z (i - s.size) := by
  unfold sb
  have e : (s ++ z).data.toList = s.data.toList ++ z.data.toList := by simp
  have hl : s.data.toList.length = s.size := by simp
  rw [e]
  by_cases h : i < s.size
  · rw [if_pos h, List.getElem?_append_left (by omega)]
  · rw [if_neg h, List.getElem?_append_right (by omega), hl]
theorem textOf_app {f g h : Nat → Nat} {a b : Nat} (hf : ∀ j, f j < 256) (hg : ∀ j, g j < 256) (hh : ∀ j, h j < 256) (h1 : ∀ i, i < a → h i = f i) (h2 : ∀ i, i < b → h (a + i) = g i) : textOf f a ++ textOf g b = textOf h (a + b) := by
  refine text_ext (by rw [ByteArray.size_append, textOf_size, textOf_size, textOf_size]) fun i hi => ?_
  rw [ByteArray.size_append, textOf_size, textOf_size] at hi
  rw [sb_app, textOf_size, sb_textOf hh, if_pos hi]
  by_cases h : i < a
  · rw [if_pos h, sb_textOf hf, if_pos h, h1 i h]
  · rw [if_neg h, sb_textOf hg, if_pos (by omega), ← h2 (i - a) (by omega)]
    congr 1; omega
theorem textOf_cut {f : Nat → Nat} {a b : Nat} (hf : ∀ j, f j < 256) (h : b ≤ a) : (textOf f a).extract 0 b = textOf f b := by
  refine text_ext (by rw [ByteArray.size_extract, textOf_size, textOf_size]; omega) fun i hi => ?_
  rw [ByteArray.size_extract, textOf_size] at hi
  rw [sb_extract _ _ _ _ (by omega), Nat.zero_add, sb_textOf hf, sb_textOf hf, if_pos (by omega), if_pos (by omega)]
/-- one byte of row j. -/
def rowD (P : List Sh) (j c : Nat) : Nat → Nat := fun m => Mx.dot (fun i => bas (numS P) i j) (fun i => sb (P[i]?.getD (0, ⟨#[]⟩)).2 c) m
theorem rowD_lt (P : List Sh) (j c m : Nat) : rowD P j c m < 256 := Mx.dot_lt (fun _ => Mx.bas_lt _ _ _) m
theorem rowD_succ (P : List Sh) (j c m : Nat) : rowD P j c (m + 1) = rowD P j c m ^^^ Gf.mul (bas (numS P) m j) (sb (P[m]?.getD (0, ⟨#[]⟩)).2 c) := rfl
theorem decF_row (P : List Sh) (k W j c : Nat) (hc : c < W) : decF P k W (j * W + c) = rowD P j c k := by
  unfold decF rowD
  have e1 : (j * W + c) / W = j := by rw [Nat.mul_comm, Nat.mul_add_div (by omega), Nat.div_eq_of_lt hc, Nat.add_zero]
  have e2 : (j * W + c) % W = c := by rw [Nat.mul_comm, Nat.mul_add_mod, Nat.mod_eq_of_lt hc]
  rw [e1, e2]
/-- what the document's Decode answers. -/
def RDecOut (w w' : World) (n k size : Nat) (l : List Sh) (e : Ending) : Prop := Below w.heap.size w w' ∧
  ((¬ (∀ s ∈ l, GoodS n (wideN k size) s) ∧ e = .returned (.tuple #[.string ⟨#[]⟩, .int .i64 3])) ∨ ((∀ s ∈ l, GoodS n (wideN k size) s) ∧ (pickS k l).length < k ∧ e = .returned (.tuple #[.string ⟨#[]⟩, .int .i64 8])) ∨
    ((∀ s ∈ l, GoodS n (wideN k size) s) ∧ (pickS k l).length = k ∧ e = .returned (.tuple #[.string (textOf (decF (pickS k l) k (wideN k size)) size), .int .i64 0])))
set_option maxRecDepth 100000 in
set_option maxHeartbeats 8000000 in
theorem rdecode_walk (n₀ n k size : Nat) (a : Option Addr) (cap : Nat) (l : List Sh) (w : World)
    (hk : 1 ≤ k) (hkn : k ≤ n) (hn : n ≤ 12) (hs : size ≤ 1000) (hl : l.length ≤ maxLen) (hn₀ : n₀ ≤ w.heap.size) (hI : ShR n₀ w a l) :
    Calls Tryd.prog 47 #[.int .i64 n, .int .i64 k, .int .i64 size, .slice a l.length cap] w fun e w' => RDecOut w w' n k size l e := by
  have Hsm := Lib.hid (rsome_walk n₀ n k size a cap l w hk hkn hn hs hl hn₀ hI)
  have hwf := wide_facts k size hk
  have hwl := wide_le k size hk
  have hwq := fun V => rwide_walk k size V hk (by omega) (by omega)
  obtain ⟨W, hW⟩ : ∃ W, wideN k size = W := ⟨_, rfl⟩
  rw [hW] at Hsm hwf hwl hwq
  have HW := Lib.hid hW
  have Hwf := Lib.hid hwf
  have Hwq := Lib.hid hwq
  have hmk := fun (V : World) => run_make_row' (P := Tryd.prog) (w := V) 122 5 (.int .u8 0) 1 Tryd.underlying122 info_uint8 rfl .i64 .i64 W (by omega) (by omega)
  have Hmk := Lib.hid hmk
  clear hI hW hwf hwq hmk
  go_enter Tryd.func47, Tryd.ntmps47
  go_wp2_with fail
  refine Hsm.out.mono ?_
  rintro e w1 ⟨hb1, hres⟩
  have H1 := Lib.hid hb1
  clear hb1
  rcases hres with ⟨hbad, rfl⟩ | ⟨hall, hfew, rfl⟩ | ⟨hall, hlen, v, rfl, hv⟩
  · have Hx := Lib.hid hbad
    clear hbad
    go_wp2
    go_ret2
    exact ⟨H1.out, .inl ⟨by rw [HW.out]; exact Hx.out, rfl⟩⟩
  · have Hx := Lib.hid (And.intro hall hfew)
    clear hall hfew
    go_wp2
    go_ret2
    exact ⟨H1.out, .inr (.inl ⟨by rw [HW.out]; exact Hx.out.1, Hx.out.2, rfl⟩)⟩
  · have hgp : ∀ s ∈ pickS k l, GoodS n W s := fun s hs => hall s (pickS_sub k l s hs)
    have hup := pickS_unlike k l
    have Hall := Lib.hid (And.intro hall hlen)
    obtain ⟨P, hP⟩ : ∃ P, pickS k l = P := ⟨_, rfl⟩
    rw [hP] at hgp hup hlen hv
    obtain ⟨ap, cp, hve, _, _, hsp⟩ := OwnS.read hv
    rw [hlen] at hve
    rw [hve]
    have hxl : (numS P).length = k := by rw [numS_length]; exact hlen
    have hxlt := numS_lt hgp
    have hxb : Bytes (numS P) := fun x hx => by have := hxlt x hx; omega
    have hxu := numS_unlike hup hgp
    obtain ⟨b0, off, hap, hb0, hcs⟩ : ∃ b off, ap = some ⟨b, off, none⟩ ∧ b < w1.heap.size ∧ ∀ i, i < k → w1.cell? ⟨b, off + i * 2, none⟩ = some (.int .i64 (((numS P)[i]?.getD 0 : Nat) : Int)) ∧ w1.cell? ⟨b, off + i * 2 + 1, none⟩ = some (.string (P[i]?.getD (0, ⟨#[]⟩)).2) := by
      rcases hsp with he | ⟨b, off, rfl, hb, hc⟩
      · rw [he] at hlen; simp at hlen; omega
      · refine ⟨b, off, rfl, hb, fun i hi => ?_⟩
        have h := hc i (by omega)
        rw [numS_at (by omega)]
        have hil : i < P.length := by omega
        have hg := (hgp _ (List.getElem_mem hil)).1
        rw [List.getElem?_eq_getElem hil] at h ⊢
        refine ⟨?_, h.2⟩
        show _ = some (Value.int .i64 ((P[i].1.toNat : Nat) : Int))
        rw [Int.toNat_of_nonneg hg]
        exact h.1
    subst hap
    have hst : ∀ i, i < k → (P[i]?.getD (0, ⟨#[]⟩)).2.size = W := fun i hi => by
      have hil : i < P.length := by omega
      rw [List.getElem?_eq_getElem hil]
      exact (hgp _ (List.getElem_mem hil)).2.2
    have hdl := decF_lt P k W
    have hdr := fun j c hc => decF_row P k W j c hc
    have hrl := fun j c m => rowD_lt P j c m
    have hrs := fun j c m => rowD_succ P j c m
    have hr0 : ∀ j c, rowD P j c 0 = 0 := fun _ _ => rfl
    obtain ⟨D, hD⟩ : ∃ D, decF P k W = D := ⟨_, rfl⟩
    obtain ⟨R, hR⟩ : ∃ R, rowD P = R := ⟨_, rfl⟩
    obtain ⟨t, ht⟩ : ∃ t : Nat → ByteArray, t = fun i => (P[i]?.getD (0, ⟨#[]⟩)).2 := ⟨_, rfl⟩
    obtain ⟨xs, hxs⟩ : ∃ xs, numS P = xs := ⟨_, rfl⟩
    have hcs' : ∀ i, i < k → w1.cell? ⟨b0, off + i * 2, none⟩ = some (.int .i64 ((xs[i]?.getD 0 : Nat) : Int)) ∧ w1.cell? ⟨b0, off + i * 2 + 1, none⟩ = some (.string (t i)) := fun i hi => by
      rw [ht, ← hxs]; exact hcs i hi
    have hst' : ∀ i, i < k → (t i).size = W := fun i hi => by rw [ht]; exact hst i hi
    have hrs' : ∀ j c m, R j c (m + 1) = R j c m ^^^ Gf.mul (bas xs m j) (sb (t m) c) := fun j c m => by rw [ht, ← hxs, ← hR]; exact hrs j c m
    rw [hD] at hdl hdr
    rw [hR] at hdr hrl hr0
    rw [hxs] at hxl hxb hxu hxlt
    have HC := Lib.hid (And.intro hcs' (And.intro hst' hb0))
    have HR := Lib.hid (And.intro hrs' (And.intro hrl (And.intro hr0 (And.intro hdl hdr))))
    have HX := Lib.hid (And.intro hxl (And.intro hxb (And.intro hxu hxlt)))
    have HP := Lib.hid (And.intro hP hD)
    clear hall hgp hup hlen hv hve hsp hcs hst hdl hdr hrl hrs hr0 hcs' hst' hrs' hxl hxb hxu hxlt hP hD hR ht hxs hb0
    go_wp2
    go_loopw [12, 13] (fun vx vi wr => ∃ i : Nat, i ≤ k ∧ vi = .int .i64 i ∧ Hid (OwnB w1.heap.size wr vx (xs.take i) ∧ Below w1.heap.size w1 wr)) (fun _ i _ => k - (intOf i).toNat)
    case atStart => exact ⟨0, by omega, rfl, Lib.hid ⟨OwnB.nil _ _, Below.refl _ _⟩⟩
    case round =>
      obtain ⟨i, hi, rfl, H⟩ := hrel
      have hi2 : i < k ∨ i = k := by omega
      rcases hi2 with hlt | rfl
      · have hlt2 : (i : Int) < k := by omega
        have c1 := (H.out.2.cell (p := ⟨b0, off + i * 2, none⟩) HC.out.2.2).trans (HC.out.1 i hlt).1
        have hxi := HX.out.2.1.at i
        obtain ⟨x, hx⟩ : ∃ x, xs[i]?.getD 0 = x := ⟨_, rfl⟩
        rw [hx] at c1 hxi
        have Hx := Lib.hid hx
        have hmod : (x : Int) % 256 = x := by omega
        have hl2 : (xs.take i).length + 1 ≤ 140737488355328 := by rw [List.length_take]; omega
        have hs2 := H.out.2.size
        clear hx
        go_wp2_with (at_builtin; refine append_byte 38 45 rfl rfl w1.heap.size _ _ x rfl rfl H.out.1 hl2 hs2 ?_)
        intro v' w' k1 k2 k3
        have hb : Below w1.heap.size w1 w' := (H.out.2.alloc hs2 _).grown k2 (by simp; omega) (fun q e => (H.out.1.lt q e).1)
        have hr : OwnB w1.heap.size w' v' (xs.take (i + 1)) := by
          have hil : i < xs.length := by have := HX.out.1; omega
          have e : xs.take (i + 1) = xs.take i ++ [x] := by
            rw [List.take_succ_eq_append_getElem hil, ← Hx.out, List.getElem?_eq_getElem hil]; rfl
          rw [e]; exact k1
        have HR := Lib.hid (And.intro hr hb)
        clear k1 k2 k3 hb hr
        go_wp2
        go_roundw
        case rel => exact ⟨i + 1, by omega, by go_num, HR⟩
        case measure => simp [intOf]; omega
      · have htk : xs.take i = xs := List.take_of_length_le (by have := HX.out.1; omega)
        rw [htk] at H
        obtain ⟨ax, cx, hve, _, _, hIx⟩ := OwnB.row H.out.1
        rw [HX.out.1] at hve
        rw [hve]
        obtain ⟨w2, rfl⟩ : ∃ w2 : World, w2 = wr := ⟨_, rfl⟩
        have H2 := Lib.hid (And.intro hIx H.out.2)
        clear hve htk hIx H
        go_wp2
        go_loopw [14, 15] (fun vo vj wr => ∃ j : Nat, j ≤ i ∧ vj = .int .i64 j ∧ (∃ tx : ByteArray, vo = .string tx ∧ Hid (tx = textOf D (j * W))) ∧ Hid (Below w2.heap.size w2 wr)) (fun _ j _ => i - (intOf j).toNat)
        case atStart => exact ⟨0, by omega, rfl, ⟨_, rfl, Lib.hid (by rw [Nat.zero_mul]; rfl)⟩, Lib.hid (Below.refl _ _)⟩
        case round =>
          obtain ⟨j, hj, rfl, ⟨tx, rfl, Hto⟩, H3⟩ := hrel
          have hj2 : j < i ∨ j = i := by omega
          rcases hj2 with hjl | rfl
          · have hjl2 : (j : Int) < i := by omega
            have hmodj : (j : Int) % 256 = j := by omega
            obtain ⟨w3, rfl⟩ : ∃ w3 : World, w3 = wr := ⟨_, rfl⟩
            go_wp2
            go_loopw [16, 17] (fun vb vi wr => ∃ m : Nat, m ≤ i ∧ vi = .int .i64 m ∧ Hid (OwnB w3.heap.size wr vb ((List.range m).map fun q => bas xs q j) ∧ Below w3.heap.size w3 wr)) (fun _ m _ => i - (intOf m).toNat)
            case atStart => exact ⟨0, by omega, rfl, Lib.hid ⟨OwnB.nil _ _, Below.refl _ _⟩⟩
            case round =>
              obtain ⟨m, hm, rfl, H4⟩ := hrel
              have hm2 : m < i ∨ m = i := by omega
              rcases hm2 with hml | rfl
              · have hml2 : (m : Int) < i := by omega
                have hbs := Lib.hid (basis_walk w2.heap.size ax cx xs m j wr HX.out.2.1 HX.out.2.2.1 (by omega) (by rw [HX.out.1]; unfold maxLen; omega) (by rw [HX.out.1]; exact hml) ((H2.out.1.below H3.out).below (H4.out.2.mono H3.out.size)))
                rw [HX.out.1] at hbs
                obtain ⟨x, hx⟩ : ∃ x, bas xs m j = x := ⟨_, rfl⟩
                rw [hx] at hbs
                have Hx := Lib.hid hx
                clear hx
                go_wp2_with fail
                refine hbs.out.mono ?_
                rintro e w4 ⟨rfl, q, hq⟩
                have hB4 : Below w3.heap.size w3 w4 := by rw [hq]; exact H4.out.2.trans (same_below' _ q)
                have hO4 : OwnB w3.heap.size w4 u16 ((List.range m).map fun q => bas xs q j) := by rw [hq]; exact Own1.below H4.out.1 (same_below' _ q) (Nat.le_refl _)
                have hl2 : ((List.range m).map fun q => bas xs q j).length + 1 ≤ 140737488355328 := by simp; omega
                have hs2 := hB4.size
                have HO := Lib.hid (And.intro hO4 hB4)
                clear hq hbs hB4 hO4
                go_wp2_with (at_builtin; refine append_byte 62 64 rfl rfl w3.heap.size _ _ x rfl rfl HO.out.1 hl2 hs2 ?_)
                intro v' w' k1 k2 k3
                have hb : Below w3.heap.size w3 w' := (HO.out.2.alloc hs2 _).grown k2 (by simp; omega) (fun q e => (HO.out.1.lt q e).1)
                have hr : OwnB w3.heap.size w' v' ((List.range (m + 1)).map fun q => bas xs q j) := by
                  rw [List.range_succ, List.map_append, List.map_cons, List.map_nil, Hx.out]; exact k1
                have HR := Lib.hid (And.intro hr hb)
                clear k1 k2 k3 hb hr
                go_wp2
                go_roundw
                case rel => exact ⟨m + 1, by omega, by go_num, HR⟩
                case measure => simp [intOf]; omega
              · obtain ⟨ab, cb, hve, _, _, hIb⟩ := OwnB.row H4.out.1
                have hbl : ((List.range m).map fun q => bas xs q j).length = m := by simp
                rw [hbl] at hve
                rw [hve]
                rcases hIb with he | ⟨bb, ob, rfl, hbb, hcb⟩
                · have : ((List.range m).map fun q => bas xs q j).length = 0 := by rw [he]; rfl
                  omega
                have hcb' : ∀ q, q < m → wr.cell? ⟨bb, ob + q, none⟩ = some (.int .u8 (bas xs q j : Nat)) := fun q hq => by
                  have := hcb q (by omega)
                  rw [List.getElem?_map, List.getElem?_range hq] at this
                  exact this
                have hb13 : Below w1.heap.size w1 wr := H2.out.2.trans ((H3.out.trans (H4.out.2.mono H3.out.size)).mono H2.out.2.size)
                have hb23 : Below w2.heap.size w2 wr := H3.out.trans (H4.out.2.mono H3.out.size)
                have H5 := Lib.hid (And.intro hcb' (And.intro hbb (And.intro hb13 hb23)))
                obtain ⟨w5, rfl⟩ : ∃ w5 : World, w5 = wr := ⟨_, rfl⟩
                have hmk := Hmk.out w5
                clear hve hcb hcb' hb13 hb23 hbl hbb
                go_wp2_with fail
                refine (Hwq.out _).mono ?_
                rintro e w' ⟨rfl, hw'⟩
                have hw2 := hw'.symm
                clear hw'
                subst hw2
                go_wp2
                have hrow := RowV.made w5 W
                obtain ⟨W0, hW0⟩ : ∃ W0, (w5.alloc (.cells (madeCells #[.int .u8 0] W) 5)) = W0 := ⟨_, rfl⟩
                have hb0 : Below w5.heap.size w5 W0 := by rw [← hW0]; exact (Below.refl _ w5).alloc (Nat.le_refl _) _
                rw [hW0] at hrow ⊢
                obtain ⟨g, hg⟩ : ∃ g, w5.heap.size = g := ⟨_, rfl⟩
                rw [hg] at hrow hb0 ⊢
                have Hg := Lib.hid hg
                have Hx := Lib.hid (And.intro hrow hb0)
                clear hrow hb0 hW0 hg hmk
                go_loopw [20] (fun vt wr => ∃ c : Nat, c ≤ W ∧ vt = .int .i64 c ∧ Hid (OnlyB g W0 wr ∧ RowV wr g W (firstK c (fun c => R j c m) (fun _ => 0)))) (fun t _ => W - (intOf t).toNat)
                case atStart => exact ⟨0, by omega, rfl, Lib.hid ⟨OnlyB.refl _ _, Hx.out.1.congr fun j _ => by unfold firstK; rw [if_neg (by omega)]⟩⟩
                case round =>
                  obtain ⟨c, hc, rfl, H6⟩ := hrel
                  have hc2 : c < W ∨ c = W := by omega
                  rcases hc2 with hcl | rfl
                  · have hcl2 : (c : Int) < W := by omega
                    obtain ⟨wm, rfl⟩ : ∃ wm : World, wm = wr := ⟨_, rfl⟩
                    go_wp2
                    go_loopw [21] (fun vt wr => ∃ q : Nat, q ≤ m ∧ vt = .int .i64 q ∧ Hid (OnlyB g W0 wr ∧ RowV wr g W (Mx.upd (firstK c (fun c => R j c m) (fun _ => 0)) c (R j c q)))) (fun t _ => m - (intOf t).toNat)
                    case atStart =>
                      refine ⟨0, by omega, rfl, Lib.hid ⟨H6.out.1, H6.out.2.congr fun j' _ => ?_⟩⟩
                      unfold Mx.upd
                      by_cases e : j' = c
                      · rw [if_pos e, e]
                        unfold firstK
                        rw [if_neg (by omega)]
                        exact (HR.out.2.2.1 j c).symm
                      · rw [if_neg e]
                    case round =>
                      obtain ⟨q, hq, rfl, H7⟩ := hrel
                      have hq2 : q < m ∨ q = m := by omega
                      rcases hq2 with hql | rfl
                      · have hql2 : (q : Int) < m := by omega
                        have hbg : Below g w5 wr := Hx.out.2.trans (H7.out.1.below (Nat.le_refl _))
                        have hwg : w5.heap.size ≤ g := by have := Hg.out; omega
                        have hbW : Below w5.heap.size w5 wr := hbg.mono hwg
                        have c1 : wr.cell? ⟨bb, ob + q, none⟩ = some (.int .u8 (bas xs q j : Nat)) := (hbW.cell (p := ⟨bb, ob + q, none⟩) H5.out.2.1).trans (H5.out.1 q hql)
                        have hb1r : Below w1.heap.size w1 wr := H5.out.2.2.1.trans (hbW.mono H5.out.2.2.1.size)
                        have c2 : wr.cell? ⟨b0, off + q * 2 + 1, none⟩ = some (.string (t q)) := (hb1r.cell (p := ⟨b0, off + q * 2 + 1, none⟩) HC.out.2.2).trans (HC.out.1 q hql).2
                        have hx : bas xs q j < 256 := Mx.bas_lt xs q j
                        have hts := HC.out.2.1 q hql
                        have hnew := HR.out.1 j c q
                        have hd := HR.out.2.1 j c q
                        obtain ⟨d, hde⟩ : ∃ d, R j c q = d := ⟨_, rfl⟩
                        rw [hde] at hnew hd
                        have Hde := Lib.hid hde
                        obtain ⟨x, hxe⟩ : ∃ x, bas xs q j = x := ⟨_, rfl⟩
                        rw [hxe] at c1 hx hnew
                        obtain ⟨tq, htq⟩ : ∃ tq, t q = tq := ⟨_, rfl⟩
                        rw [htq] at c2 hts hnew
                        have hcD : wr.cell? ⟨g, c, none⟩ = some (.int .u8 (d : Nat)) := by
                          have := H7.out.2.cell c hcl
                          unfold Mx.upd at this
                          rw [if_pos rfl, Hde.out] at this; exact this
                        have hfr := H7.out.2.free c hcl
                        have hcs : c < tq.size := by omega
                        have hcs2 : (c : Int) < tq.size := by omega
                        rw [sb_get tq c hcs] at hnew
                        have hy : (tq[c]'hcs).toNat < 256 := (tq[c]'hcs).toNat_lt
                        have hml := Gf.mul_lt (tq[c]'hcs).toNat hx
                        have hz3 : bits .xor .u8 (d : Int) ((Gf.mul x (tq[c]'hcs).toNat : Nat) : Int) = ((d ^^^ Gf.mul x (tq[c]'hcs).toNat : Nat) : Int) := u8_xor_nat _ _ hd hml
                        have hmq := fun V => rmul_q x (tq[c]'hcs).toNat V hx hy
                        obtain ⟨r, hre⟩ : ∃ r, Gf.mul x (tq[c]'hcs).toNat = r := ⟨_, rfl⟩
                        rw [hre] at hz3 hmq hml hnew
                        have Hz3 := Lib.hid hz3
                        have Hnew := Lib.hid hnew
                        have Hmq := Lib.hid hmq
                        have Hts := Lib.hid hts
                        clear hz3 hnew hmq hre hxe htq hde hbg hwg hbW hb1r hts
                        go_wp2
                        refine wp_region_still_tail 20 (by kernel_rfl) (by kernel_rfl) ?_
                        simp only [List.take_succ_cons, List.take_zero, List.drop_succ_cons, List.drop_zero]
                        repeat still_step
                        still_call (Hmq.out _)
                        repeat still_step
                        refine wpStill_nil ?_
                        change wpList _ _ _ _ _ wr.drew
                        go_wp2
                        go_roundw
                        case rel =>
                          refine ⟨q + 1, by omega, by go_num, Lib.hid ⟨(H7.out.1.trans (OnlyB.setCell _ _ _ _)).trans (OnlyB.drewN _ _ 1), RowV.drewN 1 ?_⟩⟩
                          rw [Hz3.out]
                          refine (H7.out.2.set (x := d ^^^ r) hcl).congr fun j' hj' => ?_
                          unfold Mx.upd
                          by_cases e : j' = c
                          · rw [if_pos e, if_pos e]; exact Hnew.out.symm
                          · rw [if_neg e, if_neg e, if_neg e]
                        case measure => simp [intOf]; omega
                      · go_wp2
                        go_roundw
                        case rel =>
                          refine ⟨c + 1, by omega, by go_num, Lib.hid ⟨H7.out.1, H7.out.2.congr fun j' hj' => ?_⟩⟩
                          unfold Mx.upd
                          by_cases e : j' = c
                          · rw [if_pos e, e]
                            unfold firstK
                            rw [if_pos (by omega)]
                          · rw [if_neg e]
                            unfold firstK
                            by_cases e2 : j' < c
                            · rw [if_pos e2, if_pos (by omega)]
                            · rw [if_neg e2, if_neg (by omega)]
                        case measure => simp [intOf]; omega
                  · have hcv := conv_row wr g 0 c c (fun c => R j c m) (fun c => HR.out.2.1 j c m) (fun c' hc' => by
                      rw [Nat.zero_add, H6.out.2.cell c' hc']
                      unfold firstK
                      rw [if_pos hc'])
                    have hpt : (⟨(rowText (fun c => R j c m) c).toArray⟩ : ByteArray) = textOf (fun c => R j c m) c := rfl
                    rw [hpt] at hcv
                    have happ : tx ++ textOf (fun c => R j c m) c = textOf D ((j + 1) * c) := by
                      rw [Hto.out, Nat.add_mul, Nat.one_mul]
                      exact textOf_app HR.out.2.2.2.1 (fun c => HR.out.2.1 j c m) HR.out.2.2.2.1 (fun _ _ => rfl) (fun q hq => HR.out.2.2.2.2 j q hq)
                    obtain ⟨pt, hpte⟩ : ∃ pt, textOf (fun c => R j c m) c = pt := ⟨_, rfl⟩
                    rw [hpte] at hcv happ
                    have htxs : tx.size + pt.size ≤ 100000 := by
                      rw [Hto.out, ← hpte, textOf_size, textOf_size]
                      have h1 := Hwf.out.2
                      have h2 : j * c ≤ m * c := Nat.mul_le_mul_right _ (by omega)
                      omega
                    have Happ := Lib.hid happ
                    have hbw : Below w2.heap.size w2 wr := H5.out.2.2.2.trans ((Hx.out.2.trans (H6.out.1.below (Nat.le_refl _))).mono (by have := Hg.out; have := H5.out.2.2.2.size; omega))
                    have HB := Lib.hid hbw
                    clear hpt happ hpte hbw
                    go_wp2
                    go_roundw
                    case rel => exact ⟨j + 1, by omega, by go_num, ⟨_, rfl, Lib.hid Happ.out⟩, HB⟩
                    case measure => simp [intOf]; omega
          · have hsz : size ≤ j * W := Hwf.out.1
            have hsz2 := hsz
            have htz : tx.size = j * W := by rw [Hto.out, textOf_size]
            have hcut : tx.extract 0 size = textOf D size := by rw [Hto.out]; exact textOf_cut HR.out.2.2.2.1 hsz
            have Hcut := Lib.hid hcut
            have hszt : (size : Int) ≤ tx.size := by omega
            clear hsz hsz2 htz hcut
            go_wp2
            go_ret2
            exact ⟨H1.out.trans ((H2.out.2.trans (H3.out.mono H2.out.2.size)).mono H1.out.size), .inr (.inr ⟨by rw [HW.out]; exact Hall.out.1, Hall.out.2, by rw [HW.out, HP.out.1, HP.out.2, ← Hcut.out]; rfl⟩)⟩
end Go.Proofs.YtmaalkjimppnkaaDoor
/- Walks of coder.Agree's search. -/
namespace Go.Proofs.YtmaalkjimppnkaaDoor
open Go.RowKit

/-- the shards of all, read through their box. -/
structure AllS (w : World) (ba g n c : Nat) (t : Nat → ByteArray) : Prop where
  box : w.cell? ⟨ba, 0, none⟩ = some (.slice (some ⟨g, 0, none⟩) n c)
  num : ∀ i, i < n → w.cell? ⟨g, i * 2, none⟩ = some (.int .i64 (i : Int))
  txt : ∀ i, i < n → w.cell? ⟨g, i * 2 + 1, none⟩ = some (.string (t i))
theorem AllS.below {w w' : World} {ba g n c : Nat} {t : Nat → ByteArray} (h : AllS w ba g n c t) (hb : Below w.heap.size w w') : AllS w' ba g n c t :=
  ⟨(hb.cell (lt_of_cell h.box)).trans h.box, fun i hi => (hb.cell (lt_of_cell (h.num i hi))).trans (h.num i hi), fun i hi => (hb.cell (lt_of_cell (h.txt i hi))).trans (h.txt i hi)⟩
set_option maxRecDepth 100000 in
set_option maxHeartbeats 1000000 in
theorem agree1_walk (p n c ba g : Nat) (x2 : ByteArray) (t : Nat → ByteArray) (w : World) (hA : AllS w ba g n c t) (hp : p < n) :
    Calls Tryd.prog 102 #[.agg #[.int .i64 (p : Int), .string x2], .pointer (some ⟨ba, 0, none⟩)] w fun e w' => e = .returned (.bool (decide (t p ≠ x2))) ∧ Below w.heap.size w w' := by
  have hB : Below w.heap.size w (w.alloc (.cells #[.int .i64 (p : Int), .string x2] 62)) := (Below.refl _ w).alloc (Nat.le_refl _) _
  have hA2 := hA.below hB
  have h1 := hA2.box
  have h2 := hA2.num p hp
  have h3 := hA2.txt p hp
  have hp2 : (p : Int) < n := by omega
  obtain ⟨tp, htp⟩ : ∃ tp, t p = tp := ⟨_, rfl⟩
  rw [htp] at h3
  rw [htp]
  clear hA hA2 htp
  by_cases h : tp = x2
  · subst h
    go_enter Tryd.func102, Tryd.ntmps102
    go_wp2
    go_quiet (fail)
    go_wp2
    go_ret
    exact ⟨by simp, hB.trans (same_below' _ _)⟩
  · have h4 : (tp.toList == x2.toList) = false := ne_list h
    have h5 : (tp.toList != x2.toList) = true := by rw [bne, h4]; rfl
    go_enter Tryd.func102, Tryd.ntmps102
    go_wp2
    go_quiet (fail)
    go_wp2
    go_ret
    exact ⟨by simp [h], hB.trans (same_below' _ _)⟩

set_option maxRecDepth 100000 in
set_option maxHeartbeats 2000000 in
theorem agreeI_walk (n₀ : Nat) (a : Option Addr) (cap n c ba g : Nat) (l : List Sh) (t : Nat → ByteArray) (w : World) (hl : l.length ≤ maxLen) (hn : n₀ ≤ w.heap.size) (hI : ShR n₀ w a l) (hA : AllS w ba g n c t) (hg : ∀ s ∈ l, 0 ≤ s.1 ∧ s.1 < n) :
    Calls Tryd.prog 144 #[.slice a l.length cap, .func (.func 102) #[] #[.pointer (some ⟨ba, 0, none⟩)]] w
      fun e w' => (((∀ x ∈ l, t x.1.toNat = x.2) ∧ e = .returned (.int .i64 (-1))) ∨ (∃ k : Nat, (∃ x ∈ l, t x.1.toNat ≠ x.2) ∧ e = .returned (.int .i64 k))) ∧ Below w.heap.size w w' := by
  obtain ⟨m, hm⟩ : ∃ m, l.length = m := ⟨_, rfl⟩
  have hm' : m ≤ 9223372036854775807 := by rw [← hm]; exact hl
  have Hm := Lib.hid hm
  have HI := Lib.hid hI
  have HA := Lib.hid (And.intro hA hg)
  rw [hm]
  clear hm hI hl hA hg
  go_enter Tryd.func144, Tryd.ntmps144
  go_wp2
  go_loopw [8] (fun vi wr => ∃ k : Nat, k ≤ m ∧ vi = .int .i64 k ∧ Hid ((∀ j, j < k → t (l[j]?.getD (0, ⟨#[]⟩)).1.toNat = (l[j]?.getD (0, ⟨#[]⟩)).2) ∧ Below w.heap.size w wr)) (fun i _ => m - (intOf i).toNat)
  case atStart => exact ⟨0, by omega, rfl, Lib.hid ⟨fun j hj => by omega, Below.refl _ _⟩⟩
  case round =>
    obtain ⟨k, hk, rfl, H⟩ := hrel
    have hk2 : k < m ∨ k = m := by omega
    rcases hk2 with hlt | hkm
    · have hlt2 : (k : Int) < m := by omega
      rcases (HI.out.mono hn).below H.out.2 with he | ⟨g', off, rfl, hg', hc⟩
      · exfalso
        have := Hm.out
        rw [he] at this
        simp at this; omega
      have hkl : k < l.length := by have := Hm.out; omega
      obtain ⟨h1, h2⟩ := hc k hkl
      clear hc
      obtain ⟨x, hx⟩ : ∃ x, l[k]?.getD (0, ⟨#[]⟩) = x := ⟨_, rfl⟩
      rw [hx] at h1 h2
      have hmem : x ∈ l := by
        have := hx
        rw [List.getElem?_eq_getElem hkl] at this
        simp at this
        rw [← this]; exact List.getElem_mem hkl
      have hgx := HA.out.2 x hmem
      obtain ⟨x1, x2⟩ := x
      simp only at hgx h1 h2
      obtain ⟨p, rfl⟩ := Int.eq_ofNat_of_zero_le hgx.1
      have hp : p < n := by omega
      have Hx := Lib.hid (And.intro hx hmem)
      clear hx hmem hgx
      have Hp := Lib.hid (agree1_walk p n c ba g x2 t wr (HA.out.1.below H.out.2) hp)
      by_cases he : t p = x2
      · have e1 : decide (t p ≠ x2) = false := by simp [he]
        rw [e1] at Hp
        have He := Lib.hid he
        clear he e1
        go_wp2_with fail
        refine Hp.out.mono ?_
        rintro e w' ⟨rfl, hb2⟩
        have HB := Lib.hid (H.out.2.trans (hb2.mono H.out.2.size))
        clear hb2
        go_wp2
        go_roundw
        case rel => exact ⟨k + 1, by omega, by go_num, Lib.hid ⟨fun j hj => by
          by_cases e : j = k
          · rw [e, Hx.out.1]; exact He.out
          · exact H.out.1 j (by omega), HB.out⟩⟩
        case measure => simp [intOf]; omega
      · have e1 : decide (t p ≠ x2) = true := by simp [he]
        rw [e1] at Hp
        have He := Lib.hid he
        clear he e1
        go_wp2_with fail
        refine Hp.out.mono ?_
        rintro e w' ⟨rfl, hb2⟩
        have HB := Lib.hid (H.out.2.trans (hb2.mono H.out.2.size))
        clear hb2
        go_wp2
        go_ret
        exact ⟨.inr ⟨k, ⟨((p : Int), x2), Hx.out.2, He.out⟩, rfl⟩, HB.out⟩
    · subst hkm
      go_wp2
      go_ret
      refine ⟨.inl ⟨fun x hx => ?_, rfl⟩, H.out.2⟩
      obtain ⟨j, hj, rfl⟩ := List.getElem_of_mem hx
      have := H.out.1 j (by have := Hm.out; omega)
      rw [List.getElem?_eq_getElem hj] at this
      exact this
/-- do all shards agree with these? -/
def agreeB (l : List Sh) (t : Nat → ByteArray) : Bool := l.all fun x => decide (t x.1.toNat = x.2)
set_option maxRecDepth 100000 in
theorem agreeC_walk (n₀ : Nat) (a : Option Addr) (cap n c ba g : Nat) (l : List Sh) (t : Nat → ByteArray) (w : World) (hl : l.length ≤ maxLen) (hn : n₀ ≤ w.heap.size) (hI : ShR n₀ w a l) (hA : AllS w ba g n c t) (hg : ∀ s ∈ l, 0 ≤ s.1 ∧ s.1 < n) :
    Calls Tryd.prog 101 #[.slice a l.length cap, .func (.func 102) #[] #[.pointer (some ⟨ba, 0, none⟩)]] w
      fun e w' => e = .returned (.bool (!agreeB l t)) ∧ Below w.heap.size w w' := by
  have H := Lib.hid (agreeI_walk n₀ a cap n c ba g l t w hl hn hI hA hg)
  clear hI hA hg hl
  obtain ⟨r, hr⟩ : ∃ r, agreeB l t = r := ⟨_, rfl⟩
  have Hr := Lib.hid hr
  rw [hr]
  clear hr
  go_enter Tryd.func101, Tryd.ntmps101
  go_wp2_with fail
  refine H.out.mono ?_
  rintro e w' ⟨hres, hb⟩
  have HB := Lib.hid hb
  clear hb
  rcases hres with ⟨hz, rfl⟩ | ⟨k, hx, rfl⟩
  · have hrf : r = true := by
      rw [← Hr.out]
      unfold agreeB
      rw [List.all_eq_true]
      intro x hx
      simpa using hz x hx
    subst hrf
    clear hz
    go_wp2
    go_ret
    exact ⟨rfl, HB.out⟩
  · have hrt : r = false := by
      rw [← Hr.out]
      unfold agreeB
      rw [List.all_eq_false]
      obtain ⟨x, h1, h2⟩ := hx
      exact ⟨x, h1, by simpa using h2⟩
    subst hrt
    have hk0 : (0 : Int) ≤ (k : Int) := by omega
    clear hx
    go_wp2
    go_ret
    exact ⟨by simp, HB.out⟩
end Go.Proofs.YtmaalkjimppnkaaDoor
/- The walk of coder.Agree. -/
namespace Go.Proofs.YtmaalkjimppnkaaDoor
open Go.RowKit

/-- the object that shards tell. -/
def decT (k size : Nat) (l : List Sh) : ByteArray := textOf (decF (pickS k l) k (wideN k size)) size
theorem decT_size (k size : Nat) (l : List Sh) : (decT k size l).size = size := textOf_size _ _
/-- what Agree answers. -/
def AgrOut (w w' : World) (n k size : Nat) (l : List Sh) (e2 e7 : Value) (e : Ending) : Prop := Below w.heap.size w w' ∧
  ((¬ (∀ s ∈ l, GoodS n (wideN k size) s) ∧ e = .returned (.tuple #[.bool false, e2])) ∨ ((∀ s ∈ l, GoodS n (wideN k size) s) ∧ (pickS k l).length < k ∧ e = .returned (.tuple #[.bool false, e7])) ∨
    ((∀ s ∈ l, GoodS n (wideN k size) s) ∧ (pickS k l).length = k ∧ e = .returned (.tuple #[.bool (agreeB l (encT k (decT k size l))), .nilIface])))
set_option maxRecDepth 100000 in
set_option maxHeartbeats 8000000 in
theorem agree_walk (n₀ n k size : Nat) (a : Option Addr) (cap : Nat) (l : List Sh) (w : World) (E : Nat → Addr) (hE : ErrEf w E)
    (hk : 1 ≤ k) (hkn : k ≤ n) (hn : n ≤ 12) (hs : size ≤ 1000) (hl : l.length ≤ maxLen) (hn₀ : n₀ ≤ w.heap.size) (hI : ShR n₀ w a l) :
    Calls Tryd.prog 49 #[.int .i64 n, .int .i64 k, .int .i64 size, .slice a l.length cap] w fun e w' => AgrOut w w' n k size l (errV (E 2)) (errV (E 7)) e := by
  have Hd := Lib.hid (decode_walk n₀ n k size a cap l w E hE hk hkn hn hs hl hn₀ hI)
  have HE := Lib.hid hE
  obtain ⟨len, hlen⟩ : ∃ len, l.length = len := ⟨_, rfl⟩
  have Hlen := Lib.hid (And.intro hlen hl)
  have HI := Lib.hid hI
  rw [hlen] at Hd ⊢
  clear hE hlen hl hI
  go_enter Tryd.func49, Tryd.ntmps49
  go_wp2_with fail
  refine Hd.out.mono ?_
  rintro e w1 ⟨hb1, hres⟩
  have H1 := Lib.hid hb1
  clear hb1
  rcases hres with ⟨hbad, rfl⟩ | ⟨hall, hfew, rfl⟩ | ⟨hall, hpl, rfl⟩
  · have Hx := Lib.hid hbad
    clear hbad
    go_wp2
    go_ret2
    exact ⟨H1.out, .inl ⟨Hx.out, rfl⟩⟩
  · have Hx := Lib.hid (And.intro hall hfew)
    clear hall hfew
    go_wp2
    go_ret2
    exact ⟨H1.out, .inr (.inl ⟨Hx.out.1, Hx.out.2, rfl⟩)⟩
  · have hgd : ∀ s ∈ l, 0 ≤ s.1 ∧ s.1 < n := fun s hs => ⟨(hall s hs).1, (hall s hs).2.1⟩
    have Hall := Lib.hid (And.intro hall (And.intro hpl hgd))
    obtain ⟨S, hS⟩ : ∃ S, textOf (decF (pickS k l) k (wideN k size)) size = S := ⟨_, rfl⟩
    have hSs : S.size = size := by rw [← hS]; exact textOf_size _ _
    rw [hS]
    have HS := Lib.hid (And.intro hS hSs)
    clear hall hpl hgd hS hSs
    go_wp2_with fail
    refine (encode_walk n k S w1 E (HE.out.below H1.out (Nat.le_refl _)).ez hk hkn hn (by have := HS.out.2; omega)).mono ?_
    rintro e w2 ⟨⟨v, rfl, hv⟩, hb2⟩
    obtain ⟨g, c, hve, _, hg, _, hc⟩ := hv.at_ (by rw [encL_length]; omega)
    rw [encL_length] at hve hc
    rw [hve]
    have hb12 := H1.out.trans (hb2.mono H1.out.size)
    have hbA : Below w.heap.size w (w2.alloc (.cells #[.slice (some ⟨g, 0, none⟩) n c] 82)) := hb12.alloc hb12.size _
    have hbB : Below w2.heap.size w2 (w2.alloc (.cells #[.slice (some ⟨g, 0, none⟩) n c] 82)) := (Below.refl _ _).alloc (Nat.le_refl _) _
    have hA : AllS (w2.alloc (.cells #[.slice (some ⟨g, 0, none⟩) n c] 82)) w2.heap.size g n c (encT k S) := ⟨by simp, fun i hi => by
      refine (hbB.cell (by exact hg)).trans ?_
      have := (hc i hi).1
      rwa [encL_at _ _ _ hi] at this, fun i hi => by
      refine (hbB.cell (by exact hg)).trans ?_
      have := (hc i hi).2
      rwa [encL_at _ _ _ hi] at this⟩
    have Hc := Lib.hid (agreeC_walk n₀ a cap n c w2.heap.size g l (encT k S) (w2.alloc (.cells #[.slice (some ⟨g, 0, none⟩) n c] 82)) Hlen.out.2 (Nat.le_trans hn₀ hbA.size) (HI.out.below (hbA.mono hn₀)) hA Hall.out.2.2)
    have HA := Lib.hid hbA
    rw [Hlen.out.1] at Hc
    clear hve hv hg hc hb12 hbA hbB hA hb2
    go_wp2_with fail
    refine Hc.out.mono ?_
    rintro e w3 ⟨rfl, hb3⟩
    have HB := Lib.hid (HA.out.trans (hb3.mono HA.out.size))
    clear hb3
    obtain ⟨r, hr⟩ : ∃ r, agreeB l (encT k S) = r := ⟨_, rfl⟩
    have Hr := Lib.hid hr
    rw [hr]
    clear hr
    go_wp2
    go_ret2
    refine ⟨HB.out, .inr (.inr ⟨Hall.out.1, Hall.out.2.1, ?_⟩)⟩
    unfold decT
    rw [HS.out.1, Hr.out]
    simp
end Go.Proofs.YtmaalkjimppnkaaDoor
/- The walk of coder.Rebuild, at a place that is. -/
namespace Go.Proofs.YtmaalkjimppnkaaDoor
open Go.RowKit

/-- no shard. -/
def shZ : Value := .agg #[.int .i64 0, .string ⟨#[]⟩]
/-- what Rebuild answers. -/
def RebOut (w w' : World) (n k size a : Nat) (l : List Sh) (e2 e7 : Value) (e : Ending) : Prop := Below w.heap.size w w' ∧
  ((¬ (∀ s ∈ l, GoodS n (wideN k size) s) ∧ e = .returned (.tuple #[shZ, e2])) ∨ ((∀ s ∈ l, GoodS n (wideN k size) s) ∧ (pickS k l).length < k ∧ e = .returned (.tuple #[shZ, e7])) ∨
    ((∀ s ∈ l, GoodS n (wideN k size) s) ∧ (pickS k l).length = k ∧ e = .returned (.tuple #[.agg #[.int .i64 a, .string (encT k (decT k size l) a)], .nilIface])))
theorem shZ_cells (w : World) : (w.alloc (.cells #[.int .i64 0, .string ⟨#[]⟩] 62)).cell? ⟨w.heap.size, 0, none⟩ = some (.int .i64 0) ∧ (w.alloc (.cells #[.int .i64 0, .string ⟨#[]⟩] 62)).cell? ⟨w.heap.size, 1, none⟩ = some (.string ⟨#[]⟩) ∧
    (∀ j, (w.alloc (.cells #[.int .i64 0, .string ⟨#[]⟩] 62)).frozen? ⟨w.heap.size, j, none⟩ = false) ∧ w.heap.size < (w.alloc (.cells #[.int .i64 0, .string ⟨#[]⟩] 62)).heap.size := by
  refine ⟨by simp, by simp, fun j => ?_, by simp⟩
  unfold World.frozen?
  rw [heap_alloc_new]
  simp
set_option maxRecDepth 100000 in
set_option maxHeartbeats 8000000 in
theorem rebuild_walk (n₀ n k size p : Nat) (a : Option Addr) (cap : Nat) (l : List Sh) (w : World) (E : Nat → Addr) (hE : ErrEf w E)
    (hk : 1 ≤ k) (hkn : k ≤ n) (hn : n ≤ 12) (hs : size ≤ 1000) (hp : p < n) (hl : l.length ≤ maxLen) (hn₀ : n₀ ≤ w.heap.size) (hI : ShR n₀ w a l) :
    Calls Tryd.prog 50 #[.int .i64 n, .int .i64 k, .int .i64 size, .int .i64 p, .slice a l.length cap] w fun e w' => RebOut w w' n k size p l (errV (E 2)) (errV (E 7)) e := by
  obtain ⟨z0, z1, zf, zb⟩ := shZ_cells w
  have hB0 : Below w.heap.size w (w.alloc (.cells #[.int .i64 0, .string ⟨#[]⟩] 62)) := (Below.refl _ w).alloc (Nat.le_refl _) _
  have hE0 := hE.below hB0 (Nat.le_refl _)
  have Hd := Lib.hid (decode_walk n₀ n k size a cap l _ E hE0 hk hkn hn hs hl (Nat.le_trans hn₀ hB0.size) (hI.below (hB0.mono hn₀)))
  have HE := Lib.hid hE0
  have HZ := Lib.hid (And.intro z0 (And.intro z1 (And.intro zf (And.intro zb hB0))))
  obtain ⟨len, hlen⟩ : ∃ len, l.length = len := ⟨_, rfl⟩
  rw [hlen] at Hd ⊢
  have g1 : ¬ (p : Int) < 0 := by omega
  have g2 : ¬ (n : Int) ≤ p := by omega
  have g2d : decide (n ≤ p) = false := by simp; omega
  clear hE hlen hl hI z0 z1 zf zb hB0 hE0
  go_enter Tryd.func50, Tryd.ntmps50
  go_wp2_with fail
  refine Hd.out.mono ?_
  rintro e w1 ⟨hb1, hres⟩
  have hw1 : Below w.heap.size w w1 := HZ.out.2.2.2.2.trans (hb1.mono HZ.out.2.2.2.2.size)
  have f0 := (hb1.cell (p := ⟨w.heap.size, 0, none⟩) HZ.out.2.2.2.1).trans HZ.out.1
  have f1 := (hb1.cell (p := ⟨w.heap.size, 1, none⟩) HZ.out.2.2.2.1).trans HZ.out.2.1
  have ff : ∀ j, w1.frozen? ⟨w.heap.size, j, none⟩ = false := fun j => by
    have h1 := hb1.block w.heap.size HZ.out.2.2.2.1
    have h2 := HZ.out.2.2.1 j
    unfold World.frozen? at h2 ⊢
    rw [h1]; exact h2
  have ff0 := ff 0
  have ff1 := ff 1
  have H1 := Lib.hid (And.intro hw1 (And.intro hb1 ff))
  clear hb1 hw1 ff
  have hBs := fun (w1 : World) (h : Below w.heap.size w w1) (u v : Value) => Lib.hid ((h.setCell (p := ⟨w.heap.size, 0, none⟩) (Nat.le_refl _) u).setCell (p := ⟨w.heap.size, 1, none⟩) (Nat.le_refl _) v)
  have HBs := Lib.hid hBs
  clear hBs
  rcases hres with ⟨hbad, rfl⟩ | ⟨hall, hfew, rfl⟩ | ⟨hall, hpl, rfl⟩
  · have Hx := Lib.hid hbad
    clear hbad
    go_wp2
    exact bodyPost_ret (v := .tuple #[shZ, errV (E 2)]) (by simp [results, Tryd.results50, shZ, f0, f1, go_sem]) rfl ⟨(HBs.out w1 H1.out.1 _ _).out, .inl ⟨Hx.out, rfl⟩⟩
  · have Hx := Lib.hid (And.intro hall hfew)
    clear hall hfew
    go_wp2
    exact bodyPost_ret (v := .tuple #[shZ, errV (E 7)]) (by simp [results, Tryd.results50, shZ, f0, f1, go_sem]) rfl ⟨(HBs.out w1 H1.out.1 _ _).out, .inr (.inl ⟨Hx.out.1, Hx.out.2, rfl⟩)⟩
  · have Hall := Lib.hid (And.intro hall hpl)
    obtain ⟨S, hS⟩ : ∃ S, textOf (decF (pickS k l) k (wideN k size)) size = S := ⟨_, rfl⟩
    have hSs : S.size = size := by rw [← hS]; exact textOf_size _ _
    rw [hS]
    have HS := Lib.hid (And.intro hS hSs)
    clear hall hpl hS hSs
    go_wp2_with fail
    refine (encode_walk n k S w1 E (HE.out.below H1.out.2.1 (Nat.le_refl _)).ez hk hkn hn (by have := HS.out.2; omega)).mono ?_
    rintro e w2 ⟨⟨v, rfl, hv⟩, hb2⟩
    obtain ⟨g, c, hve, hg0, hg, _, hc⟩ := hv.at_ (by rw [encL_length]; omega)
    rw [encL_length] at hve hc
    rw [hve]
    have hb1 := H1.out.2.1.size
    have hzl : w.heap.size < w1.heap.size := Nat.lt_of_lt_of_le HZ.out.2.2.2.1 hb1
    have q0 := (hb2.cell (p := ⟨w.heap.size, 0, none⟩) hzl).trans f0
    have q1 := (hb2.cell (p := ⟨w.heap.size, 1, none⟩) hzl).trans f1
    have qf : ∀ j, w2.frozen? ⟨w.heap.size, j, none⟩ = false := fun j => by
      have h1 := hb2.block w.heap.size hzl
      have h2 := H1.out.2.2 j
      unfold World.frozen? at h2 ⊢
      rw [h1]; exact h2
    have qf0 := qf 0
    have qf1 := qf 1
    have h1 := (hc p hp).1
    have h2 := (hc p hp).2
    rw [encL_at _ _ _ hp] at h1 h2
    have HB := Lib.hid (H1.out.1.trans (hb2.mono H1.out.1.size))
    obtain ⟨T, hT⟩ : ∃ T, encT k S p = T := ⟨_, rfl⟩
    simp only [hT] at h1 h2
    have HT := Lib.hid hT
    have hgp : (⟨w.heap.size, 0, none⟩ : Addr) ≠ ⟨g, p * 2 + 1, none⟩ := fun h => by have := (Addr.mk.inj h).1; omega
    clear hve hv hg0 hg hc hb1 hzl qf hT hb2 f0 f1 ff0 ff1
    go_wp2
    refine bodyPost_ret (v := .tuple #[.agg #[.int .i64 p, .string T], .nilIface]) (by simp [results, Tryd.results50, q0, q1, go_sem]) rfl ⟨(HBs.out w2 HB.out _ _).out, .inr (.inr ⟨Hall.out.1, Hall.out.2, ?_⟩)⟩
    unfold decT
    rw [HS.out.1, HT.out]
end Go.Proofs.YtmaalkjimppnkaaDoor
/- Decode, Agree, Rebuild where they are refused. -/
namespace Go.Proofs.YtmaalkjimppnkaaDoor
open Go.RowKit

/-- are the numbers refused? -/
def BadN (n k size : Int) : Prop := ¬ (1 ≤ k ∧ k ≤ n ∧ n ≤ 12) ∨ size < 0 ∨ 1000 < size
theorem look_bad (n k size : Int) (a : Option Addr) (len cap : Nat) (w : World) (a1 : Addr) (hb : w.cell? ⟨6, 0, none⟩ = some (errV a1)) (h : BadN n k size) :
    Calls Tryd.prog 92 #[.int .i64 n, .int .i64 k, .int .i64 size, .slice a len cap] w fun e w' => e = .returned (.tuple #[.slice none 0 0, errV a1]) ∧ Below w.heap.size w w' := by
  unfold BadN at h
  by_cases hs : 1 ≤ k ∧ k ≤ n ∧ n ≤ 12
  · obtain ⟨k, rfl⟩ := Int.eq_ofNat_of_zero_le (show 0 ≤ k by omega)
    obtain ⟨n, rfl⟩ := Int.eq_ofNat_of_zero_le (show 0 ≤ n by omega)
    exact look_size n k size a len cap w a1 hb (by omega) (by omega) (by omega) (by omega)
  · exact look_spread n k size a len cap w a1 hb hs
set_option maxHeartbeats 1000000 in
theorem decode_bad (n k size : Int) (a : Option Addr) (len cap : Nat) (w : World) (a1 : Addr) (hb : w.cell? ⟨6, 0, none⟩ = some (errV a1)) (h : BadN n k size) :
    Calls Tryd.prog 45 #[.int .i64 n, .int .i64 k, .int .i64 size, .slice a len cap] w fun e w' => e = .returned (.tuple #[.string ⟨#[]⟩, errV a1]) ∧ Below w.heap.size w w' := by
  have H := Lib.hid (look_bad n k size a len cap w a1 hb h)
  clear hb h
  go_enter Tryd.func45, Tryd.ntmps45
  go_wp2_with fail
  refine H.out.mono ?_
  rintro e w' ⟨rfl, hb⟩
  go_wp2
  go_ret2
  exact ⟨rfl, hb⟩
set_option maxHeartbeats 1000000 in
theorem agree_bad (n k size : Int) (a : Option Addr) (len cap : Nat) (w : World) (a1 : Addr) (hb : w.cell? ⟨6, 0, none⟩ = some (errV a1)) (h : BadN n k size) :
    Calls Tryd.prog 49 #[.int .i64 n, .int .i64 k, .int .i64 size, .slice a len cap] w fun e w' => e = .returned (.tuple #[.bool false, errV a1]) ∧ Below w.heap.size w w' := by
  have H := Lib.hid (decode_bad n k size a len cap w a1 hb h)
  clear hb h
  go_enter Tryd.func49, Tryd.ntmps49
  go_wp2_with fail
  refine H.out.mono ?_
  rintro e w' ⟨rfl, hb⟩
  go_wp2
  go_ret2
  exact ⟨rfl, hb⟩
set_option maxHeartbeats 1000000 in
theorem rdecode_bad (n k size : Int) (a : Option Addr) (len cap : Nat) (w : World) (h : BadN n k size) :
    Calls Tryd.prog 47 #[.int .i64 n, .int .i64 k, .int .i64 size, .slice a len cap] w fun e w' => e = .returned (.tuple #[.string ⟨#[]⟩, .int .i64 2]) ∧ w = w' := by
  have H := Lib.hid (rsome_bad n k size a len cap w h)
  clear h
  go_enter Tryd.func47, Tryd.ntmps47
  go_wp2_with fail
  refine H.out.mono ?_
  rintro e w' ⟨rfl, hw'⟩
  have hw2 := hw'.symm
  clear hw'
  subst hw2
  go_wp2
  go_ret2
  exact ⟨rfl, rfl⟩
set_option maxRecDepth 100000 in
set_option maxHeartbeats 4000000 in
theorem rebuild_bad (n k size p : Int) (a : Option Addr) (len cap : Nat) (w : World) (E : Nat → Addr) (hE : ErrEz w E) (h : (p < 0 ∨ n ≤ p) ∨ BadN n k size) :
    Calls Tryd.prog 50 #[.int .i64 n, .int .i64 k, .int .i64 size, .int .i64 p, .slice a len cap] w fun e w' => e = .returned (.tuple #[shZ, errV (E 1)]) ∧ Below w.heap.size w w' := by
  obtain ⟨z0, z1, zf, zb⟩ := shZ_cells w
  have hB0 : Below w.heap.size w (w.alloc (.cells #[.int .i64 0, .string ⟨#[]⟩] 62)) := (Below.refl _ w).alloc (Nat.le_refl _) _
  have HE := Lib.hid (hE.below hB0 (Nat.le_refl _))
  have HZ := Lib.hid (And.intro z0 (And.intro z1 (And.intro zf (And.intro zb hB0))))
  have hBs := fun (w1 : World) (h : Below w.heap.size w w1) (u v : Value) => Lib.hid ((h.setCell (p := ⟨w.heap.size, 0, none⟩) (Nat.le_refl _) u).setCell (p := ⟨w.heap.size, 1, none⟩) (Nat.le_refl _) v)
  have HBs := Lib.hid hBs
  clear hBs z0 z1 zf zb hB0 hE
  have hkeep : ∀ w1, Below (w.alloc (.cells #[.int .i64 0, .string ⟨#[]⟩] 62)).heap.size (w.alloc (.cells #[.int .i64 0, .string ⟨#[]⟩] 62)) w1 → w1.cell? ⟨w.heap.size, 0, none⟩ = some (.int .i64 0) ∧ w1.cell? ⟨w.heap.size, 1, none⟩ = some (.string ⟨#[]⟩) ∧ w1.frozen? ⟨w.heap.size, 0, none⟩ = false ∧ w1.frozen? ⟨w.heap.size, 1, none⟩ = false ∧ Below w.heap.size w w1 := fun w1 hb1 => by
    have hf : ∀ j, w1.frozen? ⟨w.heap.size, j, none⟩ = false := fun j => by
      have h1 := hb1.block w.heap.size HZ.out.2.2.2.1
      have h2 := HZ.out.2.2.1 j
      unfold World.frozen? at h2 ⊢
      rw [h1]; exact h2
    exact ⟨(hb1.cell (p := ⟨w.heap.size, 0, none⟩) HZ.out.2.2.2.1).trans HZ.out.1, (hb1.cell (p := ⟨w.heap.size, 1, none⟩) HZ.out.2.2.2.1).trans HZ.out.2.1, hf 0, hf 1, HZ.out.2.2.2.2.trans (hb1.mono HZ.out.2.2.2.2.size)⟩
  have HK := Lib.hid hkeep
  clear hkeep
  by_cases hp : p < 0 ∨ n ≤ p
  · have hcase : p < 0 ∨ (¬ p < 0 ∧ n ≤ p) := by omega
    clear h hp
    by_cases hs : 1 ≤ k ∧ k ≤ n ∧ n ≤ 12
    · obtain ⟨k, rfl⟩ := Int.eq_ofNat_of_zero_le (show 0 ≤ k by omega)
      obtain ⟨n, rfl⟩ := Int.eq_ofNat_of_zero_le (show 0 ≤ n by omega)
      have Hp := Lib.hid (powers_walk n k (w.alloc (.cells #[.int .i64 0, .string ⟨#[]⟩] 62)) (by omega) (by omega) (by omega))
      clear hs
      rcases hcase with h1 | ⟨h1, h2⟩
      all_goals
        go_enter Tryd.func50, Tryd.ntmps50
        go_wp2_with fail
        refine Hp.out.mono ?_
        rintro e w1 ⟨⟨v, bs, cps, rfl, _⟩, hb1⟩
        have he := ((HE.out.below hb1 (Nat.le_refl _))).c1
        have hne : w.heap.size ≠ 6 := fun e => by
          have h3 := HE.out.c1
          have h4 := HZ.out.1
          rw [e] at h4
          have h5 := h4.symm.trans h3
          simp [errV] at h5
        have hne2 : 6 ≠ w.heap.size := hne.symm
        obtain ⟨f0, f1, ff0, ff1, hbw⟩ := HK.out w1 hb1
        have HB := Lib.hid hbw
        clear hb1 hbw
        go_wp2
        go_region
        all_goals
          go_wp2
          exact bodyPost_ret (v := .tuple #[shZ, errV (E 1)]) (by simp [results, Tryd.results50, shZ, f0, f1, go_sem]) rfl ⟨rfl, by first | exact (HBs.out w1 HB.out _ _).out | exact (HBs.out w1 HB.out _ _).out.trans (same_below' _ 1) | exact (HBs.out _ (HB.out.trans (same_below' _ 1)) _ _).out⟩
    · have Hp := Lib.hid (powers_bad n k (w.alloc (.cells #[.int .i64 0, .string ⟨#[]⟩] 62)) (errV (E 1)) HE.out.c1 hs)
      clear hs
      rcases hcase with h1 | ⟨h1, h2⟩
      all_goals
        go_enter Tryd.func50, Tryd.ntmps50
        go_wp2_with fail
        refine Hp.out.mono ?_
        rintro e w1 ⟨rfl, q, hq⟩
        have hb1 : Below (w.alloc (.cells #[.int .i64 0, .string ⟨#[]⟩] 62)).heap.size (w.alloc (.cells #[.int .i64 0, .string ⟨#[]⟩] 62)) w1 := by rw [hq]; exact same_below' _ q
        obtain ⟨f0, f1, ff0, ff1, hbw⟩ := HK.out w1 hb1
        have HB := Lib.hid hbw
        clear hb1 hbw hq
        go_wp2
        exact bodyPost_ret (v := .tuple #[shZ, errV (E 1)]) (by simp [results, Tryd.results50, shZ, f0, f1, go_sem]) rfl ⟨rfl, (HBs.out w1 HB.out _ _).out⟩
  · have g1 : ¬ p < 0 := by omega
    have g2 : ¬ n ≤ p := by omega
    have hbad : BadN n k size := by
      rcases h with h | h
      · exact absurd h hp
      · exact h
    have Hd := Lib.hid (decode_bad n k size a len cap (w.alloc (.cells #[.int .i64 0, .string ⟨#[]⟩] 62)) (E 1) HE.out.c1 hbad)
    clear h hp hbad
    go_enter Tryd.func50, Tryd.ntmps50
    go_wp2_with fail
    refine Hd.out.mono ?_
    rintro e w1 ⟨rfl, hb1⟩
    obtain ⟨f0, f1, ff0, ff1, hbw⟩ := HK.out w1 hb1
    have HB := Lib.hid hbw
    clear hb1 hbw
    go_wp2
    exact bodyPost_ret (v := .tuple #[shZ, errV (E 1)]) (by simp [results, Tryd.results50, shZ, f0, f1, go_sem]) rfl ⟨rfl, (HBs.out w1 HB.out _ _).out⟩
end Go.Proofs.YtmaalkjimppnkaaDoor
/- Shards that come in; the laws' ownShards. -/
namespace Go.Proofs.YtmaalkjimppnkaaDoor
open Go.RowKit

/-- shards that come in, as an argument. -/
def ShIn (w : World) (a : Option Addr) (len cap : Nat) (l : List Sh) : Prop := l.length = len ∧ len ≤ cap ∧ cap ≤ maxLen ∧ (a = none → cap = 0) ∧ ShR w.heap.size w a l
theorem open_shards {H : Type} {enc : TypeId × Value → H} {W : World} {a : Option Addr} {len cap : Nat} {d : DataW H} {p : List MemPlace} (h : DataW.Trod enc Tryd.prog W 0 (fun _ => true) true 82 (.slice a len cap) d p) :
    ∃ L, ShIn W a len cap L := by
  obtain ⟨fuel, hf⟩ := h
  rcases Go.Deep.open_slice_pairs Tryd.underlying82 Tryd.underlying62 (by kernel_rfl) rfl rfl (by kernel_rfl) (by kernel_rfl) hf with ⟨hcs, _⟩ | ⟨x, l, c, m, n, V0, V1, D0, D1, P0, P1, hcs, _, hl, hm, hmm, _, hr⟩
  · simp [Value.cells] at hcs
    obtain ⟨rfl, rfl, rfl⟩ := hcs
    exact ⟨[], rfl, Nat.le_refl _, by simp [maxLen], fun _ => rfl, .inl rfl⟩
  · simp [Value.cells] at hcs
    obtain ⟨rfl, rfl, rfl⟩ := hcs
    rw [if_pos rfl] at hmm
    subst hmm
    have each : ∀ i, i < m → ∃ s : Sh, V0 i = .int .i64 s.1 ∧ V1 i = .string s.2 := fun i hi => by
      obtain ⟨_, _, h3, h4⟩ := hr i hi
      obtain ⟨n, e1, _, _⟩ := DataW.trod_int Tryd.underlying3 h3
      obtain ⟨s, e2, _, _⟩ := DataW.trod_string Tryd.underlying9 h4
      exact ⟨(n, s), by simpa using e1, by simpa using e2⟩
    obtain ⟨f, hff⟩ := Go.Deep.choose_lt each
    refine ⟨(List.range len).map f, by simp, hl, hm, (fun e => by cases e), ?_⟩
    by_cases h0 : len = 0
    · left; subst h0; rfl
    · have hcell : ∀ i, i < m * 2 → W.cell? (x.add i) = some (if i % 2 = 0 then V0 (i / 2) else V1 (i / 2)) := fun i hi => by
        have h := hr (i / 2) (by omega)
        by_cases e : i % 2 = 0
        · rw [if_pos e, ← h.1]; congr 2; omega
        · rw [if_neg e, ← h.2.1]; congr 2; omega
      obtain ⟨b, off, rfl, hb, hc⟩ := slice_at hcell (show 0 < m * 2 by omega)
      refine .inr ⟨b, off, rfl, hb, fun i hi => ?_⟩
      simp at hi
      have hi2 : i < m := by omega
      have e : ((List.range len).map f)[i]?.getD (0, ⟨#[]⟩) = f i := by simp [hi]
      rw [e]
      have h1 := hc (i * 2) (by omega)
      have h2 := hc (i * 2 + 1) (by omega)
      rw [if_pos (by omega), show i * 2 / 2 = i by omega, (hff i hi2).1] at h1
      rw [if_neg (by omega), show (i * 2 + 1) / 2 = i by omega, (hff i hi2).2] at h2
      exact ⟨h1, h2⟩
theorem shV_one (l : List Sh) : ∀ u ∈ shV l, u.oneCell' = true := by
  induction l with
  | nil => intro u h; cases h
  | cons s r ih =>
    intro u h
    have e : shV (s :: r) = [.int .i64 s.1, .string s.2] ++ shV r := rfl
    rw [e] at h
    rcases List.mem_append.1 h with h | h
    · simp at h
      rcases h with rfl | rfl <;> rfl
    · exact ih u h
set_option maxHeartbeats 1000000 in
theorem ownsh_walk (n₀ : Nat) (a : Option Addr) (cap : Nat) (l : List Sh) (w : World) (hl : l.length ≤ 1000) (ha : a = none → cap = 0) (hI : ShR n₀ w a l) :
    Calls Tryd.prog 46 #[.slice a l.length cap] w fun e w' => (∃ v, e = .returned v ∧ OwnS w.heap.size w' v l) ∧ Below w.heap.size w w' := by
  obtain ⟨i, hi, hz0, hz1, hz2⟩ := info_parts info_shard
  have hnil := OwnS.nil w.heap.size w
  go_enter Tryd.func46, Tryd.ntmps46
  have fin : ∀ v' w', OwnS w.heap.size w' v' l → w.grownBy w' none → Below w.heap.size w w' := fun v' w' _ h2 => (Below.refl _ w).grown h2 (Nat.le_refl _) (fun q e => by cases e)
  rcases hI with rfl | ⟨b, off, rfl, _, hcell⟩
  · cases a with
    | none =>
      obtain rfl := ha rfl
      go_wp2_with (at_builtin; refine wpList_append_own_none rfl (.tmp 4) (.tmp 5) 82 rfl w.heap.size 62 i 2 Tryd.underlying82 hi (.slice none 0 0) 0 [] rfl hnil rfl ?_)
      go_wp2
      go_ret
      exact ⟨⟨_, rfl, hnil⟩, Below.refl _ _⟩
    | some ad =>
      go_wp2_with (at_builtin; refine wpList_append_own_at _ rfl (.tmp 4) (.tmp 5) 82 rfl w.heap.size 62 i _ 2 24 Tryd.underlying82 hi hz0 hz1 hz2 rfl (by decide) (.slice none 0 0) 0 [] rfl hnil ad 0 cap [] rfl rfl (fun j u hj => by simp at hj) (fun u hu => by cases hu) (by unfold maxLen; omega) (by omega) (Nat.le_refl _) ?_)
      intro v' w' h1 h2 _ _
      have HB := Lib.hid (And.intro (show OwnS w.heap.size w' v' [] from h1) (fin v' w' h1 h2))
      clear h1 h2 fin
      go_wp2
      go_ret
      exact ⟨⟨_, rfl, HB.out.1⟩, HB.out.2⟩
  · have hsv := shV_length l
    have hnews : ∀ j u, (shV l)[j]? = some u → w.cell? ((⟨b, off, none⟩ : Addr).add j) = some u := fun j u hj => by
      have hjl : j < l.length * 2 := by rw [← hsv]; exact (List.getElem?_eq_some_iff.1 hj).1
      have h := hcell (j / 2) (by omega)
      have hv := shV_at l (j / 2) (by omega)
      rw [Go.WideShapes.add_plain]
      rcases (show j = j / 2 * 2 ∨ j = j / 2 * 2 + 1 by omega) with e | e
      · rw [← e] at hv h
        rw [h.1, ← hj, hv.1]
      · rw [← e] at hv
        rw [Nat.add_assoc, ← e] at h
        rw [h.2, ← hj, hv.2]
    obtain ⟨len, hlen⟩ : ∃ len, l.length = len := ⟨_, rfl⟩
    have hone := shV_one l
    rw [hlen] at hsv hl ⊢
    clear hcell
    go_wp2_with (at_builtin; refine wpList_append_own_at _ rfl (.tmp 4) (.tmp 5) 82 rfl w.heap.size 62 i _ 2 24 Tryd.underlying82 hi hz0 hz1 hz2 rfl (by decide) (.slice none 0 0) 0 [] rfl hnil ⟨b, off, none⟩ len cap (shV l) rfl hsv hnews hone (by unfold maxLen; omega) (by omega) (Nat.le_refl _) ?_)
    intro v' w' h1 h2 _ _
    have h3 : OwnS w.heap.size w' v' l := by
      unfold OwnS
      rw [hlen]
      exact h1
    have HB := Lib.hid (And.intro h3 (fin v' w' h3 h2))
    clear h1 h2 h3 fin
    go_wp2
    go_ret
    exact ⟨⟨_, rfl, HB.out.1⟩, HB.out.2⟩
end Go.Proofs.YtmaalkjimppnkaaDoor
/- The walk of the law CoderDecodes where all is refused. -/
namespace Go.Proofs.YtmaalkjimppnkaaDoor.coderDecodes
open Go.RowKit

set_option maxRecDepth 100000 in
set_option maxHeartbeats 4000000 in
/-- where all is refused alike. -/
theorem walk_err (n k size p : Int) (a : Option Addr) (len cap : Nat) (l : List Sh) (w : World) (E : Nat → Addr) (hE : ErrEnv w E) (j jb : Nat) (hj : j < 12) (hjb : jb < 12) (ec : Int) (hec : ec = j + 1) (sp : Bool) (hsp : isSpreadB n k = sp)
    (hin : ShIn w a len cap l) (hl : len ≤ 30) (htx : ∀ i, i < len → ((l[i]?.getD (0, ⟨#[]⟩)).2.size : Int) ≤ 200) (hsz : size ≤ 100 ∨ 100 < size ∧ 1000 < size)
    (hc : (sp = true ∧ p < 0 ∧ jb = 1) ∨ (sp = true ∧ ¬ p < 0 ∧ n ≤ p ∧ jb = 1) ∨ (sp = true ∧ ¬ p < 0 ∧ ¬ n ≤ p ∧ jb = j) ∨ (sp = false ∧ jb = j))
    (hD : ∀ V b c, Below w.heap.size w V → ShR V.heap.size V b l → Calls Tryd.prog 45 #[.int .i64 n, .int .i64 k, .int .i64 size, .slice b len c] V fun e w' => e = .returned (.tuple #[.string ⟨#[]⟩, errV (E j)]) ∧ Below V.heap.size V w')
    (hR : ∀ V b c, Below w.heap.size w V → ShR V.heap.size V b l → Calls Tryd.prog 47 #[.int .i64 n, .int .i64 k, .int .i64 size, .slice b len c] V fun e w' => e = .returned (.tuple #[.string ⟨#[]⟩, .int .i64 ec]) ∧ Below V.heap.size V w')
    (hA : ∀ V b c, Below w.heap.size w V → ShR V.heap.size V b l → Calls Tryd.prog 49 #[.int .i64 n, .int .i64 k, .int .i64 size, .slice b len c] V fun e w' => e = .returned (.tuple #[.bool false, errV (E j)]) ∧ Below V.heap.size V w')
    (hB : ∀ V b c, Below w.heap.size w V → ShR V.heap.size V b l → Calls Tryd.prog 50 #[.int .i64 n, .int .i64 k, .int .i64 size, .int .i64 p, .slice b len c] V fun e w' => e = .returned (.tuple #[.agg #[.int .i64 0, .string ⟨#[]⟩], errV (E jb)]) ∧ Below V.heap.size V w') :
    Calls Tryd.prog 9 #[.int .i64 n, .int .i64 k, .int .i64 size, .slice a len cap, .int .i64 p] w fun e w' => e = .returned (.bool true) ∧ Below w.heap.size w w' := by
  have Hu := Lib.hid (single_walk w E hE.ez)
  have HE := Lib.hid hE
  have Hin := Lib.hid hin
  have Htx := Lib.hid htx
  have HD := Lib.hid hD
  have HR := Lib.hid hR
  have HA := Lib.hid hA
  have HB := Lib.hid hB
  have Hsp := Lib.hid hsp
  have Hc := Lib.hid hc
  have hec0 : 0 < ec := by omega
  have Hec := Lib.hid (show decide (ec = (j : Int) + 1) = true from by simpa using hec)
  have Ho := Lib.hid (fun (V : World) (hb : Below w.heap.size w V) => ownsh_walk w.heap.size a cap l V (by have := hin.1; omega) (fun e => hin.2.2.2.1 e) (hin.2.2.2.2.below hb))
  have hlen := hin.1
  rw [hlen] at Ho
  have e2 : decide ((2 : Int) = ((1 : Nat) : Int) + 1) = true := rfl
  clear hE hin htx hD hR hA hB hsp hc hec hlen
  have hl2 : ¬ (30 : Int) < len := by omega
  have hl2d : decide (30 < len) = false := by simp; omega
  have hs1 : ¬ (100 : Int) < size ∨ (100 : Int) < size ∧ ¬ size ≤ 1000 := by omega
  clear hsz
  rcases hs1 with hs1 | ⟨hs1, hs2⟩
  all_goals
    go_enter Tryd.func9, Tryd.ntmps9
    go_wp2_with fail
    refine Hu.out.mono ?_
    rintro e w1 ⟨rfl, hb1⟩
    have H1 := Lib.hid hb1
    clear hb1
    go_wp2
    go_loop [12] (fun vi => ∃ i : Nat, i ≤ len ∧ vi = .int .i64 i) (fun i => len - (intOf i).toNat)
    case atStart => exact ⟨0, by omega, rfl⟩
    case round =>
      obtain ⟨i, hi, rfl⟩ := hrel
      have hi2 : i < len ∨ i = len := by omega
      rcases hi2 with hlt | rfl
      · have hlt2 : (i : Int) < len := by omega
        rcases Hin.out.2.2.2.2.below H1.out with he | ⟨g, off, rfl, _, hcl⟩
        · have := Hin.out.1
          rw [he] at this; simp at this; omega
        have c2 := (hcl i (by have := Hin.out.1; omega)).2
        have ht := Htx.out i hlt
        obtain ⟨tx, htx⟩ : ∃ tx, (l[i]?.getD (0, ⟨#[]⟩)).2 = tx := ⟨_, rfl⟩
        rw [htx] at c2 ht
        have ht2 : ¬ (200 : Int) < tx.size := by omega
        have ht2d : decide (200 < tx.size) = false := by simp; omega
        clear hcl htx
        go_wp2
        go_round
        case rel => exact ⟨i + 1, by omega, by go_num⟩
        case measure => simp [intOf]; omega
      · go_wp2_with fail
        refine (Ho.out w1 H1.out).mono ?_
        rintro e w2 ⟨⟨v, rfl, hv⟩, hb2⟩
        obtain ⟨b2, c2, hve, _, _, hS⟩ := OwnS.read hv
        rw [Hin.out.1] at hve
        rw [hve]
        have H2 := Lib.hid (And.intro (H1.out.trans (hb2.mono H1.out.size)) hS)
        clear hv hve hS hb2
        go_wp2_with fail
        refine (HD.out w2 b2 c2 H2.out.1 H2.out.2).mono ?_
        rintro e w3 ⟨rfl, hb3⟩
        have H3 := Lib.hid (H2.out.1.trans (hb3.mono H2.out.1.size))
        clear hb3
        go_wp2_with fail
        refine (HR.out w3 a cap H3.out ((Hin.out.2.2.2.2.below H3.out).mono H3.out.size)).mono ?_
        rintro e w4 ⟨rfl, hb4⟩
        have H4 := Lib.hid (H3.out.trans (hb4.mono H3.out.size))
        clear hb4
        go_wp2_with fail
        refine (coded_err E j hj ec w4 (HE.out.below H4.out (Nat.le_refl _))).mono ?_
        rintro e w5 ⟨rfl, hb5⟩
        rw [Hec.out]
        have H5 := Lib.hid (H4.out.trans (hb5.mono H4.out.size))
        clear hb5
        go_wp2_with fail
        refine (Ho.out w5 H5.out).mono ?_
        rintro e w6 ⟨⟨v, rfl, hv⟩, hb6⟩
        obtain ⟨b6, c6, hve, _, _, hS⟩ := OwnS.read hv
        rw [Hin.out.1] at hve
        rw [hve]
        have H6 := Lib.hid (And.intro (H5.out.trans (hb6.mono H5.out.size)) hS)
        clear hv hve hS hb6
        go_wp2_with fail
        refine (HA.out w6 b6 c6 H6.out.1 H6.out.2).mono ?_
        rintro e w7 ⟨rfl, hb7⟩
        have H7 := Lib.hid (H6.out.1.trans (hb7.mono H6.out.1.size))
        clear hb7
        go_wp2_with fail
        refine (Ho.out w7 H7.out).mono ?_
        rintro e w8 ⟨⟨v, rfl, hv⟩, hb8⟩
        obtain ⟨b8, c8, hve, _, _, hS⟩ := OwnS.read hv
        rw [Hin.out.1] at hve
        rw [hve]
        have H8 := Lib.hid (And.intro (H7.out.trans (hb8.mono H7.out.size)) hS)
        clear hv hve hS hb8
        go_wp2_with fail
        refine (HB.out w8 b8 c8 H8.out.1 H8.out.2).mono ?_
        rintro e w9 ⟨rfl, hb9⟩
        have hb9' := H8.out.1.trans (hb9.mono H8.out.1.size)
        have hbA : Below w.heap.size w (w9.alloc (.cells #[.int .i64 0, .string ⟨#[]⟩] 62)) := hb9'.alloc hb9'.size _
        have hzs : w9.heap.size < (w9.alloc (.cells #[.int .i64 0, .string ⟨#[]⟩] 62)).heap.size := by simp
        have H9 := Lib.hid (And.intro hbA hzs)
        have hx1 : (w9.alloc (.cells #[.int .i64 0, .string ⟨#[]⟩] 62)).cell? ⟨w9.heap.size, 0, none⟩ = some (.int .i64 0) := by simp
        have hx2 : (w9.alloc (.cells #[.int .i64 0, .string ⟨#[]⟩] 62)).cell? ⟨w9.heap.size, 1, none⟩ = some (.string ⟨#[]⟩) := by simp
        have HX := Lib.hid (And.intro hx1 hx2)
        clear hb9 hb9' hbA hzs hx1 hx2
        go_wp2_with fail
        refine (isspread_walk n k (w9.alloc (.cells #[.int .i64 0, .string ⟨#[]⟩] 62))).mono ?_
        rintro e w' ⟨rfl, hw'⟩
        subst hw'
        rw [Hsp.out]
        rcases Hc.out with ⟨rfl, hp1, rfl⟩ | ⟨rfl, hp1, hp2, rfl⟩ | ⟨rfl, hp1, hp2, rfl⟩ | ⟨rfl, rfl⟩
        · go_wp2_with fail
          refine (coded_err E 1 (by decide) 2 _ (HE.out.below H9.out.1 (Nat.le_refl _))).mono ?_
          rintro e wa ⟨rfl, hba⟩
          rw [e2]
          have x1 := (hba.cell (p := ⟨w9.heap.size, 0, none⟩) H9.out.2).trans HX.out.1
          have x2 := (hba.cell (p := ⟨w9.heap.size, 1, none⟩) H9.out.2).trans HX.out.2
          have Ha := Lib.hid (And.intro (H9.out.1.trans (hba.mono H9.out.1.size)) (And.intro x1 (And.intro x2 (Nat.lt_of_lt_of_le H9.out.2 hba.size))))
          clear hba
          go_wp2_with fail
          refine (coded_err E j hj ec _ (HE.out.below Ha.out.1 (Nat.le_refl _))).mono ?_
          rintro e wb ⟨rfl, hbb⟩
          rw [Hec.out]
          have y1 := (hbb.cell (p := ⟨w9.heap.size, 0, none⟩) Ha.out.2.2.2).trans Ha.out.2.1
          have y2 := (hbb.cell (p := ⟨w9.heap.size, 1, none⟩) Ha.out.2.2.2).trans Ha.out.2.2.1
          have Hb := Lib.hid (Ha.out.1.trans (hbb.mono Ha.out.1.size))
          clear hbb x1 x2
          go_wp2
          go_ret
          exact ⟨by simp, Hb.out⟩
        · go_wp2_with fail
          refine (coded_err E 1 (by decide) 2 _ (HE.out.below H9.out.1 (Nat.le_refl _))).mono ?_
          rintro e wa ⟨rfl, hba⟩
          rw [e2]
          have x1 := (hba.cell (p := ⟨w9.heap.size, 0, none⟩) H9.out.2).trans HX.out.1
          have x2 := (hba.cell (p := ⟨w9.heap.size, 1, none⟩) H9.out.2).trans HX.out.2
          have Ha := Lib.hid (And.intro (H9.out.1.trans (hba.mono H9.out.1.size)) (And.intro x1 (And.intro x2 (Nat.lt_of_lt_of_le H9.out.2 hba.size))))
          clear hba
          go_wp2_with fail
          refine (coded_err E j hj ec _ (HE.out.below Ha.out.1 (Nat.le_refl _))).mono ?_
          rintro e wb ⟨rfl, hbb⟩
          rw [Hec.out]
          have y1 := (hbb.cell (p := ⟨w9.heap.size, 0, none⟩) Ha.out.2.2.2).trans Ha.out.2.1
          have y2 := (hbb.cell (p := ⟨w9.heap.size, 1, none⟩) Ha.out.2.2.2).trans Ha.out.2.2.1
          have Hb := Lib.hid (Ha.out.1.trans (hbb.mono Ha.out.1.size))
          clear hbb x1 x2
          go_wp2
          go_ret
          exact ⟨by simp, Hb.out⟩
        all_goals
          go_wp2_with fail
          refine (coded_err E _ hj ec _ (HE.out.below H9.out.1 (Nat.le_refl _))).mono ?_
          rintro e wa ⟨rfl, hba⟩
          rw [Hec.out]
          have x1 := (hba.cell (p := ⟨w9.heap.size, 0, none⟩) H9.out.2).trans HX.out.1
          have x2 := (hba.cell (p := ⟨w9.heap.size, 1, none⟩) H9.out.2).trans HX.out.2
          have Ha := Lib.hid (And.intro (H9.out.1.trans (hba.mono H9.out.1.size)) (And.intro x1 (And.intro x2 (Nat.lt_of_lt_of_le H9.out.2 hba.size))))
          clear hba
          go_wp2_with fail
          refine (coded_err E _ hj ec _ (HE.out.below Ha.out.1 (Nat.le_refl _))).mono ?_
          rintro e wb ⟨rfl, hbb⟩
          rw [Hec.out]
          have y1 := (hbb.cell (p := ⟨w9.heap.size, 0, none⟩) Ha.out.2.2.2).trans Ha.out.2.1
          have y2 := (hbb.cell (p := ⟨w9.heap.size, 1, none⟩) Ha.out.2.2.2).trans Ha.out.2.2.1
          have Hb := Lib.hid (Ha.out.1.trans (hbb.mono Ha.out.1.size))
          clear hbb x1 x2
          go_wp2
          go_ret
          exact ⟨by simp, Hb.out⟩
end Go.Proofs.YtmaalkjimppnkaaDoor.coderDecodes
/- The law CoderDecodes where it is true at once. -/
namespace Go.Proofs.YtmaalkjimppnkaaDoor.coderDecodes
open Go.RowKit

set_option maxRecDepth 100000 in
set_option maxHeartbeats 1000000 in
theorem walk_skip (n k size p : Int) (a : Option Addr) (len cap : Nat) (w : World) (E : Nat → Addr) (hE : ErrEnv w E) (h : 30 < len ∨ (100 < size ∧ size ≤ 1000)) :
    Calls Tryd.prog 9 #[.int .i64 n, .int .i64 k, .int .i64 size, .slice a len cap, .int .i64 p] w fun e w' => e = .returned (.bool true) ∧ Below w.heap.size w w' := by
  have Hu := Lib.hid (single_walk w E hE.ez)
  clear hE
  by_cases h1 : 30 < len
  · have g1 : (30 : Int) < len := by omega
    have g1d : decide (30 < len) = true := by simpa using h1
    clear h
    go_enter Tryd.func9, Tryd.ntmps9
    go_wp2_with fail
    refine Hu.out.mono ?_
    rintro e w1 ⟨rfl, hb⟩
    go_wp2
    go_ret
    exact ⟨rfl, hb⟩
  · have g1 : ¬ (30 : Int) < len := by omega
    have g1d : decide (30 < len) = false := by simpa using h1
    obtain ⟨h2, h3⟩ : 100 < size ∧ size ≤ 1000 := by omega
    clear h h1
    go_enter Tryd.func9, Tryd.ntmps9
    go_wp2_with fail
    refine Hu.out.mono ?_
    rintro e w1 ⟨rfl, hb⟩
    go_wp2
    go_ret
    exact ⟨rfl, hb⟩

set_option maxRecDepth 100000 in
set_option maxHeartbeats 1000000 in
theorem walk_long (n k size p : Int) (a : Option Addr) (len cap : Nat) (l : List Sh) (w : World) (E : Nat → Addr) (hE : ErrEnv w E) (hin : ShIn w a len cap l) (hl : len ≤ 30) (hsz : size ≤ 100 ∨ 100 < size ∧ 1000 < size) (h : ∃ i, i < len ∧ (200 : Int) < (l[i]?.getD (0, ⟨#[]⟩)).2.size) :
    Calls Tryd.prog 9 #[.int .i64 n, .int .i64 k, .int .i64 size, .slice a len cap, .int .i64 p] w fun e w' => e = .returned (.bool true) ∧ Below w.heap.size w w' := by
  have Hu := Lib.hid (single_walk w E hE.ez)
  have Hin := Lib.hid hin
  have Hh := Lib.hid h
  clear hE hin h
  have hl2 : ¬ (30 : Int) < len := by omega
  have hl2d : decide (30 < len) = false := by simp; omega
  have hs1 : ¬ (100 : Int) < size ∨ (100 : Int) < size ∧ ¬ size ≤ 1000 := by omega
  clear hsz
  rcases hs1 with hs1 | ⟨hs1, hs2⟩
  all_goals
    go_enter Tryd.func9, Tryd.ntmps9
    go_wp2_with fail
    refine Hu.out.mono ?_
    rintro e w1 ⟨rfl, hb1⟩
    have H1 := Lib.hid hb1
    clear hb1
    go_wp2
    go_loop [12] (fun vi => ∃ i : Nat, i ≤ len ∧ vi = .int .i64 i ∧ Hid (∀ j, j < i → ¬ (200 : Int) < (l[j]?.getD (0, ⟨#[]⟩)).2.size)) (fun i => len - (intOf i).toNat)
    case atStart => exact ⟨0, by omega, rfl, Lib.hid (fun j hj => by omega)⟩
    case round =>
      obtain ⟨i, hi, rfl, Hj⟩ := hrel
      have hlt : i < len := by
        obtain ⟨j, hj, hb⟩ := Hh.out
        rcases Nat.lt_or_ge j i with h1 | h1
        · exact absurd hb (Hj.out j h1)
        · omega
      have hlt2 : (i : Int) < len := by omega
      rcases Hin.out.2.2.2.2.below H1.out with he | ⟨g, off, rfl, _, hcl⟩
      · have := Hin.out.1
        rw [he] at this; simp at this; omega
      have c2 := (hcl i (by have := Hin.out.1; omega)).2
      obtain ⟨tx, htx⟩ : ∃ tx, (l[i]?.getD (0, ⟨#[]⟩)).2 = tx := ⟨_, rfl⟩
      rw [htx] at c2
      have Ht := Lib.hid htx
      clear hcl htx
      by_cases ht : (200 : Int) < tx.size
      · have htd : decide (200 < tx.size) = true := by simp; omega
        go_wp2
        go_ret
        exact ⟨rfl, H1.out⟩
      · have htd : decide (200 < tx.size) = false := by simp; omega
        have Hn := Lib.hid ht
        go_wp2
        go_round
        case rel => exact ⟨i + 1, by omega, by go_num, Lib.hid (fun j hj => by
          by_cases e : j = i
          · rw [e, Ht.out]; exact Hn.out
          · exact Hj.out j (by omega))⟩
        case measure => simp [intOf]; omega
end Go.Proofs.YtmaalkjimppnkaaDoor.coderDecodes
/- The walk of the law CoderDecodes. -/
namespace Go.Proofs.YtmaalkjimppnkaaDoor.coderDecodes
open Go.RowKit

theorem all_take (l : List Sh) (f : Sh → Bool) {j : Nat} (hj : j < l.length) : (l.take (j + 1)).all f = ((l.take j).all f && f (l[j]?.getD (0, ⟨#[]⟩))) := by
  rw [List.take_succ_eq_append_getElem hj, List.all_append, List.getElem?_eq_getElem hj]
  simp
set_option maxRecDepth 100000 in
set_option maxHeartbeats 4000000 in
theorem walk_ok (n k size : Nat) (p : Int) (a : Option Addr) (len cap : Nat) (l : List Sh) (w : World) (E : Nat → Addr) (hE : ErrEnv w E) (S : ByteArray) (T : ByteArray) (q0 : Int) (ev : Value)
    (hin : ShIn w a len cap l) (hl : len ≤ 30) (htx : ∀ i, i < len → ((l[i]?.getD (0, ⟨#[]⟩)).2.size : Int) ≤ 200) (hsz : size ≤ 100) (hn : n ≤ 12) (hsp : isSpreadB n k = true)
    (hg : ∀ s ∈ l, 0 ≤ s.1 ∧ s.1 < n)
    (hc : (p < 0 ∧ ev = errV (E 1) ∧ q0 = 0 ∧ T = ⟨#[]⟩) ∨ (¬ p < 0 ∧ (n : Int) ≤ p ∧ ev = errV (E 1) ∧ q0 = 0 ∧ T = ⟨#[]⟩) ∨ (∃ y : Nat, p = (y : Int) ∧ y < n ∧ ev = .nilIface ∧ q0 = (y : Int) ∧ T = encT k S y))
    (hD : ∀ V b c, Below w.heap.size w V → ShR V.heap.size V b l → Calls Tryd.prog 45 #[.int .i64 n, .int .i64 k, .int .i64 size, .slice b len c] V fun e w' => e = .returned (.tuple #[.string S, .nilIface]) ∧ Below V.heap.size V w')
    (hR : ∀ V b c, Below w.heap.size w V → ShR V.heap.size V b l → Calls Tryd.prog 47 #[.int .i64 n, .int .i64 k, .int .i64 size, .slice b len c] V fun e w' => e = .returned (.tuple #[.string S, .int .i64 0]) ∧ Below V.heap.size V w')
    (hA : ∀ V b c, Below w.heap.size w V → ShR V.heap.size V b l → Calls Tryd.prog 49 #[.int .i64 n, .int .i64 k, .int .i64 size, .slice b len c] V fun e w' => e = .returned (.tuple #[.bool (agreeB l (encT k S)), .nilIface]) ∧ Below V.heap.size V w')
    (hB : ∀ V b c, Below w.heap.size w V → ShR V.heap.size V b l → Calls Tryd.prog 50 #[.int .i64 n, .int .i64 k, .int .i64 size, .int .i64 p, .slice b len c] V fun e w' => e = .returned (.tuple #[.agg #[.int .i64 q0, .string T], ev]) ∧ Below V.heap.size V w')
    (hQ : ∀ V, Calls Tryd.prog 52 #[.int .i64 n, .int .i64 k, .string S] V fun e w' => (∃ v, e = .returned v ∧ OwnS V.heap.size w' v (encL n k S)) ∧ Below V.heap.size V w') (hn1 : 1 ≤ n) :
    Calls Tryd.prog 9 #[.int .i64 n, .int .i64 k, .int .i64 size, .slice a len cap, .int .i64 p] w fun e w' => e = .returned (.bool true) ∧ Below w.heap.size w w' := by
  have Hu := Lib.hid (single_walk w E hE.ez)
  have HE := Lib.hid hE
  have Hin := Lib.hid hin
  have Htx := Lib.hid htx
  have HD := Lib.hid hD
  have HR := Lib.hid hR
  have HB := Lib.hid hB
  have HQ := Lib.hid hQ
  have Hsp := Lib.hid hsp
  have Hg := Lib.hid hg
  obtain ⟨t, ht⟩ : ∃ t, encT k S = t := ⟨_, rfl⟩
  obtain ⟨r, hr⟩ : ∃ r, agreeB l t = r := ⟨_, rfl⟩
  have Ht := Lib.hid ht
  have Hr := Lib.hid hr
  rw [ht, hr] at hA
  rw [ht] at hc
  have HA := Lib.hid hA
  have Hc := Lib.hid hc
  have Ho := Lib.hid (fun (V : World) (hb : Below w.heap.size w V) => ownsh_walk w.heap.size a cap l V (by have := hin.1; omega) (fun e => hin.2.2.2.1 e) (hin.2.2.2.2.below hb))
  have hlen := hin.1
  rw [hlen] at Ho
  have e2 : decide ((2 : Int) = ((1 : Nat) : Int) + 1) = true := rfl
  have e0 : decide ((0 : Int) = 0) = true := rfl
  clear hE hin htx hD hR hA hB hQ hsp hg hc hlen ht hr
  have hl2 : ¬ (30 : Int) < len := by omega
  have hl2d : decide (30 < len) = false := by simp; omega
  have hs1 : ¬ (100 : Int) < size := by omega
  have hs1d : decide (100 < size) = false := by simp; omega
  go_enter Tryd.func9, Tryd.ntmps9
  go_wp2_with fail
  refine Hu.out.mono ?_
  rintro e w1 ⟨rfl, hb1⟩
  have H1 := Lib.hid hb1
  clear hb1
  go_wp2
  go_loop [12] (fun vi => ∃ i : Nat, i ≤ len ∧ vi = .int .i64 i) (fun i => len - (intOf i).toNat)
  case atStart => exact ⟨0, by omega, rfl⟩
  case round =>
    obtain ⟨i, hi, rfl⟩ := hrel
    have hi2 : i < len ∨ i = len := by omega
    rcases hi2 with hlt | rfl
    · have hlt2 : (i : Int) < len := by omega
      rcases Hin.out.2.2.2.2.below H1.out with he | ⟨g, off, rfl, _, hcl⟩
      · have := Hin.out.1
        rw [he] at this; simp at this; omega
      have c2 := (hcl i (by have := Hin.out.1; omega)).2
      have ht := Htx.out i hlt
      obtain ⟨tx, htx⟩ : ∃ tx, (l[i]?.getD (0, ⟨#[]⟩)).2 = tx := ⟨_, rfl⟩
      rw [htx] at c2 ht
      have ht2 : ¬ (200 : Int) < tx.size := by omega
      have ht2d : decide (200 < tx.size) = false := by simp; omega
      clear hcl htx
      go_wp2
      go_round
      case rel => exact ⟨i + 1, by omega, by go_num⟩
      case measure => simp [intOf]; omega
    · go_wp2_with fail
      refine (Ho.out w1 H1.out).mono ?_
      rintro e w2 ⟨⟨v, rfl, hv⟩, hb2⟩
      obtain ⟨b2, c2, hve, _, _, hS⟩ := OwnS.read hv
      rw [Hin.out.1] at hve
      rw [hve]
      have H2 := Lib.hid (And.intro (H1.out.trans (hb2.mono H1.out.size)) hS)
      clear hv hve hS hb2
      go_wp2_with fail
      refine (HD.out w2 b2 c2 H2.out.1 H2.out.2).mono ?_
      rintro e w3 ⟨rfl, hb3⟩
      have H3 := Lib.hid (H2.out.1.trans (hb3.mono H2.out.1.size))
      clear hb3
      go_wp2_with fail
      refine (HR.out w3 a cap H3.out ((Hin.out.2.2.2.2.below H3.out).mono H3.out.size)).mono ?_
      rintro e w4 ⟨rfl, hb4⟩
      have H4 := Lib.hid (H3.out.trans (hb4.mono H3.out.size))
      clear hb4
      go_wp2_with fail
      refine (coded_nil 0 w4).mono ?_
      rintro e w5 ⟨rfl, hb5⟩
      have H5 : Hid (Below w.heap.size w w5) := Lib.hid (by first | exact H4.out.trans (hb5.mono H4.out.size) | (rw [← hb5]; exact H4.out) | (rw [hb5]; exact H4.out))
      clear hb5
      go_wp2_with fail
      refine (Ho.out w5 H5.out).mono ?_
      rintro e w6 ⟨⟨v, rfl, hv⟩, hb6⟩
      obtain ⟨b6, c6, hve, _, _, hS⟩ := OwnS.read hv
      rw [Hin.out.1] at hve
      rw [hve]
      have H6 := Lib.hid (And.intro (H5.out.trans (hb6.mono H5.out.size)) hS)
      clear hv hve hS hb6
      go_wp2_with fail
      refine (HA.out w6 b6 c6 H6.out.1 H6.out.2).mono ?_
      rintro e w7 ⟨rfl, hb7⟩
      have H7 := Lib.hid (H6.out.1.trans (hb7.mono H6.out.1.size))
      clear hb7
      go_wp2_with fail
      refine (Ho.out w7 H7.out).mono ?_
      rintro e w8 ⟨⟨v, rfl, hv⟩, hb8⟩
      obtain ⟨b8, c8, hve, _, _, hS⟩ := OwnS.read hv
      rw [Hin.out.1] at hve
      rw [hve]
      have H8 := Lib.hid (And.intro (H7.out.trans (hb8.mono H7.out.size)) hS)
      clear hv hve hS hb8
      go_wp2_with fail
      refine (HB.out w8 b8 c8 H8.out.1 H8.out.2).mono ?_
      rintro e w9 ⟨rfl, hb9⟩
      have hb9' := H8.out.1.trans (hb9.mono H8.out.1.size)
      have hbA : Below w.heap.size w (w9.alloc (.cells #[.int .i64 q0, .string T] 62)) := hb9'.alloc hb9'.size _
      have hzs : w9.heap.size < (w9.alloc (.cells #[.int .i64 q0, .string T] 62)).heap.size := by simp
      have H9 := Lib.hid (And.intro hbA hzs)
      have hx1 : (w9.alloc (.cells #[.int .i64 q0, .string T] 62)).cell? ⟨w9.heap.size, 0, none⟩ = some (.int .i64 q0) := by simp
      have hx2 : (w9.alloc (.cells #[.int .i64 q0, .string T] 62)).cell? ⟨w9.heap.size, 1, none⟩ = some (.string T) := by simp
      have HX := Lib.hid (And.intro hx1 hx2)
      clear hb9 hb9' hbA hzs hx1 hx2
      go_wp2_with fail
      refine (isspread_walk n k (w9.alloc (.cells #[.int .i64 q0, .string T] 62))).mono ?_
      rintro e w' ⟨rfl, hw'⟩
      subst hw'
      rw [Hsp.out]
      obtain ⟨b9, hb9⟩ : ∃ b9, w9.heap.size = b9 := ⟨_, rfl⟩
      rw [hb9] at HX H9 ⊢
      have Hcase := Hc.out
      rcases Hcase with ⟨hp1, rfl, rfl, rfl⟩ | ⟨hp1, hp2, rfl, rfl, rfl⟩ | ⟨y, rfl, hy, rfl, rfl, hT⟩
      case' inr.inr =>
        have HTe := Lib.hid hT
        clear hT
        have hy1 : ¬ (y : Int) < 0 := by omega
        have hy2 : ¬ (n : Int) ≤ y := by omega
        have hy3 : decide (n ≤ y) = false := by simp; omega
        go_wp2_with fail
        refine (coded_nil 0 _).mono ?_
        rintro e wa ⟨rfl, hwa⟩
        have hba : Below w.heap.size w wa ∧ wa.cell? ⟨b9, 0, none⟩ = some (.int .i64 (y : Int)) ∧ wa.cell? ⟨b9, 1, none⟩ = some (.string T) ∧ b9 < wa.heap.size := by
          rw [← hwa]; exact ⟨H9.out.1, HX.out.1, HX.out.2, H9.out.2⟩
        have Ha := Lib.hid hba
        clear hba hwa
      case' inl =>
        go_wp2_with fail
        refine (coded_err E 1 (by decide) 2 _ (HE.out.below H9.out.1 (Nat.le_refl _))).mono ?_
        rintro e wa ⟨rfl, hba0⟩
        rw [e2]
        have x1 := (hba0.cell (p := ⟨b9, 0, none⟩) H9.out.2).trans HX.out.1
        have x2 := (hba0.cell (p := ⟨b9, 1, none⟩) H9.out.2).trans HX.out.2
        have Ha := Lib.hid (And.intro (H9.out.1.trans (hba0.mono H9.out.1.size)) (And.intro x1 (And.intro x2 (Nat.lt_of_lt_of_le H9.out.2 hba0.size))))
        clear hba0
      case' inr.inl =>
        go_wp2_with fail
        refine (coded_err E 1 (by decide) 2 _ (HE.out.below H9.out.1 (Nat.le_refl _))).mono ?_
        rintro e wa ⟨rfl, hba0⟩
        rw [e2]
        have x1 := (hba0.cell (p := ⟨b9, 0, none⟩) H9.out.2).trans HX.out.1
        have x2 := (hba0.cell (p := ⟨b9, 1, none⟩) H9.out.2).trans HX.out.2
        have Ha := Lib.hid (And.intro (H9.out.1.trans (hba0.mono H9.out.1.size)) (And.intro x1 (And.intro x2 (Nat.lt_of_lt_of_le H9.out.2 hba0.size))))
        clear hba0
      all_goals
        go_wp2_with fail
        refine (HQ.out wa).mono ?_
        rintro e wb ⟨⟨v, rfl, hv⟩, hbb⟩
        obtain ⟨g, cg, hve, _, hgl, _, hcl⟩ := hv.at_ (by rw [encL_length]; omega)
        rw [encL_length] at hve hcl
        rw [hve]
        have hcl' : ∀ i, i < n → wb.cell? ⟨g, i * 2, none⟩ = some (.int .i64 (i : Int)) ∧ wb.cell? ⟨g, i * 2 + 1, none⟩ = some (.string (t i)) := fun i hi => by
          have h := hcl i hi
          rw [encL_at _ _ _ hi, Ht.out] at h
          exact h
        have Hb := Lib.hid (And.intro (Ha.out.1.trans (hbb.mono Ha.out.1.size)) (And.intro hcl' (And.intro ((hbb.cell (p := ⟨b9, 0, none⟩) Ha.out.2.2.2).trans Ha.out.2.1) ((hbb.cell (p := ⟨b9, 1, none⟩) Ha.out.2.2.2).trans Ha.out.2.2.1))))
        clear hve hv hcl hcl' hbb hgl
        try clear x1 x2
        go_wp2
        go_loopw [21, 22] (fun vs vi wr => ∃ m : Nat, m ≤ i ∧ vi = .int .i64 m ∧ vs = .bool ((l.take m).all fun x => decide (t x.1.toNat = x.2)) ∧ Hid (∃ q, wr = wb.drewN q)) (fun _ m _ => i - (intOf m).toNat)
        case atStart => exact ⟨0, by omega, rfl, by simp, Lib.hid ⟨0, rfl⟩⟩
        case round =>
          obtain ⟨m, hm, rfl, rfl, Hq⟩ := hrel
          obtain ⟨q, hq⟩ := Hq.out
          have Hq2 := Lib.hid hq
          clear hq
          obtain ⟨rb, hrb⟩ : ∃ rb, (l.take m).all (fun x => decide (t x.1.toNat = x.2)) = rb := ⟨_, rfl⟩
          have Hrb := Lib.hid hrb
          rw [hrb]
          clear hrb
          have hm2 : m < i ∨ m = i := by omega
          rcases hm2 with hml | hme
          · have hml2 : (m : Int) < i := by omega
            have hmll : m < l.length := by have := Hin.out.1; omega
            have hat := all_take l (fun x => decide (t x.1.toNat = x.2)) hmll
            rw [Hrb.out] at hat
            rcases (Hin.out.2.2.2.2.below Hb.out.1) with he | ⟨ga, oa, rfl, _, hca⟩
            · rw [he] at hmll; simp at hmll
            obtain ⟨h1, h2⟩ := hca m hmll
            have hgm : 0 ≤ (l[m]?.getD (0, ⟨#[]⟩)).1 ∧ (l[m]?.getD (0, ⟨#[]⟩)).1 < n := by
              rw [List.getElem?_eq_getElem hmll]; exact Hg.out _ (List.getElem_mem hmll)
            obtain ⟨x, hx⟩ : ∃ x, l[m]?.getD (0, ⟨#[]⟩) = x := ⟨_, rfl⟩
            rw [hx] at h1 h2 hgm hat
            obtain ⟨x1, x2⟩ := x
            simp only at h1 h2 hgm hat
            obtain ⟨z, rfl⟩ := Int.eq_ofNat_of_zero_le hgm.1
            have hz : z < n := by omega
            have hz2 : (z : Int) < n := by omega
            have f1 : wr.cell? ⟨ga, oa + m * 2, none⟩ = some (.int .i64 (z : Int)) := by rw [Hq2.out]; exact h1
            have f2 : wr.cell? ⟨ga, oa + m * 2 + 1, none⟩ = some (.string x2) := by rw [Hq2.out]; exact h2
            have f3 : wr.cell? ⟨g, z * 2, none⟩ = some (.int .i64 (z : Int)) := by rw [Hq2.out]; exact (Hb.out.2.1 z hz).1
            have f4 : wr.cell? ⟨g, z * 2 + 1, none⟩ = some (.string (t z)) := by rw [Hq2.out]; exact (Hb.out.2.1 z hz).2
            obtain ⟨tz, htz⟩ : ∃ tz, t z = tz := ⟨_, rfl⟩
            rw [htz] at f4
            have hat' : (l.take (m + 1)).all (fun x => decide (t x.1.toNat = x.2)) = (rb && decide (tz = x2)) := by
              rw [← htz]; simpa using hat
            have Hat := Lib.hid hat'
            clear h1 h2 hx hca hgm hat hat' htz
            by_cases hxe : tz = x2
            · subst hxe
              go_wp2
              go_quiet (fail)
              go_wp2
              go_roundw
              case rel => exact ⟨m + 1, by omega, by go_num, by rw [Hat.out]; simp, Lib.hid ⟨q + nq, by rw [Hq2.out, World.drewN_drewN]⟩⟩
              case measure => simp [intOf]; omega
            · have hn1' : (tz.toList == x2.toList) = false := ne_list hxe
              have hn2 : (tz.toList != x2.toList) = true := by rw [bne, hn1']; rfl
              have hxd : decide (tz = x2) = false := by simpa using hxe
              have Hxd := Lib.hid hxd
              clear hxd hxe
              go_wp2
              go_quiet (fail)
              go_wp2
              go_roundw
              case rel => exact ⟨m + 1, by omega, by go_num, by rw [Hat.out, Hxd.out]; simp, Lib.hid ⟨q + nq, by rw [Hq2.out, World.drewN_drewN]⟩⟩
              case measure => simp [intOf]; omega
          · have hrr : rb = r := by
              rw [← Hrb.out, ← Hr.out, List.take_of_length_le (by have := Hin.out.1; omega)]; rfl
            subst hrr
            have k0 : wr.cell? ⟨b9, 0, none⟩ = wb.cell? ⟨b9, 0, none⟩ := by rw [Hq2.out]; rfl
            have k00 : wr.cell? ⟨b9, 1, none⟩ = wb.cell? ⟨b9, 1, none⟩ := by rw [Hq2.out]; rfl
            have k1 := k0.trans Hb.out.2.2.1
            have k2 := k00.trans Hb.out.2.2.2
            clear k0 k00
            have hbw : Below w.heap.size w wr := by rw [Hq2.out]; exact Hb.out.1.trans (same_below' _ q)
            have HBw := Lib.hid hbw
            clear hbw
            try
              have k3 : wr.cell? ⟨g, y * 2, none⟩ = some (.int .i64 (y : Int)) := by rw [Hq2.out]; exact (Hb.out.2.1 y hy).1
              have k4 : wr.cell? ⟨g, y * 2 + 1, none⟩ = some (.string T) := by rw [Hq2.out, HTe.out]; exact (Hb.out.2.1 y hy).2
              have hyn : (y : Int) < n := by omega
            cases rb
            all_goals
              go_wp2
              go_quiet (fail)
              go_wp2
              go_ret
              exact ⟨by simp, HBw.out.trans (same_below' _ _)⟩

theorem walk (n k size : Int) (a : Option Addr) (len cap : Nat) (l : List Sh) (p : Int) (w : World) (_w0 : (Lit.int .i64 n).wf = true) (_w1 : (Lit.int .i64 k).wf = true) (_w2 : (Lit.int .i64 size).wf = true) (hin : ShIn w a len cap l) (_w4 : (Lit.int .i64 p).wf = true) (hL : laidMetH Tryd.prog Rows.coderDecodesRow.laid w) :
    Calls Tryd.prog 9 #[.int .i64 n, .int .i64 k, .int .i64 size, .slice a len cap, .int .i64 p] w fun e w' => e = .returned (.bool true) ∧ Below w.heap.size w w' := by
  obtain ⟨E, hE⟩ := env_of_laid hL
  by_cases h0 : 30 < len ∨ (100 < size ∧ size ≤ 1000)
  · exact walk_skip n k size p a len cap w E hE h0
  by_cases h1 : ∃ i, i < len ∧ (200 : Int) < (l[i]?.getD (0, ⟨#[]⟩)).2.size
  · exact walk_long n k size p a len cap l w E hE hin (by omega) (by omega) h1
  have htx : ∀ i, i < len → ((l[i]?.getD (0, ⟨#[]⟩)).2.size : Int) ≤ 200 := fun i hi => by
    by_cases h : (200 : Int) < (l[i]?.getD (0, ⟨#[]⟩)).2.size
    · exact absurd ⟨i, hi, h⟩ h1
    · omega
  have EB : ∀ V, Below w.heap.size w V → ErrEnv V E := fun V hb => hE.below hb (Nat.le_refl _)
  by_cases hb : BadN n k size
  · refine walk_err n k size p a len cap l w E hE 1 1 (by decide) (by decide) 2 rfl (isSpreadB n k) rfl hin (by omega) htx (by omega) ?_ ?_ ?_ ?_ ?_
    · cases isSpreadB n k
      · exact .inr (.inr (.inr ⟨rfl, rfl⟩))
      · by_cases q1 : p < 0
        · exact .inl ⟨rfl, q1, rfl⟩
        by_cases q2 : n ≤ p
        · exact .inr (.inl ⟨rfl, q1, q2, rfl⟩)
        · exact .inr (.inr (.inl ⟨rfl, q1, q2, rfl⟩))
    · exact fun V b c hv _ => decode_bad n k size b len c V (E 1) (EB V hv).c1 hb
    · exact fun V b c hv _ => (rdecode_bad n k size b len c V hb).mono fun e w' ⟨he, hw⟩ => ⟨he, hw ▸ Below.refl _ _⟩
    · exact fun V b c hv _ => agree_bad n k size b len c V (E 1) (EB V hv).c1 hb
    · exact fun V b c hv _ => rebuild_bad n k size p b len c V E (EB V hv).ez (.inr hb)
  have hnb : (1 ≤ k ∧ k ≤ n ∧ n ≤ 12) ∧ 0 ≤ size ∧ size ≤ 1000 := by
    unfold BadN at hb
    omega
  have hsp : isSpreadB n k = true := decide_eq_true hnb.1
  obtain ⟨⟨hk, hkn, hn⟩, hs0, hs1⟩ := hnb
  obtain ⟨k, rfl⟩ := Int.eq_ofNat_of_zero_le (show 0 ≤ k by omega)
  obtain ⟨n, rfl⟩ := Int.eq_ofNat_of_zero_le (show 0 ≤ n by omega)
  obtain ⟨size, rfl⟩ := Int.eq_ofNat_of_zero_le hs0
  obtain rfl : l.length = len := hin.1
  have hlm : l.length ≤ maxLen := by unfold maxLen; omega
  have D := fun V b c (hv : Below w.heap.size w V) hS => decode_walk V.heap.size n k size b c l V E (EB V hv).ef (by omega) (by omega) (by omega) (by omega) hlm (Nat.le_refl _) hS
  have R := fun V b c (_ : Below w.heap.size w V) hS => rdecode_walk V.heap.size n k size b c l V (by omega) (by omega) (by omega) (by omega) hlm (Nat.le_refl _) hS
  have A := fun V b c (hv : Below w.heap.size w V) hS => agree_walk V.heap.size n k size b c l V E (EB V hv).ef (by omega) (by omega) (by omega) (by omega) hlm (Nat.le_refl _) hS
  have RB : ∀ q : Int, (q < 0 ∨ (n : Int) ≤ q) → ∀ V b c, Below w.heap.size w V → Calls Tryd.prog 50 #[.int .i64 n, .int .i64 k, .int .i64 size, .int .i64 q, .slice b l.length c] V fun e w' => e = .returned (.tuple #[.agg #[.int .i64 0, .string ⟨#[]⟩], errV (E 1)]) ∧ Below V.heap.size V w' :=
    fun q hq V b c hv => rebuild_bad n k size q b l.length c V E (EB V hv).ez (.inl hq)
  have B := fun (q : Nat) (hq : q < n) V b c (hv : Below w.heap.size w V) hS => rebuild_walk V.heap.size n k size q b c l V E (EB V hv).ef (by omega) (by omega) (by omega) (by omega) hq hlm (Nat.le_refl _) hS
  by_cases hg : ∀ s ∈ l, GoodS n (wideN k size) s
  · by_cases hpk : (pickS k l).length = k
    · have hok : ∀ (q0 : Int) (T : ByteArray) (ev : Value), _ → _ → _ := fun q0 T ev hc hB =>
        walk_ok n k size p a l.length cap l w E hE (decT k size l) T q0 ev hin (by omega) htx (by omega) (by omega) hsp (fun s hs => ⟨(hg s hs).1, (hg s hs).2.1⟩) hc
          (fun V b c hv hS => (D V b c hv hS).mono fun e w' h => by
            rcases h with ⟨hb', ⟨h1, _⟩ | ⟨_, h2, _⟩ | ⟨_, _, he⟩⟩
            · exact absurd hg h1
            · omega
            · exact ⟨he, hb'⟩)
          (fun V b c hv hS => (R V b c hv hS).mono fun e w' h => by
            rcases h with ⟨hb', ⟨h1, _⟩ | ⟨_, h2, _⟩ | ⟨_, _, he⟩⟩
            · exact absurd hg h1
            · omega
            · exact ⟨he, hb'⟩)
          (fun V b c hv hS => (A V b c hv hS).mono fun e w' h => by
            rcases h with ⟨hb', ⟨h1, _⟩ | ⟨_, h2, _⟩ | ⟨_, _, he⟩⟩
            · exact absurd hg h1
            · omega
            · exact ⟨he, hb'⟩)
          hB
          (fun V => rencode_walk n k (decT k size l) V (by omega) (by omega) (by omega) (by rw [decT_size]; omega)) (by omega)
      by_cases q1 : p < 0
      · exact hok 0 ⟨#[]⟩ (errV (E 1)) (.inl ⟨q1, rfl, rfl, rfl⟩) (fun V b c hv _ => RB p (.inl q1) V b c hv)
      by_cases q2 : (n : Int) ≤ p
      · exact hok 0 ⟨#[]⟩ (errV (E 1)) (.inr (.inl ⟨q1, q2, rfl, rfl, rfl⟩)) (fun V b c hv _ => RB p (.inr q2) V b c hv)
      obtain ⟨y, rfl⟩ := Int.eq_ofNat_of_zero_le (show 0 ≤ p by omega)
      refine hok (y : Int) (encT k (decT k size l) y) .nilIface (.inr (.inr ⟨y, rfl, by omega, rfl, rfl, rfl⟩)) (fun V b c hv hS => (B y (by omega) V b c hv hS).mono fun e w' h => ?_)
      rcases h with ⟨hb', ⟨h1, _⟩ | ⟨_, h2, _⟩ | ⟨_, _, he⟩⟩
      · exact absurd hg h1
      · omega
      · exact ⟨he, hb'⟩
    · have hfew : (pickS k l).length < k := by have := pickS_le k l; omega
      have hbad : ∀ jb, jb < 12 → _ → _ → _ := fun jb hjb hc hB =>
        walk_err n k size p a l.length cap l w E hE 7 jb (by decide) hjb 8 rfl true hsp hin (by omega) htx (by omega) hc
          (fun V b c hv hS => (D V b c hv hS).mono fun e w' h => by
            rcases h with ⟨hb', ⟨h1, _⟩ | ⟨_, _, he⟩ | ⟨_, h2, _⟩⟩
            · exact absurd hg h1
            · exact ⟨he, hb'⟩
            · omega)
          (fun V b c hv hS => (R V b c hv hS).mono fun e w' h => by
            rcases h with ⟨hb', ⟨h1, _⟩ | ⟨_, _, he⟩ | ⟨_, h2, _⟩⟩
            · exact absurd hg h1
            · exact ⟨he, hb'⟩
            · omega)
          (fun V b c hv hS => (A V b c hv hS).mono fun e w' h => by
            rcases h with ⟨hb', ⟨h1, _⟩ | ⟨_, _, he⟩ | ⟨_, h2, _⟩⟩
            · exact absurd hg h1
            · exact ⟨he, hb'⟩
            · omega) hB
      by_cases q1 : p < 0
      · exact hbad 1 (by decide) (.inl ⟨rfl, q1, rfl⟩) (fun V b c hv _ => RB p (.inl q1) V b c hv)
      by_cases q2 : (n : Int) ≤ p
      · exact hbad 1 (by decide) (.inr (.inl ⟨rfl, q1, q2, rfl⟩)) (fun V b c hv _ => RB p (.inr q2) V b c hv)
      obtain ⟨y, rfl⟩ := Int.eq_ofNat_of_zero_le (show 0 ≤ p by omega)
      refine hbad 7 (by decide) (.inr (.inr (.inl ⟨rfl, q1, q2, rfl⟩))) (fun V b c hv hS => (B y (by omega) V b c hv hS).mono fun e w' h => ?_)
      rcases h with ⟨hb', ⟨h1, _⟩ | ⟨_, _, he⟩ | ⟨_, h2, _⟩⟩
      · exact absurd hg h1
      · exact ⟨he, hb'⟩
      · omega
  · have hbad : ∀ jb, jb < 12 → _ → _ → _ := fun jb hjb hc hB =>
      walk_err n k size p a l.length cap l w E hE 2 jb (by decide) hjb 3 rfl true hsp hin (by omega) htx (by omega) hc
        (fun V b c hv hS => (D V b c hv hS).mono fun e w' h => by
          rcases h with ⟨hb', ⟨_, he⟩ | ⟨h1, _⟩ | ⟨h1, _⟩⟩
          · exact ⟨he, hb'⟩
          · exact absurd h1 hg
          · exact absurd h1 hg)
        (fun V b c hv hS => (R V b c hv hS).mono fun e w' h => by
          rcases h with ⟨hb', ⟨_, he⟩ | ⟨h1, _⟩ | ⟨h1, _⟩⟩
          · exact ⟨he, hb'⟩
          · exact absurd h1 hg
          · exact absurd h1 hg)
        (fun V b c hv hS => (A V b c hv hS).mono fun e w' h => by
          rcases h with ⟨hb', ⟨_, he⟩ | ⟨h1, _⟩ | ⟨h1, _⟩⟩
          · exact ⟨he, hb'⟩
          · exact absurd h1 hg
          · exact absurd h1 hg) hB
    by_cases q1 : p < 0
    · exact hbad 1 (by decide) (.inl ⟨rfl, q1, rfl⟩) (fun V b c hv _ => RB p (.inl q1) V b c hv)
    by_cases q2 : (n : Int) ≤ p
    · exact hbad 1 (by decide) (.inr (.inl ⟨rfl, q1, q2, rfl⟩)) (fun V b c hv _ => RB p (.inr q2) V b c hv)
    obtain ⟨y, rfl⟩ := Int.eq_ofNat_of_zero_le (show 0 ≤ p by omega)
    refine hbad 2 (by decide) (.inr (.inr (.inl ⟨rfl, q1, q2, rfl⟩))) (fun V b c hv hS => (B y (by omega) V b c hv hS).mono fun e w' h => ?_)
    rcases h with ⟨hb', ⟨_, he⟩ | ⟨h1, _⟩ | ⟨h1, _⟩⟩
    · exact ⟨he, hb'⟩
    · exact absurd h1 hg
    · exact absurd h1 hg
end Go.Proofs.YtmaalkjimppnkaaDoor.coderDecodes
