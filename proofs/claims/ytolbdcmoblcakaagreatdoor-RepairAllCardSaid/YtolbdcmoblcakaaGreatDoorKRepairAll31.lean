/- The walk of the document's Some. -/
import Derived.Test.YtolbdcmoblcakaaGreatDoorKRepairAll24
import Derived.Test.YtolbdcmoblcakaaGreatDoorKRepairAll22
namespace Go.Proofs.YtolbdcmoblcakaaGreatDoor
open Go.RowKit

/-- what Some answers. -/
def SomeOut (w w' : World) (n k W : Nat) (l : List Sh) (e : Ending) : Prop := Below w.heap.size w w' ∧
  ((¬ (∀ s ∈ l, GoodS n W s) ∧ e = .returned (.tuple #[.slice none 0 0, .int .i64 3])) ∨ ((∀ s ∈ l, GoodS n W s) ∧ (pickS k l).length < k ∧ e = .returned (.tuple #[.slice none 0 0, .int .i64 8])) ∨
    ((∀ s ∈ l, GoodS n W s) ∧ (pickS k l).length = k ∧ ∃ v, e = .returned (.tuple #[v, .int .i64 0]) ∧ OwnS w.heap.size w' v (pickS k l)))
theorem any_take (P : List Sh) (s1 : Int) {j : Nat} (hj : j < P.length) : (P.take (j + 1)).any (fun x => decide (x.1 = s1)) = ((P.take j).any (fun x => decide (x.1 = s1)) || decide ((P[j]?.getD (0, ⟨#[]⟩)).1 = s1)) := by
  rw [List.take_succ_eq_append_getElem hj, List.any_append, List.getElem?_eq_getElem hj]
  simp
set_option maxRecDepth 100000 in
set_option maxHeartbeats 8000000 in
theorem rsome_walk (n₀ n k size : Nat) (a : Option Addr) (cap : Nat) (l : List Sh) (w : World)
    (hk : 1 ≤ k) (hkn : k ≤ n) (hn : n ≤ 12) (hs : size ≤ 1000) (hl : l.length ≤ maxLen) (hn₀ : n₀ ≤ w.heap.size) (hI : ShR n₀ w a l) :
    Calls Tryz.prog 81 #[.int .i64 n, .int .i64 k, .int .i64 size, .slice a l.length cap] w fun e w' => SomeOut w w' n k (wideN k size) l e := by
  have Hwq := Lib.hid (fun V => rwide_walk k size V hk (by omega) (by omega))
  obtain ⟨W, hW⟩ : ∃ W, wideN k size = W := ⟨_, rfl⟩
  rw [hW] at Hwq ⊢
  obtain ⟨len, hlen⟩ : ∃ len, l.length = len := ⟨_, rfl⟩
  have hm' : len ≤ 9223372036854775807 := by rw [← hlen]; exact hl
  have Hlen := Lib.hid hlen
  have HI := Lib.hid hI
  rw [hlen]
  have es : isSpreadB n k = true := decide_eq_true (by omega)
  have Es := Lib.hid es
  clear hlen hI hl hW es
  have g1 : ¬ (size : Int) < 0 := by omega
  have g2 : ¬ (1000 : Int) < size := by omega
  go_enter Tryz.func81, Tryz.ntmps81
  go_wp2_with fail
  refine (isspread_walk n k w).mono ?_
  rintro e w' ⟨rfl, hw'⟩
  subst hw'
  rw [Es.out]
  go_wp2
  go_loopw [11, 12] (fun vo vi wr => ∃ i : Nat, i ≤ len ∧ vi = .int .i64 i ∧ Hid (OwnS w.heap.size wr vo (pickS k (l.take i)) ∧ Below w.heap.size w wr ∧ ∀ j, j < i → GoodS n W (l[j]?.getD (0, ⟨#[]⟩)))) (fun _ i _ => len - (intOf i).toNat)
  case atStart => exact ⟨0, by omega, rfl, Lib.hid ⟨OwnS.nil _ _, Below.refl _ _, fun j hj => by omega⟩⟩
  case round =>
    obtain ⟨i, hi, rfl, H⟩ := hrel
    have hi2 : i < len ∨ i = len := by omega
    obtain ⟨ao, co, hve, hco, _, hso⟩ := OwnS.read H.out.1
    have hple := pickS_le k (l.take i)
    rcases hi2 with hlt | hie
    · have hlt2 : (i : Int) < len := by omega
      rcases (HI.out.mono hn₀).below H.out.2.1 with he | ⟨g, off, rfl, hg, hc⟩
      · exfalso
        have := Hlen.out
        rw [he] at this
        simp at this; omega
      obtain ⟨c1, c2⟩ := hc i (by have := Hlen.out; omega)
      clear hc
      obtain ⟨x, hx⟩ : ∃ x, l[i]?.getD (0, ⟨#[]⟩) = x := ⟨_, rfl⟩
      rw [hx] at c1 c2
      have Hx := Lib.hid hx
      clear hx
      obtain ⟨s1, s2⟩ := x
      simp only at c1 c2
      have hil : i < l.length := by have := Hlen.out; omega
      have hmem : (s1, s2) ∈ l := by
        have := Hx.out
        rw [List.getElem?_eq_getElem hil] at this
        simp at this
        rw [← this]; exact List.getElem_mem hil
      have Hmem := Lib.hid hmem
      clear hmem
      by_cases b1 : s1 < 0
      · have d1 : decide (s1 < 0) = true := by simpa using b1
        go_wp2
        go_quiet (first | (go_at_call 34; exact Calls.quiet_of_same (Hwq.out _)))
        go_wp2
        go_ret2
        exact ⟨H.out.2.1.trans (same_below' _ _), .inl ⟨fun h => by have := (h _ Hmem.out).1; omega, rfl⟩⟩
      have d1 : decide (s1 < 0) = false := by simpa using b1
      by_cases b2 : (n : Int) ≤ s1
      · have d2 : decide ((n : Int) ≤ s1) = true := by simpa using b2
        go_wp2
        go_quiet (first | (go_at_call 34; exact Calls.quiet_of_same (Hwq.out _)))
        go_wp2
        go_ret2
        exact ⟨H.out.2.1.trans (same_below' _ _), .inl ⟨fun h => by have := (h _ Hmem.out).2.1; omega, rfl⟩⟩
      have d2 : decide ((n : Int) ≤ s1) = false := by simpa using b2
      by_cases b3 : s2.size = W
      · have d3 : ((s2.size : Int) != (W : Int)) = false := by simp; omega
        have d4 : (s2.size != W) = false := by simp; omega
        have Hb3 := Lib.hid b3
        clear b3
        obtain ⟨wo, rfl⟩ : ∃ wo : World, wo = wr := ⟨_, rfl⟩
        go_wp2
        go_quiet (first | (go_at_call 34; exact Calls.quiet_of_same (Hwq.out _)))
        have hgood : ∀ j, j < i + 1 → GoodS n W (l[j]?.getD (0, ⟨#[]⟩)) := fun j hj => by
          by_cases e : j = i
          · rw [e, Hx.out]; exact ⟨by omega, by omega, Hb3.out⟩
          · exact H.out.2.2 j (by omega)
        have htk : l.take (i + 1) = l.take i ++ [(s1, s2)] := by
          rw [List.take_succ_eq_append_getElem hil, ← Hx.out]
          simp [hil]
        have hpk : pickS k (l.take (i + 1)) = stepS k (pickS k (l.take i)) (s1, s2) := by rw [htk, pickS_snoc]
        have HG := Lib.hid (And.intro hgood hpk)
        clear hgood htk hpk
        obtain ⟨P, hP⟩ : ∃ P, pickS k (l.take i) = P := ⟨_, rfl⟩
        rw [hP] at hve hco hso hple HG H ⊢
        have hplI : (P.length : Int) ≤ k := by omega
        have Hso := Lib.hid hso
        have Hve := Lib.hid hve
        clear hP hso hve
        go_wp2
        go_loopw [13, 14] (fun vb vj wr' => ∃ j : Nat, j ≤ P.length ∧ vj = .int .i64 j ∧ vb = .bool ((P.take j).any (fun x => decide (x.1 = s1))) ∧ Hid (∃ q, wr' = wo.drewN q)) (fun _ j _ => P.length - (intOf j).toNat)
        case atStart => exact ⟨0, by omega, rfl, by simp, Lib.hid ⟨nq, rfl⟩⟩
        case round =>
          obtain ⟨j, hj, rfl, rfl, H2⟩ := hrel
          obtain ⟨q, hq⟩ := H2.out
          have Hq := Lib.hid hq; clear hq
          have f1 : wr.cell? ⟨g, off + i * 2, none⟩ = some (.int .i64 s1) := by rw [Hq.out]; exact c1
          have f2 : wr.cell? ⟨g, off + i * 2 + 1, none⟩ = some (.string s2) := by rw [Hq.out]; exact c2
          obtain ⟨r, hr⟩ : ∃ r, (P.take j).any (fun x => decide (x.1 = s1)) = r := ⟨_, rfl⟩
          have Hr := Lib.hid hr
          rw [hr]
          clear hr
          have hj2 : j < P.length ∨ j = P.length := by omega
          rcases hj2 with hjl | hje
          · have hjl2 : (j : Int) < P.length := by omega
            rcases Hso.out with he | ⟨gp, op, rfl, _, hc⟩
            · rw [he] at hjl; simp at hjl
            obtain ⟨e1, _⟩ := hc j hjl
            clear hc
            have hat := any_take P s1 hjl
            rw [Hr.out] at hat
            obtain ⟨y, hy⟩ : ∃ y, P[j]?.getD (0, ⟨#[]⟩) = y := ⟨_, rfl⟩
            rw [hy] at e1 hat
            obtain ⟨y1, y2⟩ := y
            simp only at e1 hat
            have e2 : wr.cell? ⟨gp, op + j * 2, none⟩ = some (.int .i64 y1) := by rw [Hq.out]; exact e1
            clear e1 hy c1 c2
            by_cases hy1 : y1 = s1
            · subst hy1
              have Hat := Lib.hid hat
              clear hat
              go_wp2
              go_quiet (fail)
              go_wp2
              go_roundw
              case rel => exact ⟨j + 1, by omega, by go_num, by rw [Hat.out]; simp, Lib.hid ⟨q + nq, by rw [Hq.out, World.drewN_drewN]⟩⟩
              case measure => simp [intOf]; omega
            · have hd : decide (y1 = s1) = false := by simpa using hy1
              have Hat := Lib.hid (And.intro hat hd)
              clear hat hd
              go_wp2
              go_quiet (fail)
              go_wp2
              go_roundw
              case rel => exact ⟨j + 1, by omega, by go_num, by rw [Hat.out.1, Hat.out.2]; simp, Lib.hid ⟨q + nq, by rw [Hq.out, World.drewN_drewN]⟩⟩
              case measure => simp [intOf]; omega
          · have hjl3 : ¬ (j : Int) < P.length := by omega
            have hra : P.any (fun x => decide (x.1 = s1)) = r := by
              rw [← Hr.out, List.take_of_length_le (by omega)]
            have Hra := Lib.hid hra
            have hown : OwnS w.heap.size wr u11 P := by rw [Hq.out]; exact H.out.1.below (same_below' _ q) (Nat.le_refl _)
            rw [Hve.out] at hown
            have hbw : Below w.heap.size w wr := by rw [Hq.out]; exact H.out.2.1.trans (same_below' _ q)
            have Hw := Lib.hid (And.intro hown hbw)
            have hszw := hbw.size
            clear hra hown hbw c1 c2
            by_cases hp : P.length < k
            · have p1 : (P.length : Int) < k := by omega
              have p2 : decide (P.length < k) = true := by simpa using hp
              cases r with
              | true =>
                go_wp2
                go_roundw
                case rel => exact ⟨i + 1, by omega, by go_num, Lib.hid ⟨by
                  rw [HG.out.2]
                  unfold stepS
                  rw [if_neg (by intro h; rw [Hra.out] at h; exact absurd h.2 (by simp))]
                  exact Hw.out.1, Hw.out.2, HG.out.1⟩⟩
                case measure => simp [intOf]; omega
              | false =>
                have hul : P.length ≤ 1000000 := by omega
                go_wp2_with (at_builtin; refine append_shard 86 91 rfl rfl w.heap.size _ P s1 s2 rfl rfl Hw.out.1 hul hszw ?_)
                intro v' w' k1 k2 k3
                have hb5 : Below w.heap.size w w' := (Hw.out.2.alloc hszw _).grown k2 (by simp; omega) (fun q e => (Hw.out.1.lt q e).1)
                have hm5 : OwnS w.heap.size w' v' (pickS k (l.take (i + 1))) := by
                  rw [HG.out.2]
                  unfold stepS
                  rw [if_pos ⟨hp, Hra.out⟩]
                  exact k1
                have HR := Lib.hid (And.intro hm5 (And.intro hb5 HG.out.1))
                clear hb5 hm5 k1 k2 k3
                go_wp2
                go_roundw
                case rel => exact ⟨i + 1, by omega, by go_num, HR⟩
                case measure => simp [intOf]; omega
            · have p1 : ¬ (P.length : Int) < k := by omega
              have p2 : decide (P.length < k) = false := by simpa using hp
              cases r
              all_goals
                go_wp2
                go_roundw
                case rel => exact ⟨i + 1, by omega, by go_num, Lib.hid ⟨by
                  rw [HG.out.2]
                  unfold stepS
                  rw [if_neg (by intro h; exact hp h.1)]
                  exact Hw.out.1, Hw.out.2, HG.out.1⟩⟩
                case measure => simp [intOf]; omega
      · have d3 : ((s2.size : Int) != (W : Int)) = true := by simp; omega
        have d4 : (s2.size != W) = true := by simp; omega
        go_wp2
        go_quiet (first | (go_at_call 34; exact Calls.quiet_of_same (Hwq.out _)))
        go_wp2
        go_ret2
        exact ⟨H.out.2.1.trans (same_below' _ _), .inl ⟨fun h => b3 (h _ Hmem.out).2.2, rfl⟩⟩
    · subst hie
      have htl : l.take i = l := List.take_of_length_le (by have := Hlen.out; omega)
      rw [htl] at hve hco hso hple H
      have hall : ∀ s ∈ l, GoodS n W s := fun s hs => by
        obtain ⟨j, hj, rfl⟩ := List.getElem_of_mem hs
        have := H.out.2.2 j (by have := Hlen.out; omega)
        rw [List.getElem?_eq_getElem hj] at this
        exact this
      have Hall := Lib.hid hall
      obtain ⟨P, hP⟩ : ∃ P, pickS k l = P := ⟨_, rfl⟩
      have HP := Lib.hid hP
      rw [hP] at hve hso hple hco H
      rw [hve]
      have Hve := Lib.hid hve
      clear htl hall hP hso hve hco
      by_cases hp : P.length < k
      · have p1 : (P.length : Int) < k := by omega
        go_wp2
        go_ret2
        exact ⟨H.out.2.1, .inr (.inl ⟨Hall.out, by rw [HP.out]; exact hp, rfl⟩)⟩
      · have p1 : ¬ (P.length : Int) < k := by omega
        go_wp2
        go_ret2
        exact ⟨H.out.2.1, .inr (.inr ⟨Hall.out, by rw [HP.out]; omega, _, rfl, by rw [HP.out, ← Hve.out]; exact H.out.1⟩)⟩

set_option maxHeartbeats 1000000 in
theorem rsome_bad (n k size : Int) (a : Option Addr) (len cap : Nat) (w : World) (h : ¬ (1 ≤ k ∧ k ≤ n ∧ n ≤ 12) ∨ size < 0 ∨ 1000 < size) :
    Calls Tryz.prog 81 #[.int .i64 n, .int .i64 k, .int .i64 size, .slice a len cap] w fun e w' => e = .returned (.tuple #[.slice none 0 0, .int .i64 2]) ∧ w' = w := by
  by_cases hs : 1 ≤ k ∧ k ≤ n ∧ n ≤ 12
  · have es : isSpreadB n k = true := decide_eq_true hs
    have hcase : size < 0 ∨ (¬ size < 0 ∧ 1000 < size) := by omega
    have Es := Lib.hid es
    clear h hs es
    rcases hcase with h | ⟨h, h2⟩
    all_goals
      go_enter Tryz.func81, Tryz.ntmps81
      go_wp2_with fail
      refine (isspread_walk n k w).mono ?_
      rintro e w' ⟨rfl, hw'⟩
      subst hw'
      rw [Es.out]
      go_wp2
      go_ret2
      exact ⟨rfl, rfl⟩
  · have es : isSpreadB n k = false := decide_eq_false hs
    have Es := Lib.hid es
    clear h hs es
    go_enter Tryz.func81, Tryz.ntmps81
    go_wp2_with fail
    refine (isspread_walk n k w).mono ?_
    rintro e w' ⟨rfl, hw'⟩
    subst hw'
    rw [Es.out]
    go_wp2
    go_ret2
    exact ⟨rfl, rfl⟩
end Go.Proofs.YtolbdcmoblcakaaGreatDoor
/- The walk of the document's Decode. -/
namespace Go.Proofs.YtolbdcmoblcakaaGreatDoor
open Go.RowKit

theorem sb_app (s z : ByteArray) (i : Nat) : sb (s ++ z) i = if i < s.size then sb s i else sb z (i - s.size) := by
  unfold sb
  have e : (s ++ z).data.toList = s.data.toList ++ z.data.toList := by simp
  have hl : s.data.toList.length = s.size := by simp
  rw [e]
  by_cases h : i < s.size
  · rw [if_pos h, List.getElem?_append_left (by omega)]
  · rw [if_neg h, List.getElem?_append_right (by omega), hl]
theorem textOf_app {f g h : Nat → Nat} {a b : Nat} (hf : ∀ j, f j < 256) (hg : ∀ j, g j < 256) (hh : ∀ j, h j < 256) (h1 : ∀ i, i < a → h i = f i) (h2 : ∀ i, i < b → h (a + i) = g i) : textOf f a ++ textOf g b = textOf h (a + b) := by
  refine text_ext (by rw [ByteArray.size_append, textOf_size, textOf_size, textOf_size]) fun i hi => ?_
  rw [ByteArray.size_append, textOf_size, textOf_size] at hi
  rw [sb_app, textOf_size, sb_textOf hh, if_pos hi]
  by_cases h : i < a
  · rw [if_pos h, sb_textOf hf, if_pos h, h1 i h]
  · rw [if_neg h, sb_textOf hg, if_pos (by omega), ← h2 (i - a) (by omega)]
    congr 1; omega
theorem textOf_cut {f : Nat → Nat} {a b : Nat} (hf : ∀ j, f j < 256) (h : b ≤ a) : (textOf f a).extract 0 b = textOf f b := by
  refine text_ext (by rw [ByteArray.size_extract, textOf_size, textOf_size]; omega) fun i hi => ?_
  rw [ByteArray.size_extract, textOf_size] at hi
  rw [sb_extract _ _ _ _ (by omega), Nat.zero_add, sb_textOf hf, sb_textOf hf, if_pos (by omega), if_pos (by omega)]
/-- one byte of row j. -/
def rowD (P : List Sh) (j c : Nat) : Nat → Nat := fun m => Mx.dot (fun i => bas (numS P) i j) (fun i => sb (P[i]?.getD (0, ⟨#[]⟩)).2 c) m
theorem rowD_lt (P : List Sh) (j c m : Nat) : rowD P j c m < 256 := Mx.dot_lt (fun _ => Mx.bas_lt _ _ _) m
theorem rowD_succ (P : List Sh) (j c m : Nat) : rowD P j c (m + 1) = rowD P j c m ^^^ Gf.mul (bas (numS P) m j) (sb (P[m]?.getD (0, ⟨#[]⟩)).2 c) := rfl
theorem decF_row (P : List Sh) (k W j c : Nat) (hc : c < W) : decF P k W (j * W + c) = rowD P j c k := by
  unfold decF rowD
  have e1 : (j * W + c) / W = j := by rw [Nat.mul_comm, Nat.mul_add_div (by omega), Nat.div_eq_of_lt hc, Nat.add_zero]
  have e2 : (j * W + c) % W = c := by rw [Nat.mul_comm, Nat.mul_add_mod, Nat.mod_eq_of_lt hc]
  rw [e1, e2]
/-- what the document's Decode answers. -/
def RDecOut (w w' : World) (n k size : Nat) (l : List Sh) (e : Ending) : Prop := Below w.heap.size w w' ∧
  ((¬ (∀ s ∈ l, GoodS n (wideN k size) s) ∧ e = .returned (.tuple #[.string ⟨#[]⟩, .int .i64 3])) ∨ ((∀ s ∈ l, GoodS n (wideN k size) s) ∧ (pickS k l).length < k ∧ e = .returned (.tuple #[.string ⟨#[]⟩, .int .i64 8])) ∨
    ((∀ s ∈ l, GoodS n (wideN k size) s) ∧ (pickS k l).length = k ∧ e = .returned (.tuple #[.string (textOf (decF (pickS k l) k (wideN k size)) size), .int .i64 0])))
set_option maxRecDepth 100000 in
set_option maxHeartbeats 8000000 in
theorem rdecode_walk (n₀ n k size : Nat) (a : Option Addr) (cap : Nat) (l : List Sh) (w : World)
    (hk : 1 ≤ k) (hkn : k ≤ n) (hn : n ≤ 12) (hs : size ≤ 1000) (hl : l.length ≤ maxLen) (hn₀ : n₀ ≤ w.heap.size) (hI : ShR n₀ w a l) :
    Calls Tryz.prog 53 #[.int .i64 n, .int .i64 k, .int .i64 size, .slice a l.length cap] w fun e w' => RDecOut w w' n k size l e := by
  have Hsm := Lib.hid (rsome_walk n₀ n k size a cap l w hk hkn hn hs hl hn₀ hI)
  have hwf := wide_facts k size hk
  have hwl := wide_le k size hk
  have hwq := fun V => rwide_walk k size V hk (by omega) (by omega)
  obtain ⟨W, hW⟩ : ∃ W, wideN k size = W := ⟨_, rfl⟩
  rw [hW] at Hsm hwf hwl hwq
  have HW := Lib.hid hW
  have Hwf := Lib.hid hwf
  have Hwq := Lib.hid hwq
  have hmk := fun (V : World) => run_make_row' (P := Tryz.prog) (w := V) 92 5 (.int .u8 0) 1 Tryz.underlying92 info_uint8 rfl .i64 .i64 W (by omega) (by omega)
  have Hmk := Lib.hid hmk
  clear hI hW hwf hwq hmk
  go_enter Tryz.func53, Tryz.ntmps53
  go_wp2_with fail
  refine Hsm.out.mono ?_
  rintro e w1 ⟨hb1, hres⟩
  have H1 := Lib.hid hb1
  clear hb1
  rcases hres with ⟨hbad, rfl⟩ | ⟨hall, hfew, rfl⟩ | ⟨hall, hlen, v, rfl, hv⟩
  · have Hx := Lib.hid hbad
    clear hbad
    go_wp2
    go_ret2
    exact ⟨H1.out, .inl ⟨by rw [HW.out]; exact Hx.out, rfl⟩⟩
  · have Hx := Lib.hid (And.intro hall hfew)
    clear hall hfew
    go_wp2
    go_ret2
    exact ⟨H1.out, .inr (.inl ⟨by rw [HW.out]; exact Hx.out.1, Hx.out.2, rfl⟩)⟩
  · have hgp : ∀ s ∈ pickS k l, GoodS n W s := fun s hs => hall s (pickS_sub k l s hs)
    have hup := pickS_unlike k l
    have Hall := Lib.hid (And.intro hall hlen)
    obtain ⟨P, hP⟩ : ∃ P, pickS k l = P := ⟨_, rfl⟩
    rw [hP] at hgp hup hlen hv
    obtain ⟨ap, cp, hve, _, _, hsp⟩ := OwnS.read hv
    rw [hlen] at hve
    rw [hve]
    have hxl : (numS P).length = k := by rw [numS_length]; exact hlen
    have hxlt := numS_lt hgp
    have hxb : Bytes (numS P) := fun x hx => by have := hxlt x hx; omega
    have hxu := numS_unlike hup hgp
    obtain ⟨b0, off, hap, hb0, hcs⟩ : ∃ b off, ap = some ⟨b, off, none⟩ ∧ b < w1.heap.size ∧ ∀ i, i < k → w1.cell? ⟨b, off + i * 2, none⟩ = some (.int .i64 (((numS P)[i]?.getD 0 : Nat) : Int)) ∧ w1.cell? ⟨b, off + i * 2 + 1, none⟩ = some (.string (P[i]?.getD (0, ⟨#[]⟩)).2) := by
      rcases hsp with he | ⟨b, off, rfl, hb, hc⟩
      · rw [he] at hlen; simp at hlen; omega
      · refine ⟨b, off, rfl, hb, fun i hi => ?_⟩
        have h := hc i (by omega)
        rw [numS_at (by omega)]
        have hil : i < P.length := by omega
        have hg := (hgp _ (List.getElem_mem hil)).1
        rw [List.getElem?_eq_getElem hil] at h ⊢
        refine ⟨?_, h.2⟩
        show _ = some (Value.int .i64 ((P[i].1.toNat : Nat) : Int))
        rw [Int.toNat_of_nonneg hg]
        exact h.1
    subst hap
    have hst : ∀ i, i < k → (P[i]?.getD (0, ⟨#[]⟩)).2.size = W := fun i hi => by
      have hil : i < P.length := by omega
      rw [List.getElem?_eq_getElem hil]
      exact (hgp _ (List.getElem_mem hil)).2.2
    have hdl := decF_lt P k W
    have hdr := fun j c hc => decF_row P k W j c hc
    have hrl := fun j c m => rowD_lt P j c m
    have hrs := fun j c m => rowD_succ P j c m
    have hr0 : ∀ j c, rowD P j c 0 = 0 := fun _ _ => rfl
    obtain ⟨D, hD⟩ : ∃ D, decF P k W = D := ⟨_, rfl⟩
    obtain ⟨R, hR⟩ : ∃ R, rowD P = R := ⟨_, rfl⟩
    obtain ⟨t, ht⟩ : ∃ t : Nat → ByteArray, t = fun i => (P[i]?.getD (0, ⟨#[]⟩)).2 := ⟨_, rfl⟩
    obtain ⟨xs, hxs⟩ : ∃ xs, numS P = xs := ⟨_, rfl⟩
    have hcs' : ∀ i, i < k → w1.cell? ⟨b0, off + i * 2, none⟩ = some (.int .i64 ((xs[i]?.getD 0 : Nat) : Int)) ∧ w1.cell? ⟨b0, off + i * 2 + 1, none⟩ = some (.string (t i)) := fun i hi => by
      rw [ht, ← hxs]; exact hcs i hi
    have hst' : ∀ i, i < k → (t i).size = W := fun i hi => by rw [ht]; exact hst i hi
    have hrs' : ∀ j c m, R j c (m + 1) = R j c m ^^^ Gf.mul (bas xs m j) (sb (t m) c) := fun j c m => by rw [ht, ← hxs, ← hR]; exact hrs j c m
    rw [hD] at hdl hdr
    rw [hR] at hdr hrl hr0
    rw [hxs] at hxl hxb hxu hxlt
    have HC := Lib.hid (And.intro hcs' (And.intro hst' hb0))
    have HR := Lib.hid (And.intro hrs' (And.intro hrl (And.intro hr0 (And.intro hdl hdr))))
    have HX := Lib.hid (And.intro hxl (And.intro hxb (And.intro hxu hxlt)))
    have HP := Lib.hid (And.intro hP hD)
    clear hall hgp hup hlen hv hve hsp hcs hst hdl hdr hrl hrs hr0 hcs' hst' hrs' hxl hxb hxu hxlt hP hD hR ht hxs hb0
    go_wp2
    go_loopw [12, 13] (fun vx vi wr => ∃ i : Nat, i ≤ k ∧ vi = .int .i64 i ∧ Hid (OwnB w1.heap.size wr vx (xs.take i) ∧ Below w1.heap.size w1 wr)) (fun _ i _ => k - (intOf i).toNat)
    case atStart => exact ⟨0, by omega, rfl, Lib.hid ⟨OwnB.nil _ _, Below.refl _ _⟩⟩
    case round =>
      obtain ⟨i, hi, rfl, H⟩ := hrel
      have hi2 : i < k ∨ i = k := by omega
      rcases hi2 with hlt | rfl
      · have hlt2 : (i : Int) < k := by omega
        have c1 := (H.out.2.cell (p := ⟨b0, off + i * 2, none⟩) HC.out.2.2).trans (HC.out.1 i hlt).1
        have hxi := HX.out.2.1.at i
        obtain ⟨x, hx⟩ : ∃ x, xs[i]?.getD 0 = x := ⟨_, rfl⟩
        rw [hx] at c1 hxi
        have Hx := Lib.hid hx
        have hmod : (x : Int) % 256 = x := by omega
        have hl2 : (xs.take i).length + 1 ≤ 140737488355328 := by rw [List.length_take]; omega
        have hs2 := H.out.2.size
        clear hx
        go_wp2_with (at_builtin; refine append_byte 38 45 rfl rfl w1.heap.size _ _ x rfl rfl H.out.1 hl2 hs2 ?_)
        intro v' w' k1 k2 k3
        have hb : Below w1.heap.size w1 w' := (H.out.2.alloc hs2 _).grown k2 (by simp; omega) (fun q e => (H.out.1.lt q e).1)
        have hr : OwnB w1.heap.size w' v' (xs.take (i + 1)) := by
          have hil : i < xs.length := by have := HX.out.1; omega
          have e : xs.take (i + 1) = xs.take i ++ [x] := by
            rw [List.take_succ_eq_append_getElem hil, ← Hx.out, List.getElem?_eq_getElem hil]; rfl
          rw [e]; exact k1
        have HR := Lib.hid (And.intro hr hb)
        clear k1 k2 k3 hb hr
        go_wp2
        go_roundw
        case rel => exact ⟨i + 1, by omega, by go_num, HR⟩
        case measure => simp [intOf]; omega
      · have htk : xs.take i = xs := List.take_of_length_le (by have := HX.out.1; omega)
        rw [htk] at H
        obtain ⟨ax, cx, hve, _, _, hIx⟩ := OwnB.row H.out.1
        rw [HX.out.1] at hve
        rw [hve]
        obtain ⟨w2, rfl⟩ : ∃ w2 : World, w2 = wr := ⟨_, rfl⟩
        have H2 := Lib.hid (And.intro hIx H.out.2)
        clear hve htk hIx H
        go_wp2
        go_loopw [14, 15] (fun vo vj wr => ∃ j : Nat, j ≤ i ∧ vj = .int .i64 j ∧ (∃ tx : ByteArray, vo = .string tx ∧ Hid (tx = textOf D (j * W))) ∧ Hid (Below w2.heap.size w2 wr)) (fun _ j _ => i - (intOf j).toNat)
        case atStart => exact ⟨0, by omega, rfl, ⟨_, rfl, Lib.hid (by rw [Nat.zero_mul]; rfl)⟩, Lib.hid (Below.refl _ _)⟩
        case round =>
          obtain ⟨j, hj, rfl, ⟨tx, rfl, Hto⟩, H3⟩ := hrel
          have hj2 : j < i ∨ j = i := by omega
          rcases hj2 with hjl | rfl
          · have hjl2 : (j : Int) < i := by omega
            have hmodj : (j : Int) % 256 = j := by omega
            obtain ⟨w3, rfl⟩ : ∃ w3 : World, w3 = wr := ⟨_, rfl⟩
            go_wp2
            go_loopw [16, 17] (fun vb vi wr => ∃ m : Nat, m ≤ i ∧ vi = .int .i64 m ∧ Hid (OwnB w3.heap.size wr vb ((List.range m).map fun q => bas xs q j) ∧ Below w3.heap.size w3 wr)) (fun _ m _ => i - (intOf m).toNat)
            case atStart => exact ⟨0, by omega, rfl, Lib.hid ⟨OwnB.nil _ _, Below.refl _ _⟩⟩
            case round =>
              obtain ⟨m, hm, rfl, H4⟩ := hrel
              have hm2 : m < i ∨ m = i := by omega
              rcases hm2 with hml | rfl
              · have hml2 : (m : Int) < i := by omega
                have hbs := Lib.hid (basis_walk w2.heap.size ax cx xs m j wr HX.out.2.1 HX.out.2.2.1 (by omega) (by rw [HX.out.1]; unfold maxLen; omega) (by rw [HX.out.1]; exact hml) ((H2.out.1.below H3.out).below (H4.out.2.mono H3.out.size)))
                rw [HX.out.1] at hbs
                obtain ⟨x, hx⟩ : ∃ x, bas xs m j = x := ⟨_, rfl⟩
                rw [hx] at hbs
                have Hx := Lib.hid hx
                clear hx
                go_wp2_with fail
                refine hbs.out.mono ?_
                rintro e w4 ⟨rfl, q, hq⟩
                have hB4 : Below w3.heap.size w3 w4 := by rw [hq]; exact H4.out.2.trans (same_below' _ q)
                have hO4 : OwnB w3.heap.size w4 u16 ((List.range m).map fun q => bas xs q j) := by rw [hq]; exact Own1.below H4.out.1 (same_below' _ q) (Nat.le_refl _)
                have hl2 : ((List.range m).map fun q => bas xs q j).length + 1 ≤ 140737488355328 := by simp; omega
                have hs2 := hB4.size
                have HO := Lib.hid (And.intro hO4 hB4)
                clear hq hbs hB4 hO4
                go_wp2_with (at_builtin; refine append_byte 62 64 rfl rfl w3.heap.size _ _ x rfl rfl HO.out.1 hl2 hs2 ?_)
                intro v' w' k1 k2 k3
                have hb : Below w3.heap.size w3 w' := (HO.out.2.alloc hs2 _).grown k2 (by simp; omega) (fun q e => (HO.out.1.lt q e).1)
                have hr : OwnB w3.heap.size w' v' ((List.range (m + 1)).map fun q => bas xs q j) := by
                  rw [List.range_succ, List.map_append, List.map_cons, List.map_nil, Hx.out]; exact k1
                have HR := Lib.hid (And.intro hr hb)
                clear k1 k2 k3 hb hr
                go_wp2
                go_roundw
                case rel => exact ⟨m + 1, by omega, by go_num, HR⟩
                case measure => simp [intOf]; omega
              · obtain ⟨ab, cb, hve, _, _, hIb⟩ := OwnB.row H4.out.1
                have hbl : ((List.range m).map fun q => bas xs q j).length = m := by simp
                rw [hbl] at hve
                rw [hve]
                rcases hIb with he | ⟨bb, ob, rfl, hbb, hcb⟩
                · have : ((List.range m).map fun q => bas xs q j).length = 0 := by rw [he]; rfl
                  omega
                have hcb' : ∀ q, q < m → wr.cell? ⟨bb, ob + q, none⟩ = some (.int .u8 (bas xs q j : Nat)) := fun q hq => by
                  have := hcb q (by omega)
                  rw [List.getElem?_map, List.getElem?_range hq] at this
                  exact this
                have hb13 : Below w1.heap.size w1 wr := H2.out.2.trans ((H3.out.trans (H4.out.2.mono H3.out.size)).mono H2.out.2.size)
                have hb23 : Below w2.heap.size w2 wr := H3.out.trans (H4.out.2.mono H3.out.size)
                have H5 := Lib.hid (And.intro hcb' (And.intro hbb (And.intro hb13 hb23)))
                obtain ⟨w5, rfl⟩ : ∃ w5 : World, w5 = wr := ⟨_, rfl⟩
                have hmk := Hmk.out w5
                clear hve hcb hcb' hb13 hb23 hbl hbb
                go_wp2_with fail
                refine (Hwq.out _).mono ?_
                rintro e w' ⟨rfl, hw'⟩
                have hw2 := hw'.symm
                clear hw'
                subst hw2
                go_wp2
                have hrow := RowV.made w5 W
                obtain ⟨W0, hW0⟩ : ∃ W0, (w5.alloc (.cells (madeCells #[.int .u8 0] W) 5)) = W0 := ⟨_, rfl⟩
                have hb0 : Below w5.heap.size w5 W0 := by rw [← hW0]; exact (Below.refl _ w5).alloc (Nat.le_refl _) _
                rw [hW0] at hrow ⊢
                obtain ⟨g, hg⟩ : ∃ g, w5.heap.size = g := ⟨_, rfl⟩
                rw [hg] at hrow hb0 ⊢
                have Hg := Lib.hid hg
                have Hx := Lib.hid (And.intro hrow hb0)
                clear hrow hb0 hW0 hg hmk
                go_loopw [20] (fun vt wr => ∃ c : Nat, c ≤ W ∧ vt = .int .i64 c ∧ Hid (OnlyB g W0 wr ∧ RowV wr g W (firstK c (fun c => R j c m) (fun _ => 0)))) (fun t _ => W - (intOf t).toNat)
                case atStart => exact ⟨0, by omega, rfl, Lib.hid ⟨OnlyB.refl _ _, Hx.out.1.congr fun j _ => by unfold firstK; rw [if_neg (by omega)]⟩⟩
                case round =>
                  obtain ⟨c, hc, rfl, H6⟩ := hrel
                  have hc2 : c < W ∨ c = W := by omega
                  rcases hc2 with hcl | rfl
                  · have hcl2 : (c : Int) < W := by omega
                    obtain ⟨wm, rfl⟩ : ∃ wm : World, wm = wr := ⟨_, rfl⟩
                    go_wp2
                    go_loopw [21] (fun vt wr => ∃ q : Nat, q ≤ m ∧ vt = .int .i64 q ∧ Hid (OnlyB g W0 wr ∧ RowV wr g W (Mx.upd (firstK c (fun c => R j c m) (fun _ => 0)) c (R j c q)))) (fun t _ => m - (intOf t).toNat)
                    case atStart =>
                      refine ⟨0, by omega, rfl, Lib.hid ⟨H6.out.1, H6.out.2.congr fun j' _ => ?_⟩⟩
                      unfold Mx.upd
                      by_cases e : j' = c
                      · rw [if_pos e, e]
                        unfold firstK
                        rw [if_neg (by omega)]
                        exact (HR.out.2.2.1 j c).symm
                      · rw [if_neg e]
                    case round =>
                      obtain ⟨q, hq, rfl, H7⟩ := hrel
                      have hq2 : q < m ∨ q = m := by omega
                      rcases hq2 with hql | rfl
                      · have hql2 : (q : Int) < m := by omega
                        have hbg : Below g w5 wr := Hx.out.2.trans (H7.out.1.below (Nat.le_refl _))
                        have hwg : w5.heap.size ≤ g := by have := Hg.out; omega
                        have hbW : Below w5.heap.size w5 wr := hbg.mono hwg
                        have c1 : wr.cell? ⟨bb, ob + q, none⟩ = some (.int .u8 (bas xs q j : Nat)) := (hbW.cell (p := ⟨bb, ob + q, none⟩) H5.out.2.1).trans (H5.out.1 q hql)
                        have hb1r : Below w1.heap.size w1 wr := H5.out.2.2.1.trans (hbW.mono H5.out.2.2.1.size)
                        have c2 : wr.cell? ⟨b0, off + q * 2 + 1, none⟩ = some (.string (t q)) := (hb1r.cell (p := ⟨b0, off + q * 2 + 1, none⟩) HC.out.2.2).trans (HC.out.1 q hql).2
                        have hx : bas xs q j < 256 := Mx.bas_lt xs q j
                        have hts := HC.out.2.1 q hql
                        have hnew := HR.out.1 j c q
                        have hd := HR.out.2.1 j c q
                        obtain ⟨d, hde⟩ : ∃ d, R j c q = d := ⟨_, rfl⟩
                        rw [hde] at hnew hd
                        have Hde := Lib.hid hde
                        obtain ⟨x, hxe⟩ : ∃ x, bas xs q j = x := ⟨_, rfl⟩
                        rw [hxe] at c1 hx hnew
                        obtain ⟨tq, htq⟩ : ∃ tq, t q = tq := ⟨_, rfl⟩
                        rw [htq] at c2 hts hnew
                        have hcD : wr.cell? ⟨g, c, none⟩ = some (.int .u8 (d : Nat)) := by
                          have := H7.out.2.cell c hcl
                          unfold Mx.upd at this
                          rw [if_pos rfl, Hde.out] at this; exact this
                        have hfr := H7.out.2.free c hcl
                        have hcs : c < tq.size := by omega
                        have hcs2 : (c : Int) < tq.size := by omega
                        rw [sb_get tq c hcs] at hnew
                        have hy : (tq[c]'hcs).toNat < 256 := (tq[c]'hcs).toNat_lt
                        have hml := Gf.mul_lt (tq[c]'hcs).toNat hx
                        have hz3 : bits .xor .u8 (d : Int) ((Gf.mul x (tq[c]'hcs).toNat : Nat) : Int) = ((d ^^^ Gf.mul x (tq[c]'hcs).toNat : Nat) : Int) := u8_xor_nat _ _ hd hml
                        have hmq := fun V => rmul_q x (tq[c]'hcs).toNat V hx hy
                        obtain ⟨r, hre⟩ : ∃ r, Gf.mul x (tq[c]'hcs).toNat = r := ⟨_, rfl⟩
                        rw [hre] at hz3 hmq hml hnew
                        have Hz3 := Lib.hid hz3
                        have Hnew := Lib.hid hnew
                        have Hmq := Lib.hid hmq
                        have Hts := Lib.hid hts
                        clear hz3 hnew hmq hre hxe htq hde hbg hwg hbW hb1r hts
                        go_wp2
                        refine wp_region_still_tail 20 (by kernel_rfl) (by kernel_rfl) ?_
                        simp only [List.take_succ_cons, List.take_zero, List.drop_succ_cons, List.drop_zero]
                        repeat still_step
                        still_call (Hmq.out _)
                        repeat still_step
                        refine wpStill_nil ?_
                        change wpList _ _ _ _ _ wr.drew
                        go_wp2
                        go_roundw
                        case rel =>
                          refine ⟨q + 1, by omega, by go_num, Lib.hid ⟨(H7.out.1.trans (OnlyB.setCell _ _ _ _)).trans (OnlyB.drewN _ _ 1), RowV.drewN 1 ?_⟩⟩
                          rw [Hz3.out]
                          refine (H7.out.2.set (x := d ^^^ r) hcl).congr fun j' hj' => ?_
                          unfold Mx.upd
                          by_cases e : j' = c
                          · rw [if_pos e, if_pos e]; exact Hnew.out.symm
                          · rw [if_neg e, if_neg e, if_neg e]
                        case measure => simp [intOf]; omega
                      · go_wp2
                        go_roundw
                        case rel =>
                          refine ⟨c + 1, by omega, by go_num, Lib.hid ⟨H7.out.1, H7.out.2.congr fun j' hj' => ?_⟩⟩
                          unfold Mx.upd
                          by_cases e : j' = c
                          · rw [if_pos e, e]
                            unfold firstK
                            rw [if_pos (by omega)]
                          · rw [if_neg e]
                            unfold firstK
                            by_cases e2 : j' < c
                            · rw [if_pos e2, if_pos (by omega)]
                            · rw [if_neg e2, if_neg (by omega)]
                        case measure => simp [intOf]; omega
                  · have hcv := conv_row wr g 0 c c (fun c => R j c m) (fun c => HR.out.2.1 j c m) (fun c' hc' => by
                      rw [Nat.zero_add, H6.out.2.cell c' hc']
                      unfold firstK
                      rw [if_pos hc'])
                    have hpt : (⟨(rowText (fun c => R j c m) c).toArray⟩ : ByteArray) = textOf (fun c => R j c m) c := rfl
                    rw [hpt] at hcv
                    have happ : tx ++ textOf (fun c => R j c m) c = textOf D ((j + 1) * c) := by
                      rw [Hto.out, Nat.add_mul, Nat.one_mul]
                      exact textOf_app HR.out.2.2.2.1 (fun c => HR.out.2.1 j c m) HR.out.2.2.2.1 (fun _ _ => rfl) (fun q hq => HR.out.2.2.2.2 j q hq)
                    obtain ⟨pt, hpte⟩ : ∃ pt, textOf (fun c => R j c m) c = pt := ⟨_, rfl⟩
                    rw [hpte] at hcv happ
                    have htxs : tx.size + pt.size ≤ 100000 := by
                      rw [Hto.out, ← hpte, textOf_size, textOf_size]
                      have h1 := Hwf.out.2
                      have h2 : j * c ≤ m * c := Nat.mul_le_mul_right _ (by omega)
                      omega
                    have Happ := Lib.hid happ
                    have hbw : Below w2.heap.size w2 wr := H5.out.2.2.2.trans ((Hx.out.2.trans (H6.out.1.below (Nat.le_refl _))).mono (by have := Hg.out; have := H5.out.2.2.2.size; omega))
                    have HB := Lib.hid hbw
                    clear hpt happ hpte hbw
                    go_wp2
                    go_roundw
                    case rel => exact ⟨j + 1, by omega, by go_num, ⟨_, rfl, Lib.hid Happ.out⟩, HB⟩
                    case measure => simp [intOf]; omega
          · have hsz : size ≤ j * W := Hwf.out.1
            have hsz2 := hsz
            have htz : tx.size = j * W := by rw [Hto.out, textOf_size]
            have hcut : tx.extract 0 size = textOf D size := by rw [Hto.out]; exact textOf_cut HR.out.2.2.2.1 hsz
            have Hcut := Lib.hid hcut
            have hszt : (size : Int) ≤ tx.size := by omega
            clear hsz hsz2 htz hcut
            go_wp2
            go_ret2
            exact ⟨H1.out.trans ((H2.out.2.trans (H3.out.mono H2.out.2.size)).mono H1.out.size), .inr (.inr ⟨by rw [HW.out]; exact Hall.out.1, Hall.out.2, by rw [HW.out, HP.out.1, HP.out.2, ← Hcut.out]; rfl⟩)⟩
end Go.Proofs.YtolbdcmoblcakaaGreatDoor
