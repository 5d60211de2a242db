/- The walk of the document's Wire. -/
import Derived.Test.YtgcnohejmofhkaaDoorWrN
import Derived.Deep.CutRange
import Derived.Lib.QuietBelow
import Derived.BigQuiet
namespace Go.Proofs.YtgcnohejmofhkaaDoor
section
open Go.RowKit Go.BigFrame

/-- what the document's Wire hands back. -/
def wireR (m : Msg) : Ending :=
  if encBad m = true then .returned (.tuple #[.string ⟨#[]⟩, .int .i64 2])
  else if 3996 < (encB m).length then .returned (.tuple #[.string ⟨#[]⟩, .int .i64 7])
  else .returned (.tuple #[.string (packB m), .int .i64 0])
/-- the numbers that Wire looks at. -/
def wzs (op cf : Int) (L : List Ver) : List Int := [op, cf] ++ L.flatMap vints
theorem neg_append (a b : List Int) : neg (a ++ b) = (neg a || neg b) := by unfold neg; rw [List.any_append]
theorem neg_flat : ∀ L : List Ver, neg (L.flatMap vints) = vneg L
  | [] => rfl
  | x :: L => by
    rw [List.flatMap_cons, neg_append, neg_flat L]
    rfl
theorem wzs_neg (fr dst kind key : ByteArray) (op cf : Int) (sl : Bool) (L : List Ver) : neg (wzs op cf L) = encBad ⟨fr, dst, kind, key, op, cf, sl, L⟩ := by
  unfold wzs encBad
  rw [neg_append, neg_flat]
  congr 1
  have h0 : decide ((L.length : Int) < 0) = false := by simp
  unfold hints neg
  cases sl <;> simp [h0]
theorem wzs_length (op cf : Int) (L : List Ver) : (wzs op cf L).length = 2 + L.length * 4 := by
  unfold wzs
  rw [List.length_append]
  have : ∀ M : List Ver, (M.flatMap vints).length = M.length * 4 := fun M => by
    induction M with
    | nil => rfl
    | cons x M ih => rw [List.flatMap_cons, List.length_append, ih]; simp [vints]; omega
  rw [this]
  rfl
theorem wzs_snoc (op cf : Int) (L : List Ver) (i : Nat) (h : i < L.length) : wzs op cf (L.take (i + 1)) = wzs op cf (L.take i) ++ vints (L[i]?.getD ver0) := by
  unfold wzs
  rw [List.take_succ_eq_append_getElem h, List.flatMap_append, List.append_assoc, List.getElem?_eq_getElem h]
  simp
def iv (zs : List Int) : List Value := zs.map fun n => Value.int .i64 n
theorem iv_append (a b : List Int) : iv (a ++ b) = iv a ++ iv b := by unfold iv; simp
theorem iv_length (a : List Int) : (iv a).length = a.length := by unfold iv; simp
/-- append(s, l...) of values that were just built. -/
theorem append_built {P : Program} {ops : Array Oper} {rest : List Oper} {o : Oper} {a : Act} {Q : Exit → Act → World → Prop} {w0 : World} (T E : TypeId) (z : Value) (bytes : Nat) (hT : P.underlying T = some (.slice E))
    (hE : (P.info? E).map (fun i => (i.zero, i.size, i.bytes)) = some (some z, 1, bytes)) (hz : z.cells.size = 1) (s x : Nat) (hgd : o.guard = none)
    (ho : o.op = .call { callee := .builtin .append, args := #[.tmp s, .tmp x], argTypes := #[T, T] }) (B : Nat) (v : Value) (us : List Value) (xs : List Value) (n : Nat) (hn : xs.length = n) (hu : ∀ u ∈ xs, u.oneCell' = true)
    (hs : a.eval (.tmp s) = v) (hx : a.eval (.tmp x) = .slice (some ⟨w0.heap.size, 0, none⟩) n n) (hown : Own1 E B w0 v us) (hl : (us.length + n) * bytes ≤ 140737488355328) (hl2 : us.length + n ≤ maxLen) (hB : B ≤ w0.heap.size)
    (h : ∀ v' w', Own1 E B w' v' (us ++ xs) → (w0.alloc (.cells xs.toArray E)).grownBy w' v.ownBlock → wpList P ops Q rest (a.put o.dst v') w') :
    wpList P ops Q (o :: rest) a (w0.alloc (.cells xs.toArray E)) := by
  obtain ⟨i, hi, hz0, hz1, hz2⟩ := info_parts hE
  refine wpList_append_own_at _ hgd (.tmp s) (.tmp x) T ho B E i z 1 bytes hT hi hz0 hz1 hz2 hz (by decide) v us.length us hs (World.ownsRow.alloc hown _) ⟨w0.heap.size, 0, none⟩ n n xs hx (by omega) (fun j u hj => ?_) hu (by omega) hl (by simp; omega) ?_
  · rw [Go.WideShapes.add_plain, Nat.zero_add, World.cell?_alloc_at _ _ _ _ rfl]
    simpa using hj
  · intro v' w' h1 h2 _ h4
    refine h v' w' ?_ h2
    unfold Own1
    rw [List.length_append, hn]
    exact h1
theorem strOf_nil : strOf [] = ⟨#[]⟩ := rfl
theorem strOf_tbytes (t : ByteArray) : strOf (tbytes t) = strOf (nbytes (t.size : Int)) ++ t := by
  unfold tbytes
  rw [← strOf_append, strOf_nats']
theorem strOf_nbytes_size (n : Int) : (strOf (nbytes n)).size = 8 := by rw [strOf_size]; rfl
theorem own_built {E : TypeId} {B : Nat} {w : World} {xs : List Value} {n : Nat} (hn : xs.length = n) (hm : n ≤ maxLen) (hB : B ≤ w.heap.size) : Own1 E B (w.alloc (.cells xs.toArray E)) (.slice (some ⟨w.heap.size, 0, none⟩) n n) xs := by
  subst hn
  refine ⟨by simp, .inr ⟨w.heap.size, xs.length, xs.toArray, rfl, hB, heap_alloc_new w _, Nat.le_refl _, hm, by simp, by simp⟩⟩
def wts (fr dst kind key : ByteArray) : List ByteArray := [fr, dst, kind, key]
def outS (ts : List ByteArray) (i : Nat) : ByteArray := strOf ((ts.take i).flatMap tbytes)
theorem outS_succ (ts : List ByteArray) (i : Nat) (h : i < ts.length) : outS ts i ++ strOf (nbytes ((ts[i].size : Nat) : Int)) ++ ts[i] = outS ts (i + 1) := by
  unfold outS
  rw [List.take_succ_eq_append_getElem h, List.flatMap_append, ← strOf_append]
  have e : [ts[i]].flatMap tbytes = tbytes ts[i] := by simp
  rw [e, strOf_tbytes]
  exact ByteArray.append_assoc
theorem outS_size (ts : List ByteArray) (i : Nat) : (outS ts i).size ≤ ts.length * 8 + sizes ts := by
  unfold outS
  rw [strOf_size, texts_length]
  have h1 := sizes_take ts i
  have h2 : (ts.take i).length ≤ ts.length := List.length_take_le' ..
  omega
theorem sizes_mem {ts : List ByteArray} (t : ByteArray) (h : t ∈ ts) : t.size ≤ sizes ts := by
  unfold sizes
  induction ts with
  | nil => cases h
  | cons x l ih =>
    rw [List.map_cons, List.sum_cons]
    rcases List.mem_cons.1 h with rfl | h
    · omega
    · have := ih h; omega
set_option maxRecDepth 100000 in
set_option maxHeartbeats 16000000 in
theorem wire_walk (w : World) (fr dst kind key : ByteArray) (op cf : Int) (sl : Bool) (a : Option Addr) (len cap : Nat) (L : List Ver) (hlen : L.length = len) (hl : len ≤ 1000000) (hL : VrR w.heap.size w a L) (hm : MsgOk ⟨fr, dst, kind, key, op, cf, sl, L⟩) (hs : (encB ⟨fr, dst, kind, key, op, cf, sl, L⟩).length ≤ 1000000000) :
    Calls Tryd.prog 9 #[.agg #[.string fr, .string dst, .string kind, .string key, .int .i64 op, .int .i64 cf, .bool sl, .slice a len cap]] w fun e w' => e = wireR ⟨fr, dst, kind, key, op, cf, sl, L⟩ ∧ Below w.heap.size w w' := by
  obtain ⟨B, hBw⟩ : ∃ B, w.heap.size = B := ⟨_, rfl⟩
  obtain ⟨W1, hW1⟩ : ∃ W1, w.alloc (.cells #[.string fr, .string dst, .string kind, .string key, .int .i64 op, .int .i64 cf, .bool sl, .slice a len cap] 24) = W1 := ⟨_, rfl⟩
  obtain ⟨W2, hW2⟩ : ∃ W2, W1.alloc (.cells #[.int .i64 op, .int .i64 cf] 3) = W2 := ⟨_, rfl⟩
  obtain ⟨W3, hW3⟩ : ∃ W3, W2.alloc (.cells #[.string fr, .string dst, .string kind, .string key] 9) = W3 := ⟨_, rfl⟩
  have hs1 : W1.heap.size = B + 1 := by rw [← hW1, ← hBw]; simp
  have hs2 : W2.heap.size = B + 1 + 1 := by rw [← hW2]; simp [hs1]
  have hs3 : W3.heap.size = B + 1 + 1 + 1 := by rw [← hW3]; simp [hs2]
  have hb1 : Below B w W1 := by rw [← hW1]; exact (Below.refl _ _).alloc (by omega) _
  have hb2 : Below (B + 1) W1 W2 := by rw [← hW2]; exact (Below.refl _ _).alloc (by omega) _
  have hb3 : Below (B + 1) W2 W3 := by rw [← hW3]; exact (Below.refl _ _).alloc (by omega) _
  have hb13 : Below (B + 1) W1 W3 := hb2.trans hb3
  have gm1 : W1.heap[B]? = some (.cells #[.string fr, .string dst, .string kind, .string key, .int .i64 op, .int .i64 cf, .bool sl, .slice a len cap] 24 (0, 0)) := by rw [← hW1, ← hBw]; exact heap_alloc_new w _
  have gs3 : W3.heap[B + 1 + 1]? = some (.cells (strsV [fr, dst, kind, key]) 9 (0, 0)) := by
    rw [← hW3, ← hs2]
    exact heap_alloc_new W2 _
  have ho2 : Own1 3 (B + 1) W2 (.slice (some ⟨B + 1, 0, none⟩) 2 2) (iv [op, cf]) := by
    rw [← hW2, ← hs1]
    exact own_built rfl (by decide) (Nat.le_refl _)
  have ho3 : Own1 3 (B + 1) W3 (.slice (some ⟨B + 1, 0, none⟩) 2 2) (iv [op, cf]) := by
    rw [← hW3]; exact ho2.alloc _
  obtain ⟨ts, hts⟩ : ∃ ts, [fr, dst, kind, key] = ts := ⟨_, rfl⟩
  have htl : ts.length = 4 := by rw [← hts]; rfl
  have hT4 : ([fr, dst, kind, key].flatMap tbytes).length = 4 * 8 + sizes ts := by rw [texts_length, hts, htl]
  have hencB : encB ⟨fr, dst, kind, key, op, cf, sl, L⟩ = encH ⟨fr, dst, kind, key, op, cf, sl, L⟩ ++ L.flatMap vbytes := rfl
  have hHl : (encH ⟨fr, dst, kind, key, op, cf, sl, L⟩).length = 4 * 8 + sizes ts + 32 := by unfold encH; rw [List.length_append, nbytes_flat, hT4]; rfl
  have hBl : (encB ⟨fr, dst, kind, key, op, cf, sl, L⟩).length = 4 * 8 + sizes ts + 32 + (L.flatMap vbytes).length := by rw [hencB, List.length_append, hHl]
  rw [hBl] at hs
  obtain ⟨k, hk⟩ : ∃ k : Nat, (sl = true ∧ k = 1) ∨ (sl = false ∧ k = 0) := by
    cases sl
    · exact ⟨0, .inr ⟨rfl, rfl⟩⟩
    · exact ⟨1, .inl ⟨rfl, rfl⟩⟩
  have c6 := (cell_of_heap gm1 6).trans rfl
  have HW := Lib.hid (And.intro hW1 (And.intro hW2 (And.intro hW3 hBw)))
  have Hsz := Lib.hid (And.intro hs1 (And.intro hs2 hs3))
  have Hk := Lib.hid hk
  rw [hts] at gs3
  have Hg := Lib.hid (And.intro gm1 (And.intro gs3 (And.intro ho3 (And.intro hb1 hb13))))
  have He := Lib.hid (And.intro hts (And.intro htl (And.intro hBl hs)))
  have HL := Lib.hid (And.intro hL (And.intro hlen hm))
  have hl9 : (len : Int) ≤ 9223372036854775807 := by omega
  clear hs1 hs2 hs3 hb1 hb2 hb3 hb13 gm1 gs3 ho2 ho3 hts htl hT4 hencB hHl hBl hs hk hW1 hW2 hW3 hL hlen hm
  go_enter Tryd.func9, Tryd.ntmps9
  go_upto_if 15 with fail
  rw [HW.out.1]
  go_cut [4] from 14 (fun s4 wx => s4 = .int .i64 (k : Int) ∧ wx = W1)
  case first =>
    rcases Hk.out with ⟨rfl, rfl⟩ | ⟨rfl, rfl⟩
    · go_wp2_with fail
      go_meet
      exact ⟨rfl, rfl⟩
    · go_wp2_with fail
      go_meet
      exact ⟨rfl, rfl⟩
  case rest =>
    obtain ⟨rfl, hwc⟩ := hcut
    rw [hwc]
    clear hwc c6
    have c0 := (cell_of_heap Hg.out.1 0).trans rfl
    have c1 := (cell_of_heap Hg.out.1 1).trans rfl
    have c2 := (cell_of_heap Hg.out.1 2).trans rfl
    have c3 := (cell_of_heap Hg.out.1 3).trans rfl
    have c4 := (cell_of_heap Hg.out.1 4).trans rfl
    have c5 := (cell_of_heap Hg.out.1 5).trans rfl
    have hs1 := Hsz.out.1
    go_wp2_with fail
    rw [HW.out.2.1, HW.out.2.2.1]
    clear c0 c1 c2 c3 c4 c5 hs1
    go_loopw [6, 8] (fun vo vi wr => ∃ i : Nat, i ≤ 4 ∧ vi = .int .i64 i ∧ vo = .string (outS ts i) ∧ Hid (Below (B + 1 + 1 + 1) W3 wr)) (fun _ vi _ => 4 - (intOf vi).toNat)
    case atStart => exact ⟨0, by omega, rfl, rfl, Lib.hid (Below.refl _ _)⟩
    case round =>
      obtain ⟨i, hi, rfl, rfl, Hb⟩ := hrel
      have hi2 : i < 4 ∨ i = 4 := by omega
      rcases hi2 with hlt | rfl
      · have hlti : (i : Int) < 4 := by omega
        have hil : i < ts.length := by rw [He.out.2.1]; exact hlt
        have hcell : wr.cell? ⟨B + 1 + 1, i, none⟩ = some (.string ts[i]) := by
          refine (Hb.out.cell (p := ⟨B + 1 + 1, i, none⟩) (by show B + 1 + 1 < _; omega)).trans ?_
          rw [cell_of_heap Hg.out.2.1 i]
          unfold strsV
          simp [hil]
        have hnx := Lib.hid (outS_succ ts i hil)
        have hosz := outS_size ts i
        have htsz : ts[i].size ≤ sizes ts := by
          exact sizes_mem _ (List.getElem_mem hil)
        rw [He.out.2.1] at hosz
        have hszs : sizes ts ≤ 1000000000 := by have := He.out.2.2.2; omega
        obtain ⟨out, hout⟩ : ∃ out, outS ts i = out := ⟨_, rfl⟩
        obtain ⟨t, ht⟩ : ∃ t, ts[i] = t := ⟨_, rfl⟩
        rw [hout] at hosz hnx ⊢
        rw [ht] at hcell hnx htsz
        have h8 := strOf_nbytes_size ((t.size : Nat) : Int)
        have Ca := fun d os => Calls.regrown_of (eight_walk t.size (Go.Sort.grow (redrawn wr d) os) (by omega))
        have kc := cell_regrown hcell
        clear hcell hil hout ht
        go_wp2_with fail
        refine wp_region_quiet_below (by kernel_rfl) (by kernel_rfl) ?_
        repeat (go_big_quiet_step (first | (with_reducible exact Ca _ _)))
        refine wpQuiet_nil ?_
        intro w5 hw'
        obtain ⟨⟨dq, osq⟩, hw5⟩ := hw'
        have HB := Lib.hid (Hb.out.trans (show Below (B + 1 + 1 + 1) wr w5 by rw [hw5]; exact (below_regrown wr dq osq).mono (Nat.le_trans (by have := Hsz.out.2.2; omega) Hb.out.size)))
        clear hw5 Ca kc
        go_wp2
        go_roundw
        case rel => exact ⟨i + 1, by omega, by go_num, by rw [← hnx.out], HB⟩
        case measure => simp [intOf]; omega
      · have Ho4 := Lib.hid (And.intro (Hg.out.2.2.1.below Hb.out (Nat.le_of_eq Hsz.out.2.2)) (Hg.out.2.2.2.2.trans (Hb.out.mono (by omega))))
        obtain ⟨out4, hout4⟩ : ∃ out, outS ts 4 = out := ⟨_, rfl⟩
        have Hout4 := Lib.hid hout4
        rw [hout4]
        clear hout4
        have c7 := (Hb.out.cell (p := ⟨B, 7, none⟩) (by show B < _; omega)).trans ((Hg.out.2.2.2.2.cell (p := ⟨B, 7, none⟩) (by show B < _; omega)).trans ((cell_of_heap Hg.out.1 7).trans rfl))
        go_wp2_with fail
        obtain ⟨w4, hw4⟩ : ∃ w4, wr = w4 := ⟨_, rfl⟩
        rw [hw4] at Ho4 c7 ⊢
        clear hw4 Hb
        go_loopw [5, 9] (fun vl vi wi => ∃ (i : Nat) (v : Value), i ≤ len ∧ vi = .int .i64 i ∧ v = vl ∧ Hid (Own1 3 (B + 1) wi v (iv (wzs op cf (L.take i))) ∧ Below (B + 1) W1 wi ∧ Below (B + 1) w4 wi)) (fun _ vi _ => len - (intOf vi).toNat)
        case atStart => exact ⟨0, _, by omega, rfl, rfl, Lib.hid ⟨Ho4.out.1, Ho4.out.2, Below.refl _ _⟩⟩
        case round =>
          obtain ⟨i, v, hi, rfl, hv, Hi⟩ := hrel
          subst hv
          have hi2 : i < len ∨ len = i := by omega
          have c7i := (Hi.out.2.2.cell (p := ⟨B, 7, none⟩) (by show B < _; omega)).trans c7
          rcases hi2 with hilt | rfl
          · have hilt2 : (i : Int) < len := by omega
            have hil : i < L.length := by rw [HL.out.2.1]; exact hilt
            have hv0 := HL.out.1
            rw [HW.out.2.2.2] at hv0
            have hBw := Hg.out.2.2.2.1.trans (Hi.out.2.1.mono (Nat.le_succ B))
            rcases hv0.below hBw with he | ⟨b, off, rfl, hbl, hcx⟩
            · exfalso
              rw [he] at hil; simp at hil
            obtain ⟨f0, f1, f2, f3, f4⟩ := VrR.at5 hcx (i := i) hil
            have hsn := wzs_snoc op cf L i hil
            have hzl := wzs_length op cf (L.take i)
            rw [List.length_take_of_le (Nat.le_of_lt hil)] at hzl
            obtain ⟨⟨x1, x2, x3, x4, x5⟩, hx⟩ : ∃ x, L[i]?.getD ver0 = x := ⟨_, rfl⟩
            rw [hx] at f0 f1 f2 f3 f4 hsn
            dsimp only at f0 f1 f2 f3 f4
            obtain ⟨Wv, hWv⟩ : ∃ Wv, wr.alloc (.cells #[.int .i64 x1, .int .i64 x2, .int .i64 x3, .int .i64 x4, .string x5] 50) = Wv := ⟨_, rfl⟩
            have gv : Wv.heap[wr.heap.size]? = some (.cells #[.int .i64 x1, .int .i64 x2, .int .i64 x3, .int .i64 x4, .string x5] 50 (0, 0)) := by rw [← hWv]; exact heap_alloc_new wr _
            have hszi : B + 1 ≤ wr.heap.size := Nat.le_trans (Nat.le_of_eq Hsz.out.1.symm) Hi.out.2.1.size
            have hbv : Below (B + 1) wr Wv := by rw [← hWv]; exact (Below.refl _ _).alloc hszi _
            have hov : Own1 3 (B + 1) Wv v (iv (wzs op cf (L.take i))) := by rw [← hWv]; exact Hi.out.1.alloc _
            have v0 := (cell_of_heap gv 0).trans rfl
            have v1 := (cell_of_heap gv 1).trans rfl
            have v2 := (cell_of_heap gv 2).trans rfl
            have v3 := (cell_of_heap gv 3).trans rfl
            have HV := Lib.hid (And.intro hov (And.intro hbv (And.intro hWv hsn)))
            have Hzl := Lib.hid (show (iv (wzs op cf (L.take i))).length = 2 + i * 4 by rw [iv_length, hzl])
            have hszv : B + 1 ≤ Wv.heap.size := Nat.le_trans hszi hbv.size
            have HS := Lib.hid (show Wv.heap.size = wr.heap.size + 1 by rw [← hWv]; simp)
            clear hcx hx hv0 hBw hsn hzl gv hbv hov hWv
            go_wp2_with (at_builtin; ((rw [HV.out.2.2.1]; refine append_built (w0 := Wv) 57 3 (.int .i64 0) 8 Tryd.underlying57 (by kernel_rfl) rfl 59 71 rfl rfl (B + 1) v (iv (wzs op cf (L.take i))) [.int .i64 x1, .int .i64 x2, .int .i64 x3, .int .i64 x4] 4 rfl (fun u hu => by simp at hu; rcases hu with rfl | rfl | rfl | rfl <;> rfl) rfl (congrArg (fun z => Value.slice (some ⟨z, 0, none⟩) 4 4) HS.out.symm) HV.out.1 (by rw [Hzl.out]; omega) (by rw [Hzl.out]; unfold maxLen; omega) hszv ?_)))
            intro v' w7 h1 h2
            have hbn : Below (B + 1) Wv w7 := ((Below.refl _ _).alloc hszv _).trans (World.grownBy.below h2 (Nat.le_trans hszv (by simp)) (fun k hk => (HV.out.1.lt k hk).1))
            have HN : Hid (Own1 3 (B + 1) w7 v' (iv (wzs op cf (L.take (i + 1)))) ∧ Below (B + 1) W1 w7 ∧ Below (B + 1) w4 w7) := Lib.hid ⟨by
              rw [HV.out.2.2.2, iv_append]
              exact h1, (Hi.out.2.1.trans HV.out.2.1).trans hbn, (Hi.out.2.2.trans HV.out.2.1).trans hbn⟩
            clear h1 h2 hbn f0 f1 f2 f3 f4 v0 v1 v2 v3 HS c7i
            go_wp2
            go_roundw
            case rel =>
              repeat apply Exists.intro
              exact ⟨⟨i + 1, _, by omega, by go_num, rfl, HN⟩, rfl⟩
            case measure => simp [intOf]; omega
          · have ho5 := Hi.out.1
            rw [← HL.out.2.1, List.take_length] at ho5
            have hn5 := wzs_length op cf L
            have hbad := wzs_neg fr dst kind key op cf sl L
            have hmem : ∀ z ∈ wzs op cf L, Int64 z := fun z hz => by
              unfold wzs at hz
              rcases List.mem_append.1 hz with h | h
              · simp at h
                rcases h with rfl | rfl
                · exact HL.out.2.2.op
                · exact HL.out.2.2.cf
              · obtain ⟨x, hx, hz⟩ := List.mem_flatMap.1 h
                obtain ⟨y1, y2, y3, y4, _⟩ := HL.out.2.2.L x hx
                unfold vints at hz
                simp at hz
                rcases hz with rfl | rfl | rfl | rfl <;> assumption
            obtain ⟨zs, hzs⟩ : ∃ zs, wzs op cf L = zs := ⟨_, rfl⟩
            rw [hzs] at ho5 hn5 hbad hmem
            rcases ho5.shape with ⟨_, he⟩ | ⟨g, cg, rfl, hg1, hg2, hg3, hg4, _, hgc⟩
            · exfalso
              have := congrArg List.length he
              rw [iv_length, hn5] at this
              simp at this
            rw [iv_length, hn5] at hg3 hgc
            rw [iv_length, hn5]
            obtain ⟨n, hn⟩ : ∃ n, 2 + L.length * 4 = n := ⟨_, rfl⟩
            rw [hn] at hg3 hgc hn5 ⊢
            have hn9 : n ≤ 4000002 := by rw [← hn]; rw [HL.out.2.1]; omega
            have Hz := Lib.hid (And.intro hbad (And.intro hn5 (And.intro hgc (And.intro hzs hmem))))
            obtain ⟨w5, hw5⟩ : ∃ w5, wr = w5 := ⟨_, rfl⟩
            rw [hw5] at Hi hg2 Hz c7i ⊢
            clear hw5 hbad hn5 hn hgc hzs ho5 hmem
            go_wp2_with fail
            go_loop [11] (fun vi => ∃ (j : Nat), j ≤ n ∧ vi = .int .i64 j ∧ Hid (neg (zs.take j) = false)) (fun vi => n - (intOf vi).toNat)
            case atStart => exact ⟨0, by omega, rfl, Lib.hid rfl⟩
            case round =>
              obtain ⟨j, hj, rfl, Hj⟩ := hrel
              have hj2 : j < n ∨ n = j := by omega
              rcases hj2 with hjlt | rfl
              · have hjlt2 : (j : Int) < n := by omega
                have hjl : j < zs.length := by rw [Hz.out.2.1]; exact hjlt
                have hcj : w5.cell? ⟨g, j, none⟩ = some (.int .i64 zs[j]) := by
                  rw [Hz.out.2.2.1 j hjlt]
                  unfold iv
                  simp [hjl]
                have Htk := Lib.hid (show neg (zs.take (j + 1)) = (neg (zs.take j) || decide (zs[j] < 0)) by
                  rw [List.take_succ_eq_append_getElem hjl, neg_append]; simp [neg])
                have Hmem := Lib.hid (show ∀ h : zs[j] < 0, neg zs = true from fun h => by unfold neg; rw [List.any_eq_true]; exact ⟨_, List.getElem_mem hjl, by simpa using h⟩)
                obtain ⟨z, hz⟩ : ∃ z, zs[j] = z := ⟨_, rfl⟩
                rw [hz] at hcj Htk Hmem
                clear hz hjl
                have hz2 : z < 0 ∨ ¬ z < 0 := by omega
                rcases hz2 with hz2 | hz2
                · go_wp2
                  go_ret2
                  refine ⟨?_, Hg.out.2.2.2.1.trans (Hi.out.2.1.mono (Nat.le_succ B))⟩
                  unfold wireR
                  rw [← Hz.out.1, Hmem.out hz2, if_pos rfl]
                  rfl
                · have HN : Hid (neg (zs.take (j + 1)) = false) := Lib.hid (by rw [Htk.out, Hj.out]; simpa using hz2)
                  clear Htk Hmem
                  go_wp2
                  go_round
                  case rel => exact ⟨j + 1, by omega, by go_num, HN⟩
                  case measure => simp [intOf]; omega
              · have hng := Hj.out
                rw [List.take_of_length_le (by rw [Hz.out.2.1]; exact Nat.le_refl _)] at hng
                have hpos := neg_all hng
                have Hng := Lib.hid hng
                have hzs := Hz.out.2.2.2.1
                obtain ⟨opn, rfl⟩ := Int.eq_ofNat_of_zero_le (hpos op (by rw [← hzs]; simp [wzs]))
                obtain ⟨cfn, rfl⟩ := Int.eq_ofNat_of_zero_le (hpos cf (by rw [← hzs]; simp [wzs]))
                have hop := HL.out.2.2.op
                have hcf := HL.out.2.2.cf
                unfold Int64 at hop hcf
                dsimp only at hop hcf
                have Hpos := Lib.hid (show ∀ x ∈ L, ∀ z ∈ vints x, 0 ≤ z from fun x hx z hz => hpos z (by rw [← hzs]; unfold wzs; exact List.mem_append.2 (.inr (List.mem_flatMap.2 ⟨x, hx, hz⟩))))
                clear hzs hpos hng
                have cw : ∀ o v, W1.cell? ⟨B, o, none⟩ = some v → w5.cell? ⟨B, o, none⟩ = some v := fun o v h => (Hi.out.2.1.cell (p := ⟨B, o, none⟩) (Nat.lt_succ_self B)).trans h
                have k4 := cell_regrown (cw 4 _ ((cell_of_heap Hg.out.1 4).trans rfl))
                have k5 := cell_regrown (cw 5 _ ((cell_of_heap Hg.out.1 5).trans rfl))
                have k7 := cell_regrown (cw 7 _ ((cell_of_heap Hg.out.1 7).trans rfl))
                have Ca := fun d os => Calls.regrown_of (eight_walk opn (Go.Sort.grow (redrawn w5 d) os) (by omega))
                have Cb := fun d os => Calls.regrown_of (eight_walk cfn (Go.Sort.grow (redrawn w5 d) os) (by omega))
                have Cc := fun d os => Calls.regrown_of (eight_walk k (Go.Sort.grow (redrawn w5 d) os) (by rcases Hk.out with h | h <;> omega))
                have Cd := fun d os => Calls.regrown_of (eight_walk len (Go.Sort.grow (redrawn w5 d) os) (by omega))
                have e1 := strOf_nbytes_size ((opn : Nat) : Int)
                have e2 := strOf_nbytes_size ((cfn : Nat) : Int)
                have e3 := strOf_nbytes_size ((k : Nat) : Int)
                have e4 := strOf_nbytes_size ((len : Nat) : Int)
                have hosz := outS_size ts 4
                rw [Hout4.out, He.out.2.1] at hosz
                have hszs : sizes ts ≤ 1000000000 := by have := He.out.2.2.2; omega
                have Hhd := Lib.hid (show out4 ++ strOf (nbytes ((opn : Nat) : Int)) ++ strOf (nbytes ((cfn : Nat) : Int)) ++ strOf (nbytes ((k : Nat) : Int)) ++ strOf (nbytes ((len : Nat) : Int)) = strOf (encH ⟨fr, dst, kind, key, opn, cfn, sl, L⟩) by
                  rw [← Hout4.out]
                  unfold outS
                  rw [List.take_of_length_le (by rw [He.out.2.1]; exact Nat.le_refl _), strOf_append, strOf_append, strOf_append, strOf_append]
                  unfold encH hints
                  dsimp only
                  rw [He.out.1, HL.out.2.1]
                  have ek : (if sl = true then (1 : Int) else 0) = (k : Int) := by rcases Hk.out with ⟨rfl, rfl⟩ | ⟨rfl, rfl⟩ <;> rfl
                  rw [ek]
                  simp)
                clear cw hop hcf
                go_wp2_with fail
                refine wp_region_quiet_below (by kernel_rfl) (by kernel_rfl) ?_
                repeat (go_big_quiet_step (first | (with_reducible exact Ca _ _) | (with_reducible exact Cb _ _) | (with_reducible exact Cc _ _) | (with_reducible exact Cd _ _)))
                refine wpQuiet_nil ?_
                intro w6 hw'
                obtain ⟨⟨dq, osq⟩, hw6⟩ := hw'
                have HB6 := Lib.hid (Hi.out.2.1.trans (show Below (B + 1) w5 w6 by rw [hw6]; exact (below_regrown w5 dq osq).mono (Nat.le_trans (Nat.le_of_eq Hsz.out.1.symm) Hi.out.2.1.size)))
                clear hw6 Ca Cb Cc Cd k4 k5 k7
                rw [Hhd.out]
                obtain ⟨hd, hhd⟩ : ∃ hd, encH ⟨fr, dst, kind, key, opn, cfn, sl, L⟩ = hd := ⟨_, rfl⟩
                have Hdd := Lib.hid hhd
                rw [hhd]
                clear hhd Hhd e1 e2 e3 e4 hosz
                go_wp2_with fail
                go_loopw [6, 12] (fun vo vi wr => ∃ (i : Nat), i ≤ len ∧ vi = .int .i64 i ∧ vo = .string (strOf (hd ++ (L.take i).flatMap vbytes)) ∧ Hid (Below (B + 1) W1 wr)) (fun _ vi _ => len - (intOf vi).toNat)
                case atStart => exact ⟨0, by omega, rfl, by simp, HB6⟩
                case round =>
                  obtain ⟨i, hi, rfl, rfl, Hr⟩ := hrel
                  have hi2 : i < len ∨ len = i := by omega
                  have cw : ∀ o v, W1.cell? ⟨B, o, none⟩ = some v → wr.cell? ⟨B, o, none⟩ = some v := fun o v h => (Hr.out.cell (p := ⟨B, o, none⟩) (Nat.lt_succ_self B)).trans h
                  have c7r := cw 7 _ ((cell_of_heap Hg.out.1 7).trans rfl)
                  clear cw
                  rcases hi2 with hilt | rfl
                  · have hilt2 : (i : Int) < len := by omega
                    have hil : i < L.length := by rw [HL.out.2.1]; exact hilt
                    have hv0 := HL.out.1
                    rw [HW.out.2.2.2] at hv0
                    rcases hv0.below (Hg.out.2.2.2.1.trans (Hr.out.mono (Nat.le_succ B))) with he | ⟨b, off, rfl, hbl, hcx⟩
                    · exfalso
                      rw [he] at hil; simp at hil
                    obtain ⟨f0, f1, f2, f3, f4⟩ := VrR.at5 hcx (i := i) hil
                    have hvi : L[i]?.getD ver0 ∈ L := by rw [List.getElem?_eq_getElem hil]; exact List.getElem_mem hil
                    have hpz := Hpos.out _ hvi
                    have hok := HL.out.2.2.L _ hvi
                    have htk : L.take (i + 1) = L.take i ++ [L[i]?.getD ver0] := by rw [List.take_succ_eq_append_getElem hil, List.getElem?_eq_getElem hil]; rfl
                    obtain ⟨⟨x1, x2, x3, x4, x5⟩, hx⟩ : ∃ x, L[i]?.getD ver0 = x := ⟨_, rfl⟩
                    rw [hx] at f0 f1 f2 f3 f4 hpz hok htk
                    dsimp only at f0 f1 f2 f3 f4
                    obtain ⟨o1, o2, o3, o4, _⟩ := hok
                    unfold vints at hpz
                    dsimp only at hpz o1 o2 o3 o4
                    obtain ⟨n1, rfl⟩ := Int.eq_ofNat_of_zero_le (hpz x1 (by simp))
                    obtain ⟨n2, rfl⟩ := Int.eq_ofNat_of_zero_le (hpz x2 (by simp))
                    obtain ⟨n3, rfl⟩ := Int.eq_ofNat_of_zero_le (hpz x3 (by simp))
                    obtain ⟨n4, rfl⟩ := Int.eq_ofNat_of_zero_le (hpz x4 (by simp))
                    unfold Int64 at o1 o2 o3 o4
                    have htot := flat_take_le L (i + 1)
                    have hszi : (strOf (hd ++ (L.take i).flatMap vbytes)).size + 40 + x5.size ≤ 1000000000 := by
                      rw [htk] at htot
                      simp only [List.flatMap_append, List.length_append, List.flatMap_cons, List.flatMap_nil, List.append_nil] at htot
                      have hvl : (vbytes (((n1 : Nat) : Int), ((n2 : Nat) : Int), ((n3 : Nat) : Int), ((n4 : Nat) : Int), x5)).length = 40 + x5.size := by unfold vbytes; rw [List.length_append, nbytes_flat, tbytes_length]; show 4 * 8 + (8 + x5.size) = 40 + x5.size; omega
                      rw [hvl] at htot
                      have h1 := He.out.2.2.1
                      have h2 := He.out.2.2.2
                      unfold encB at h1
                      rw [Hdd.out, List.length_append] at h1
                      dsimp only at h1
                      rw [strOf_size, List.length_append]
                      omega
                    have Hnx := Lib.hid (show strOf (hd ++ (L.take i).flatMap vbytes) ++ strOf (nbytes ((n1 : Nat) : Int)) ++ strOf (nbytes ((n2 : Nat) : Int)) ++ strOf (nbytes ((n3 : Nat) : Int)) ++ strOf (nbytes ((n4 : Nat) : Int)) ++ strOf (nbytes ((x5.size : Nat) : Int)) ++ x5 = strOf (hd ++ (L.take (i + 1)).flatMap vbytes) by
                      rw [htk]
                      have h5 : x5 = strOf (Sm.nats x5) := (strOf_nats' x5).symm
                      conv => lhs; rw [h5]
                      rw [strOf_append, strOf_append, strOf_append, strOf_append, strOf_append, strOf_append, strOf_nats']
                      simp [vbytes, vints, tbytes])
                    obtain ⟨out, hout⟩ : ∃ out, strOf (hd ++ (L.take i).flatMap vbytes) = out := ⟨_, rfl⟩
                    rw [hout] at hszi Hnx ⊢
                    have e1 := strOf_nbytes_size ((n1 : Nat) : Int)
                    have e2 := strOf_nbytes_size ((n2 : Nat) : Int)
                    have e3 := strOf_nbytes_size ((n3 : Nat) : Int)
                    have e4 := strOf_nbytes_size ((n4 : Nat) : Int)
                    have e5 := strOf_nbytes_size ((x5.size : Nat) : Int)
                    obtain ⟨Wv, hWv⟩ : ∃ Wv, wr.alloc (.cells #[.int .i64 n1, .int .i64 n2, .int .i64 n3, .int .i64 n4, .string x5] 50) = Wv := ⟨_, rfl⟩
                    have gv : Wv.heap[wr.heap.size]? = some (.cells #[.int .i64 n1, .int .i64 n2, .int .i64 n3, .int .i64 n4, .string x5] 50 (0, 0)) := by rw [← hWv]; exact heap_alloc_new wr _
                    have hszr : B + 1 ≤ wr.heap.size := Nat.le_trans (Nat.le_of_eq Hsz.out.1.symm) Hr.out.size
                    have hbv : Below (B + 1) wr Wv := by rw [← hWv]; exact (Below.refl _ _).alloc hszr _
                    have HV := Lib.hid (And.intro hWv (And.intro (Hr.out.trans hbv) (Nat.le_trans hszr hbv.size)))
                    have v0 := cell_regrown ((cell_of_heap gv 0).trans rfl)
                    have v1 := cell_regrown ((cell_of_heap gv 1).trans rfl)
                    have v2 := cell_regrown ((cell_of_heap gv 2).trans rfl)
                    have v3 := cell_regrown ((cell_of_heap gv 3).trans rfl)
                    have v4 := cell_regrown ((cell_of_heap gv 4).trans rfl)
                    have C1 := fun d os => Calls.regrown_of (eight_walk n1 (Go.Sort.grow (redrawn Wv d) os) (by omega))
                    have C2 := fun d os => Calls.regrown_of (eight_walk n2 (Go.Sort.grow (redrawn Wv d) os) (by omega))
                    have C3 := fun d os => Calls.regrown_of (eight_walk n3 (Go.Sort.grow (redrawn Wv d) os) (by omega))
                    have C4 := fun d os => Calls.regrown_of (eight_walk n4 (Go.Sort.grow (redrawn Wv d) os) (by omega))
                    have C5 := fun d os => Calls.regrown_of (eight_walk x5.size (Go.Sort.grow (redrawn Wv d) os) (by omega))
                    clear hcx hx hv0 hbl hpz htk htot hout hvi hil gv hbv hWv hszr o1 o2 o3 o4
                    go_wp2_with fail
                    rw [HV.out.1]
                    refine wp_region_quiet_below (by kernel_rfl) (by kernel_rfl) ?_
                    repeat (go_big_quiet_step (first | (with_reducible exact C1 _ _) | (with_reducible exact C2 _ _) | (with_reducible exact C3 _ _) | (with_reducible exact C4 _ _) | (with_reducible exact C5 _ _)))
                    refine wpQuiet_nil ?_
                    intro w7 hw'
                    obtain ⟨⟨dq, osq⟩, hw7⟩ := hw'
                    have HB7 := Lib.hid (HV.out.2.1.trans (show Below (B + 1) Wv w7 by rw [hw7]; exact (below_regrown Wv dq osq).mono HV.out.2.2))
                    clear hw7 C1 C2 C3 C4 C5 v0 v1 v2 v3 v4 e1 e2 e3 e4 e5 f0 f1 f2 f3 f4 c7r
                    rw [Hnx.out]
                    go_wp2
                    go_roundw
                    case rel =>
                      first
                      | exact ⟨i + 1, by omega, by go_num, rfl, HB7⟩
                      | (repeat apply Exists.intro); exact ⟨⟨i + 1, by omega, by go_num, rfl, HB7⟩, rfl⟩
                    case measure => simp [intOf]; omega
                  · have hfull : hd ++ (L.take len).flatMap vbytes = encB ⟨fr, dst, kind, key, opn, cfn, sl, L⟩ := by
                      rw [← Hdd.out, ← HL.out.2.1, List.take_length]; rfl
                    rw [hfull]
                    clear hfull
                    have hend : wireR ⟨fr, dst, kind, key, opn, cfn, sl, L⟩ = if 3996 < (encB ⟨fr, dst, kind, key, opn, cfn, sl, L⟩).length then .returned (.tuple #[.string ⟨#[]⟩, .int .i64 7]) else .returned (.tuple #[.string (strOf (encB ⟨fr, dst, kind, key, opn, cfn, sl, L⟩) ++ fourS (Sm.crc (Sm.nats (strOf (encB ⟨fr, dst, kind, key, opn, cfn, sl, L⟩))))), .int .i64 0]) := by
                      unfold wireR
                      rw [← Hz.out.1, Hng.out, if_neg (by decide)]
                      rfl
                    have hsz := strOf_size (encB ⟨fr, dst, kind, key, opn, cfn, sl, L⟩)
                    have hle : (encB ⟨fr, dst, kind, key, opn, cfn, sl, L⟩).length ≤ 1000000000 := by rw [He.out.2.2.1]; exact He.out.2.2.2
                    rw [← hsz] at hend hle
                    obtain ⟨s, hs⟩ : ∃ s, strOf (encB ⟨fr, dst, kind, key, opn, cfn, sl, L⟩) = s := ⟨_, rfl⟩
                    rw [hs] at hend hle ⊢
                    have HF := Lib.hid (And.intro hend (show Below w.heap.size w wr by rw [HW.out.2.2.2]; exact Hg.out.2.2.2.1.trans (Hr.out.mono (Nat.le_succ B))))
                    clear hs hsz hend
                    have hn4 : 3996 < s.size ∨ ¬ 3996 < s.size := by omega
                    rcases hn4 with hn4 | hn4
                    · have hn5 : (3996 : Int) < s.size := by omega
                      go_wp2
                      go_ret2
                      refine ⟨?_, HF.out.2⟩
                      rw [HF.out.1, if_pos hn4]
                      rfl
                    · have hn5 : ¬ (3996 : Int) < s.size := by omega
                      have Hc := Lib.hid (rcrc_walk s wr (by unfold maxLen; omega))
                      have hcl := crc_lt s
                      obtain ⟨c, hc⟩ : ∃ c, Sm.crc (Sm.nats s) = c := ⟨_, rfl⟩
                      rw [hc] at HF Hc hcl
                      have Hf := Lib.hid (rfour_walk c wr hcl)
                      clear hc
                      go_wp2_with fail
                      refine Hc.out.mono ?_
                      rintro e w8 ⟨rfl, rfl⟩
                      go_wp2_with fail
                      refine Hf.out.mono ?_
                      rintro e w9 ⟨rfl, hb9⟩
                      have h4 : (⟨(fourL c).toArray⟩ : ByteArray).size ≤ 4 := Nat.le_refl 4
                      have H9 := Lib.hid (HF.out.2.trans (hb9.mono HF.out.2.size))
                      have hfs : fourS c = ⟨(fourL c).toArray⟩ := rfl
                      rw [hfs] at HF
                      obtain ⟨f, hf⟩ : ∃ f, (⟨(fourL c).toArray⟩ : ByteArray) = f := ⟨_, rfl⟩
                      rw [hf] at h4 HF ⊢
                      clear hf hfs hb9
                      go_wp2
                      go_ret2
                      refine ⟨?_, H9.out⟩
                      rw [HF.out.1, if_neg hn4]
                      rfl
end
end Go.Proofs.YtgcnohejmofhkaaDoor
