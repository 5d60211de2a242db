/- The walk of Encode. -/
import Derived.Test.YtgcnohejmofhkaaDoorWrB
import Derived.Test.YtgcnohejmofhkaaDoorSvW
namespace Go.Proofs.YtgcnohejmofhkaaDoor
section
open Go.RowKit

def vints (x : Ver) : List Int := [x.1, x.2.1, x.2.2.1, x.2.2.2.1]
def vbytes (x : Ver) : List Nat := (vints x).flatMap nbytes ++ tbytes x.2.2.2.2
def hints (m : Msg) : List Int := [m.op, m.cf, if m.sl then 1 else 0, (m.L.length : Int)]
def vneg (L : List Ver) : Bool := L.any fun x => neg (vints x)
def encH (m : Msg) : List Nat := [m.fr, m.dst, m.kind, m.key].flatMap tbytes ++ (hints m).flatMap nbytes
def encB (m : Msg) : List Nat := encH m ++ m.L.flatMap vbytes
def encBad (m : Msg) : Bool := neg (hints m) || vneg m.L
def strOf (l : List Nat) : ByteArray := ⟨(l.map UInt8.ofNat).toArray⟩
theorem nbyte_lt (n : Int) (k : Nat) : nbyte n k < 256 := by
  unfold nbyte
  have h1 := Int.emod_lt_of_pos (n / 2 ^ (8 * k)) (show (0 : Int) < 256 by decide)
  have h2 := Int.emod_nonneg (n / 2 ^ (8 * k)) (show (256 : Int) ≠ 0 by decide)
  omega
theorem nbytes_lt (n : Int) : ∀ x ∈ nbytes n, x < 256 := fun x hx => by
  unfold nbytes at hx
  simp at hx
  rcases hx with rfl | rfl | rfl | rfl | rfl | rfl | rfl | rfl <;> exact nbyte_lt _ _
theorem nats_lt' (s : ByteArray) : ∀ x ∈ Sm.nats s, x < 256 := fun x hx => by
  unfold Sm.nats at hx
  obtain ⟨b, _, rfl⟩ := List.mem_map.1 hx
  exact b.toNat_lt
theorem tbytes_lt (t : ByteArray) : ∀ x ∈ tbytes t, x < 256 := fun x hx => by
  rcases List.mem_append.1 hx with h | h
  · exact nbytes_lt _ x h
  · exact nats_lt' _ x h
theorem flat_lt {α : Type} {f : α → List Nat} (h : ∀ a, ∀ x ∈ f a, x < 256) (l : List α) : ∀ x ∈ l.flatMap f, x < 256 := fun x hx => by
  obtain ⟨a, _, ha⟩ := List.mem_flatMap.1 hx
  exact h a x ha
theorem encB_lt (m : Msg) : ∀ x ∈ encB m, x < 256 := fun x hx => by
  rcases List.mem_append.1 hx with h | h
  · rcases List.mem_append.1 h with h | h
    · exact flat_lt tbytes_lt _ x h
    · exact flat_lt nbytes_lt _ x h
  · refine flat_lt (fun a y hy => ?_) _ x h
    rcases List.mem_append.1 hy with h | h
    · exact flat_lt nbytes_lt _ y h
    · exact tbytes_lt _ y h
theorem flat_take_le (L : List Ver) (i : Nat) : ((L.take i).flatMap vbytes).length ≤ (L.flatMap vbytes).length := by
  have e : L.flatMap vbytes = (L.take i).flatMap vbytes ++ (L.drop i).flatMap vbytes := by rw [← List.flatMap_append, List.take_append_drop]
  rw [e, List.length_append]
  omega
/-- string(b). -/
theorem conv_own {B : Nat} {w : World} {v : Value} {l : List Nat} (h : OwnB B w v l) (hl : l ≠ []) (hb : ∀ x ∈ l, x < 256) : (convert 52 9 v).run Tryd.prog w = .ok (.string (strOf l)) w := by
  obtain ⟨a, cap, rfl, _, _, hr⟩ := OwnB.row h
  rcases hr with e | ⟨b, off, rfl, _, hc⟩
  · exact absurd e hl
  · have h9 := run_convert_bytes_back (P := Tryd.prog) w 52 9 5 ⟨b, off, none⟩ cap (l.map UInt8.ofNat) Tryd.underlying52 Tryd.underlying5 Tryd.underlying9 (fun j hj => by
      have hj2 : j < l.length := by simpa using hj
      have e : l[j]?.getD 0 = l[j] := by simp [hj2]
      rw [Addr.add_lit, hc j hj2, e, List.getElem_map, UInt8.toNat_ofNat_of_lt' (hb _ (List.getElem_mem hj2))])
    rw [List.length_map] at h9
    exact h9
/-- what Encode hands back. -/
def encE (E : Nat → Addr) (m : Msg) : Ending :=
  if encBad m = true then .returned (.tuple #[.string ⟨#[]⟩, errV (E 1)])
  else if 3996 < (encB m).length then .returned (.tuple #[.string ⟨#[]⟩, errV (E 6)])
  else .returned (.tuple #[.string (strOf (encB m) ++ fourS (Sm.crc (Sm.nats (strOf (encB m))))), .nilIface])
set_option maxRecDepth 100000 in
set_option maxHeartbeats 16000000 in
theorem encode_walk (w : World) (fr dst kind key : ByteArray) (op cf : Int) (sl : Bool) (a : Option Addr) (len cap : Nat) (L : List Ver) (E : Nat → Addr) (hE : ErrEnv w E) (hlen : L.length = len) (hl : len ≤ 1000000) (hL : VrR w.heap.size w a L) (hs : (encB ⟨fr, dst, kind, key, op, cf, sl, L⟩).length ≤ 1000000000) :
    Calls Tryd.prog 7 #[.agg #[.string fr, .string dst, .string kind, .string key, .int .i64 op, .int .i64 cf, .bool sl, .slice a len cap]] w fun e w' => e = encE E ⟨fr, dst, kind, key, op, cf, sl, L⟩ ∧ Below w.heap.size w w' := by
  obtain ⟨B, hBw⟩ : ∃ B, w.heap.size = B := ⟨_, rfl⟩
  obtain ⟨W1, hW1⟩ : ∃ W1, w.alloc (.cells #[.string fr, .string dst, .string kind, .string key, .int .i64 op, .int .i64 cf, .bool sl, .slice a len cap] 31) = W1 := ⟨_, rfl⟩
  obtain ⟨W2, hW2⟩ : ∃ W2, W1.alloc (.cells #[.slice none 0 0, .nilIface] 54) = W2 := ⟨_, rfl⟩
  obtain ⟨W3, hW3⟩ : ∃ W3, W2.alloc (.cells #[.string fr, .string dst, .string kind, .string key] 9) = W3 := ⟨_, rfl⟩
  have hs1 : W1.heap.size = B + 1 := by rw [← hW1, ← hBw]; simp
  have hs2 : W2.heap.size = B + 1 + 1 := by rw [← hW2]; simp [hs1]
  have hs3 : W3.heap.size = B + 1 + 1 + 1 := by rw [← hW3]; simp [hs2]
  have hb1 : Below B w W1 := by rw [← hW1]; exact (Below.refl _ _).alloc (by omega) _
  have hb2 : Below B W1 W2 := by rw [← hW2]; exact (Below.refl _ _).alloc (by omega) _
  have hb3 : Below B W2 W3 := by rw [← hW3]; exact (Below.refl _ _).alloc (by omega) _
  have hB13 : Below B w W3 := (hb1.trans hb2).trans hb3
  have gm1 : W1.heap[B]? = some (.cells #[.string fr, .string dst, .string kind, .string key, .int .i64 op, .int .i64 cf, .bool sl, .slice a len cap] 31 (0, 0)) := by rw [← hW1, ← hBw]; exact heap_alloc_new w _
  have gm3 : W3.heap[B]? = some (.cells #[.string fr, .string dst, .string kind, .string key, .int .i64 op, .int .i64 cf, .bool sl, .slice a len cap] 31 (0, 0)) := by
    rw [← hW3, Below.heap_alloc _ _ _ (by omega), ← hW2, Below.heap_alloc _ _ _ (by omega)]
    exact gm1
  have gp3 : W3.heap[B + 1]? = some (.cells #[.slice none 0 0, .nilIface] 54 (0, 0)) := by
    rw [← hW3, Below.heap_alloc _ _ _ (by omega), ← hW2, ← hs1]
    exact heap_alloc_new W1 _
  have gs3 : W3.heap[B + 1 + 1]? = some (.cells (strsV [fr, dst, kind, key]) 9 (0, 0)) := by
    rw [← hW3, ← hs2]
    exact heap_alloc_new W2 _
  have hP3 : PenAt B W3 (B + 1) [] (badV (errV (E 1)) false) := ⟨by omega, _, gp3, OwnB.nil _ _⟩
  have gE : 2 < B := by rw [← hBw]; exact lt_of_cell hE.c1
  have gF : 0 < B := by rw [← hBw]; exact lt_of_cell hE.c6
  have cE : ∀ W, Below B w W → W.cell? ⟨2, 0, none⟩ = some (errV (E 1)) := fun W hb => (hb.cell (p := ⟨2, 0, none⟩) gE).trans hE.c1
  have cF : ∀ W, Below B w W → W.cell? ⟨0, 0, none⟩ = some (errV (E 6)) := fun W hb => (hb.cell (p := ⟨0, 0, none⟩) gF).trans hE.c6
  have hencH : encH ⟨fr, dst, kind, key, op, cf, sl, L⟩ = [fr, dst, kind, key].flatMap tbytes ++ (hints ⟨fr, dst, kind, key, op, cf, sl, L⟩).flatMap nbytes := rfl
  have hencB : encB ⟨fr, dst, kind, key, op, cf, sl, L⟩ = encH ⟨fr, dst, kind, key, op, cf, sl, L⟩ ++ L.flatMap vbytes := rfl
  have hbad : encBad ⟨fr, dst, kind, key, op, cf, sl, L⟩ = (neg (hints ⟨fr, dst, kind, key, op, cf, sl, L⟩) || vneg L) := rfl
  obtain ⟨T4, hT4⟩ : ∃ T, [fr, dst, kind, key].flatMap tbytes = T := ⟨_, rfl⟩
  have hT4l : T4.length = 4 * 8 + sizes [fr, dst, kind, key] := by rw [← hT4, texts_length]; rfl
  rw [hT4] at hencH
  have hHl : (encH ⟨fr, dst, kind, key, op, cf, sl, L⟩).length = T4.length + 32 := by rw [hencH, List.length_append, nbytes_flat]; rfl
  have hBl : (encB ⟨fr, dst, kind, key, op, cf, sl, L⟩).length = T4.length + 32 + (L.flatMap vbytes).length := by rw [hencB, List.length_append, hHl]
  rw [hBl] at hs
  have Htx := Lib.hid (texts_walk B W3 (B + 1) [] false (E 1) (B + 1 + 1) 4 4 [fr, dst, kind, key] hP3 (by omega) (cE W3 hB13) gE rfl (by decide) (by simp; omega) gs3 (by omega))
  rw [hT4, List.nil_append] at Htx
  have Hg := Lib.hid (And.intro hB13 (And.intro gm3 (And.intro cE (And.intro cF (And.intro gE (And.intro hs3 hs))))))
  have He := Lib.hid (And.intro hencH (And.intro hencB (And.intro hbad (And.intro hBl (encB_lt ⟨fr, dst, kind, key, op, cf, sl, L⟩)))))
  have HL := Lib.hid (And.intro hL (And.intro hlen hBw))
  have HW := Lib.hid (And.intro hW1 (And.intro hW2 (And.intro hW3 hBw)))
  clear hb1 hb2 hb3 hB13 gm1 gm3 gp3 gs3 hP3 gE gF cE cF hencH hencB hbad hT4 hHl hBl hs hL hlen hE hs1 hs2 hs3 hW1 hW2 hW3 hT4l
  have hl9 : (len : Int) ≤ 9223372036854775807 := by omega
  go_enter Tryd.func7, Tryd.ntmps7
  go_wp2_with fail
  rw [HW.out.1, HW.out.2.1, HW.out.2.2.1]
  refine Htx.out.mono ?_
  rintro e w4 ⟨rfl, hP4, hk4⟩
  have gm4 := hk4.heap Hg.out.2.1 (by omega) (by decide)
  have c6 := cell_of_heap gm4 6
  have c4 := cell_of_heap gm4 4
  have c5 := cell_of_heap gm4 5
  have c7 := cell_of_heap gm4 7
  have H4 := Lib.hid (And.intro hP4 (And.intro hk4 gm4))
  clear hP4 hk4 gm4 Htx
  have Hsz4 : Hid (B ≤ w4.heap.size) := Lib.hid (Nat.le_trans (by have := Hg.out.2.2.2.2.2.1; omega) H4.out.2.1.below.size)
  cases sl with
  | true =>
    have hzs : hints ⟨fr, dst, kind, key, op, cf, true, L⟩ = [op, cf, 1, (len : Int)] := by unfold hints; rw [HL.out.2.1]; rfl
    have Hn5 := Lib.hid (numbers_walk B (w4.alloc (.cells #[.int .i64 op, .int .i64 cf, .int .i64 1, .int .i64 (len : Nat)] 3)) (B + 1) T4 false (E 1) w4.heap.size 4 4 [op, cf, 1, (len : Int)] (H4.out.1.below ((Below.refl _ _).alloc (Nat.le_refl _) _) (Nat.le_refl _)) (Nat.le_trans Hsz4.out (by simp)) (Hg.out.2.2.1 _ ((Hg.out.1.trans H4.out.2.1.below).trans ((Below.refl _ _).alloc Hsz4.out _))) Hg.out.2.2.2.2.1 rfl (by decide) (by have := Hg.out.2.2.2.2.2.2; omega) (heap_alloc_new w4 _) (by have := H4.out.1.lt; omega))
    rw [Bool.false_or, ← hzs, ← He.out.1] at Hn5
    have Hzs := Lib.hid hzs
    clear hzs
    obtain ⟨eh, heh⟩ : ∃ eh, encH ⟨fr, dst, kind, key, op, cf, true, L⟩ = eh := ⟨_, rfl⟩
    obtain ⟨nh, hnh⟩ : ∃ nh, neg (hints ⟨fr, dst, kind, key, op, cf, true, L⟩) = nh := ⟨_, rfl⟩
    have Heh := Lib.hid (And.intro heh hnh)
    rw [heh, hnh] at Hn5
    clear heh hnh
    go_wp2_with fail
    refine Hn5.out.mono ?_
    rintro e w5 ⟨rfl, hP5, hk5⟩
    have gm5 := ((PenK.alloc (pb := B + 1) Hsz4.out _).trans hk5).heap H4.out.2.2 (by omega) (by decide)
    have c7 := cell_of_heap gm5 7
    have H5 := Lib.hid (And.intro hP5 ((H4.out.2.1.trans (PenK.alloc Hsz4.out _)).trans hk5))
    clear hP5 hk5 gm5 Hn5
    go_wp2
    go_loopw [37] (fun vi wr => ∃ (i : Nat), i ≤ len ∧ vi = .int .i64 i ∧ Hid (PenAt B wr (B + 1) (eh ++ (L.take i).flatMap vbytes) (badV (errV (E 1)) (nh || vneg (L.take i))) ∧ PenK B (B + 1) W3 wr)) (fun vi _ => len - (intOf vi).toNat)
    case atStart => exact ⟨0, by omega, rfl, Lib.hid ⟨by simpa [vneg] using H5.out.1, H5.out.2⟩⟩
    case round =>
      obtain ⟨i, hi, rfl, Hr⟩ := hrel
      have hi2 : i < len ∨ i = len := by omega
      rcases hi2 with hilt | rfl
      · have hilt2 : (i : Int) < len := by omega
        have hil : i < L.length := by rw [HL.out.2.1]; exact hilt
        have hBr : Below B w wr := Hg.out.1.trans Hr.out.2.below
        have hv0 := HL.out.1
        rw [HL.out.2.2] at hv0
        rcases hv0.below hBr with he | ⟨b, off, rfl, hbl, hcx⟩
        · exfalso
          rw [he] at hil; simp at hil
        obtain ⟨f0, f1, f2, f3, f4⟩ := VrR.at5 hcx (i := i) hil
        obtain ⟨⟨x1, x2, x3, x4, x5⟩, hx⟩ : ∃ x, L[i]?.getD ver0 = x := ⟨_, rfl⟩
        rw [hx] at f0 f1 f2 f3 f4
        dsimp only at f0 f1 f2 f3 f4
        have etk : L.take (i + 1) = L.take i ++ [(x1, x2, x3, x4, x5)] := by rw [List.take_succ_eq_append_getElem hil, ← hx, List.getElem?_eq_getElem hil]; rfl
        have hst1 : (L.take (i + 1)).flatMap vbytes = (L.take i).flatMap vbytes ++ vbytes (x1, x2, x3, x4, x5) := by rw [etk]; simp
        have hst2 : vneg (L.take (i + 1)) = (vneg (L.take i) || neg [x1, x2, x3, x4]) := by rw [etk]; simp [vneg, vints]
        have hvl : (vbytes (x1, x2, x3, x4, x5)).length = 40 + x5.size := by unfold vbytes; rw [List.length_append, nbytes_flat, tbytes_length]; show 4 * 8 + (8 + x5.size) = 40 + x5.size; omega
        have htot := flat_take_le L (i + 1)
        rw [hst1, List.length_append, hvl] at htot
        have hszr : B ≤ wr.heap.size := Nat.le_trans (show B ≤ W3.heap.size by have := Hg.out.2.2.2.2.2.1; omega) Hr.out.2.below.size
        obtain ⟨D, hD⟩ : ∃ D, eh ++ (L.take i).flatMap vbytes = D := ⟨_, rfl⟩
        obtain ⟨bd, hbd⟩ : ∃ bd, (nh || vneg (L.take i)) = bd := ⟨_, rfl⟩
        have hDl : D.length + 40 + x5.size ≤ 2000000000 := by
          have h1 := Hg.out.2.2.2.2.2.2
          have h2 := He.out.2.2.2.1
          rw [He.out.2.1, List.length_append, Heh.out.1] at h2
          rw [← hD, List.length_append]
          omega
        have hP := Hr.out.1
        rw [hD, hbd] at hP
        obtain ⟨Wv, hWv⟩ : ∃ Wv, wr.alloc (.cells #[.int .i64 x1, .int .i64 x2, .int .i64 x3, .int .i64 x4, .string x5] 50) = Wv := ⟨_, rfl⟩
        have hsv : Wv.heap.size = wr.heap.size + 1 := by rw [← hWv]; simp
        have gv : Wv.heap[wr.heap.size]? = some (.cells #[.int .i64 x1, .int .i64 x2, .int .i64 x3, .int .i64 x4, .string x5] 50 (0, 0)) := by rw [← hWv]; exact heap_alloc_new wr _
        have hkv : PenK B (B + 1) wr Wv := by rw [← hWv]; exact PenK.alloc hszr _
        have hPv := hP.below (n := wr.heap.size) (w' := Wv) (by rw [← hWv]; exact (Below.refl _ _).alloc (Nat.le_refl _) _) (Nat.le_refl _)
        have hBv : B ≤ Wv.heap.size := by omega
        have hltp := hPv.lt
        have Hnum := Lib.hid (numbers_walk B (Wv.alloc (.cells #[.int .i64 x1, .int .i64 x2, .int .i64 x3, .int .i64 x4] 3)) (B + 1) D bd (E 1) Wv.heap.size 4 4 [x1, x2, x3, x4] (hPv.below ((Below.refl _ _).alloc (Nat.le_refl _) _) (Nat.le_refl _)) (Nat.le_trans hBv (by simp)) (Hg.out.2.2.1 _ ((hBr.trans hkv.below).trans ((Below.refl _ _).alloc hBv _))) Hg.out.2.2.2.2.1 rfl (by decide) (by omega) (heap_alloc_new Wv _) (by omega))
        have v0 := cell_of_heap gv 0
        have v1 := cell_of_heap gv 1
        have v2 := cell_of_heap gv 2
        have v3 := cell_of_heap gv 3
        have HR := Lib.hid (And.intro hst1 (And.intro hst2 (And.intro hDl (And.intro hD (And.intro hbd (And.intro hszr (And.intro hkv (And.intro gv (And.intro hBv (And.intro hWv hPv.lt))))))))))
        clear hcx hx etk hst1 hst2 hvl htot hDl hD hbd hP hPv hkv gv hBv hsv hszr hv0 hbl hltp
        go_wp2_with fail
        refine Hnum.out.mono ?_
        rintro e w6 ⟨rfl, hP6, hk6⟩
        have hk6' := (PenK.alloc (pb := B + 1) HR.out.2.2.2.2.2.2.2.2.1 _).trans hk6
        have gv6 := hk6'.heap HR.out.2.2.2.2.2.2.2.1 (by have := Hr.out.1.lt; omega) (by decide)
        have q4 := cell_of_heap gv6 4
        have hB6 : B ≤ w6.heap.size := Nat.le_trans HR.out.2.2.2.2.2.2.2.2.1 hk6'.below.size
        have hlt6 := hP6.lt
        have Htx6 := Lib.hid (texts_walk B (w6.alloc (.cells #[.string x5] 9)) (B + 1) (D ++ [x1, x2, x3, x4].flatMap nbytes) (bd || neg [x1, x2, x3, x4]) (E 1) w6.heap.size 1 1 [x5] (hP6.below ((Below.refl _ _).alloc (Nat.le_refl _) _) (Nat.le_refl _)) (Nat.le_trans hB6 (by simp)) (Hg.out.2.2.1 _ (((hBr.trans HR.out.2.2.2.2.2.2.1.below).trans hk6'.below).trans ((Below.refl _ _).alloc hB6 _))) Hg.out.2.2.2.2.1 rfl (by decide) (by have := HR.out.2.2.1; rw [List.length_append, nbytes_flat]; show D.length + 4 * 8 + 1 * 8 + (x5.size + 0) ≤ _; omega) (heap_alloc_new w6 _) (by omega))
        have H6 := Lib.hid (And.intro ((Hr.out.2.trans HR.out.2.2.2.2.2.2.1).trans hk6') hB6)
        clear hP6 hk6 hk6' gv6 hB6 hlt6 Hnum v0 v1 v2 v3
        go_wp2_with fail
        refine Htx6.out.mono ?_
        rintro e w7 ⟨rfl, hP7, hk7⟩
        have HN : Hid (PenAt B w7 (B + 1) (eh ++ (L.take (i + 1)).flatMap vbytes) (badV (errV (E 1)) (nh || vneg (L.take (i + 1)))) ∧ PenK B (B + 1) W3 w7) := Lib.hid ⟨by
          rw [HR.out.1, ← List.append_assoc, HR.out.2.2.2.1, HR.out.2.1, ← Bool.or_assoc, HR.out.2.2.2.2.1]
          unfold vbytes
          rw [← List.append_assoc]
          have e9 : [x5].flatMap tbytes = tbytes x5 := by simp
          rw [e9] at hP7
          exact hP7, (H6.out.1.trans (PenK.alloc H6.out.2 _)).trans hk7⟩
        clear hP7 hk7 Htx6 f0 f1 f2 f3 f4
        go_wp2
        go_roundw
        case rel => exact ⟨i + 1, by omega, by go_num, HN⟩
        case measure => simp [intOf]; omega
      · have hP := Hr.out.1
        rw [← HL.out.2.1, List.take_length, ← Heh.out.1, ← Heh.out.2, ← He.out.2.1, ← He.out.2.2.1] at hP
        have hlt9 := He.out.2.2.2.2
        have hBf : Below B w wr := Hg.out.1.trans Hr.out.2.below
        have hne : encB ⟨fr, dst, kind, key, op, cf, true, L⟩ ≠ [] := fun e => by
          have h1 := He.out.2.2.2.1
          rw [e] at h1
          have h2 : ([] : List Nat).length = 0 := rfl
          omega
        have hlen9 : (encB ⟨fr, dst, kind, key, op, cf, true, L⟩).length ≤ 1000000000 := by rw [He.out.2.2.2.1]; exact Hg.out.2.2.2.2.2.2
        have hend : encE E ⟨fr, dst, kind, key, op, cf, true, L⟩ = if encBad ⟨fr, dst, kind, key, op, cf, true, L⟩ = true then .returned (.tuple #[.string ⟨#[]⟩, errV (E 1)]) else if 3996 < (encB ⟨fr, dst, kind, key, op, cf, true, L⟩).length then .returned (.tuple #[.string ⟨#[]⟩, errV (E 6)]) else .returned (.tuple #[.string (strOf (encB ⟨fr, dst, kind, key, op, cf, true, L⟩) ++ fourS (Sm.crc (Sm.nats (strOf (encB ⟨fr, dst, kind, key, op, cf, true, L⟩))))), .nilIface]) := rfl
        obtain ⟨bs, hbs⟩ : ∃ bs, encB ⟨fr, dst, kind, key, op, cf, true, L⟩ = bs := ⟨_, rfl⟩
        obtain ⟨bb, hbb⟩ : ∃ bb, encBad ⟨fr, dst, kind, key, op, cf, true, L⟩ = bb := ⟨_, rfl⟩
        rw [hbs, hbb] at hend hP
        rw [hbs] at hlt9 hne hlen9
        obtain ⟨v, p0, p1, _, _, pg, po⟩ := hP.parts
        have hconv := conv_own po hne hlt9
        have hcF := Hg.out.2.2.2.1 wr hBf
        obtain ⟨n9, hn9⟩ : ∃ n9, bs.length = n9 := ⟨_, rfl⟩
        obtain ⟨a9, c9, rfl, _⟩ := po.row
        rw [hn9] at hend hlen9 hconv p0
        have hssz : (strOf bs).size = n9 := by rw [← hn9]; unfold strOf; simp [ByteArray.size]
        have HF := Lib.hid (And.intro hend (And.intro hBf (And.intro hssz hlen9)))
        clear hbs hbb hend hBf hssz hP pg po hne hlt9 hn9 Hr
        cases bb with
        | true =>
          unfold badV at p1
          rw [if_pos rfl] at p1
          go_wp2
          go_quiet (fail)
          go_wp2
          go_ret2
          rw [HF.out.1.trans (if_pos trivial), HL.out.2.2]
          exact ⟨rfl, HF.out.2.1.trans ⟨rfl, rfl, rfl, Nat.le_refl _, fun _ _ => rfl⟩⟩
        | false =>
          unfold badV at p1
          rw [if_neg (by decide)] at p1
          have hn4 : 3996 < n9 ∨ ¬ 3996 < n9 := by omega
          rcases hn4 with hn4 | hn4
          · have hn5 : (3996 : Int) < n9 := by omega
            go_wp2
            go_quiet (fail)
            go_wp2
            go_ret2
            rw [HF.out.1, if_neg (by decide), if_pos hn4, HL.out.2.2]
            exact ⟨rfl, HF.out.2.1.trans ⟨rfl, rfl, rfl, Nat.le_refl _, fun _ _ => rfl⟩⟩
          · have hn5 : ¬ (3996 : Int) < n9 := by omega
            have Hs := Lib.hid (seal_walk (strOf bs) wr (by rw [HF.out.2.2.1]; omega))
            go_wp2_with fail
            refine Hs.out.mono ?_
            rintro e w8 ⟨rfl, hb8⟩
            have H8 := Lib.hid hb8
            clear hb8
            go_wp2
            go_ret2
            rw [HF.out.1, if_neg (by decide), if_neg hn4, HL.out.2.2]
            exact ⟨rfl, HF.out.2.1.trans (H8.out.mono (by have h5 := HF.out.2.1.size; rw [HL.out.2.2] at h5; exact h5))⟩
  | false =>
    have hzs : hints ⟨fr, dst, kind, key, op, cf, false, L⟩ = [op, cf, 0, (len : Int)] := by unfold hints; rw [HL.out.2.1]; rfl
    have Hn5 := Lib.hid (numbers_walk B (w4.alloc (.cells #[.int .i64 op, .int .i64 cf, .int .i64 0, .int .i64 (len : Nat)] 3)) (B + 1) T4 false (E 1) w4.heap.size 4 4 [op, cf, 0, (len : Int)] (H4.out.1.below ((Below.refl _ _).alloc (Nat.le_refl _) _) (Nat.le_refl _)) (Nat.le_trans Hsz4.out (by simp)) (Hg.out.2.2.1 _ ((Hg.out.1.trans H4.out.2.1.below).trans ((Below.refl _ _).alloc Hsz4.out _))) Hg.out.2.2.2.2.1 rfl (by decide) (by have := Hg.out.2.2.2.2.2.2; omega) (heap_alloc_new w4 _) (by have := H4.out.1.lt; omega))
    rw [Bool.false_or, ← hzs, ← He.out.1] at Hn5
    have Hzs := Lib.hid hzs
    clear hzs
    obtain ⟨eh, heh⟩ : ∃ eh, encH ⟨fr, dst, kind, key, op, cf, false, L⟩ = eh := ⟨_, rfl⟩
    obtain ⟨nh, hnh⟩ : ∃ nh, neg (hints ⟨fr, dst, kind, key, op, cf, false, L⟩) = nh := ⟨_, rfl⟩
    have Heh := Lib.hid (And.intro heh hnh)
    rw [heh, hnh] at Hn5
    clear heh hnh
    go_wp2_with fail
    refine Hn5.out.mono ?_
    rintro e w5 ⟨rfl, hP5, hk5⟩
    have gm5 := ((PenK.alloc (pb := B + 1) Hsz4.out _).trans hk5).heap H4.out.2.2 (by omega) (by decide)
    have c7 := cell_of_heap gm5 7
    have H5 := Lib.hid (And.intro hP5 ((H4.out.2.1.trans (PenK.alloc Hsz4.out _)).trans hk5))
    clear hP5 hk5 gm5 Hn5
    go_wp2
    go_loopw [37] (fun vi wr => ∃ (i : Nat), i ≤ len ∧ vi = .int .i64 i ∧ Hid (PenAt B wr (B + 1) (eh ++ (L.take i).flatMap vbytes) (badV (errV (E 1)) (nh || vneg (L.take i))) ∧ PenK B (B + 1) W3 wr)) (fun vi _ => len - (intOf vi).toNat)
    case atStart => exact ⟨0, by omega, rfl, Lib.hid ⟨by simpa [vneg] using H5.out.1, H5.out.2⟩⟩
    case round =>
      obtain ⟨i, hi, rfl, Hr⟩ := hrel
      have hi2 : i < len ∨ i = len := by omega
      rcases hi2 with hilt | rfl
      · have hilt2 : (i : Int) < len := by omega
        have hil : i < L.length := by rw [HL.out.2.1]; exact hilt
        have hBr : Below B w wr := Hg.out.1.trans Hr.out.2.below
        have hv0 := HL.out.1
        rw [HL.out.2.2] at hv0
        rcases hv0.below hBr with he | ⟨b, off, rfl, hbl, hcx⟩
        · exfalso
          rw [he] at hil; simp at hil
        obtain ⟨f0, f1, f2, f3, f4⟩ := VrR.at5 hcx (i := i) hil
        obtain ⟨⟨x1, x2, x3, x4, x5⟩, hx⟩ : ∃ x, L[i]?.getD ver0 = x := ⟨_, rfl⟩
        rw [hx] at f0 f1 f2 f3 f4
        dsimp only at f0 f1 f2 f3 f4
        have etk : L.take (i + 1) = L.take i ++ [(x1, x2, x3, x4, x5)] := by rw [List.take_succ_eq_append_getElem hil, ← hx, List.getElem?_eq_getElem hil]; rfl
        have hst1 : (L.take (i + 1)).flatMap vbytes = (L.take i).flatMap vbytes ++ vbytes (x1, x2, x3, x4, x5) := by rw [etk]; simp
        have hst2 : vneg (L.take (i + 1)) = (vneg (L.take i) || neg [x1, x2, x3, x4]) := by rw [etk]; simp [vneg, vints]
        have hvl : (vbytes (x1, x2, x3, x4, x5)).length = 40 + x5.size := by unfold vbytes; rw [List.length_append, nbytes_flat, tbytes_length]; show 4 * 8 + (8 + x5.size) = 40 + x5.size; omega
        have htot := flat_take_le L (i + 1)
        rw [hst1, List.length_append, hvl] at htot
        have hszr : B ≤ wr.heap.size := Nat.le_trans (show B ≤ W3.heap.size by have := Hg.out.2.2.2.2.2.1; omega) Hr.out.2.below.size
        obtain ⟨D, hD⟩ : ∃ D, eh ++ (L.take i).flatMap vbytes = D := ⟨_, rfl⟩
        obtain ⟨bd, hbd⟩ : ∃ bd, (nh || vneg (L.take i)) = bd := ⟨_, rfl⟩
        have hDl : D.length + 40 + x5.size ≤ 2000000000 := by
          have h1 := Hg.out.2.2.2.2.2.2
          have h2 := He.out.2.2.2.1
          rw [He.out.2.1, List.length_append, Heh.out.1] at h2
          rw [← hD, List.length_append]
          omega
        have hP := Hr.out.1
        rw [hD, hbd] at hP
        obtain ⟨Wv, hWv⟩ : ∃ Wv, wr.alloc (.cells #[.int .i64 x1, .int .i64 x2, .int .i64 x3, .int .i64 x4, .string x5] 50) = Wv := ⟨_, rfl⟩
        have hsv : Wv.heap.size = wr.heap.size + 1 := by rw [← hWv]; simp
        have gv : Wv.heap[wr.heap.size]? = some (.cells #[.int .i64 x1, .int .i64 x2, .int .i64 x3, .int .i64 x4, .string x5] 50 (0, 0)) := by rw [← hWv]; exact heap_alloc_new wr _
        have hkv : PenK B (B + 1) wr Wv := by rw [← hWv]; exact PenK.alloc hszr _
        have hPv := hP.below (n := wr.heap.size) (w' := Wv) (by rw [← hWv]; exact (Below.refl _ _).alloc (Nat.le_refl _) _) (Nat.le_refl _)
        have hBv : B ≤ Wv.heap.size := by omega
        have hltp := hPv.lt
        have Hnum := Lib.hid (numbers_walk B (Wv.alloc (.cells #[.int .i64 x1, .int .i64 x2, .int .i64 x3, .int .i64 x4] 3)) (B + 1) D bd (E 1) Wv.heap.size 4 4 [x1, x2, x3, x4] (hPv.below ((Below.refl _ _).alloc (Nat.le_refl _) _) (Nat.le_refl _)) (Nat.le_trans hBv (by simp)) (Hg.out.2.2.1 _ ((hBr.trans hkv.below).trans ((Below.refl _ _).alloc hBv _))) Hg.out.2.2.2.2.1 rfl (by decide) (by omega) (heap_alloc_new Wv _) (by omega))
        have v0 := cell_of_heap gv 0
        have v1 := cell_of_heap gv 1
        have v2 := cell_of_heap gv 2
        have v3 := cell_of_heap gv 3
        have HR := Lib.hid (And.intro hst1 (And.intro hst2 (And.intro hDl (And.intro hD (And.intro hbd (And.intro hszr (And.intro hkv (And.intro gv (And.intro hBv (And.intro hWv hPv.lt))))))))))
        clear hcx hx etk hst1 hst2 hvl htot hDl hD hbd hP hPv hkv gv hBv hsv hszr hv0 hbl hltp
        go_wp2_with fail
        refine Hnum.out.mono ?_
        rintro e w6 ⟨rfl, hP6, hk6⟩
        have hk6' := (PenK.alloc (pb := B + 1) HR.out.2.2.2.2.2.2.2.2.1 _).trans hk6
        have gv6 := hk6'.heap HR.out.2.2.2.2.2.2.2.1 (by have := Hr.out.1.lt; omega) (by decide)
        have q4 := cell_of_heap gv6 4
        have hB6 : B ≤ w6.heap.size := Nat.le_trans HR.out.2.2.2.2.2.2.2.2.1 hk6'.below.size
        have hlt6 := hP6.lt
        have Htx6 := Lib.hid (texts_walk B (w6.alloc (.cells #[.string x5] 9)) (B + 1) (D ++ [x1, x2, x3, x4].flatMap nbytes) (bd || neg [x1, x2, x3, x4]) (E 1) w6.heap.size 1 1 [x5] (hP6.below ((Below.refl _ _).alloc (Nat.le_refl _) _) (Nat.le_refl _)) (Nat.le_trans hB6 (by simp)) (Hg.out.2.2.1 _ (((hBr.trans HR.out.2.2.2.2.2.2.1.below).trans hk6'.below).trans ((Below.refl _ _).alloc hB6 _))) Hg.out.2.2.2.2.1 rfl (by decide) (by have := HR.out.2.2.1; rw [List.length_append, nbytes_flat]; show D.length + 4 * 8 + 1 * 8 + (x5.size + 0) ≤ _; omega) (heap_alloc_new w6 _) (by omega))
        have H6 := Lib.hid (And.intro ((Hr.out.2.trans HR.out.2.2.2.2.2.2.1).trans hk6') hB6)
        clear hP6 hk6 hk6' gv6 hB6 hlt6 Hnum v0 v1 v2 v3
        go_wp2_with fail
        refine Htx6.out.mono ?_
        rintro e w7 ⟨rfl, hP7, hk7⟩
        have HN : Hid (PenAt B w7 (B + 1) (eh ++ (L.take (i + 1)).flatMap vbytes) (badV (errV (E 1)) (nh || vneg (L.take (i + 1)))) ∧ PenK B (B + 1) W3 w7) := Lib.hid ⟨by
          rw [HR.out.1, ← List.append_assoc, HR.out.2.2.2.1, HR.out.2.1, ← Bool.or_assoc, HR.out.2.2.2.2.1]
          unfold vbytes
          rw [← List.append_assoc]
          have e9 : [x5].flatMap tbytes = tbytes x5 := by simp
          rw [e9] at hP7
          exact hP7, (H6.out.1.trans (PenK.alloc H6.out.2 _)).trans hk7⟩
        clear hP7 hk7 Htx6 f0 f1 f2 f3 f4
        go_wp2
        go_roundw
        case rel => exact ⟨i + 1, by omega, by go_num, HN⟩
        case measure => simp [intOf]; omega
      · have hP := Hr.out.1
        rw [← HL.out.2.1, List.take_length, ← Heh.out.1, ← Heh.out.2, ← He.out.2.1, ← He.out.2.2.1] at hP
        have hlt9 := He.out.2.2.2.2
        have hBf : Below B w wr := Hg.out.1.trans Hr.out.2.below
        have hne : encB ⟨fr, dst, kind, key, op, cf, false, L⟩ ≠ [] := fun e => by
          have h1 := He.out.2.2.2.1
          rw [e] at h1
          have h2 : ([] : List Nat).length = 0 := rfl
          omega
        have hlen9 : (encB ⟨fr, dst, kind, key, op, cf, false, L⟩).length ≤ 1000000000 := by rw [He.out.2.2.2.1]; exact Hg.out.2.2.2.2.2.2
        have hend : encE E ⟨fr, dst, kind, key, op, cf, false, L⟩ = if encBad ⟨fr, dst, kind, key, op, cf, false, L⟩ = true then .returned (.tuple #[.string ⟨#[]⟩, errV (E 1)]) else if 3996 < (encB ⟨fr, dst, kind, key, op, cf, false, L⟩).length then .returned (.tuple #[.string ⟨#[]⟩, errV (E 6)]) else .returned (.tuple #[.string (strOf (encB ⟨fr, dst, kind, key, op, cf, false, L⟩) ++ fourS (Sm.crc (Sm.nats (strOf (encB ⟨fr, dst, kind, key, op, cf, false, L⟩))))), .nilIface]) := rfl
        obtain ⟨bs, hbs⟩ : ∃ bs, encB ⟨fr, dst, kind, key, op, cf, false, L⟩ = bs := ⟨_, rfl⟩
        obtain ⟨bb, hbb⟩ : ∃ bb, encBad ⟨fr, dst, kind, key, op, cf, false, L⟩ = bb := ⟨_, rfl⟩
        rw [hbs, hbb] at hend hP
        rw [hbs] at hlt9 hne hlen9
        obtain ⟨v, p0, p1, _, _, pg, po⟩ := hP.parts
        have hconv := conv_own po hne hlt9
        have hcF := Hg.out.2.2.2.1 wr hBf
        obtain ⟨n9, hn9⟩ : ∃ n9, bs.length = n9 := ⟨_, rfl⟩
        obtain ⟨a9, c9, rfl, _⟩ := po.row
        rw [hn9] at hend hlen9 hconv p0
        have hssz : (strOf bs).size = n9 := by rw [← hn9]; unfold strOf; simp [ByteArray.size]
        have HF := Lib.hid (And.intro hend (And.intro hBf (And.intro hssz hlen9)))
        clear hbs hbb hend hBf hssz hP pg po hne hlt9 hn9 Hr
        cases bb with
        | true =>
          unfold badV at p1
          rw [if_pos rfl] at p1
          go_wp2
          go_quiet (fail)
          go_wp2
          go_ret2
          rw [HF.out.1.trans (if_pos trivial), HL.out.2.2]
          exact ⟨rfl, HF.out.2.1.trans ⟨rfl, rfl, rfl, Nat.le_refl _, fun _ _ => rfl⟩⟩
        | false =>
          unfold badV at p1
          rw [if_neg (by decide)] at p1
          have hn4 : 3996 < n9 ∨ ¬ 3996 < n9 := by omega
          rcases hn4 with hn4 | hn4
          · have hn5 : (3996 : Int) < n9 := by omega
            go_wp2
            go_quiet (fail)
            go_wp2
            go_ret2
            rw [HF.out.1, if_neg (by decide), if_pos hn4, HL.out.2.2]
            exact ⟨rfl, HF.out.2.1.trans ⟨rfl, rfl, rfl, Nat.le_refl _, fun _ _ => rfl⟩⟩
          · have hn5 : ¬ (3996 : Int) < n9 := by omega
            have Hs := Lib.hid (seal_walk (strOf bs) wr (by rw [HF.out.2.2.1]; omega))
            go_wp2_with fail
            refine Hs.out.mono ?_
            rintro e w8 ⟨rfl, hb8⟩
            have H8 := Lib.hid hb8
            clear hb8
            go_wp2
            go_ret2
            rw [HF.out.1, if_neg (by decide), if_neg hn4, HL.out.2.2]
            exact ⟨rfl, HF.out.2.1.trans (H8.out.mono (by have h5 := HF.out.2.1.size; rw [HL.out.2.2] at h5; exact h5))⟩
end
end Go.Proofs.YtgcnohejmofhkaaDoor
