/- BackWire, SameMessage; BackWires, SameMessages. -/
import Derived.Test.YtabboioamdphmaaGreatDoorSCarryHears26
import Derived.Lib.QuietBelow
import Derived.BigQuiet
import Derived.Test.YtabboioamdphmaaGreatDoorSCarryHears23
import Derived.Deep.QuietTactic
import Derived.Deep.RegionHeld3
import Derived.Test.YtabboioamdphmaaGreatDoorSCarryHears25
namespace Go.Proofs.YtabboioamdphmaaGreatDoor
section
open Go.RowKit Go.BigFrame

set_option maxRecDepth 100000 in
set_option maxHeartbeats 4000000 in
theorem backwire_walk (w : World) (fr dst kind key : ByteArray) (op cf : Int) (sl : Bool) (a : Option Addr) (len cap : Nat) :
    Calls Tryz.prog 41 #[.agg #[.string fr, .string dst, .string kind, .string key, .int .i64 op, .int .i64 cf, .bool sl, .slice a len cap]] w fun e w' => Below w.heap.size w w' ∧ e = .returned (.agg #[.string fr, .string dst, .string kind, .string key, .int .i64 op, .int .i64 cf, .bool sl, .slice a len cap]) := by
  go_enter Tryz.func41, Tryz.ntmps41
  go_wp2
  have hb : Below w.heap.size w ((w.alloc (.cells #[.string fr, .string dst, .string kind, .string key, .int .i64 op, .int .i64 cf, .bool sl, .slice a len cap] 55)).alloc (.cells #[.string fr, .string dst, .string kind, .string key, .int .i64 op, .int .i64 cf, .bool sl, .slice a len cap] 57)) := ((Below.refl _ _).alloc (Nat.le_refl _) _).alloc (by simp) _
  have hm : ((w.alloc (.cells #[.string fr, .string dst, .string kind, .string key, .int .i64 op, .int .i64 cf, .bool sl, .slice a len cap] 55)).alloc (.cells #[.string fr, .string dst, .string kind, .string key, .int .i64 op, .int .i64 cf, .bool sl, .slice a len cap] 57)).heap[w.heap.size + 1]? = some (.cells #[.string fr, .string dst, .string kind, .string key, .int .i64 op, .int .i64 cf, .bool sl, .slice a len cap] 57 (0, 0)) := by
    rw [show w.heap.size + 1 = (w.alloc (.cells #[.string fr, .string dst, .string kind, .string key, .int .i64 op, .int .i64 cf, .bool sl, .slice a len cap] 55)).heap.size by simp]
    exact heap_alloc_new _ _
  obtain ⟨WF, hWF⟩ : ∃ WF, ((w.alloc (.cells #[.string fr, .string dst, .string kind, .string key, .int .i64 op, .int .i64 cf, .bool sl, .slice a len cap] 55)).alloc (.cells #[.string fr, .string dst, .string kind, .string key, .int .i64 op, .int .i64 cf, .bool sl, .slice a len cap] 57)) = WF := ⟨_, rfl⟩
  rw [hWF] at hb hm ⊢
  have y0 := cell_of_heap hm 0
  have y1 := cell_of_heap hm 1
  have y2 := cell_of_heap hm 2
  have y3 := cell_of_heap hm 3
  have y4 := cell_of_heap hm 4
  have y5 := cell_of_heap hm 5
  have y6 := cell_of_heap hm 6
  have y7 := cell_of_heap hm 7
  exact bodyPost_ret (v := .agg #[.string fr, .string dst, .string kind, .string key, .int .i64 op, .int .i64 cf, .bool sl, .slice a len cap]) (by simp [results, Tryz.results41, go_sem, y0, y1, y2, y3, y4, y5, y6, y7]) rfl ⟨hb, rfl⟩
set_option maxRecDepth 100000 in
set_option maxHeartbeats 4000000 in
theorem samem_same (w : World) (n₀ : Nat) (fr dst kind key : ByteArray) (op cf : Int) (sl : Bool) (a b : Option Addr) (len ca cb : Nat) (L : List Ver) (hlen : L.length = len) (hm : len ≤ maxLen) (hA : VrR n₀ w a L) (hB : VrR n₀ w b L) (hn : n₀ ≤ w.heap.size) :
    Calls Tryz.prog 40 #[.agg #[.string fr, .string dst, .string kind, .string key, .int .i64 op, .int .i64 cf, .bool sl, .slice a len ca], .agg #[.string fr, .string dst, .string kind, .string key, .int .i64 op, .int .i64 cf, .bool sl, .slice b len cb]] w fun e w' => e = .returned (.bool true) ∧ Below w.heap.size w w' := by
  have hbl : Below n₀ w ((w.alloc (.cells #[.string fr, .string dst, .string kind, .string key, .int .i64 op, .int .i64 cf, .bool sl, .slice a len ca] 57)).alloc (.cells #[.string fr, .string dst, .string kind, .string key, .int .i64 op, .int .i64 cf, .bool sl, .slice b len cb] 57)) := ((Below.refl _ _).alloc hn _).alloc (by simp; omega) _
  have hb2 : Below w.heap.size w ((w.alloc (.cells #[.string fr, .string dst, .string kind, .string key, .int .i64 op, .int .i64 cf, .bool sl, .slice a len ca] 57)).alloc (.cells #[.string fr, .string dst, .string kind, .string key, .int .i64 op, .int .i64 cf, .bool sl, .slice b len cb] 57)) := ((Below.refl _ _).alloc (Nat.le_refl _) _).alloc (by simp) _
  have Hy := Lib.hid (samev_walk n₀ a len ca L b len cb L true ((w.alloc (.cells #[.string fr, .string dst, .string kind, .string key, .int .i64 op, .int .i64 cf, .bool sl, .slice a len ca] 57)).alloc (.cells #[.string fr, .string dst, .string kind, .string key, .int .i64 op, .int .i64 cf, .bool sl, .slice b len cb] 57)) hlen hlen hm (hA.below hbl) (hB.below hbl) (by simp))
  have H := Lib.hid hb2
  clear hbl hb2 hA hB hlen hm hn
  go_enter Tryz.func40, Tryz.ntmps40
  go_wp2_with fail
  refine Hy.out.mono ?_
  rintro e W ⟨rfl, hb⟩
  have HB := Lib.hid (H.out.trans (hb.mono H.out.size))
  clear hb
  go_wp2
  go_ret
  exact ⟨rfl, HB.out⟩
set_option maxRecDepth 100000 in
set_option maxHeartbeats 4000000 in
theorem samems_same (w : World) (n₀ : Nat) (a b : Option Addr) (len ca cb : Nat) (l : List Msg) (hlen : l.length = len) (hm : len ≤ maxLen) (hA : MsgsR n₀ w a l) (hB : MsgsR n₀ w b l) (hn : n₀ ≤ w.heap.size) :
    Calls Tryz.prog 14 #[.slice a len ca, .slice b len cb] w fun e w' => e = .returned (.bool true) ∧ Below w.heap.size w w' := by
  have H := Lib.hid (And.intro hA (And.intro hB (And.intro hlen hn)))
  have hm9 : len ≤ 9223372036854775807 := by unfold maxLen at hm; omega
  clear hA hB hlen hn hm
  go_enter Tryz.func14, Tryz.ntmps14
  go_wp2
  go_loopw [5] (fun vi wr => ∃ i : Nat, i ≤ len ∧ vi = .int .i64 i ∧ Hid (Below w.heap.size w wr)) (fun vi _ => len - (intOf vi).toNat)
  case atStart => exact ⟨0, by omega, rfl, Lib.hid (Below.refl _ _)⟩
  case round =>
    obtain ⟨i, hi, rfl, Hr⟩ := hrel
    have hi2 : i < len ∨ len = i := by omega
    rcases hi2 with hilt | rfl
    · have hilt2 : (i : Int) < len := by omega
      have hil : i < l.length := by rw [H.out.2.2.1]; exact hilt
      rcases H.out.1.below (Hr.out.mono H.out.2.2.2) with he | ⟨b1, o1, rfl, hb1, hc1⟩
      · exfalso
        rw [he] at hil; simp at hil
      rcases H.out.2.1.below (Hr.out.mono H.out.2.2.2) with he | ⟨b2, o2, rfl, hb2, hc2⟩
      · exfalso
        rw [he] at hil; simp at hil
      obtain ⟨k0, k1, k2, k3, k4, k5, k6, ad1, cp1, k7, q1, q2, q3, q4⟩ := hc1 i hil
      obtain ⟨l0, l1, l2, l3, l4, l5, l6, ad2, cp2, l7, p1, p2, p3, p4⟩ := hc2 i hil
      obtain ⟨⟨fr, dst, kind, key, op, cf, sl, L⟩, hx⟩ : ∃ x, l[i]?.getD msg0 = x := ⟨_, rfl⟩
      rw [hx] at k0 k1 k2 k3 k4 k5 k6 k7 q1 q4 l0 l1 l2 l3 l4 l5 l6 l7 p1 p4
      dsimp only at k0 k1 k2 k3 k4 k5 k6 k7 q1 q4 l0 l1 l2 l3 l4 l5 l6 l7 p1 p4
      have hsz : n₀ ≤ wr.heap.size := Nat.le_trans H.out.2.2.2 Hr.out.size
      have Cc := fun d os => Calls.regrown_of (samem_same (Go.Sort.grow (redrawn wr d) os) wr.heap.size fr dst kind key op cf sl ad1 ad2 L.length cp1 cp2 L rfl (Nat.le_trans q1 q2) ((q4.mono hsz).below (below_regrown wr d os)) ((p4.mono hsz).below (below_regrown wr d os)) (below_regrown wr d os).size)
      have k0 := cell_regrown k0
      have k1 := cell_regrown k1
      have k2 := cell_regrown k2
      have k3 := cell_regrown k3
      have k4 := cell_regrown k4
      have k5 := cell_regrown k5
      have k6 := cell_regrown k6
      have k7 := cell_regrown k7
      have l0 := cell_regrown l0
      have l1 := cell_regrown l1
      have l2 := cell_regrown l2
      have l3 := cell_regrown l3
      have l4 := cell_regrown l4
      have l5 := cell_regrown l5
      have l6 := cell_regrown l6
      have l7 := cell_regrown l7
      obtain ⟨n, hnn⟩ : ∃ n, L.length = n := ⟨_, rfl⟩
      rw [hnn] at Cc k7 l7
      clear hc1 hc2 hx q1 q2 q3 q4 p1 p2 p3 p4 hil hb1 hb2 hsz hnn
      go_wp2_with fail
      refine wp_region_quiet_below (by kernel_rfl) (by kernel_rfl) ?_
      repeat (go_big_quiet_step (first | (with_reducible exact Cc _ _)))
      refine wpQuiet_nil ?_
      intro w3 hw'
      obtain ⟨⟨dq, osq⟩, hw3⟩ := hw'
      have HB := Lib.hid (Hr.out.trans (show Below w.heap.size wr w3 by rw [hw3]; exact (below_regrown wr dq osq).mono Hr.out.size))
      clear hw3 Cc k0 k1 k2 k3 k4 k5 k6 k7 l0 l1 l2 l3 l4 l5 l6 l7
      go_wp2
      go_roundw
      case rel => exact ⟨i + 1, by omega, by go_num, HB⟩
      case measure => simp [intOf]; omega
    · go_wp2
      go_ret
      exact ⟨rfl, Hr.out⟩
end
end Go.Proofs.YtabboioamdphmaaGreatDoor
/- BackWires, in blocks of S. -/
namespace Go.Proofs.YtabboioamdphmaaGreatDoor
section
open Go.RowKit Go.BigFrame

def encM (m : Msg) (ad : Option Addr) (cap : Nat) : List Value := [.string m.fr, .string m.dst, .string m.kind, .string m.key, .int .i64 m.op, .int .i64 m.cf, .bool m.sl, .slice ad m.L.length cap]
def MsgsO (B : Nat) (S : Nat → Prop) (w : World) (v : Value) (l : List Msg) : Prop :=
  ∃ us : List (List Value), OwnRec 57 8 B w v us ∧ us.length = l.length ∧ ∀ j, j < l.length → ∃ ad cap, us[j]?.getD [] = encM (l[j]?.getD msg0) ad cap ∧ (l[j]?.getD msg0).L.length ≤ cap ∧ cap ≤ maxLen ∧ (ad = none → cap = 0) ∧ VrS S w ad (l[j]?.getD msg0).L
theorem MsgsO.nil (B : Nat) (S : Nat → Prop) (w : World) : MsgsO B S w (.slice none 0 0) [] := ⟨[], OwnRec.nil _ _ _ _, rfl, fun j hj => by simp at hj⟩
theorem MsgsO.read {B : Nat} {S : Nat → Prop} {w : World} {v : Value} {l : List Msg} (h : MsgsO B S w v l) :
    ∃ a cap, v = .slice a l.length cap ∧ l.length ≤ cap ∧ cap ≤ maxLen ∧ (a = none → cap = 0) ∧ MsgsS (fun b => S b ∨ B ≤ b) w a l := by
  obtain ⟨us, ho, hl, hj⟩ := h
  obtain ⟨a, cap, rfl, h1, h2, h3, h4, h5⟩ := ho.read
  rw [hl] at h1
  refine ⟨a, cap, by rw [hl], h1, h2, h3, ?_⟩
  rcases h5 with e | ⟨b, off, rfl, hb, hc⟩
  · left
    rw [e] at hl
    exact List.length_eq_zero_iff.1 hl.symm
  · refine .inr ⟨b, off, rfl, .inr (h4 _ rfl).1, hb, fun i hi => ?_⟩
    obtain ⟨ad, cp, e, e1, e2, e3, e4⟩ := hj i hi
    have hcc : ∀ j, j < 8 → w.cell? ⟨b, off + i * 8 + j, none⟩ = (encM (l[i]?.getD msg0) ad cp)[j]? := fun j hj8 => by rw [← e]; exact hc i j (by omega) hj8
    exact ⟨hcc 0 (by omega), hcc 1 (by omega), hcc 2 (by omega), hcc 3 (by omega), hcc 4 (by omega), hcc 5 (by omega), hcc 6 (by omega), ad, cp, hcc 7 (by omega), e1, e2, e3, e4.mono (fun _ h => .inl h)⟩
theorem info_mess : (Tryz.prog.info? 57).map (fun i => (i.zero, i.size, i.bytes)) = some (some (.agg #[.string ⟨#[]⟩, .string ⟨#[]⟩, .string ⟨#[]⟩, .string ⟨#[]⟩, .int .i64 0, .int .i64 0, .bool false, .slice none 0 0]), 8, 112) := by kernel_rfl
theorem encM_one (m : Msg) (ad : Option Addr) (cap : Nat) : ∀ u ∈ encM m ad cap, u.oneCell' = true := fun u hu => by
  unfold encM at hu
  simp at hu
  rcases hu with rfl | rfl | rfl | rfl | rfl | rfl | rfl | rfl <;> rfl
theorem MsgsS.bound {S : Nat → Prop} {w : World} {a : Option Addr} {l : List Msg} (h : MsgsS S w a l) : MsgsS (fun b => S b ∧ b < w.heap.size) w a l := by
  rcases h with e | ⟨b, off, e, hb, hl, hc⟩
  · exact .inl e
  · refine .inr ⟨b, off, e, ⟨hb, hl⟩, hl, fun i hi => ?_⟩
    obtain ⟨h0, h1, h2, h3, h4, h5, h6, ad, cap, h7, h8, h9, h10, h11⟩ := hc i hi
    refine ⟨h0, h1, h2, h3, h4, h5, h6, ad, cap, h7, h8, h9, h10, ?_⟩
    rcases h11 with e | ⟨b', off', e, hb', hl', hc'⟩
    · exact .inl e
    · exact .inr ⟨b', off', e, ⟨hb', hl'⟩, hl', hc'⟩
set_option maxRecDepth 100000 in
set_option maxHeartbeats 4000000 in
theorem bwires_walk (w : World) (S : Nat → Prop) (a : Option Addr) (len cap : Nat) (l : List Msg) (hlen : l.length = len) (hm : len ≤ 1000000) (hA : MsgsS S w a l) :
    Calls Tryz.prog 15 #[.slice a len cap] w fun e w' => ∃ v, e = .returned v ∧ Below w.heap.size w w' ∧ MsgsO w.heap.size (fun b => S b ∧ b < w.heap.size) w' v l := by
  have H := Lib.hid (And.intro hA.bound hlen)
  clear hA hlen
  go_enter Tryz.func15, Tryz.ntmps15
  go_wp2
  go_loopw [3, 4] (fun vo vi wr => ∃ (i : Nat) (v : Value), i ≤ len ∧ vi = .int .i64 i ∧ v = vo ∧ Hid (MsgsO w.heap.size (fun b => S b ∧ b < w.heap.size) wr v (l.take i) ∧ Below w.heap.size w wr)) (fun _ vi _ => len - (intOf vi).toNat)
  case atStart => exact ⟨0, _, by omega, rfl, rfl, Lib.hid ⟨by simpa using MsgsO.nil _ _ _, Below.refl _ _⟩⟩
  case round =>
    obtain ⟨i, v, hi, rfl, hv, Hr⟩ := hrel
    subst hv
    have hi2 : i < len ∨ len = i := by omega
    rcases hi2 with hilt | rfl
    · have hilt2 : (i : Int) < len := by omega
      have hil : i < l.length := by rw [H.out.2]; exact hilt
      rcases H.out.1.below Hr.out.2 with he | ⟨b1, o1, rfl, hS1, hb1, hc1⟩
      · exfalso
        rw [he] at hil; simp at hil
      obtain ⟨k0, k1, k2, k3, k4, k5, k6, ad1, cp1, k7, q1, q2, q3, q4⟩ := hc1 i hil
      obtain ⟨⟨fr, dst, kind, key, op, cf, sl, L⟩, hx⟩ : ∃ x, l[i]?.getD msg0 = x := ⟨_, rfl⟩
      have Hx := Lib.hid (And.intro hx hil)
      rw [hx] at k0 k1 k2 k3 k4 k5 k6 k7 q1 q4
      dsimp only at k0 k1 k2 k3 k4 k5 k6 k7 q1 q4
      obtain ⟨n, hnn⟩ : ∃ n, L.length = n := ⟨_, rfl⟩
      rw [hnn] at k7 q1
      have Hb := Lib.hid (backwire_walk wr fr dst kind key op cf sl ad1 n cp1)
      have HQ := Lib.hid (And.intro q1 (And.intro q2 (And.intro q3 (And.intro q4 hnn))))
      clear hc1 hx q1 q2 q3 q4 hil hb1 hS1 hnn
      go_wp2_with fail
      refine Hb.out.mono ?_
      rintro e w2 ⟨hb2, rfl⟩
      obtain ⟨W3, hW3⟩ : ∃ W3, w2.alloc (.cells #[.string fr, .string dst, .string kind, .string key, .int .i64 op, .int .i64 cf, .bool sl, .slice ad1 n cp1] 57) = W3 := ⟨_, rfl⟩
      have hs3 : W3.heap.size = w2.heap.size + 1 := by rw [← hW3]; simp
      have hb3 : Below wr.heap.size wr W3 := hb2.trans (by rw [← hW3]; exact (Below.refl _ _).alloc hb2.size _)
      obtain ⟨us, ho, hul, hus⟩ := Hr.out.1
      have ho3 := ho.below hb3
      have gm : W3.heap[w2.heap.size]? = some (.cells #[.string fr, .string dst, .string kind, .string key, .int .i64 op, .int .i64 cf, .bool sl, .slice ad1 n cp1] 57 (0, 0)) := by rw [← hW3]; exact heap_alloc_new _ _
      have m0 := (cell_of_heap gm 0).trans rfl
      have m1 := (cell_of_heap gm 1).trans rfl
      have m2 := (cell_of_heap gm 2).trans rfl
      have m3 := (cell_of_heap gm 3).trans rfl
      have m4 := (cell_of_heap gm 4).trans rfl
      have m5 := (cell_of_heap gm 5).trans rfl
      have m6 := (cell_of_heap gm 6).trans rfl
      have m7 := (cell_of_heap gm 7).trans rfl
      have htl : (l.take i).length = i := List.length_take_of_le (Nat.le_of_lt Hx.out.2)
      rw [htl] at hul
      have H3 := Lib.hid (And.intro hW3 (And.intro hs3 (And.intro hb3 (And.intro ho3 (And.intro hul hus)))))
      have hszB : w.heap.size ≤ W3.heap.size := Nat.le_trans Hr.out.2.size hb3.size
      clear hb2 hW3 hs3 hb3 ho ho3 gm hul hus htl k0 k1 k2 k3 k4 k5 k6 k7
      go_wp2_with (at_builtin; (rw [H3.out.1]; refine append_rec (w0 := W3) 25 57 _ 8 112 Tryz.underlying25 info_mess rfl (by omega) 17 19 rfl rfl w.heap.size v us [.string fr, .string dst, .string kind, .string key, .int .i64 op, .int .i64 cf, .bool sl, .slice ad1 n cp1] rfl (by have h9 := encM_one ⟨fr, dst, kind, key, op, cf, sl, L⟩ ad1 cp1; unfold encM at h9; rw [HQ.out.2.2.2.2] at h9; exact h9) rfl (congrArg (fun z => Value.slice (some ⟨z, 0, none⟩) 1 1) H3.out.2.1.symm) H3.out.2.2.2.1 (by rw [H3.out.2.2.2.2.1]; omega) (by rw [H3.out.2.2.2.2.1]; unfold maxLen; omega) hszB ?_))
      intro v' w7 h1 h2 _
      have hb7 : Below w.heap.size wr w7 := ((H3.out.2.2.1.mono Hr.out.2.size).trans ((Below.refl _ _).alloc hszB _)).trans (World.grownBy.below h2 (Nat.le_trans hszB (by simp)) (fun k hk => (H3.out.2.2.2.1.lt k hk).1))
      have hk7 : KeptBut (fun b => w.heap.size ≤ b) wr w7 := KeptBut.of_below hb7 (fun _ _ h => h)
      have HN : Hid (MsgsO w.heap.size (fun b => S b ∧ b < w.heap.size) w7 v' (l.take (i + 1)) ∧ Below w.heap.size w w7) := Lib.hid ⟨⟨_, h1, by rw [List.length_append, H3.out.2.2.2.2.1, List.length_take_of_le Hx.out.2]; rfl, fun j hj => by
        rw [List.length_take_of_le Hx.out.2] at hj
        rw [List.getElem?_take_of_lt hj]
        by_cases hji : j = i
        · subst hji
          refine ⟨ad1, cp1, ?_, ?_, HQ.out.2.1, HQ.out.2.2.1, ?_⟩
          · rw [List.getElem?_append_right (by rw [H3.out.2.2.2.2.1]; exact Nat.le_refl _), H3.out.2.2.2.2.1, Hx.out.1]
            simp [encM, HQ.out.2.2.2.2]
          · rw [Hx.out.1]; show L.length ≤ cp1; rw [HQ.out.2.2.2.2]; exact HQ.out.1
          · rw [Hx.out.1]; exact HQ.out.2.2.2.1.kept hk7 (fun b _ h1 h2 => by have := h1.2; omega)
        · have hjl : j < i := by omega
          obtain ⟨ad, cp, e1, e2, e3, e4, e5⟩ := H3.out.2.2.2.2.2 j (by rw [List.length_take_of_le (Nat.le_of_lt Hx.out.2)]; exact hjl)
          rw [List.getElem?_take_of_lt hjl] at e1 e2 e5
          refine ⟨ad, cp, ?_, e2, e3, e4, e5.kept hk7 (fun b _ h1 h2 => by have := h1.2; omega)⟩
          rw [List.getElem?_append_left (by rw [H3.out.2.2.2.2.1]; exact hjl)]
          exact e1⟩, Hr.out.2.trans hb7⟩
      clear h1 h2 hb7 hk7 m0 m1 m2 m3 m4 m5 m6 m7
      go_wp2
      go_roundw
      case rel => exact ⟨i + 1, _, by omega, by go_num, rfl, HN⟩
      case measure => simp [intOf]; omega
    · go_wp2
      go_ret
      refine ⟨v, rfl, Hr.out.2, ?_⟩
      have h9 := Hr.out.1
      rw [← H.out.2, List.take_length] at h9
      exact h9
theorem MsgsS.mono {S T : Nat → Prop} {w : World} (h : ∀ b, b < w.heap.size → S b → T b) {a : Option Addr} {l : List Msg} (hm : MsgsS S w a l) : MsgsS T w a l := by
  rcases hm with e | ⟨b, off, e, hb, hl, hc⟩
  · exact .inl e
  · refine .inr ⟨b, off, e, h b hl hb, hl, fun i hi => ?_⟩
    obtain ⟨h0, h1, h2, h3, h4, h5, h6, ad, cap, h7, h8, h9, h10, h11⟩ := hc i hi
    exact ⟨h0, h1, h2, h3, h4, h5, h6, ad, cap, h7, h8, h9, h10, h11.mono2 h⟩
theorem VrR.toS {n : Nat} {S : Nat → Prop} {w : World} {a : Option Addr} {l : List Ver} (h : VrR n w a l) (hn : n ≤ w.heap.size) (hS : ∀ b, b < n → S b) : VrS S w a l := by
  rcases h with e | ⟨b, off, e, hb, hc⟩
  · exact .inl e
  · exact .inr ⟨b, off, e, hS b hb, Nat.lt_of_lt_of_le hb hn, hc⟩
end
end Go.Proofs.YtabboioamdphmaaGreatDoor
/- The walk of a talk's Told. -/
namespace Go.Proofs.YtabboioamdphmaaGreatDoor
section
open Go.RowKit Go.Maps Go.BigFrame

structure OwnHs (B : Nat) (S : Nat → Prop) (w : World) (v : Value) (ls : List (List Ver)) (us : List Value) : Prop where
  lenu : us.length = ls.length
  own : Own1 53 B w v us
  row : ∀ i, i < ls.length → RowOk S w (us[i]?.getD undef) (ls[i]?.getD [])
theorem OwnHs.nil (B : Nat) (S : Nat → Prop) (w : World) : OwnHs B S w (.slice none 0 0) [] [] := ⟨rfl, Own1.nil _ _ _, fun i hi => (by simp at hi)⟩
theorem OwnHs.heapK {B : Nat} {S : Nat → Prop} {w w' : World} {v : Value} {ls : List (List Ver)} {us : List Value} (h : OwnHs B S w v ls us) (hb : Below w.heap.size w w') : OwnHs B S w' v ls us :=
  ⟨h.lenu, Own1.below h.own hb (Nat.le_refl _), fun i hi => (h.row i hi).kept (KeptBut.of_below (F := fun b => w.heap.size ≤ b) hb (fun _ _ h => h)) (fun b hb _ => by omega)⟩
theorem OwnHs.snoc {B : Nat} {S : Nat → Prop} {w w' : World} {v v' u : Value} {ls : List (List Ver)} {us : List Value} {l : List Ver} {o : Obj} (h : OwnHs B S w v ls us) (hu : RowOk S w u l) (hS : ∀ b, S b → b < B) (hp : Own1 53 B w' v' (us ++ [u])) (hg : (w.alloc o).grownBy w' v.ownBlock) : OwnHs B S w' v' (ls ++ [l]) (us ++ [u]) := by
  have hk : KeptBut (fun b => B ≤ b) w w' := (KeptBut.refl (fun b => B ≤ b) w).alloc1 o |>.trans (KeptBut.of_grown hg (fun k e => (h.own.lt k e).1))
  have key : ∀ (x : Value) (m : List Ver), RowOk S w x m → RowOk S w' x m := fun x m hx => hx.kept hk (fun b _ hb h9 => by have := hS b hb; omega)
  refine ⟨by simp [h.lenu], hp, fun i hi => ?_⟩
  by_cases hil : i < ls.length
  · have h1 : (us ++ [u])[i]?.getD undef = us[i]?.getD undef := by rw [List.getElem?_append_left (by rw [h.lenu]; exact hil)]
    have h2 : (ls ++ [l])[i]?.getD [] = ls[i]?.getD [] := by rw [List.getElem?_append_left hil]
    rw [h1, h2]
    exact key _ _ (h.row i hil)
  · have hie : i = ls.length := by simp at hi; omega
    have h1 : (us ++ [u])[i]?.getD undef = u := by rw [hie, ← h.lenu]; simp
    have h2 : (ls ++ [l])[i]?.getD [] = l := by rw [hie]; simp
    rw [h1, h2]
    exact key _ _ hu
theorem OwnHs.read {B : Nat} {S : Nat → Prop} {w : World} {v : Value} {ls : List (List Ver)} {us : List Value} (h : OwnHs B S w v ls us) : ∃ a cap, v = .slice a ls.length cap ∧ VssR w a ls := by
  rcases h.own.shape with ⟨rfl, hl⟩ | ⟨g, cap, rfl, _, hg, hc, hm, _, hcell⟩
  · have : us = [] := by simpa using hl
    have h0 : ls = [] := List.length_eq_zero_iff.1 (by rw [← h.lenu, this]; rfl)
    subst h0
    exact ⟨none, 0, rfl, .inl rfl⟩
  · refine ⟨_, cap, by rw [h.lenu], .inr ⟨g, 0, rfl, hg, fun i hi => ?_⟩⟩
    obtain ⟨ad, cp, e, q1, q2, q3, q4⟩ := h.row i hi
    refine ⟨ad, cp, ?_, q1, q2, q3, q4.read⟩
    have hiu : i < us.length := by rw [h.lenu]; exact hi
    rw [Nat.zero_add, hcell i hiu, ← e, List.getElem?_eq_getElem hiu]; rfl
theorem told_snoc (g : Got) (mem : List ByteArray) (i : Nat) (h : i < mem.length) : (mem.take (i + 1)).filterMap (getT g) = (mem.take i).filterMap (getT g) ++ (getT g (mem[i]?.getD ⟨#[]⟩)).toList := by
  rw [List.take_succ_eq_append_getElem h, List.filterMap_append, List.getElem?_eq_getElem h]
  congr 1
theorem any_getT (g : Got) (k : ByteArray) : (g.any fun p => decide (p.1 = k)) = (getT g k).isSome := by
  unfold getT
  rw [Option.isSome_map]
  induction g with
  | nil => rfl
  | cons p r ih =>
    rw [List.any_cons, List.find?_cons, ih]
    cases decide (p.1 = k) <;> simp
set_option maxRecDepth 100000 in
set_option maxHeartbeats 4000000 in
theorem told_walk (F : Nat → Prop) (w : World) (tb bm : Nat) (ma : Option Addr) (mc : Nat) (t : TalkS) (h : TalkAt F w tb bm ma mc t) (hok : TalkOk t) :
    Calls Tryz.prog 47 #[.pointer (some ⟨tb, 0, none⟩)] w fun e w' => Below w.heap.size w w' ∧ ∃ a cap, e = .returned (.slice a (toldT t).length cap) ∧ VssR w' a (toldT t) := by
  obtain ⟨name, tkey, top, tcf, n, k, mem, wait, got⟩ := t
  unfold toldT
  dsimp only
  have hn12 : mem.length ≤ 12 := by
    have := talk_cfg hok
    dsimp only at this
    omega
  have hms := mem_size hok
  dsimp only at hms
  obtain ⟨m, hm⟩ : ∃ m, mem.length = m := ⟨_, rfl⟩
  have c6 := h.c6
  have c8 := h.c8
  dsimp only at c6
  rw [hm] at c6 hn12
  have hm9 : m ≤ 9223372036854775807 := by omega
  have H := Lib.hid (And.intro h (And.intro hm (And.intro hms hn12)))
  have hlt := h.lt tb h.hF
  clear h hok hm hms hn12
  go_enter Tryz.func47, Tryz.ntmps47
  go_wp2
  go_loopw [3, 14] (fun vl vi wr => ∃ (i : Nat) (v : Value), i ≤ m ∧ vi = .int .i64 i ∧ v = vl ∧ Hid (Below w.heap.size w wr ∧ ∃ us, OwnHs w.heap.size (fun b => F b ∧ b ≠ tb ∧ b ≠ bm) wr v ((mem.take i).filterMap (getT got)) us)) (fun _ vi _ => m - (intOf vi).toNat)
  case atStart => exact ⟨0, _, by omega, rfl, rfl, Lib.hid ⟨Below.refl _ _, [], OwnHs.nil _ _ _⟩⟩
  case round =>
    obtain ⟨i, v, hi, rfl, hv, Hr⟩ := hrel
    subst hv
    obtain ⟨hbr, us, hus⟩ := Hr.out
    have hi2 : i < m ∨ m = i := by omega
    rcases hi2 with hilt | rfl
    · have hilt2 : (i : Int) < m := by omega
      have hil : i < mem.length := by rw [H.out.2.1]; exact hilt
      have hT := H.out.1.below hbr (Nat.le_refl _)
      obtain ⟨b, off, rfl, hcx⟩ : ∃ b off, ma = some ⟨b, off, none⟩ ∧ wr.cell? ⟨b, off + i, none⟩ = some (.string (mem[i]?.getD ⟨#[]⟩)) := by
        rcases hT.mem with he | ⟨b, off, e, _, _, hc⟩
        · exfalso; dsimp only at he; rw [he] at hil; simp at hil
        · exact ⟨b, off, e, hc i hil⟩
      have hsn := told_snoc got mem i hil
      obtain ⟨s, hs⟩ : ∃ s, mem[i]?.getD (⟨#[]⟩ : ByteArray) = s := ⟨_, rfl⟩
      rw [hs] at hcx hsn
      have hsz : s.size ≤ maxLen := by rw [← hs]; exact H.out.2.2.1 i
      obtain ⟨u, hlook, hrow⟩ := hT.got.look (k := s) hsz
      dsimp only at hlook hrow
      have hlk := hlook wr (Below.refl _ _)
      have c8r := hT.c8
      rw [any_getT] at hlk
      cases hg : getT got s with
      | none =>
        rw [hg] at hlk hsn
        rw [show (none : Option (List Ver)).isSome = false from rfl] at hlk
        have HN : Hid (Below w.heap.size w wr ∧ ∃ us, OwnHs w.heap.size (fun b => F b ∧ b ≠ tb ∧ b ≠ bm) wr v ((mem.take (i + 1)).filterMap (getT got)) us) := Lib.hid ⟨hbr, us, by rw [hsn]; simpa using hus⟩
        clear hsn hs hsz hlook hrow hT hil hbr hus hg Hr
        go_wp2
        go_roundw
        case rel =>
          first
          | exact ⟨i + 1, _, by omega, by go_num, rfl, HN⟩
          | (repeat apply Exists.intro); exact ⟨⟨i + 1, _, by omega, by go_num, rfl, HN⟩, rfl⟩
        case measure => simp [intOf]; omega
      | some l =>
        rw [hg] at hlk hsn
        rw [show (some l : Option (List Ver)).isSome = true from rfl] at hlk
        have hro := hrow (s, l) (getT_some hg) rfl
        dsimp only at hro
        have hro2 := hro
        obtain ⟨ua, uc, rfl, _, _, _, _⟩ := hro2
        have hlu : us.length ≤ 2000000 := by
          rw [hus.lenu]
          have h1 := List.length_filterMap_le (getT got) (mem.take i)
          rw [List.length_take] at h1
          have := H.out.2.2.2
          have := H.out.2.1
          omega
        have HQ := Lib.hid (And.intro hbr (And.intro hus (And.intro hro (And.intro hlu hsn))))
        clear hsn hs hsz hlook hrow hT hil hbr hus hg Hr hro hlu
        go_wp2_with (at_builtin; refine append_one 42 53 (.slice none 0 0) 24 Tryz.underlying42 info_vers rfl 28 30 rfl rfl w.heap.size v us _ rfl rfl rfl HQ.out.2.1.own (by have := HQ.out.2.2.2.1; omega) (by have := HQ.out.2.2.2.1; unfold maxLen; omega) HQ.out.1.size ?_)
        intro v6 w6 h1 h2 _
        have HN : Hid (Below w.heap.size w w6 ∧ ∃ us, OwnHs w.heap.size (fun b => F b ∧ b ≠ tb ∧ b ≠ bm) w6 v6 ((mem.take (i + 1)).filterMap (getT got)) us) := Lib.hid ⟨HQ.out.1.trans (((Below.refl _ _).alloc HQ.out.1.size _).trans (World.grownBy.below h2 (by simp; have := HQ.out.1.size; omega) (fun k e => (HQ.out.2.1.own.lt k e).1))), _, by
          rw [HQ.out.2.2.2.2]; exact OwnHs.snoc HQ.out.2.1 HQ.out.2.2.1 (fun b hb => H.out.1.lt b hb.1) h1 h2⟩
        clear h1 h2
        go_wp2
        go_roundw
        case rel =>
          first
          | exact ⟨i + 1, _, by omega, by go_num, rfl, HN⟩
          | (repeat apply Exists.intro); exact ⟨⟨i + 1, _, by omega, by go_num, rfl, HN⟩, rfl⟩
        case measure => simp [intOf]; omega
    · rw [← H.out.2.1, List.take_length] at hus
      obtain ⟨a', cap', hv, hrd⟩ := hus.read
      subst hv
      have HE := Lib.hid (And.intro hbr hrd)
      clear hbr hrd hus
      go_wp2
      go_ret
      exact ⟨HE.out.1, _, _, rfl, HE.out.2⟩
end
end Go.Proofs.YtabboioamdphmaaGreatDoor
