/- Is too much told? Any answer. -/
import Derived.Test.YtjhjpijjfpfjeaaGreatDoorKQuorumBest28
import Derived.Test.YtjhjpijjfpfjeaaGreatDoorKQuorumBest29
import Derived.Test.YtjhjpijjfpfjeaaGreatDoorKQuorumBest26
import Derived.Deep.QuietTactic
import Derived.BigQuiet
namespace Go.Proofs.YtjhjpijjfpfjeaaGreatDoor
section
open Go.RowKit Go.BigFrame

set_option maxRecDepth 100000 in
set_option maxHeartbeats 4000000 in
theorem much_walk (a : Option Addr) (len cap : Nat) (ls : List (List Ver)) (w : World) (hlen : ls.length = len) (hm : len ≤ maxLen) (hR : VssR w a ls) :
    Calls Tryz.prog 6 #[.slice a len cap] w fun e w' => (∃ b, e = .returned (.bool b)) ∧ Below w.heap.size w w' := by
  have hm9 : len ≤ 9223372036854775807 := by unfold maxLen at hm; omega
  have H := Lib.hid (And.intro hlen hR)
  clear hlen hm hR
  go_enter Tryz.func6, Tryz.ntmps6
  go_wp2
  go_loopw [3, 4] (fun vn vi wr => ∃ (i : Nat) (z : Int), i ≤ len ∧ vi = .int .i64 i ∧ vn = .int .i64 z ∧ Hid (Below w.heap.size w wr)) (fun _ vi _ => len - (intOf vi).toNat)
  case atStart => exact ⟨0, _, by omega, rfl, rfl, Lib.hid (Below.refl _ _)⟩
  case round =>
    obtain ⟨i, z, hi, rfl, rfl, Hi⟩ := hrel
    have hi2 : i < len ∨ len = i := by omega
    rcases hi2 with hilt | rfl
    · have hilt2 : (i : Int) < len := by omega
      have hil : i < ls.length := by rw [H.out.1]; exact hilt
      obtain ⟨b, off, rfl, hbl, ad, cp, k0, q1, q2, q3, q4⟩ : ∃ b off, a = some ⟨b, off, none⟩ ∧ b < w.heap.size ∧ ∃ ad cp, w.cell? ⟨b, off + i, none⟩ = some (.slice ad (ls[i]?.getD []).length cp) ∧ (ls[i]?.getD []).length ≤ cp ∧ cp ≤ maxLen ∧ (ad = none → cp = 0) ∧ VrR w.heap.size w ad (ls[i]?.getD []) := by
        rcases H.out.2 with he | ⟨b, off, h, hb, hc⟩
        · exfalso; rw [he] at hil; simp at hil
        · exact ⟨b, off, h, hb, hc i hil⟩
      obtain ⟨M, hM⟩ : ∃ M, ls[i]?.getD [] = M := ⟨_, rfl⟩
      rw [hM] at k0 q1 q4
      obtain ⟨ml, hml⟩ : ∃ ml, M.length = ml := ⟨_, rfl⟩
      rw [hml] at k0 q1
      have hml9 : ml ≤ 9223372036854775807 := by unfold maxLen at q2; omega
      have HM := Lib.hid (And.intro hml (And.intro q4 (And.intro k0 hbl)))
      clear hM hml q1 q2 q3 q4 hil k0 hbl
      go_wp2_with fail
      obtain ⟨wm, hwm⟩ : ∃ wm, wr = wm := ⟨_, rfl⟩
      rw [hwm] at Hi ⊢
      go_loopw [3, 5] (fun vn vj wr => ∃ (j : Nat) (z : Int), j ≤ ml ∧ vj = .int .i64 j ∧ vn = .int .i64 z ∧ Hid (Below w.heap.size w wr)) (fun _ vj _ => ml - (intOf vj).toNat)
      case atStart => exact ⟨0, _, by omega, rfl, rfl, Hi⟩
      case round =>
        obtain ⟨j, z, hj, rfl, rfl, Hj⟩ := hrel
        have k0 := (Hj.out.cell (p := ⟨b, off + i, none⟩) HM.out.2.2.2).trans HM.out.2.2.1
        have hj2 : j < ml ∨ ml = j := by omega
        rcases hj2 with hjlt | rfl
        · have hjlt2 : (j : Int) < ml := by omega
          have hjM : j < M.length := by rw [HM.out.1]; exact hjlt
          obtain ⟨xb, xo, rfl, hcx⟩ : ∃ b off, ad = some ⟨b, off, none⟩ ∧ ∀ i j, i < M.length → j < 5 → wr.cell? ⟨b, off + i * 5 + j, none⟩ = (encVr (M[i]?.getD ver0))[j]? := by
            rcases HM.out.2.1.below Hj.out with he | ⟨b, off, h, _, hc⟩
            · exfalso; rw [he] at hjM; simp at hjM
            · exact ⟨b, off, h, hc⟩
          obtain ⟨f0, f1, f2, f3, f4⟩ := VrR.at5 hcx hjM
          obtain ⟨⟨x1, x2, x3, x4, x5⟩, hx⟩ : ∃ x, M[j]?.getD ver0 = x := ⟨_, rfl⟩
          rw [hx] at f0 f1 f2 f3 f4
          dsimp only at f0 f1 f2 f3 f4
          have HN : Hid (Below w.heap.size w (wr.alloc (.cells #[.int .i64 x1, .int .i64 x2, .int .i64 x3, .int .i64 x4, .string x5] 51))) := Lib.hid (Hj.out.alloc Hj.out.size _)
          clear hcx hx hjM
          by_cases h1 : 200 < x3
          · by_cases h2 : x3 ≤ 1000
            · go_wp2
              go_ret
              exact ⟨⟨_, rfl⟩, HN.out⟩
            · go_wp2
              go_roundw
              case rel => exact ⟨j + 1, _, by omega, by go_num, rfl, HN⟩
              case measure => simp [intOf]; omega
          · go_wp2
            go_roundw
            case rel => exact ⟨j + 1, _, by omega, by go_num, rfl, HN⟩
            case measure => simp [intOf]; omega
        · go_wp2
          go_roundw
          case rel => exact ⟨i + 1, _, by omega, by go_num, rfl, Hj⟩
          case measure => simp [intOf]; omega
    · go_wp2
      go_ret
      exact ⟨⟨_, rfl⟩, Hi.out⟩
end
end Go.Proofs.YtjhjpijjfpfjeaaGreatDoor
/- Lists of versions of the call's own. -/
namespace Go.Proofs.YtjhjpijjfpfjeaaGreatDoor
section
open Go.RowKit Go.BigFrame

theorem ownv_heap {B : Nat} {w : World} {v : Value} {l : List Ver} (h : OwnV B w v l) {g : Nat} (hg : v.ownBlock = some g) : ∃ cs, w.heap[g]? = some (.cells cs 51 (0, 0)) := by
  rcases h.2 with ⟨rfl, _⟩ | ⟨g', cap, cur, rfl, _, h2, _⟩
  · cases hg
  · have e : g' = g := by simpa [Value.ownBlock] using hg
    exact ⟨cur, by rw [← e]; exact h2⟩
theorem OwnV.heapK {B : Nat} {w w' : World} {v : Value} {l : List Ver} (h : OwnV B w v l) (hg : ∀ g, v.ownBlock = some g → w'.heap[g]? = w.heap[g]?) : OwnV B w' v l := by
  refine ⟨h.1, ?_⟩
  rcases h.2 with hn | ⟨g, cap, cur, rfl, hb, hgg, rest⟩
  · exact .inl hn
  · exact .inr ⟨g, cap, cur, rfl, hb, (hg g rfl).trans hgg, rest⟩
/-- v owns lists that are owned themselves. -/
structure OwnVs (B : Nat) (w : World) (v : Value) (ls : List (List Ver)) (us : List Value) : Prop where
  lenu : us.length = ls.length
  own : Own1 47 B w v us
  row : ∀ i, i < ls.length → OwnV B w (us[i]?.getD undef) (ls[i]?.getD [])
theorem OwnVs.nil (B : Nat) (w : World) : OwnVs B w (.slice none 0 0) [] [] := ⟨rfl, Own1.nil _ _ _, fun i hi => (by simp at hi)⟩
theorem OwnVs.heapK {B : Nat} {w w' : World} {v : Value} {ls : List (List Ver)} {us : List Value} (h : OwnVs B w v ls us) (hb : Below w.heap.size w w') : OwnVs B w' v ls us :=
  ⟨h.lenu, Own1.below h.own hb (Nat.le_refl _), fun i hi => OwnV.below (h.row i hi) hb (Nat.le_refl _)⟩
theorem OwnVs.snoc {B : Nat} {w w' : World} {v v' u : Value} {ls : List (List Ver)} {us : List Value} {l : List Ver} {o : Obj} (h : OwnVs B w v ls us) (hu : OwnV B w u l) (hp : Own1 47 B w' v' (us ++ [u])) (hg : (w.alloc o).grownBy w' v.ownBlock) : OwnVs B w' v' (ls ++ [l]) (us ++ [u]) := by
  have key : ∀ (x : Value) (m : List Ver), OwnV B w x m → OwnV B w' x m := fun x m hx => hx.heapK (fun g e => by
    obtain ⟨cs, e2⟩ := ownv_heap hx e
    have hlt := (Array.getElem?_eq_some_iff.1 e2).1
    refine (hg.block g (by simp; omega) (fun e3 => ?_)).trans (Below.heap_alloc _ _ _ hlt)
    obtain ⟨cs', e4⟩ := own1_heap h.own e3.symm
    rw [e2] at e4
    simp at e4)
  refine ⟨by simp [h.lenu], hp, fun i hi => ?_⟩
  by_cases hil : i < ls.length
  · have h1 : (us ++ [u])[i]?.getD undef = us[i]?.getD undef := by rw [List.getElem?_append_left (by rw [h.lenu]; exact hil)]
    have h2 : (ls ++ [l])[i]?.getD [] = ls[i]?.getD [] := by rw [List.getElem?_append_left hil]
    rw [h1, h2]
    exact key _ _ (h.row i hil)
  · have hie : i = ls.length := by simp at hi; omega
    have h1 : (us ++ [u])[i]?.getD undef = u := by rw [hie, ← h.lenu]; simp
    have h2 : (ls ++ [l])[i]?.getD [] = l := by rw [hie]; simp
    rw [h1, h2]
    exact key _ _ hu
theorem OwnVs.read {B : Nat} {w : World} {v : Value} {ls : List (List Ver)} {us : List Value} (h : OwnVs B w v ls us) : ∃ a cap, v = .slice a ls.length cap ∧ VssR w a ls := by
  rcases h.own.shape with ⟨rfl, hl⟩ | ⟨g, cap, rfl, _, hg, hc, hm, _, hcell⟩
  · have : us = [] := by simpa using hl
    have h0 : ls = [] := List.length_eq_zero_iff.1 (by rw [← h.lenu, this]; rfl)
    subst h0
    exact ⟨none, 0, rfl, .inl rfl⟩
  · refine ⟨_, cap, by rw [h.lenu], .inr ⟨g, 0, rfl, hg, fun i hi => ?_⟩⟩
    obtain ⟨ad, cp, e, q1, q2, q3, q4⟩ := (h.row i hi).read
    refine ⟨ad, cp, ?_, q1, q2, q3, q4⟩
    have hiu : i < us.length := by rw [h.lenu]; exact hi
    rw [Nat.zero_add, hcell i hiu, ← e, List.getElem?_eq_getElem hiu]; rfl
theorem info_vers : (Tryz.prog.info? 47).map (fun i => (i.zero, i.size, i.bytes)) = some (some (.slice none 0 0), 1, 24) := by kernel_rfl
end
end Go.Proofs.YtjhjpijjfpfjeaaGreatDoor
/- The walk of ownVersions. -/
namespace Go.Proofs.YtjhjpijjfpfjeaaGreatDoor
section
open Go.RowKit Go.BigFrame

theorem take_snoc0 (ls : List (List Ver)) (i : Nat) (h : i < ls.length) : ls.take (i + 1) = ls.take i ++ [ls[i]?.getD []] := by
  rw [List.take_succ_eq_append_getElem h, List.getElem?_eq_getElem h]; rfl
set_option maxRecDepth 100000 in
set_option maxHeartbeats 4000000 in
theorem ownvers_walk (a : Option Addr) (len cap : Nat) (ls : List (List Ver)) (w : World) (hlen : ls.length = len) (hm : len ≤ 2000000) (hR : VssR w a ls) (ht : totV ls ≤ 1000000) :
    Calls Tryz.prog 9 #[.slice a len cap] w fun e w' => Below w.heap.size w w' ∧ ∃ a' cap', e = .returned (.slice a' len cap') ∧ VssR w' a' ls := by
  have hm9 : len ≤ 9223372036854775807 := by omega
  have H := Lib.hid (And.intro hlen (And.intro hR (And.intro ht hm)))
  clear hlen hm hR ht
  go_enter Tryz.func9, Tryz.ntmps9
  go_wp2
  go_loopw [3, 4] (fun vl vi wr => ∃ (i : Nat) (v : Value), i ≤ len ∧ vi = .int .i64 i ∧ v = vl ∧ Hid (Below w.heap.size w wr ∧ ∃ us, OwnVs w.heap.size wr v (ls.take i) us)) (fun _ vi _ => len - (intOf vi).toNat)
  case atStart => exact ⟨0, _, by omega, rfl, rfl, Lib.hid ⟨Below.refl _ _, [], OwnVs.nil _ _⟩⟩
  case round =>
    obtain ⟨i, v, hi, rfl, hv, Hr⟩ := hrel
    subst hv
    obtain ⟨hbr, us, hus⟩ := Hr.out
    have hi2 : i < len ∨ len = i := by omega
    rcases hi2 with hilt | rfl
    · have hilt2 : (i : Int) < len := by omega
      have hil : i < ls.length := by rw [H.out.1]; exact hilt
      obtain ⟨b, off, rfl, hc⟩ : ∃ b off, a = some ⟨b, off, none⟩ ∧ ∀ i, i < ls.length → ∃ ad cp, wr.cell? ⟨b, off + i, none⟩ = some (.slice ad (ls[i]?.getD []).length cp) ∧ (ls[i]?.getD []).length ≤ cp ∧ cp ≤ maxLen ∧ (ad = none → cp = 0) ∧ VrR wr.heap.size wr ad (ls[i]?.getD []) := by
        rcases H.out.2.1.below hbr with he | ⟨b, off, h, hb, hc⟩
        · exfalso; rw [he] at hil; simp at hil
        · exact ⟨b, off, h, hc⟩
      obtain ⟨ad, cp, k0, q1, q2, q3, q4⟩ := hc i hil
      have hle : (ls[i]?.getD []).length ≤ 1000000 := by
        have h1 := totV_take ls i hil
        have h2 := totV_le ls (i + 1)
        have h3 := H.out.2.2.1
        omega
      have htk := take_snoc0 ls i hil
      have hszr : w.heap.size ≤ wr.heap.size := hbr.size
      have HQ := Lib.hid (And.intro q3 (And.intro q4 (And.intro htk (And.intro hle (And.intro hbr (And.intro hszr hus))))))
      clear hc q1 q2 q3 q4 htk hle hil hbr hus
      go_wp2_with (at_builtin; refine append_vers 13 17 rfl rfl w.heap.size (.slice none 0 0) [] wr.heap.size ad _ cp (ls[i]?.getD []) rfl rfl (OwnV.nil _ _) rfl (by simpa using HQ.out.2.2.2.1) HQ.out.1 HQ.out.2.1 hszr ?_)
      intro u w5 h1 h2 _ _
      have hb5 : Below wr.heap.size wr w5 := World.grownBy.below h2 (Nat.le_refl _) (fun k hk => by cases hk)
      have hu5 : OwnV w.heap.size w5 u (ls[i]?.getD []) := by simpa using h1
      have hus5 := HQ.out.2.2.2.2.2.2.heapK hb5
      have hlu : us.length ≤ 2000000 := by
        rw [hus5.lenu, List.length_take]
        have := H.out.2.2.2
        have := H.out.1
        omega
      obtain ⟨ua, uc, hue, _, _, _, _⟩ := hu5.read
      subst hue
      have H5 := Lib.hid (And.intro hu5 (And.intro hus5 (And.intro hlu (And.intro (HQ.out.2.2.2.2.1.trans (hb5.mono hszr)) (Nat.le_trans hszr hb5.size)))))
      clear h1 h2 hb5 hu5 hus5 hlu
      go_wp2_with (at_builtin; refine append_one 25 47 (.slice none 0 0) 24 Tryz.underlying25 info_vers rfl 12 19 rfl rfl w.heap.size v us _ rfl rfl rfl H5.out.2.1.own (by have := H5.out.2.2.1; omega) (by have := H5.out.2.2.1; unfold maxLen; omega) H5.out.2.2.2.2 ?_)
      intro v6 w6 h1 h2 _
      have HN : Hid (Below w.heap.size w w6 ∧ ∃ us, OwnVs w.heap.size w6 v6 (ls.take (i + 1)) us) := Lib.hid ⟨H5.out.2.2.2.1.trans (((Below.refl _ _).alloc H5.out.2.2.2.2 _).trans (World.grownBy.below h2 (by simp; have := H5.out.2.2.2.2; omega) (fun k e => (H5.out.2.1.own.lt k e).1))), _, by
        rw [HQ.out.2.2.1]; exact OwnVs.snoc H5.out.2.1 H5.out.1 h1 h2⟩
      clear h1 h2
      go_wp2
      go_roundw
      case rel =>
        first
        | exact ⟨i + 1, _, by omega, by go_num, rfl, HN⟩
        | (repeat apply Exists.intro); exact ⟨⟨i + 1, _, by omega, by go_num, rfl, HN⟩, rfl⟩
      case measure => simp [intOf]; omega
    · rw [← H.out.1, List.take_length] at hus
      obtain ⟨a', cap', hv, hrd⟩ := hus.read
      rw [H.out.1] at hv
      subst hv
      have HE := Lib.hid (And.intro hbr hrd)
      clear hbr hrd hus
      go_wp2
      go_ret
      exact ⟨HE.out.1, _, _, rfl, HE.out.2⟩
end
end Go.Proofs.YtjhjpijjfpfjeaaGreatDoor
/- The walk of the document's NodesFault. -/
namespace Go.Proofs.YtjhjpijjfpfjeaaGreatDoor
open Go.RowKit

/-- a fault as the document's answer has it. -/
def fltA (f : Nat × Int) : Value := .agg #[.int .i64 (f.1 : Nat), .int .i64 f.2]
theorem drewN_below (w : World) (n : Nat) : Below w.heap.size w (w.drewN n) := ⟨rfl, rfl, rfl, Nat.le_refl _, fun _ _ => rfl⟩
theorem alloc_drewN_below (w : World) (o : Obj) (n : Nat) : Below w.heap.size w ((w.alloc o).drewN n) := ((Below.refl _ w).alloc (Nat.le_refl _) o).trans ((drewN_below (w.alloc o) n).mono (by simp))
set_option maxRecDepth 100000 in
set_option maxHeartbeats 4000000 in
theorem rnodes_walk (n₀ : Nat) (a : Option Addr) (len cap : Nat) (L : List ByteArray) (w : World) (hlen : L.length = len) (hcap : len ≤ cap) (hsz : ∀ j : Nat, (L[j]?.getD (⟨#[]⟩ : ByteArray)).size ≤ maxLen) (hI : TxsAt n₀ w a L) (hn : n₀ ≤ w.heap.size) :
    Calls Tryz.prog 20 #[.slice a len cap] w fun e w' => e = .returned (fltA (nodesF L)) ∧ Below w.heap.size w w' := by
  have hP := Pair.new w (.int .i64 0) (.int .i64 0) 38
  have hB0 : Below w.heap.size w (w.alloc (.cells #[.int .i64 0, .int .i64 0] 38)) := (Below.refl _ w).alloc (Nat.le_refl _) _
  have hz : w.heap.size < (w.alloc (.cells #[.int .i64 0, .int .i64 0] 38)).heap.size := by simp
  obtain ⟨W0, hW0⟩ : ∃ W0, w.alloc (.cells #[.int .i64 0, .int .i64 0] 38) = W0 := ⟨_, rfl⟩
  rw [hW0] at hP hB0 hz
  have hI0 := (hI.mono hn).below hB0
  obtain ⟨bb, hbb⟩ : ∃ bb, w.heap.size = bb := ⟨_, rfl⟩
  rw [hbb] at hP hz
  have HB := Lib.hid (And.intro hP (And.intro hB0 hz))
  have HW := Lib.hid hW0
  have Hbb := Lib.hid hbb
  have HI := Lib.hid hI0
  obtain ⟨F, hF⟩ : ∃ F, nodesF L = F := ⟨_, rfl⟩
  have HF := Lib.hid hF
  rw [hF]
  have hset : ∀ V, Below w.heap.size w V → ∀ u v : Value, Below w.heap.size w ((V.setCell ⟨bb, 0, none⟩ u).setCell ⟨bb, 1, none⟩ v) := fun V hV u v => (hV.setCell (p := ⟨bb, 0, none⟩) (Nat.le_of_eq hbb) u).setCell (p := ⟨bb, 1, none⟩) (Nat.le_of_eq hbb) v
  have Hset := Lib.hid hset
  have Hl := Lib.hid hlen
  have Hs := Lib.hid hsz
  clear hF hW0 hbb hP hB0 hz hset hI hI0
  by_cases hb : 1 ≤ len ∧ len ≤ 16
  · have hm' : len ≤ 9223372036854775807 := by omega
    have Hr : Hid (1 ≤ L.length ∧ L.length ≤ 16) := Lib.hid (by rw [hlen]; exact hb)
    have g1 : ¬ (len : Int) < 1 := by omega
    have g1d : decide (len < 1) = false := decide_eq_false (by omega)
    have g2 : ¬ (16 : Int) < len := by omega
    have g2d : decide (16 < len) = false := decide_eq_false (by omega)
    have hcap2 : (len : Int) ≤ cap := by omega
    clear hb hlen hsz hcap
    go_enter Tryz.func20, Tryz.ntmps20
    go_wp2
    rw [HW.out, Hbb.out]
    go_loopw [3] (fun vi wr => ∃ k : Nat, k ≤ len ∧ vi = .int .i64 k ∧ Hid ((∀ j, j < k → badAt L j = 0) ∧ ∃ q, wr = W0.drewN q)) (fun i _ => len - (intOf i).toNat)
    case atStart => exact ⟨0, by omega, rfl, Lib.hid ⟨fun j hj => by omega, 0, rfl⟩⟩
    case round =>
      obtain ⟨k, hk, rfl, Hz⟩ := hrel
      have hk2 : k < len ∨ k = len := by omega
      have hpw : Pair wr bb (.int .i64 0) (.int .i64 0) ∧ Below w.heap.size w wr ∧ bb < wr.heap.size ∧ TxsAt w.heap.size wr a L := by
        obtain ⟨_, q, hq⟩ := Hz.out
        rw [hq]
        exact ⟨HB.out.1.drewN q, HB.out.2.1.trans ((drewN_below W0 q).mono HB.out.2.1.size), HB.out.2.2, HI.out⟩
      have HP := Lib.hid hpw
      clear hpw
      rcases hk2 with hlt | rfl
      · have hlt2 : (k : Int) < len := by omega
        have hk3 : (k : Int) ≤ cap := by omega
        rcases HP.out.2.2.2 with he | ⟨b, off, rfl, hbl, hc⟩
        · exfalso
          have := Hl.out
          rw [he] at this; simp at this; omega
        have h1 := hc k (by have := Hl.out; omega)
        obtain ⟨x, hx⟩ : ∃ x, L[k]?.getD ⟨#[]⟩ = x := ⟨_, rfl⟩
        have hxs := Hs.out k
        rw [hx] at h1 hxs
        have Hx := Lib.hid hx
        have Hn := Lib.hid (rname_walk x wr hxs)
        clear hc hx hxs
        cases hnb : nameB x with
        | false =>
          rw [hnb] at Hn
          have hF2 : F = (4, (k : Int)) := by
            have hbad : badAt L k = 4 := badAt_name (by rw [Hx.out]; exact hnb)
            rw [← HF.out, nodesF_at Hr.out (by have := Hl.out; omega) Hz.out.1 (by omega), hbad]
          clear hnb
          subst hF2
          obtain ⟨p0, p1, q0, q1⟩ := HP.out.1
          go_wp2_with fail
          refine Hn.out.mono ?_
          rintro e w' ⟨rfl, rfl⟩
          go_wp2
          exact bodyPost_ret (v := fltA (4, (k : Int))) (by simp [results, Tryz.results20, fltA, p0, p1, go_sem]) rfl ⟨rfl, Hset.out _ HP.out.2.1 _ _⟩
        | true =>
          rw [hnb] at Hn
          obtain ⟨y, hy⟩ : ∃ y, idxT (L.take k) x = y := ⟨_, rfl⟩
          have hq : ∀ n c, Calls Tryz.prog 40 #[.slice (some ⟨b, off, none⟩) k c, .string x] (wr.drewN n) fun e w' => e = .returned (.int .i64 y) ∧ w' = wr.drewN n := fun n c => by
            rw [← hy]
            exact (ridx_walk w.heap.size (some ⟨b, off, none⟩) k c (L.take k) x (wr.drewN n) (at_take (by have := Hl.out; omega)) (by have := Hl.out; have := Hr.out; unfold maxLen; omega) (TxsAt.take k HP.out.2.2.2)).mono fun e w' h => ⟨h.1, h.2.symm⟩
          have Hq := Lib.hid hq
          have hmem := (idxT_range (L.take k) x).2.2
          rw [hy] at hmem
          by_cases hm : x ∈ L.take k
          · have hy0 : 0 ≤ y := hmem.2 hm
            have hF2 : F = (6, (k : Int)) := by
              have hbad : badAt L k = 6 := badAt_exist (by rw [Hx.out]; exact hnb) (by rw [Hx.out]; exact hm)
              rw [← HF.out, nodesF_at Hr.out (by have := Hl.out; omega) Hz.out.1 (by omega), hbad]
            clear hnb hmem hm hq hy
            subst hF2
            obtain ⟨p0, p1, q0, q1⟩ := HP.out.1
            go_wp2_with fail
            refine Hn.out.mono ?_
            rintro e w' ⟨rfl, rfl⟩
            go_wp2
            go_quiet ((go_at_call 40; exact Calls.quiet_of_same (Hq.out _ _)))
            go_wp2
            exact bodyPost_ret (v := fltA (6, (k : Int))) (by simp [results, Tryz.results20, fltA, p0, p1, go_sem]) rfl ⟨rfl, Hset.out _ (HP.out.2.1.trans ((drewN_below wr _).mono HP.out.2.1.size)) _ _⟩
          · have hy0 : ¬ 0 ≤ y := fun h => hm (hmem.1 h)
            have hbad : badAt L k = 0 := badAt_ok (by rw [Hx.out]; exact hnb) (by rw [Hx.out]; exact hm)
            have Hbad := Lib.hid hbad
            clear hnb hmem hm hbad hq hy
            go_wp2_with fail
            refine Hn.out.mono ?_
            rintro e w' ⟨rfl, rfl⟩
            go_wp2
            go_quiet ((go_at_call 40; exact Calls.quiet_of_same (Hq.out _ _)))
            go_wp2
            go_roundw
            case rel => exact ⟨k + 1, by omega, by go_num, Lib.hid ⟨fun j hj => by
              by_cases e : j = k
              · rw [e]; exact Hbad.out
              · exact Hz.out.1 j (by omega), by
                obtain ⟨_, q, hq⟩ := Hz.out
                exact ⟨q + nq, by rw [hq, World.drewN_drewN]⟩⟩⟩
            case measure => simp [intOf]; omega
      · have hF2 : F = (0, -1) := by rw [← HF.out, nodesF_ok Hr.out (fun j hj => Hz.out.1 j (by have := Hl.out; omega))]
        subst hF2
        have Hfn := Lib.hid (fine_walk wr)
        go_wp2_with fail
        refine Hfn.out.mono ?_
        rintro e w1 ⟨rfl, hb1⟩
        obtain ⟨p0, p1, q0, q1⟩ := HP.out.1.below hb1 HP.out.2.2.1
        have HB1 := Lib.hid (HP.out.2.1.trans (hb1.mono HP.out.2.1.size))
        clear hb1
        go_wp2
        exact bodyPost_ret (v := fltA (0, -1)) (by simp [results, Tryz.results20, fltA, p0, p1, go_sem]) rfl ⟨rfl, Hset.out _ HB1.out _ _⟩
  · have hF2 : F = (2, -1) := by rw [← HF.out, nodesF_out (by rw [hlen]; exact hb)]
    subst hF2
    have hcase : len < 1 ∨ (¬ len < 1 ∧ 16 < len) := by omega
    rcases hcase with h1 | ⟨h1, h2⟩
    case' inl =>
      have g1 : (len : Int) < 1 := by omega
      have g1d : decide (len < 1) = true := decide_eq_true h1
    case' inr =>
      have g1 : ¬ (len : Int) < 1 := by omega
      have g1d : decide (len < 1) = false := decide_eq_false h1
      have g2 : (16 : Int) < len := by omega
      have g2d : decide (16 < len) = true := decide_eq_true h2
    all_goals
      clear hb hlen hsz hcap h1
      try clear h2
      have Hfn := Lib.hid (bare_walk 2 W0)
      go_enter Tryz.func20, Tryz.ntmps20
      go_wp2_with fail
      rw [HW.out, Hbb.out]
      refine Hfn.out.mono ?_
      rintro e w1 ⟨rfl, hb1⟩
      obtain ⟨p0, p1, q0, q1⟩ := HB.out.1.below hb1 HB.out.2.2
      have HB1 := Lib.hid (HB.out.2.1.trans (hb1.mono HB.out.2.1.size))
      clear hb1
      go_wp2
      exact bodyPost_ret (v := fltA (2, -1)) (by simp [results, Tryz.results20, fltA, p0, p1, go_sem]) rfl ⟨rfl, Hset.out _ HB1.out _ _⟩
end Go.Proofs.YtjhjpijjfpfjeaaGreatDoor
