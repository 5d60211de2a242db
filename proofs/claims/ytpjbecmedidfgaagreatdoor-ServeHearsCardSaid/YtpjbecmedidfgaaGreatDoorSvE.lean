/- Walks of a member's New and Hold. -/
import Derived.Test.YtpjbecmedidfgaaGreatDoorSvC
import Derived.Test.YtpjbecmedidfgaaGreatDoorSvW
namespace Go.Proofs.YtpjbecmedidfgaaGreatDoor
section
open Go.RowKit Go.Maps Go.BigFrame

theorem has_none (c : Int) : Maps.has (.map [] : DataW Value) (litI c) = false := rfl
theorem MemAt.fresh {P : Nat → Prop} {wf : World} {mp bm : Nat} {name : ByteArray} (hm : wf.ownsMap Tryz.prog 3 Rv bm 0 (.map [])) (c0 : wf.cell? ⟨mp, 0, none⟩ = some (.string name)) (c1 : wf.cell? ⟨mp, 1, none⟩ = some (.map (some bm))) (hlt : mp < wf.heap.size) (hbm : P bm) (hmp : ¬ P mp) (hn : ∀ b, wf.heap.size ≤ b → P b) : MemAt P wf mp name [] (fun _ => newH 0) :=
  ⟨hmp, hlt, c0, hn, ⟨bm, .map [], c1, hbm, hm, fun c => rfl, fun c => rfl, rfl, fun c hc => by cases hc⟩, fun c hc => (by cases hc), fun c hc => (by cases hc), fun c hc => (by cases hc), fun c hc => (by cases hc), Nat.zero_le _, List.nodup_nil⟩
set_option maxRecDepth 100000 in
set_option maxHeartbeats 4000000 in
theorem snew_walk (w : World) (name : ByteArray) (hn : nameB name = true) (hl : name.size ≤ maxLen) :
    Calls Tryz.prog 7 #[.string name] w fun e w' => Below w.heap.size w w' ∧ ∃ mp, e = .returned (.tuple #[.pointer (some ⟨mp, 0, none⟩), .nilIface]) ∧ MemAt (fun b => w.heap.size ≤ b ∧ b ≠ mp) w' mp name [] (fun _ => newH 0) := by
  have hmm := @run_makeMap Tryz.prog
  have Hn := Lib.hid (name_walk name w hl)
  rw [hn] at Hn
  clear hn
  go_enter Tryz.func7, Tryz.ntmps7
  go_wp2_with fail
  refine Hn.out.mono ?_
  rintro e w1 ⟨rfl, hb1⟩
  have H1 := Lib.hid hb1
  clear hb1
  go_wp2
  go_ret2
  have hs2 := H1.out.size
  have hbm : Below w1.heap.size (w1.alloc (.map #[] 0)) ((w1.alloc (.map #[] 0)).alloc (.cells #[.string name, .map (some w1.heap.size)] 80)) := (Below.refl _ _).alloc (by simp) _
  refine ⟨H1.out.trans ((((Below.refl w1.heap.size w1).alloc (Nat.le_refl _) _).trans hbm).mono hs2), _, rfl, MemAt.fresh (bm := w1.heap.size) ?_ (by rw [show w1.heap.size + 1 = (w1.alloc (.map #[] 0)).heap.size by simp]; simp) (by rw [show w1.heap.size + 1 = (w1.alloc (.map #[] 0)).heap.size by simp]; simp) (by simp) ⟨hs2, by omega⟩ (fun h9 => h9.2 rfl) (fun b hb => by simp at hb; omega)⟩
  exact (World.ownsMap_made w1 Tryz.prog 3 Rv).kept (row := none) ⟨rfl, rfl, rfl, by simp, fun k hk _ => Below.heap_alloc _ _ _ hk⟩ (by simp)
set_option maxHeartbeats 1000000 in
theorem shold_walk (P : Nat → Prop) (w : World) (mp : Nat) (name : ByteArray) (cs : List Int) (H : Int → HSt) (c : Int) (h : MemAt P w mp name cs H) (hc : Int64 c) :
    Calls Tryz.prog 15 #[.pointer (some ⟨mp, 0, none⟩), .int .i64 c] w fun e w' => e = .returned (ptrOf cs H c) ∧ w = w' := by
  obtain ⟨bm, D, m0, m1, m2, m3, m4, m5, m6⟩ := h.map
  obtain ⟨v, ps, hr, hv⟩ := m2.lookup keyedI Tryz.underlying78 (zeroPtr w) (z := .pointer none) (zd := .held (.pointer none)) (zp := []) rfl (keyI hc)
  have hv2 : v = ptrOf cs H c := by
    unfold Rv at hv
    rw [m3 c] at hv
    simp at hv
    exact hv.1
  subst hv2
  clear h m1 m2 m3 m4 m5 m6 hv
  go_enter Tryz.func15, Tryz.ntmps15
  go_wp2
  go_ret
  exact ⟨rfl, rfl⟩
end
end Go.Proofs.YtpjbecmedidfgaaGreatDoor
/- A member of one configuration; the closed fact answers. -/
namespace Go.Proofs.YtpjbecmedidfgaaGreatDoor
section
open Go.RowKit Go.Maps Go.BigFrame

theorem VrS.mono2 {S T : Nat → Prop} {A : World} (h : ∀ b, b < A.heap.size → S b → T b) {a : Option Addr} {l : List Ver} : VrS S A a l → VrS T A a l
  | .inl e => .inl e
  | .inr ⟨b, off, e, hb, hl, hc⟩ => .inr ⟨b, off, e, h b hl hb, hl, hc⟩
def nA : ByteArray := ⟨#[97]⟩
def nK : ByteArray := ⟨#[107]⟩
def nC0 : ByteArray := ⟨#[99, 48]⟩
theorem name_nA : nameB nA = true := by decide +kernel
theorem name_nK : nameB nK = true := by decide +kernel
/-- what a member of one configuration has. -/
def OneS (c : Int) (s : MS) (st : HS) : Prop := (s = [] ∧ st = (false, [])) ∨ s = [(c, st)]
theorem hear_one {c : Int} {s : MS} {st : HS} (h : OneS c s st) {name : ByteArray} {m : Msg} (hm : m.cf = c) (hb : hearsB name m = true) : hearT s name m = ([(c, (actT m st).1)], (actT m st).2) := by
  subst hm
  unfold hearT
  rw [if_pos hb]
  have h1 : ofS s m.cf = some [(m.cf, st)] := by
    rcases h with ⟨rfl, rfl⟩ | rfl
    · rfl
    · unfold ofS hasS
      rw [if_pos (by simp)]
  rw [h1]
  have h2 : getS [(m.cf, st)] m.cf = st := by unfold getS; simp
  have h3 : ∀ x, setS [(m.cf, st)] m.cf x = [(m.cf, x)] := fun x => by unfold setS; simp
  dsimp only
  rw [h2, h3]
theorem hear_none {s : MS} {name : ByteArray} {m : Msg} (hb : hearsB name m = false) : hearT s name m = (s, none) := by
  unfold hearT
  rw [if_neg (by rw [hb]; decide)]
theorem hear_keeps {c : Int} {s : MS} {name : ByteArray} {m : Msg} (h : ∃ st, OneS c s st) (hm : m.cf = c) : ∃ st, OneS c (hearT s name m).1 st := by
  obtain ⟨st, h⟩ := h
  cases hb : hearsB name m with
  | true => rw [hear_one h hm hb]; exact ⟨_, .inr rfl⟩
  | false => rw [hear_none hb]; exact ⟨st, h⟩
/-- one message is handed back. -/
theorem RetMsgs.one {S : Nat → Prop} {w : World} {e : Ending} {m : Msg} (h : RetMsgs S w e [m]) : ∃ b off cap, e = .returned (.slice (some ⟨b, off, none⟩) 1 cap) ∧ S b ∧ b < w.heap.size ∧ MsgAtS S w b off m := by
  obtain ⟨a, cap, rfl, h1, h2, h3, h4⟩ := h
  rcases h4 with e | ⟨b, off, rfl, hb, hl, hc⟩
  · cases e
  · exact ⟨b, off, cap, rfl, hb, hl, by simpa using hc 0 (by simp)⟩
/-- an answer of a member of one configuration. -/
def ActPost (P : Nat → Prop) (w w' : World) (mp : Nat) (name : ByteArray) (c : Int) (st : HS) (m : Msg) (x : Ans) (e : Ending) : Prop :=
  ∃ (cs' : List Int) (H' : Int → HSt) (P' : Nat → Prop) (b off cap : Nat), (∀ b, P' b → P b) ∧ KeptBut P w w' ∧ MemAt P' w' mp name cs' H' ∧ absM cs' H' = [(c, st)] ∧ e = .returned (.slice (some ⟨b, off, none⟩) 1 cap) ∧
    (w.heap.size ≤ b ∧ ¬ P' b) ∧ b < w'.heap.size ∧ MsgAtS (fun b => w.heap.size ≤ b ∧ ¬ P' b) w' b off (ansMsg name m x)
theorem HearPost.act {P : Nat → Prop} {w w' : World} {mp : Nat} {name : ByteArray} {c : Int} {s : MS} {st : HS} {m : Msg} {x : Ans} {e : Ending} (h : HearPost P w w' mp name s m e) (hs : OneS c s st) (hm : m.cf = c) (hb : hearsB name m = true) (hx : (actT m st).2 = some x) : ActPost P w w' mp name c (actT m st).1 m x e := by
  obtain ⟨cs, H, P', h1, h2, h3, h4, h5⟩ := h
  rw [hear_one hs hm hb] at h4 h5
  dsimp only at h4 h5
  rw [hx] at h5
  obtain ⟨b, off, cap, h6, h7, h8, h9⟩ := RetMsgs.one h5
  exact ⟨cs, H, P', b, off, cap, h1, h2, h3, h4, h6, h7, h8, h9⟩
def lookM (c : Int) : Msg := ⟨nC0, nA, kLook, nK, 0, c, false, []⟩
theorem look_hears (c : Int) (hc : 0 ≤ c) : hearsB nA (lookM c) = true := by
  unfold hearsB lookM
  dsimp only
  rw [decide_eq_true (show nA = nA ∧ 0 ≤ c from ⟨rfl, hc⟩), name_nK, decide_eq_true (.inl rfl)]
  rfl
theorem cs_of_abs {cs : List Int} {H : Int → HSt} {c : Int} {st : HS} (h : absM cs H = [(c, st)]) : cs = [c] := by
  unfold absM at h
  match cs, h with
  | [k], h =>
    simp at h
    rw [h.1]
set_option maxRecDepth 100000 in
set_option maxHeartbeats 8000000 in
theorem answers_walk (w : World) (E : Nat → Addr) (hE : ErrS w E) :
    Calls Tryz.prog 5 #[] w fun e w' => e = .returned (.bool true) ∧ Below w.heap.size w w' := by
  have Hn := Lib.hid (snew_walk w nA name_nA (by decide))
  have HE := Lib.hid hE
  clear hE
  go_enter Tryz.func5, Tryz.ntmps5
  go_wp2_with fail
  refine Hn.out.mono ?_
  rintro e w1 ⟨hb1, mp, rfl, hm1⟩
  have Hh := Lib.hid ((hear_walk _ w1 mp nA [] _ nC0 nA kLook nK 0 0 false none 0 0 [] hm1 (by unfold Int64; omega) (by decide) rfl (by decide) (.inl rfl) E w HE.out hb1 (fun b h => h.1)).mono fun e w' h => HearPost.act (c := 0) (st := (false, [])) (x := (kTold, false, [])) h (.inl ⟨rfl, rfl⟩) rfl (look_hears 0 (by decide)) rfl)
  have H1 := Lib.hid hb1
  clear hm1 hb1
  unfold nA nC0 kLook nK at Hh
  go_wp2_with fail
  refine Hh.out.mono ?_
  rintro e w2 ⟨cs, H, P', b, off, cap, h1, h2, h3, h4, rfl, h6, h7, h8⟩
  obtain ⟨k0, k1, k2, k3, k4, k5, k6, ad, cp, k7, _⟩ := h8
  have e1 := cs_of_abs h4
  subst e1
  have hH0 := shold_walk P' w2 mp _ [0] H 0 h3 (by unfold Int64; omega)
  have hH1 := shold_walk P' w2 mp _ [0] H 1 h3 (by unfold Int64; omega)
  unfold ptrOf at hH0 hH1
  rw [if_pos (by simp)] at hH0
  rw [if_neg (by simp)] at hH1
  have H2 := Lib.hid (And.intro (H1.out.trans (h2.below H1.out.size (fun b hb => hb.1))) (And.intro hH0 hH1))
  unfold ansMsg at k1 k2
  dsimp only at k1 k2
  unfold kTold at k2
  clear h1 h2 h3 h4 h6 h7 k0 k3 k4 k5 k6 k7 hH0 hH1 Hh
  go_wp2_with fail
  refine H2.out.2.1.mono ?_
  rintro e w3 ⟨rfl, rfl⟩
  go_wp2_with fail
  refine H2.out.2.2.mono ?_
  rintro e w3 ⟨rfl, rfl⟩
  go_wp2
  go_ret
  exact ⟨rfl, H2.out.1⟩
end
end Go.Proofs.YtpjbecmedidfgaaGreatDoor
