/- BackWires, in blocks of S. -/
import Derived.Test.YtpjbecmedidfgaaGreatDoorSamM
import Derived.Test.YtpjbecmedidfgaaGreatDoorSvC
import Derived.Test.YtpjbecmedidfgaaGreatDoorSvT
import Derived.Test.YtpjbecmedidfgaaGreatDoorSvE
import Derived.Deep.QuietTactic
namespace Go.Proofs.YtpjbecmedidfgaaGreatDoor
section
open Go.RowKit Go.BigFrame

/-- a message's eight cells. -/
def encM (m : Msg) (ad : Option Addr) (cap : Nat) : List Value := [.string m.fr, .string m.dst, .string m.kind, .string m.key, .int .i64 m.op, .int .i64 m.cf, .bool m.sl, .slice ad m.L.length cap]
/-- messages of the call's own. -/
def MsgsO (B : Nat) (S : Nat → Prop) (w : World) (v : Value) (l : List Msg) : Prop :=
  ∃ us : List (List Value), OwnRec 44 8 B w v us ∧ us.length = l.length ∧ ∀ j, j < l.length → ∃ ad cap, us[j]?.getD [] = encM (l[j]?.getD msg0) ad cap ∧ (l[j]?.getD msg0).L.length ≤ cap ∧ cap ≤ maxLen ∧ (ad = none → cap = 0) ∧ VrS S w ad (l[j]?.getD msg0).L
theorem MsgsO.nil (B : Nat) (S : Nat → Prop) (w : World) : MsgsO B S w (.slice none 0 0) [] := ⟨[], OwnRec.nil _ _ _ _, rfl, fun j hj => by simp at hj⟩
theorem MsgsO.read {B : Nat} {S : Nat → Prop} {w : World} {v : Value} {l : List Msg} (h : MsgsO B S w v l) :
    ∃ a cap, v = .slice a l.length cap ∧ l.length ≤ cap ∧ cap ≤ maxLen ∧ (a = none → cap = 0) ∧ MsgsS (fun b => S b ∨ B ≤ b) w a l := by
  obtain ⟨us, ho, hl, hj⟩ := h
  obtain ⟨a, cap, rfl, h1, h2, h3, h4, h5⟩ := ho.read
  rw [hl] at h1
  refine ⟨a, cap, by rw [hl], h1, h2, h3, ?_⟩
  rcases h5 with e | ⟨b, off, rfl, hb, hc⟩
  · left
    rw [e] at hl
    exact List.length_eq_zero_iff.1 hl.symm
  · refine .inr ⟨b, off, rfl, .inr (h4 _ rfl).1, hb, fun i hi => ?_⟩
    obtain ⟨ad, cp, e, e1, e2, e3, e4⟩ := hj i hi
    have hcc : ∀ j, j < 8 → w.cell? ⟨b, off + i * 8 + j, none⟩ = (encM (l[i]?.getD msg0) ad cp)[j]? := fun j hj8 => by rw [← e]; exact hc i j (by omega) hj8
    exact ⟨hcc 0 (by omega), hcc 1 (by omega), hcc 2 (by omega), hcc 3 (by omega), hcc 4 (by omega), hcc 5 (by omega), hcc 6 (by omega), ad, cp, hcc 7 (by omega), e1, e2, e3, e4.mono (fun _ h => .inl h)⟩
theorem info_mess : (Tryz.prog.info? 44).map (fun i => (i.zero, i.size, i.bytes)) = some (some (.agg #[.string ⟨#[]⟩, .string ⟨#[]⟩, .string ⟨#[]⟩, .string ⟨#[]⟩, .int .i64 0, .int .i64 0, .bool false, .slice none 0 0]), 8, 112) := by kernel_rfl
theorem encM_one (m : Msg) (ad : Option Addr) (cap : Nat) : ∀ u ∈ encM m ad cap, u.oneCell' = true := fun u hu => by
  unfold encM at hu
  simp at hu
  rcases hu with rfl | rfl | rfl | rfl | rfl | rfl | rfl | rfl <;> rfl
theorem MsgsS.bound {S : Nat → Prop} {w : World} {a : Option Addr} {l : List Msg} (h : MsgsS S w a l) : MsgsS (fun b => S b ∧ b < w.heap.size) w a l := by
  rcases h with e | ⟨b, off, e, hb, hl, hc⟩
  · exact .inl e
  · refine .inr ⟨b, off, e, ⟨hb, hl⟩, hl, fun i hi => ?_⟩
    obtain ⟨h0, h1, h2, h3, h4, h5, h6, ad, cap, h7, h8, h9, h10, h11⟩ := hc i hi
    refine ⟨h0, h1, h2, h3, h4, h5, h6, ad, cap, h7, h8, h9, h10, ?_⟩
    rcases h11 with e | ⟨b', off', e, hb', hl', hc'⟩
    · exact .inl e
    · exact .inr ⟨b', off', e, ⟨hb', hl'⟩, hl', hc'⟩
set_option maxRecDepth 100000 in
set_option maxHeartbeats 4000000 in
theorem bwires_walk (w : World) (S : Nat → Prop) (a : Option Addr) (len cap : Nat) (l : List Msg) (hlen : l.length = len) (hm : len ≤ 1000000) (hA : MsgsS S w a l) :
    Calls Tryz.prog 11 #[.slice a len cap] w fun e w' => ∃ v, e = .returned v ∧ Below w.heap.size w w' ∧ MsgsO w.heap.size (fun b => S b ∧ b < w.heap.size) w' v l := by
  have H := Lib.hid (And.intro hA.bound hlen)
  clear hA hlen
  go_enter Tryz.func11, Tryz.ntmps11
  go_wp2
  go_loopw [3, 4] (fun vo vi wr => ∃ (i : Nat) (v : Value), i ≤ len ∧ vi = .int .i64 i ∧ v = vo ∧ Hid (MsgsO w.heap.size (fun b => S b ∧ b < w.heap.size) wr v (l.take i) ∧ Below w.heap.size w wr)) (fun _ vi _ => len - (intOf vi).toNat)
  case atStart => exact ⟨0, _, by omega, rfl, rfl, Lib.hid ⟨by simpa using MsgsO.nil _ _ _, Below.refl _ _⟩⟩
  case round =>
    obtain ⟨i, v, hi, rfl, hv, Hr⟩ := hrel
    subst hv
    have hi2 : i < len ∨ len = i := by omega
    rcases hi2 with hilt | rfl
    · have hilt2 : (i : Int) < len := by omega
      have hil : i < l.length := by rw [H.out.2]; exact hilt
      rcases H.out.1.below Hr.out.2 with he | ⟨b1, o1, rfl, hS1, hb1, hc1⟩
      · exfalso
        rw [he] at hil; simp at hil
      obtain ⟨k0, k1, k2, k3, k4, k5, k6, ad1, cp1, k7, q1, q2, q3, q4⟩ := hc1 i hil
      obtain ⟨⟨fr, dst, kind, key, op, cf, sl, L⟩, hx⟩ : ∃ x, l[i]?.getD msg0 = x := ⟨_, rfl⟩
      have Hx := Lib.hid (And.intro hx hil)
      rw [hx] at k0 k1 k2 k3 k4 k5 k6 k7 q1 q4
      dsimp only at k0 k1 k2 k3 k4 k5 k6 k7 q1 q4
      obtain ⟨n, hnn⟩ : ∃ n, L.length = n := ⟨_, rfl⟩
      rw [hnn] at k7 q1
      have Hb := Lib.hid (backwire_walk wr fr dst kind key op cf sl ad1 n cp1)
      have HQ := Lib.hid (And.intro q1 (And.intro q2 (And.intro q3 (And.intro q4 hnn))))
      clear hc1 hx q1 q2 q3 q4 hil hb1 hS1 hnn
      go_wp2_with fail
      refine Hb.out.mono ?_
      rintro e w2 ⟨hb2, rfl⟩
      obtain ⟨W3, hW3⟩ : ∃ W3, w2.alloc (.cells #[.string fr, .string dst, .string kind, .string key, .int .i64 op, .int .i64 cf, .bool sl, .slice ad1 n cp1] 44) = W3 := ⟨_, rfl⟩
      have hs3 : W3.heap.size = w2.heap.size + 1 := by rw [← hW3]; simp
      have hb3 : Below wr.heap.size wr W3 := hb2.trans (by rw [← hW3]; exact (Below.refl _ _).alloc hb2.size _)
      obtain ⟨us, ho, hul, hus⟩ := Hr.out.1
      have ho3 := ho.below hb3
      have gm : W3.heap[w2.heap.size]? = some (.cells #[.string fr, .string dst, .string kind, .string key, .int .i64 op, .int .i64 cf, .bool sl, .slice ad1 n cp1] 44 (0, 0)) := by rw [← hW3]; exact heap_alloc_new _ _
      have m0 := (cell_of_heap gm 0).trans rfl
      have m1 := (cell_of_heap gm 1).trans rfl
      have m2 := (cell_of_heap gm 2).trans rfl
      have m3 := (cell_of_heap gm 3).trans rfl
      have m4 := (cell_of_heap gm 4).trans rfl
      have m5 := (cell_of_heap gm 5).trans rfl
      have m6 := (cell_of_heap gm 6).trans rfl
      have m7 := (cell_of_heap gm 7).trans rfl
      have htl : (l.take i).length = i := List.length_take_of_le (Nat.le_of_lt Hx.out.2)
      rw [htl] at hul
      have H3 := Lib.hid (And.intro hW3 (And.intro hs3 (And.intro hb3 (And.intro ho3 (And.intro hul hus)))))
      have hszB : w.heap.size ≤ W3.heap.size := Nat.le_trans Hr.out.2.size hb3.size
      clear hb2 hW3 hs3 hb3 ho ho3 gm hul hus htl k0 k1 k2 k3 k4 k5 k6 k7
      go_wp2_with (at_builtin; (rw [H3.out.1]; refine append_rec (w0 := W3) 22 44 _ 8 112 Tryz.underlying22 info_mess rfl (by omega) 17 19 rfl rfl w.heap.size v us [.string fr, .string dst, .string kind, .string key, .int .i64 op, .int .i64 cf, .bool sl, .slice ad1 n cp1] rfl (by have h9 := encM_one ⟨fr, dst, kind, key, op, cf, sl, L⟩ ad1 cp1; unfold encM at h9; rw [HQ.out.2.2.2.2] at h9; exact h9) rfl (congrArg (fun z => Value.slice (some ⟨z, 0, none⟩) 1 1) H3.out.2.1.symm) H3.out.2.2.2.1 (by rw [H3.out.2.2.2.2.1]; omega) (by rw [H3.out.2.2.2.2.1]; unfold maxLen; omega) hszB ?_))
      intro v' w7 h1 h2 _
      have hb7 : Below w.heap.size wr w7 := ((H3.out.2.2.1.mono Hr.out.2.size).trans ((Below.refl _ _).alloc hszB _)).trans (World.grownBy.below h2 (Nat.le_trans hszB (by simp)) (fun k hk => (H3.out.2.2.2.1.lt k hk).1))
      have hk7 : KeptBut (fun b => w.heap.size ≤ b) wr w7 := KeptBut.of_below hb7 (fun _ _ h => h)
      have HN : Hid (MsgsO w.heap.size (fun b => S b ∧ b < w.heap.size) w7 v' (l.take (i + 1)) ∧ Below w.heap.size w w7) := Lib.hid ⟨⟨_, h1, by rw [List.length_append, H3.out.2.2.2.2.1, List.length_take_of_le Hx.out.2]; rfl, fun j hj => by
        rw [List.length_take_of_le Hx.out.2] at hj
        rw [List.getElem?_take_of_lt hj]
        by_cases hji : j = i
        · subst hji
          refine ⟨ad1, cp1, ?_, ?_, HQ.out.2.1, HQ.out.2.2.1, ?_⟩
          · rw [List.getElem?_append_right (by rw [H3.out.2.2.2.2.1]; exact Nat.le_refl _), H3.out.2.2.2.2.1, Hx.out.1]
            simp [encM, HQ.out.2.2.2.2]
          · rw [Hx.out.1]; show L.length ≤ cp1; rw [HQ.out.2.2.2.2]; exact HQ.out.1
          · rw [Hx.out.1]; exact HQ.out.2.2.2.1.kept hk7 (fun b _ h1 h2 => by have := h1.2; omega)
        · have hjl : j < i := by omega
          obtain ⟨ad, cp, e1, e2, e3, e4, e5⟩ := H3.out.2.2.2.2.2 j (by rw [List.length_take_of_le (Nat.le_of_lt Hx.out.2)]; exact hjl)
          rw [List.getElem?_take_of_lt hjl] at e1 e2 e5
          refine ⟨ad, cp, ?_, e2, e3, e4, e5.kept hk7 (fun b _ h1 h2 => by have := h1.2; omega)⟩
          rw [List.getElem?_append_left (by rw [H3.out.2.2.2.2.1]; exact hjl)]
          exact e1⟩, Hr.out.2.trans hb7⟩
      clear h1 h2 hb7 hk7 m0 m1 m2 m3 m4 m5 m6 m7
      go_wp2
      go_roundw
      case rel => exact ⟨i + 1, _, by omega, by go_num, rfl, HN⟩
      case measure => simp [intOf]; omega
    · go_wp2
      go_ret
      refine ⟨v, rfl, Hr.out.2, ?_⟩
      have h9 := Hr.out.1
      rw [← H.out.2, List.take_length] at h9
      exact h9
end
end Go.Proofs.YtpjbecmedidfgaaGreatDoor
/- A member and the document's member in one memory: what each step leaves. -/
namespace Go.Proofs.YtpjbecmedidfgaaGreatDoor
section
open Go.RowKit Go.Maps Go.BigFrame

theorem MsgsS.mono {S T : Nat → Prop} {w : World} (h : ∀ b, b < w.heap.size → S b → T b) {a : Option Addr} {l : List Msg} (hm : MsgsS S w a l) : MsgsS T w a l := by
  rcases hm with e | ⟨b, off, e, hb, hl, hc⟩
  · exact .inl e
  · refine .inr ⟨b, off, e, h b hl hb, hl, fun i hi => ?_⟩
    obtain ⟨h0, h1, h2, h3, h4, h5, h6, ad, cap, h7, h8, h9, h10, h11⟩ := hc i hi
    exact ⟨h0, h1, h2, h3, h4, h5, h6, ad, cap, h7, h8, h9, h10, h11.mono2 h⟩
theorem VrR.toS {n : Nat} {S : Nat → Prop} {w : World} {a : Option Addr} {l : List Ver} (h : VrR n w a l) (hn : n ≤ w.heap.size) (hS : ∀ b, b < n → S b) : VrS S w a l := by
  rcases h with e | ⟨b, off, e, hb, hc⟩
  · exact .inl e
  · exact .inr ⟨b, off, e, hS b hb, Nat.lt_of_lt_of_le hb hn, hc⟩
/-- what is of the one is not of the other. -/
structure Apart (w0 w : World) (mp : Nat) (P Q : Nat → Prop) : Prop where
  p : ∀ b, P b → w0.heap.size ≤ b
  q : ∀ b, Q b → w0.heap.size ≤ b
  d : ∀ b, b < w.heap.size → P b → ¬ Q b
  m : ¬ Q mp
  b : Below w0.heap.size w0 w
/-- a message is copied. -/
theorem duo_wire {P Q : Nat → Prop} {w0 w w5 : World} {mp mo : Nat} {name : ByteArray} {cs cs2 : List Int} {H : Int → HSt} {K : Int → RSt} {a5 : Option Addr} {L : List Ver} (M : MemAt P w mp name cs H) (R : RMemAt Q w mo name cs2 K) (A : Apart w0 w mp P Q) (hb : Below w.heap.size w w5) (hv : VrS (fun b => w.heap.size ≤ b) w5 a5 L) :
    ∃ P5 Q5, MemAt P5 w5 mp name cs H ∧ RMemAt Q5 w5 mo name cs2 K ∧ Apart w0 w5 mp P5 Q5 ∧ VrS (fun b => ¬ P5 b) w5 a5 L :=
  ⟨_, _, M.past hb, R.past hb, ⟨fun b h => A.p b h.1, fun b h => A.q b h.1, fun b hl h1 h2 => by
    rcases h1.2 with h9 | h9
    · exact A.d b h9 h1.1 h2.1
    · omega, fun h => A.m h.1, A.b.trans (hb.mono A.b.size)⟩, hv.mono2 (fun b hl h h9 => by have h8 := h9.2; omega)⟩
/-- the member hears. -/
theorem duo_hear1 {P Q : Nat → Prop} {w0 w w5 : World} {mp mo n1 : Nat} {name : ByteArray} {s : MS} {cs2 : List Int} {K : Int → RSt} {m : Msg} {e : Ending} {l1 : List Msg} (h : HearPost P w w5 mp name s m e) (R : RMemAt Q w mo name cs2 K) (A : Apart w0 w mp P Q) (hl : (((hearT s name m).2.map (ansMsg name m)).toList) = l1) (hn : l1.length = n1) :
    ∃ cs5 H5 P5 Q5 a5 c5, e = .returned (.slice a5 n1 c5) ∧ MemAt P5 w5 mp name cs5 H5 ∧ RMemAt Q5 w5 mo name cs2 K ∧ Apart w0 w5 mp P5 Q5 ∧ absM cs5 H5 = (hearT s name m).1 ∧ MsgsS (fun b => ¬ P5 b ∧ ¬ Q5 b) w5 a5 l1 := by
  obtain ⟨cs5, H5, P5, h1, h2, h3, h4, a5, c5, h5, h6, h7, h8, h9⟩ := h
  rw [hl, hn] at h5
  rw [hl] at h9
  refine ⟨cs5, H5, P5, _, a5, c5, h5, h3, R.keptBut h2 (fun b hb hq hp => A.d b hb hp hq), ⟨fun b h => A.p b (h1 b h), fun b h => A.q b h.1, fun b hl hp hq => ?_, fun h => A.m h.1, A.b.trans (h2.below A.b.size A.p)⟩, h4, h9.mono (fun b hb h => ⟨h.2, fun h9 => ?_⟩)⟩
  · rcases hq.2 with h8 | h8
    · exact A.d b h8 (h1 b hp) hq.1
    · omega
  · have := h9.2
    have := h.1
    omega
/-- the answers are turned. -/
theorem duo_back {P Q : Nat → Prop} {w0 w w5 : World} {mp mo n1 : Nat} {name : ByteArray} {cs cs2 : List Int} {H : Int → HSt} {K : Int → RSt} {v : Value} {l1 : List Msg} (M : MemAt P w mp name cs H) (R : RMemAt Q w mo name cs2 K) (A : Apart w0 w mp P Q) (hb : Below w.heap.size w w5) (hv : MsgsO w.heap.size (fun b => (¬ P b ∧ ¬ Q b) ∧ b < w.heap.size) w5 v l1) (hn : l1.length = n1) :
    ∃ P5 Q5 a5 c5, v = .slice a5 n1 c5 ∧ MemAt P5 w5 mp name cs H ∧ RMemAt Q5 w5 mo name cs2 K ∧ Apart w0 w5 mp P5 Q5 ∧ MsgsS (fun b => ¬ P5 b ∧ ¬ Q5 b) w5 a5 l1 := by
  obtain ⟨a5, c5, h1, h2, h3, h4, h5⟩ := hv.read
  rw [hn] at h1
  refine ⟨_, _, a5, c5, h1, M.past hb, R.past hb, ⟨fun b h => A.p b h.1, fun b h => A.q b h.1, fun b hl h1 h2 => ?_, fun h => A.m h.1, A.b.trans (hb.mono A.b.size)⟩, h5.mono (fun b hl h => ?_)⟩
  · rcases h1.2 with h9 | h9
    · exact A.d b h9 h1.1 h2.1
    · omega
  · rcases h with h | h
    · exact ⟨fun h9 => h.1.1 h9.1, fun h9 => h.1.2 h9.1⟩
    · exact ⟨fun h9 => by have h8 := h9.2; omega, fun h9 => by have h8 := h9.2; omega⟩
/-- the document's member hears. -/
theorem duo_hear2 {P Q : Nat → Prop} {w0 w w5 : World} {mp mo n1 : Nat} {name : ByteArray} {s : MS} {cs : List Int} {H : Int → HSt} {m : Msg} {e : Ending} {a : Option Addr} {l1 : List Msg} (h : RHearPost Q w w5 mo name s m e) (M : MemAt P w mp name cs H) (A : Apart w0 w mp P Q) (hl : (((hearT s name m).2.map (ansMsg name m)).toList) = l1) (hn : l1.length = n1) (hv : MsgsS (fun b => ¬ P b ∧ ¬ Q b) w a l1) :
    ∃ cs5 K5 P5 Q5 a5 c5, e = .returned (.slice a5 n1 c5) ∧ MemAt P5 w5 mp name cs H ∧ RMemAt Q5 w5 mo name cs5 K5 ∧ Apart w0 w5 mp P5 Q5 ∧ absR cs5 K5 = (hearT s name m).1 ∧ MsgsR w5.heap.size w5 a l1 ∧ MsgsR w5.heap.size w5 a5 l1 := by
  obtain ⟨cs5, K5, Q5, h1, h2, h3, h4, a5, c5, h5, h6, h7, h8, h9⟩ := h
  rw [hl, hn] at h5
  rw [hl] at h9
  refine ⟨cs5, K5, _, Q5, a5, c5, h5, M.keptBut h2 (fun b hb hp hq => A.d b hb hp hq) A.m, h3, ⟨fun b h => A.p b h.1, fun b h => A.q b (h1 b h), fun b hl hp hq => ?_, fun h => A.m (h1 mp h), A.b.trans (h2.below A.b.size A.q)⟩, h4, (hv.kept h2 (fun b _ h => h.2)).read, h9.read⟩
  rcases hp.2 with h8 | h8
  · exact A.d b h8 hp.1 (h1 b hq)
  · omega
theorem abs_eq {H : Int → HSt} {K : Int → RSt} : ∀ {cs cs2 : List Int}, absM cs H = absR cs2 K → cs = cs2 ∧ ∀ c ∈ cs, (H c).sd = (K c).sd ∧ (H c).l = (K c).l
  | [], [], _ => ⟨rfl, fun c hc => by cases hc⟩
  | [], _ :: _, h => by cases h
  | _ :: _, [], h => by cases h
  | c :: cs, c2 :: cs2, h => by
    unfold absM absR at h
    simp only [List.map_cons, List.cons.injEq, Prod.mk.injEq] at h
    obtain ⟨⟨rfl, h1, h2⟩, h3⟩ := h
    obtain ⟨rfl, h4⟩ := abs_eq (cs := cs) (cs2 := cs2) h3
    exact ⟨rfl, fun k hk => by
      rcases List.mem_cons.1 hk with rfl | hk
      · exact ⟨h1, h2⟩
      · exact h4 k hk⟩
theorem setS_cf {s : MS} {c : Int} {x : HS} : ∀ p ∈ setS s c x, ∃ q ∈ s, q.1 = p.1 := fun p hp => by
  unfold setS at hp
  obtain ⟨q, hq, rfl⟩ := List.mem_map.1 hp
  refine ⟨q, hq, ?_⟩
  by_cases e : q.1 = c
  · rw [if_pos e]; exact e
  · rw [if_neg e]
theorem hearT_cf {s : MS} {name : ByteArray} {m : Msg} : ∀ p ∈ (hearT s name m).1, (∃ q ∈ s, q.1 = p.1) ∨ p.1 = m.cf := fun p hp => by
  unfold hearT at hp
  by_cases hb : hearsB name m = true
  · rw [if_pos hb] at hp
    unfold ofS at hp
    by_cases h1 : hasS s m.cf = true
    · rw [if_pos h1] at hp
      exact .inl (setS_cf p hp)
    · rw [if_neg h1] at hp
      by_cases h2 : s.length < 12
      · rw [if_pos h2] at hp
        obtain ⟨q, hq, e⟩ := setS_cf p hp
        rcases List.mem_append.1 hq with hq | hq
        · exact .inl ⟨q, hq, e⟩
        · rw [List.mem_singleton.1 hq] at e
          exact .inr e.symm
      · rw [if_neg h2] at hp
        exact .inl ⟨p, hp, rfl⟩
  · rw [if_neg hb] at hp
    exact .inl ⟨p, hp, rfl⟩
theorem hear_int {s : MS} {name : ByteArray} {m : Msg} {cs cs6 : List Int} {H H6 : Int → HSt} (e : absM cs6 H6 = (hearT s name m).1) (hs : absM cs H = s) (hi : ∀ c ∈ cs, Int64 c) (hm : Int64 m.cf) : ∀ c ∈ cs6, Int64 c := fun c hc => by
  have h1 : (c, (H6 c).sd, (H6 c).l) ∈ absM cs6 H6 := List.mem_map.2 ⟨c, hc, rfl⟩
  rw [e] at h1
  rcases hearT_cf _ h1 with ⟨q, hq, h2⟩ | h2
  · rw [← hs] at hq
    obtain ⟨k, hk, rfl⟩ := List.mem_map.1 hq
    have h3 : k = c := h2
    rw [← h3]; exact hi k hk
  · have h3 : c = m.cf := h2
    rw [h3]; exact hm
/-- both members lie in one memory, and have the same. -/
def Both (w0 w : World) (mp mo : Nat) (name : ByteArray) : Prop := ∃ P Q cs H cs2 K, MemAt P w mp name cs H ∧ RMemAt Q w mo name cs2 K ∧ Apart w0 w mp P Q ∧ absM cs H = absR cs2 K ∧ ∀ c ∈ cs, Int64 c
theorem Both.kept {w0 w w' : World} {mp mo : Nat} {name : ByteArray} (h : Both w0 w mp mo name) (hb : Below w.heap.size w w') : Both w0 w' mp mo name := by
  obtain ⟨P, Q, cs, H, cs2, K, M, R, A, e, hi⟩ := h
  obtain ⟨P5, Q5, M5, R5, A5, _⟩ := duo_wire (a5 := none) (L := []) M R A hb (.inl rfl)
  exact ⟨P5, Q5, cs, H, cs2, K, M5, R5, A5, e, hi⟩
/-- a hold of each. -/
theorem Both.two {P Q : Nat → Prop} {w0 w w' : World} {mp mo : Nat} {name : ByteArray} {cs cs2 : List Int} {H : Int → HSt} {K : Int → RSt} {c : Int} (M : MemAt P w mp name cs H) (R : RMemAt Q w mo name cs2 K) (A : Apart w0 w mp P Q) (e : absM cs H = absR cs2 K) (hc : c ∈ cs) (hb : Below w.heap.size w w') : Two (fun _ => True) w' (H c).hb (K c).mb (H c).sd (H c).l (H c).sd (H c).l ∧ Fine (H c).l := by
  obtain ⟨rfl, h2⟩ := abs_eq e
  obtain ⟨h3, h4⟩ := h2 c hc
  have h5 := (M.kept hb).hold c hc
  have h6 := (R.kept hb).hold c hc
  unfold HSt.At at h5
  unfold RSt.At at h6
  rw [← h3, ← h4] at h6
  exact ⟨⟨_, _, _, _, h5, h6, fun b hf hg => A.d b (M.inP c hc b hf).2 (M.inP c hc b hf).1 (R.inQ c hc b hg).1, fun b hf => ⟨trivial, Nat.lt_of_lt_of_le (M.inP c hc b hf).2 hb.size⟩, fun b hg => ⟨trivial, Nat.lt_of_lt_of_le (R.inQ c hc b hg).2.1 hb.size⟩, fun _ _ => trivial⟩, M.fine c hc⟩
/-- a member of the document's is made. -/
theorem RMemAt.fresh {w : World} {name : ByteArray} : RMemAt (fun b => w.heap.size ≤ b) (w.alloc (.cells #[.string name, .slice none 0 0, .bool false] 35)) w.heap.size name [] (fun _ => newK 0) :=
  ⟨Nat.le_refl _, by simp, by simp, by simp, fun b hb => by simp at hb; omega, ⟨.slice none 0 0, by simp, OwnRec.nil _ _ _ _, fun g hg => by cases hg⟩, fun c hc => (by cases hc), fun c hc => (by cases hc), fun c hc => (by cases hc), fun c hc => (by cases hc), Nat.zero_le _, List.nodup_nil⟩
end
end Go.Proofs.YtpjbecmedidfgaaGreatDoor
/- A member's New where the name is none; its Wipe. -/
namespace Go.Proofs.YtpjbecmedidfgaaGreatDoor
section
open Go.RowKit Go.Maps Go.BigFrame

set_option maxRecDepth 100000 in
set_option maxHeartbeats 4000000 in
theorem snew_bad (w : World) (name : ByteArray) (E : Nat → Addr) (hE : w.cell? ⟨0, 0, none⟩ = some (errV (E 3))) (hn : nameB name = false) (hl : name.size ≤ maxLen) :
    Calls Tryz.prog 7 #[.string name] w fun e w' => Below w.heap.size w w' ∧ e = .returned (.tuple #[.pointer none, errV (E 3)]) := by
  have Hn := Lib.hid (name_walk name w hl)
  rw [hn] at Hn
  have HE := Lib.hid hE
  clear hn hE
  go_enter Tryz.func7, Tryz.ntmps7
  go_wp2_with fail
  refine Hn.out.mono ?_
  rintro e w1 ⟨rfl, hb1⟩
  have c0 := (hb1.cell (p := ⟨0, 0, none⟩) (lt_of_cell HE.out)).trans HE.out
  have H1 := Lib.hid hb1
  clear hb1
  go_wp2
  go_quiet (fail)
  go_wp2
  go_ret2
  exact ⟨H1.out.trans ⟨rfl, rfl, rfl, Nat.le_refl _, fun _ _ => rfl⟩, rfl⟩
theorem MemAt.wiped {P : Nat → Prop} {w w' : World} {mp bm : Nat} {name : ByteArray} {cs : List Int} {H : Int → HSt} {clock : Nat} (h : MemAt P w mp name cs H) (hm0 : w.cell? ⟨mp, 1, none⟩ = some (.map (some bm))) (hm1 : P bm) (hk : KeptBut (fun b => b = bm) w w') (hb : w'.heap[bm]? = some (.map #[] clock)) : MemAt P w' mp name [] H ∧ KeptBut P w w' := by
  have hmp : mp ≠ bm := fun e => h.nP (by rw [e]; exact hm1)
  refine ⟨⟨h.nP, Nat.lt_of_lt_of_le h.lt hk.size, hk.cell h.n0 hmp, fun b hb => h.new b (Nat.le_trans hk.size hb), ⟨bm, .map [], hk.cell hm0 hmp, hm1, ?_, fun c => rfl, fun c => rfl, rfl, fun c hc => (by cases hc)⟩, fun c hc => (by cases hc), fun c hc => (by cases hc), fun c hc => (by cases hc), fun c hc => (by cases hc), Nat.zero_le _, List.nodup_nil⟩, hk.mono (fun k _ e => by rw [e]; exact hm1)⟩
  exact ⟨#[], clock, hb, ⟨by simp, MapKept.stamped_empty clock, by simp⟩, Nat.le_refl _, rfl⟩
set_option maxHeartbeats 1000000 in
theorem swipe_walk (P : Nat → Prop) (w : World) (mp : Nat) (name : ByteArray) (cs : List Int) (H : Int → HSt) (h : MemAt P w mp name cs H) :
    Calls Tryz.prog 17 #[.pointer (some ⟨mp, 0, none⟩)] w fun e w' => e = .returned (.tuple #[]) ∧ MemAt P w' mp name [] H ∧ KeptBut P w w' := by
  obtain ⟨bm, D, m0, m1, ⟨es, clock, hb, _⟩, _⟩ := h.map
  obtain ⟨W, hW⟩ : ∃ W, ({ w with heap := w.heap.setIfInBounds bm (.map #[] clock) } : World) = W := ⟨_, rfl⟩
  have hrun : ∀ ty, (Builtin.clear_ #[78] ty #[.map (some bm)]).run Tryz.prog w = .ok (.tuple #[]) W := fun ty => by
    rw [← hW]
    simp [Builtin.clear_, run_underlying Tryz.underlying78, MapKept.run_getObj_map hb, MapKept.run_setObj_map _ hb, Result.andThen]
  have hlt := (Array.getElem?_eq_some_iff.1 hb).1
  have hk : KeptBut (fun b => b = bm) w W := by
    rw [← hW]
    exact ⟨rfl, rfl, rfl, by simp, fun k _ hne => by simp [Ne.symm hne]⟩
  have hWb : W.heap[bm]? = some (.map #[] clock) := by rw [← hW]; simp [hlt]
  have HM := Lib.hid (h.wiped m0 m1 hk hWb)
  clear hk hWb hW hlt hb h m1
  go_enter Tryz.func17, Tryz.ntmps17
  go_wp2
  go_end0
  exact ⟨rfl, HM.out⟩
end
end Go.Proofs.YtpjbecmedidfgaaGreatDoor
