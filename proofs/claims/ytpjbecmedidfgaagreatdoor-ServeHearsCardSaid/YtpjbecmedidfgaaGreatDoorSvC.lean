/- The walk of a member's Hear. -/
import Derived.Test.YtpjbecmedidfgaaGreatDoorSvB
import Derived.Test.YtpjbecmedidfgaaGreatDoorSvW
import Derived.Lib.QuietBelow
import Derived.Deep.RegionHeld3
namespace Go.Proofs.YtpjbecmedidfgaaGreatDoor
section
open Go.RowKit Go.Maps Go.BigFrame

theorem ErrEnv.hx {w : World} {E : Nat → Addr} (h : ErrEnv w E) : ErrHx w E := ⟨h.c1, h.c3, h.c5, h.c6, h.c9⟩
/-- the errors that a member's hold can answer. -/
structure ErrS (w : World) (E : Nat → Addr) : Prop where
  hx : ErrHx w E
  blk : ∀ i, i = 1 ∨ i = 3 ∨ i = 5 ∨ i = 6 ∨ i = 9 → Blk w (E i)
  ne : ∀ i, i = 1 ∨ i = 3 ∨ i = 5 ∨ i = 6 → E i ≠ E 9
theorem ErrS.below {n : Nat} {w w' : World} {E : Nat → Addr} (hb : Below n w w') (hn : w.heap.size ≤ n) (h : ErrS w E) : ErrS w' E := ⟨h.hx.below hb hn, fun i hi => (h.blk i hi).below hb hn, h.ne⟩
theorem ErrEnv.s {w : World} {E : Nat → Addr} (h : ErrEnv w E) : ErrS w E := ⟨h.hx, fun i hi => h.blk i (by omega), fun i hi => h.ne i 9 (by omega) (by omega) (by omega)⟩
theorem put_vals (sd : Bool) (l : List Kp) (key : ByteArray) (x : Ver) : putM (errM sd l key x) = 0 ∨ putM (errM sd l key x) = 2 ∨ putM (errM sd l key x) = 4 ∨ putM (errM sd l key x) = 6 ∨ putM (errM sd l key x) = 7 ∨ putM (errM sd l key x) = 10 := by
  unfold errM
  split
  · simp [putM]
  · split
    · simp [putM]
    · split
      · simp [putM]
      · split
        · split <;> simp [putM]
        · split <;> simp [putM]
/-- versions that are read, in blocks of S. -/
def VrS (S : Nat → Prop) (w : World) (a : Option Addr) (l : List Ver) : Prop :=
  l = [] ∨ ∃ b off, a = some ⟨b, off, none⟩ ∧ S b ∧ b < w.heap.size ∧ ∀ i j, i < l.length → j < 5 → w.cell? ⟨b, off + i * 5 + j, none⟩ = (encVr (l[i]?.getD ver0))[j]?
theorem VrS.kept {S G : Nat → Prop} {A B : World} (h : KeptBut G A B) (hS : ∀ b, b < A.heap.size → S b → ¬ G b) {a : Option Addr} {l : List Ver} : VrS S A a l → VrS S B a l
  | .inl e => .inl e
  | .inr ⟨b, off, e, hb, hl, hc⟩ => .inr ⟨b, off, e, hb, Nat.lt_of_lt_of_le hl h.size, fun i j hi hj => (World.cell?_of_block (a := ⟨b, off + i * 5 + j, none⟩) (h.block b hl (hS b hl hb))).trans (hc i j hi hj)⟩
theorem VrS.below {S : Nat → Prop} {A B : World} (h : Below A.heap.size A B) {a : Option Addr} {l : List Ver} (hv : VrS S A a l) : VrS S B a l := hv.kept (KeptBut.of_below (F := fun b => A.heap.size ≤ b) h (fun _ _ h => h)) (fun b hb _ => by omega)
theorem VrS.mono {S T : Nat → Prop} {A : World} (h : ∀ b, S b → T b) {a : Option Addr} {l : List Ver} : VrS S A a l → VrS T A a l
  | .inl e => .inl e
  | .inr ⟨b, off, e, hb, hl, hc⟩ => .inr ⟨b, off, e, h b hb, hl, hc⟩
theorem VrS.read {S : Nat → Prop} {A : World} {a : Option Addr} {l : List Ver} : VrS S A a l → VrR A.heap.size A a l
  | .inl e => .inl e
  | .inr ⟨b, off, e, _, hl, hc⟩ => .inr ⟨b, off, e, hl, hc⟩
theorem OwnV.readS {B : Nat} {w : World} {v : Value} {l : List Ver} (h : OwnV B w v l) : ∃ a cap, v = .slice a l.length cap ∧ l.length ≤ cap ∧ cap ≤ maxLen ∧ (a = none → cap = 0) ∧ VrS (fun b => B ≤ b) w a l := by
  have hlt := h.lt
  obtain ⟨a, cap, rfl, h1, h2, h3, h4⟩ := h.read
  refine ⟨a, cap, rfl, h1, h2, h3, ?_⟩
  rcases h4 with e | ⟨b, off, rfl, hb, hc⟩
  · exact .inl e
  · by_cases hl : l = []
    · exact .inl hl
    · refine .inr ⟨b, off, rfl, ?_, hb, hc⟩
      rcases h.2 with ⟨e, hn⟩ | ⟨g, cap', cur, e, hbb, _⟩
      · simp at e
      · simp only [Value.slice.injEq, Option.some.injEq] at e
        have := congrArg Addr.block e.1
        simp at this
        omega
/-- a message that is read, in blocks of S. -/
def MsgAtS (S : Nat → Prop) (w : World) (b o : Nat) (m : Msg) : Prop :=
  w.cell? ⟨b, o, none⟩ = some (.string m.fr) ∧ w.cell? ⟨b, o + 1, none⟩ = some (.string m.dst) ∧ w.cell? ⟨b, o + 2, none⟩ = some (.string m.kind) ∧ w.cell? ⟨b, o + 3, none⟩ = some (.string m.key) ∧
  w.cell? ⟨b, o + 4, none⟩ = some (.int .i64 m.op) ∧ w.cell? ⟨b, o + 5, none⟩ = some (.int .i64 m.cf) ∧ w.cell? ⟨b, o + 6, none⟩ = some (.bool m.sl) ∧
  ∃ ad cap, w.cell? ⟨b, o + 7, none⟩ = some (.slice ad m.L.length cap) ∧ m.L.length ≤ cap ∧ cap ≤ maxLen ∧ (ad = none → cap = 0) ∧ VrS S w ad m.L
theorem MsgAtS.kept {S G : Nat → Prop} {A B : World} (h : KeptBut G A B) (hS : ∀ b, b < A.heap.size → S b → ¬ G b) {b o : Nat} {m : Msg} (hb : S b) (hl : b < A.heap.size) (hm : MsgAtS S A b o m) : MsgAtS S B b o m := by
  obtain ⟨h0, h1, h2, h3, h4, h5, h6, ad, cap, h7, h8, h9, h10, h11⟩ := hm
  have c : ∀ {o v}, A.cell? ⟨b, o, none⟩ = some v → B.cell? ⟨b, o, none⟩ = some v := fun {o v} h9 => (World.cell?_of_block (a := ⟨b, o, none⟩) (h.block b hl (hS b hl hb))).trans h9
  exact ⟨c h0, c h1, c h2, c h3, c h4, c h5, c h6, ad, cap, c h7, h8, h9, h10, h11.kept h hS⟩
theorem MsgAtS.read {S : Nat → Prop} {w : World} {b o : Nat} {m : Msg} (hm : MsgAtS S w b o m) : MsgAt w.heap.size w b o m := by
  obtain ⟨h0, h1, h2, h3, h4, h5, h6, ad, cap, h7, h8, h9, h10, h11⟩ := hm
  exact ⟨h0, h1, h2, h3, h4, h5, h6, ad, cap, h7, h8, h9, h10, h11.read⟩
def MsgsS (S : Nat → Prop) (w : World) (a : Option Addr) (l : List Msg) : Prop :=
  l = [] ∨ ∃ b off, a = some ⟨b, off, none⟩ ∧ S b ∧ b < w.heap.size ∧ ∀ i, i < l.length → MsgAtS S w b (off + i * 8) (l[i]?.getD msg0)
theorem MsgsS.kept {S G : Nat → Prop} {A B : World} (h : KeptBut G A B) (hS : ∀ b, b < A.heap.size → S b → ¬ G b) {a : Option Addr} {l : List Msg} : MsgsS S A a l → MsgsS S B a l
  | .inl e => .inl e
  | .inr ⟨b, off, e, hb, hl, hc⟩ => .inr ⟨b, off, e, hb, Nat.lt_of_lt_of_le hl h.size, fun i hi => (hc i hi).kept h hS hb hl⟩
theorem MsgsS.below {S : Nat → Prop} {A B : World} (h : Below A.heap.size A B) {a : Option Addr} {l : List Msg} (hv : MsgsS S A a l) : MsgsS S B a l := hv.kept (KeptBut.of_below (F := fun b => A.heap.size ≤ b) h (fun _ _ h => h)) (fun b hb _ => by omega)
theorem MsgsS.read {S : Nat → Prop} {w : World} {a : Option Addr} {l : List Msg} : MsgsS S w a l → MsgsR w.heap.size w a l
  | .inl e => .inl e
  | .inr ⟨b, off, e, _, hl, hc⟩ => .inr ⟨b, off, e, hl, fun i hi => (hc i hi).read⟩
/-- messages that are handed back. -/
def RetMsgs (S : Nat → Prop) (w : World) (e : Ending) (l : List Msg) : Prop := ∃ a cap, e = .returned (.slice a l.length cap) ∧ l.length ≤ cap ∧ cap ≤ maxLen ∧ (a = none → cap = 0) ∧ MsgsS S w a l
theorem RetMsgs.nil (S : Nat → Prop) (w : World) : RetMsgs S w (.returned (.slice none 0 0)) [] := ⟨none, 0, rfl, Nat.le_refl _, by simp [maxLen], fun _ => rfl, .inl rfl⟩
/-- blocks more, and turns of blocks that are none of its. -/
theorem MemAt.keptBut {P G : Nat → Prop} {w w' : World} {mp : Nat} {name : ByteArray} {cs : List Int} {H : Int → HSt} (h : MemAt P w mp name cs H) (hk : KeptBut G w w') (hG : ∀ b, b < w.heap.size → P b → ¬ G b) (hmp : ¬ G mp) : MemAt (fun b => P b ∧ (b < w.heap.size ∨ w'.heap.size ≤ b)) w' mp name cs H := by
  obtain ⟨bm, D, m0, m1, m2, m3, m4, m5, m6⟩ := h.map
  have eb : w'.heap[mp]? = w.heap[mp]? := hk.block mp h.lt hmp
  refine ⟨fun h9 => h.nP h9.1, Nat.lt_of_lt_of_le h.lt hk.size, (World.cell?_of_block (a := ⟨mp, 0, none⟩) eb).trans h.n0, fun b hb => ⟨h.new b (Nat.le_trans hk.size hb), .inr hb⟩, ⟨bm, D, (World.cell?_of_block (a := ⟨mp, 1, none⟩) eb).trans m0, ⟨m1, .inl m2.lt⟩, ?_, m3, m4, m5, m6⟩,
    fun c hc => HoldAt.kept (h.hold c hc) hk (fun b hb hf => hG b hb (h.inP c hc b hf).1), fun c hc b hb => ⟨⟨(h.inP c hc b hb).1, .inl (h.inP c hc b hb).2⟩, Nat.lt_of_lt_of_le (h.inP c hc b hb).2 hk.size⟩, h.apart, h.fine, h.len, h.nodup⟩
  obtain ⟨es, clock, hm, hr⟩ := m2
  exact ⟨es, clock, (hk.block bm (Array.getElem?_eq_some_iff.1 hm).1 (hG bm (Array.getElem?_eq_some_iff.1 hm).1 m1)).trans hm, hr⟩
def HearPost (P : Nat → Prop) (w w' : World) (mp : Nat) (name : ByteArray) (s : MS) (m : Msg) (e : Ending) : Prop :=
  ∃ (cs' : List Int) (H' : Int → HSt) (P' : Nat → Prop), (∀ b, P' b → P b) ∧ KeptBut P w w' ∧ MemAt P' w' mp name cs' H' ∧ absM cs' H' = (hearT s name m).1 ∧ RetMsgs (fun b => w.heap.size ≤ b ∧ ¬ P' b) w' e (((hearT s name m).2.map (ansMsg name m)).toList)
theorem HearPost.silent {P : Nat → Prop} {w w' : World} {mp : Nat} {name : ByteArray} {cs : List Int} {H : Int → HSt} {m : Msg} (h : MemAt P w mp name cs H) (hb : Below w.heap.size w w') (hn : hearsB name m = false) : HearPost P w w' mp name (absM cs H) m (.returned (.slice none 0 0)) := by
  unfold HearPost hearT
  rw [if_neg (by rw [hn]; decide)]
  exact ⟨cs, H, P, fun _ h => h, KeptBut.of_below hb (fun k h1 h2 => h.new k h2), h.kept hb, rfl, RetMsgs.nil _ _⟩
theorem HearPost.full {P P1 : Nat → Prop} {w w' : World} {mp : Nat} {name : ByteArray} {cs : List Int} {H : Int → HSt} {m : Msg} (h : MemAt P1 w' mp name cs H) (hP : ∀ b, P1 b → P b) (hk : KeptBut P w w') (hn : hearsB name m = true) (hof : ofS (absM cs H) m.cf = none) : HearPost P w w' mp name (absM cs H) m (.returned (.slice none 0 0)) := by
  unfold HearPost hearT
  rw [if_pos hn, hof]
  exact ⟨cs, H, P1, hP, hk, h, rfl, RetMsgs.nil _ _⟩
theorem HearPost.refuse {P P1 : Nat → Prop} {w w' : World} {mp : Nat} {name : ByteArray} {cs : List Int} {H : Int → HSt} {s s1 : MS} {m : Msg} (h : MemAt P1 w' mp name cs H) (hP : ∀ b, P1 b → P b) (hk : KeptBut P w w') (hn : hearsB name m = true) (hof : ofS s m.cf = some s1) (hs : absM cs H = setS s1 m.cf (actT m (getS s1 m.cf)).1) (ha : (actT m (getS s1 m.cf)).2 = none) : HearPost P w w' mp name s m (.returned (.slice none 0 0)) := by
  unfold HearPost hearT
  rw [if_pos hn, hof]
  dsimp only
  rw [ha]
  exact ⟨cs, H, P1, hP, hk, h, hs, RetMsgs.nil _ _⟩
theorem HearPost.answer {P P1 : Nat → Prop} {w w5 wf : World} {mp ob rb : Nat} {name : ByteArray} {cs : List Int} {H : Int → HSt} {s s1 : MS} {m : Msg} {x : Ans} {e : Ending} (h : MemAt P1 w5 mp name cs H) (hP : ∀ b, P1 b → P b) (hk : KeptBut P w w5) (hkf : KeptBut (fun b => b = ob) w5 wf) (hob : ¬ P1 ob) (hob2 : w.heap.size ≤ ob) (hmp : mp < w.heap.size) (hPn : ∀ b, w.heap.size ≤ b → P b)
    (hn : hearsB name m = true) (hof : ofS s m.cf = some s1) (hs : absM cs H = setS s1 m.cf (actT m (getS s1 m.cf)).1) (ha : (actT m (getS s1 m.cf)).2 = some x) (he : e = .returned (.slice (some ⟨rb, 0, none⟩) 1 1)) (hr1 : w5.heap.size ≤ rb) (hr2 : rb < wf.heap.size) (hc : MsgAtS (fun b => w5.heap.size ≤ b) wf rb 0 (ansMsg name m x)) : HearPost P w wf mp name s m e := by
  unfold HearPost hearT
  rw [if_pos hn, hof]
  dsimp only
  rw [ha]
  refine ⟨cs, H, _, fun b hb => hP b hb.1, hk.trans (hkf.mono fun k _ e => by rw [e]; exact hPn ob hob2), h.keptBut hkf (fun b _ h1 h2 => hob (by rw [← h2]; exact h1)) (by omega), hs, ?_⟩
  refine ⟨_, 1, he, Nat.le_refl _, by simp [maxLen], (fun e => by cases e), .inr ⟨rb, 0, rfl, ⟨Nat.le_trans hk.size hr1, fun h9 => by omega⟩, hr2, fun i hi => ?_⟩⟩
  have hi0 : i = 0 := by simp at hi; omega
  subst hi0
  obtain ⟨h0, h1, h2, h3, h4, h5, h6, ad, cap, h7, h8, h9, h10, h11⟩ := hc
  refine ⟨h0, h1, h2, h3, h4, h5, h6, ad, cap, h7, h8, h9, h10, ?_⟩
  rcases h11 with e | ⟨b, off, e, hb, hl, hcx⟩
  · exact .inl e
  · exact .inr ⟨b, off, e, ⟨Nat.le_trans hk.size hb, fun h9 => by omega⟩, hl, hcx⟩
theorem HearPost.answer' {P P1 : Nat → Prop} {w w5 W7 : World} {mp ob : Nat} {name : ByteArray} {cs : List Int} {H : Int → HSt} {s s1 : MS} {m : Msg} (x : Ans) {ad : Option Addr} {cap : Nat} (h : MemAt P1 w5 mp name cs H) (hP : ∀ b, P1 b → P b) (hk : KeptBut P w w5) (hkf : KeptBut (fun b => b = ob) w5 W7) (hob : ¬ P1 ob) (hob2 : w.heap.size ≤ ob) (hmp : mp < w.heap.size) (hPn : ∀ b, w.heap.size ≤ b → P b)
    (hn : hearsB name m = true) (hof : ofS s m.cf = some s1) (hs : absM cs H = setS s1 m.cf (actT m (getS s1 m.cf)).1) (ha : (actT m (getS s1 m.cf)).2 = some x) (h8 : x.2.2.length ≤ cap) (h9 : cap ≤ maxLen) (h10 : ad = none → cap = 0) (h11 : VrS (fun b => w5.heap.size ≤ b) W7 ad x.2.2) {rb : Nat} (hrb : rb = W7.heap.size) :
    HearPost P w (W7.alloc (.cells #[.string name, .string m.fr, .string x.1, .string m.key, .int .i64 m.op, .int .i64 m.cf, .bool x.2.1, .slice ad x.2.2.length cap] 42)) mp name s m (.returned (.slice (some ⟨rb, 0, none⟩) 1 1)) := by
  subst hrb
  refine HearPost.answer (rb := W7.heap.size) (x := x) h hP hk (hkf.alloc1 _) hob hob2 hmp hPn hn hof hs ha rfl hkf.size (by simp) ?_
  refine ⟨by simp [ansMsg], by simp [ansMsg], by simp [ansMsg], by simp [ansMsg], by simp [ansMsg], by simp [ansMsg], by simp [ansMsg], ad, cap, by simp [ansMsg], h8, h9, h10, h11.below ((Below.refl _ _).alloc (Nat.le_refl _) _)⟩
theorem HearPost.drew {P : Nat → Prop} {w w' : World} {mp : Nat} {name : ByteArray} {s : MS} {m : Msg} {e : Ending} (h : HearPost P w w' mp name s m e) : HearPost P w w'.drew mp name s m e := by
  obtain ⟨cs, H, P', h1, h2, h3, h4, a, cap, h5, h6, h7, h8, h9⟩ := h
  exact ⟨cs, H, P', h1, h2.drew1, h3.kept (Below.refl _ _).drew, h4, a, cap, h5, h6, h7, h8, h9.below (Below.refl _ _).drew⟩
set_option maxRecDepth 100000 in
set_option maxHeartbeats 8000000 in
theorem hear_walk (P : Nat → Prop) (w : World) (mp : Nat) (name : ByteArray) (cs : List Int) (H : Int → HSt) (fr dst kind key : ByteArray) (op cf : Int) (sl : Bool) (a : Option Addr) (len cap : Nat) (L : List Ver) (h : MemAt P w mp name cs H) (hc : Int64 cf) (hk : key.size ≤ maxLen)
    (hlen : L.length = len) (hlm : len ≤ maxLen) (hL : VrS (fun b => ¬ P b) w a L) (E : Nat → Addr) (W0 : World) (hE : ErrS W0 E) (hW : Below W0.heap.size W0 w) (hPW : ∀ b, P b → W0.heap.size ≤ b) :
    Calls Tryz.prog 12 #[.pointer (some ⟨mp, 0, none⟩), .agg #[.string fr, .string dst, .string kind, .string key, .int .i64 op, .int .i64 cf, .bool sl, .slice a len cap]] w fun e w' => HearPost P w w' mp name (absM cs H) ⟨fr, dst, kind, key, op, cf, sl, L⟩ e := by
  obtain ⟨W1, hW1⟩ : ∃ W1, w.alloc (.cells #[.string fr, .string dst, .string kind, .string key, .int .i64 op, .int .i64 cf, .bool sl, .slice a len cap] 42) = W1 := ⟨_, rfl⟩
  obtain ⟨ab, hab⟩ : ∃ ab, w.heap.size = ab := ⟨_, rfl⟩
  have hb1 : Below w.heap.size w W1 := by rw [← hW1]; exact (Below.refl _ _).alloc (Nat.le_refl _) _
  have r0 : W1.cell? ⟨ab, 0, none⟩ = some (.string fr) := by rw [← hW1, ← hab]; simp
  have r1 : W1.cell? ⟨ab, 1, none⟩ = some (.string dst) := by rw [← hW1, ← hab]; simp
  have r2 : W1.cell? ⟨ab, 2, none⟩ = some (.string kind) := by rw [← hW1, ← hab]; simp
  have r3 : W1.cell? ⟨ab, 3, none⟩ = some (.string key) := by rw [← hW1, ← hab]; simp
  have r4 : W1.cell? ⟨ab, 4, none⟩ = some (.int .i64 op) := by rw [← hW1, ← hab]; simp
  have r5 : W1.cell? ⟨ab, 5, none⟩ = some (.int .i64 cf) := by rw [← hW1, ← hab]; simp
  have r7 : W1.cell? ⟨ab, 7, none⟩ = some (.slice a len cap) := by rw [← hW1, ← hab]; simp
  have hs1 : W1.heap.size = ab + 1 := by rw [← hW1, ← hab]; simp
  have n0 : W1.cell? ⟨mp, 0, none⟩ = some (.string name) := (hb1.cell (p := ⟨mp, 0, none⟩) h.lt).trans h.n0
  have hmab : mp < ab := by rw [← hab]; exact h.lt
  have HM := Lib.hid (And.intro h (And.intro hb1 (And.intro hW1 hab)))
  obtain ⟨P1, hP1, hP1e, hP1ab, hL1⟩ : ∃ P1 : Nat → Prop, MemAt P1 W1 mp name cs H ∧ (∀ b, P1 b → P b) ∧ ¬ P1 ab ∧ VrS (fun b => ¬ P1 b) W1 a L := by
    refine ⟨_, h.past hb1, fun b hb => hb.1, fun hb => ?_, (hL.below hb1).mono fun b hb h9 => hb h9.1⟩
    have h2 := hb.2
    omega
  have hPn : ∀ b, ab ≤ b → P b := fun b hb => h.new b (by omega)
  have HP := Lib.hid (And.intro hP1 (And.intro hP1e (And.intro hP1ab (And.intro hL1 (And.intro hPn (And.intro hs1 (And.intro hlen hmab)))))))
  have Hcells : Hid (∀ W, KeptBut P1 W1 W → W.cell? ⟨ab, 0, none⟩ = some (.string fr) ∧ W.cell? ⟨ab, 2, none⟩ = some (.string kind) ∧ W.cell? ⟨ab, 3, none⟩ = some (.string key) ∧ W.cell? ⟨ab, 4, none⟩ = some (.int .i64 op) ∧ W.cell? ⟨ab, 5, none⟩ = some (.int .i64 cf) ∧ W.cell? ⟨ab, 7, none⟩ = some (.slice a len cap) ∧ W.cell? ⟨mp, 0, none⟩ = some (.string name) ∧ ErrS W E ∧ KeptBut P w W) :=
    Lib.hid fun W hk => by
      have hkW : KeptBut P w W := (KeptBut.of_below HM.out.2.1 (fun k h1 h2 => HM.out.1.new k h2)).trans (hk.mono fun k _ hp => HP.out.2.1 k hp)
      exact ⟨hk.cell r0 HP.out.2.2.1, hk.cell r2 HP.out.2.2.1, hk.cell r3 HP.out.2.2.1, hk.cell r4 HP.out.2.2.1, hk.cell r5 HP.out.2.2.1, hk.cell r7 HP.out.2.2.1, hk.cell n0 HP.out.1.nP, hE.below (hW.trans (hkW.below hW.size hPW)) (Nat.le_refl _), hkW⟩
  have k1 := cell_regrown r1
  have k3 := cell_regrown r3
  have k5 := cell_regrown r5
  have kn := cell_regrown n0
  have Cn := fun d os => Calls.regrown_of (name_walk key (Go.Sort.grow (redrawn W1 d) os) hk)
  obtain ⟨nb, hnb⟩ : ∃ nb, nameB key = nb := ⟨_, rfl⟩
  rw [hnb] at Cn
  have hcs : ((dst.toList == name.toList) = false ∧ dst ≠ name) ∨ (dst = name ∧ cf < 0) ∨ (dst = name ∧ ¬ cf < 0 ∧ nb = false) ∨ (dst = name ∧ ¬ cf < 0 ∧ nb = true) := by
    by_cases e1 : dst = name
    · by_cases e2 : cf < 0
      · exact .inr (.inl ⟨e1, e2⟩)
      · cases nb
        · exact .inr (.inr (.inl ⟨e1, e2, rfl⟩))
        · exact .inr (.inr (.inr ⟨e1, e2, rfl⟩))
    · exact .inl ⟨txt_neV e1, e1⟩
  have Hnb := Lib.hid hnb
  clear r0 r1 r2 r3 r4 r5 r7 n0 hb1 h hL hE hW hPW hnb hW1 hab hP1 hP1e hP1ab hL1 hPn hs1 hlen hmab
  go_enter Tryz.func12, Tryz.ntmps12
  go_wp2
  rw [HM.out.2.2.1, HM.out.2.2.2]
  rcases hcs with ⟨e1, e2⟩ | ⟨rfl, e2⟩ | ⟨rfl, e2, rfl⟩ | ⟨rfl, e2, rfl⟩
  · refine wp_region_quiet_below (by kernel_rfl) (by kernel_rfl) ?_
    repeat (go_big_quiet_step (first | exact Cn _ _))
    refine wpQuiet_nil ?_
    intro w2 hw'
    obtain ⟨⟨dq, osq⟩, hw2⟩ := hw'
    have H2 := Lib.hid (show Below W1.heap.size W1 w2 by rw [hw2]; exact below_regrown W1 dq osq)
    clear hw2 k1 k3 k5 kn Cn
    go_wp2
    go_ret
    exact HearPost.silent HM.out.1 (HM.out.2.1.trans (H2.out.mono HM.out.2.1.size)) (by unfold hearsB; simp [e2])
  · have e3 : decide (cf < 0) = true := decide_eq_true e2
    refine wp_region_quiet_below (by kernel_rfl) (by kernel_rfl) ?_
    repeat (go_big_quiet_step (first | exact Cn _ _))
    refine wpQuiet_nil ?_
    intro w2 hw'
    obtain ⟨⟨dq, osq⟩, hw2⟩ := hw'
    have H2 := Lib.hid (show Below W1.heap.size W1 w2 by rw [hw2]; exact below_regrown W1 dq osq)
    clear hw2 k1 k3 k5 kn Cn
    go_wp2
    go_ret
    exact HearPost.silent HM.out.1 (HM.out.2.1.trans (H2.out.mono HM.out.2.1.size)) (by unfold hearsB; rw [decide_eq_false (by simp; omega)]; rfl)
  · have e3 : decide (cf < 0) = false := decide_eq_false (by omega)
    refine wp_region_quiet_below (by kernel_rfl) (by kernel_rfl) ?_
    repeat (go_big_quiet_step (first | exact Cn _ _))
    refine wpQuiet_nil ?_
    intro w2 hw'
    obtain ⟨⟨dq, osq⟩, hw2⟩ := hw'
    have H2 := Lib.hid (show Below W1.heap.size W1 w2 by rw [hw2]; exact below_regrown W1 dq osq)
    clear hw2 k1 k3 k5 kn Cn
    go_wp2
    go_ret
    exact HearPost.silent HM.out.1 (HM.out.2.1.trans (H2.out.mono HM.out.2.1.size)) (by unfold hearsB; dsimp only; rw [Hnb.out]; simp)
  · have e3 : decide (cf < 0) = false := decide_eq_false (by omega)
    refine wp_region_quiet_below (by kernel_rfl) (by kernel_rfl) ?_
    repeat (go_big_quiet_step (first | exact Cn _ _))
    refine wpQuiet_nil ?_
    intro w2 hw'
    obtain ⟨⟨dq, osq⟩, hw2⟩ := hw'
    have H2 := Lib.hid (show Below W1.heap.size W1 w2 by rw [hw2]; exact below_regrown W1 dq osq)
    clear hw2 k1 k3 k5 kn Cn
    have hk2 : KeptBut P1 W1 w2 := KeptBut.of_below H2.out (fun k h1 h2 => HP.out.1.new k h2)
    have hm2 : MemAt P1 w2 mp dst cs H := HP.out.1.kept H2.out
    obtain ⟨c0, c2, c3, c4, c5, c7, cn, -, -⟩ := Hcells.out w2 hk2
    have HM2 := Lib.hid (And.intro hk2 hm2)
    clear hk2 hm2
    have hks : kind = kLook ∨ kind = kSeal' ∨ (kind = kKeep ∧ len = 1) ∨ ((kind.toList == [108, 111, 111, 107]) = false ∧ (kind.toList == [115, 101, 97, 108]) = false ∧ ((kind.toList == [107, 101, 101, 112]) = false ∨ (kind = kKeep ∧ ((len : Int) == 1) = false)) ∧ hearsB dst ⟨fr, dst, kind, key, op, cf, sl, L⟩ = false) := by
      have l1 : kLook.toList = [108, 111, 111, 107] := by rw [ByteArray.toList_eq]; rfl
      have l2 : kSeal'.toList = [115, 101, 97, 108] := by rw [ByteArray.toList_eq]; rfl
      have l3 : kKeep.toList = [107, 101, 101, 112] := by rw [ByteArray.toList_eq]; rfl
      by_cases e1 : kind = kLook
      · exact .inl e1
      · by_cases e4 : kind = kSeal'
        · exact .inr (.inl e4)
        · by_cases e5 : kind = kKeep
          · by_cases e6 : len = 1
            · exact .inr (.inr (.inl ⟨e5, e6⟩))
            · refine .inr (.inr (.inr ⟨by rw [← l1]; exact txt_neV e1, by rw [← l2]; exact txt_neV e4, .inr ⟨e5, by simp; omega⟩, ?_⟩))
              unfold hearsB
              dsimp only
              rw [HP.out.2.2.2.2.2.2.1, decide_eq_false (p := kind = kLook ∨ _) (fun h9 => by rcases h9 with h9 | h9 | h9; exact e1 h9; exact e4 h9; exact e6 h9.2)]
              simp
          · refine .inr (.inr (.inr ⟨by rw [← l1]; exact txt_neV e1, by rw [← l2]; exact txt_neV e4, .inl (by rw [← l3]; exact txt_neV e5), ?_⟩))
            unfold hearsB
            dsimp only
            rw [decide_eq_false (p := kind = kLook ∨ _) (fun h9 => by rcases h9 with h9 | h9 | h9; exact e1 h9; exact e4 h9; exact e5 h9.1)]
            simp
    have hgood : (kind = kLook ∨ kind = kSeal' ∨ (kind = kKeep ∧ len = 1)) → hearsB dst ⟨fr, dst, kind, key, op, cf, sl, L⟩ = true := fun h9 => by
      unfold hearsB
      dsimp only
      rw [Hnb.out, HP.out.2.2.2.2.2.2.1, decide_eq_true h9, decide_eq_true (show dst = dst ∧ 0 ≤ cf from ⟨rfl, by omega⟩)]
      rfl
    rcases hks with rfl | rfl | ⟨rfl, rfl⟩ | ⟨g1, g2, g3, g4⟩
    · have Hg := Lib.hid (hgood (.inl rfl))
      clear hgood
      have Hof := Lib.hid (of_walk' P1 w2 mp dst cs H cf HM2.out.2 hc)
      unfold kLook at c2
      go_wp2_with fail
      refine Hof.out.mono ?_
      rintro e w3 ⟨hk3, (⟨hof, rfl, hm3⟩ | ⟨cs', H', hof, hcc, rfl, hm3⟩)⟩
      · have H3 := Lib.hid (And.intro (HM2.out.1.trans hk3) (And.intro hof hm3))
        clear hof hm3 hk3
        go_wp2
        go_ret
        exact HearPost.full H3.out.2.2 HP.out.2.1 (Hcells.out w3 H3.out.1).2.2.2.2.2.2.2.2 Hg.out H3.out.2.1
      · have H3 := Lib.hid (And.intro (HM2.out.1.trans hk3) (And.intro hof (And.intro hcc hm3)))
        clear hof hm3 hk3 hcc c0 c2 c3 c4 c5 c7 cn Hof
        obtain ⟨c0, c2, c3, c4, c5, c7, cn, -, -⟩ := Hcells.out w3 H3.out.1
        have KA : Hid (∀ W, Below w3.heap.size w3 W → W.cell? ⟨ab, 0, none⟩ = some (.string fr) ∧ W.cell? ⟨ab, 3, none⟩ = some (.string key) ∧ W.cell? ⟨ab, 4, none⟩ = some (.int .i64 op) ∧ W.cell? ⟨ab, 5, none⟩ = some (.int .i64 cf) ∧ W.cell? ⟨mp, 0, none⟩ = some (.string dst)) := Lib.hid fun W hb => by
          obtain ⟨c0, c2, c3, c4, c5, c7, cn, -, -⟩ := Hcells.out W (H3.out.1.trans (KeptBut.of_below hb (fun k h1 h2 => H3.out.2.2.2.new k h2)))
          exact ⟨c0, c3, c4, c5, cn⟩
        go_wp2
        go_region_held3 (fun W => W.cell? ⟨ab, 0, none⟩ = some (.string fr) ∧ W.cell? ⟨ab, 3, none⟩ = some (.string key) ∧ W.cell? ⟨ab, 4, none⟩ = some (.int .i64 op) ∧ W.cell? ⟨ab, 5, none⟩ = some (.int .i64 cf) ∧ W.cell? ⟨mp, 0, none⟩ = some (.string dst))
          ((refine KA.out _ ?_; repeat (first | exact Below.refl _ _ | apply Below.drew | refine Below.alloc ?_ (Nat.le_refl _) _ | refine Below.setCell ?_ (Nat.le_refl _) _)))
          (fail)
        obtain ⟨W4, hW4⟩ : ∃ W4, (w3.alloc (.cells #[.string dst, .string fr, .string ⟨#[]⟩, .string key, .int .i64 op, .int .i64 cf, .bool false, .slice none 0 0] 42)).drew = W4 := ⟨_, rfl⟩
        obtain ⟨ob, hob⟩ : ∃ ob, w3.heap.size = ob := ⟨_, rfl⟩
        have hb4 : Below w3.heap.size w3 W4 := by rw [← hW4]; exact ((Below.refl _ _).alloc (Nat.le_refl _) _).drew
        have hs4 : W4.heap.size = ob + 1 := by rw [← hW4, ← hob]; simp
        have o2 : W4.cell? ⟨ob, 2, none⟩ = some (.string ⟨#[]⟩) := by rw [← hW4, ← hob]; simp
        have o6 : W4.cell? ⟨ob, 6, none⟩ = some (.bool false) := by rw [← hW4, ← hob]; simp
        have o7 : W4.cell? ⟨ob, 7, none⟩ = some (.slice none 0 0) := by rw [← hW4, ← hob]; simp
        have o0 : W4.cell? ⟨ob, 0, none⟩ = some (.string dst) := by rw [← hW4, ← hob]; simp
        have o1 : W4.cell? ⟨ob, 1, none⟩ = some (.string fr) := by rw [← hW4, ← hob]; simp
        have o3 : W4.cell? ⟨ob, 3, none⟩ = some (.string key) := by rw [← hW4, ← hob]; simp
        have o4 : W4.cell? ⟨ob, 4, none⟩ = some (.int .i64 op) := by rw [← hW4, ← hob]; simp
        have o5 : W4.cell? ⟨ob, 5, none⟩ = some (.int .i64 cf) := by rw [← hW4, ← hob]; simp
        have z : ∀ i, W4.frozen? ⟨ob, i, none⟩ = false := fun i => by rw [← hW4, ← hob]; simp
        obtain ⟨P2, hP2, hP2e, hP2o⟩ : ∃ P2 : Nat → Prop, MemAt P2 W4 mp dst cs' H' ∧ (∀ b, P2 b → P1 b) ∧ ¬ P2 ob := by
          refine ⟨_, H3.out.2.2.2.past hb4, fun b hb => hb.1, fun hb => ?_⟩
          have h2 := hb.2
          omega
        have hk4 : KeptBut P1 W1 W4 := H3.out.1.trans (KeptBut.of_below hb4 (fun k h1 h2 => H3.out.2.2.2.new k h2))
        have H4 := Lib.hid (And.intro hP2 (And.intro hP2e (And.intro hP2o (And.intro hk4 (And.intro hW4 (And.intro hob hs4))))))
        have Ho : Hid (∀ W G, KeptBut G W4 W → ¬ G ob → W.cell? ⟨ob, 0, none⟩ = some (.string dst) ∧ W.cell? ⟨ob, 1, none⟩ = some (.string fr) ∧ W.cell? ⟨ob, 2, none⟩ = some (.string ⟨#[]⟩) ∧ W.cell? ⟨ob, 3, none⟩ = some (.string key) ∧ W.cell? ⟨ob, 4, none⟩ = some (.int .i64 op) ∧ W.cell? ⟨ob, 5, none⟩ = some (.int .i64 cf) ∧ W.cell? ⟨ob, 6, none⟩ = some (.bool false) ∧ W.cell? ⟨ob, 7, none⟩ = some (.slice none 0 0) ∧ ∀ i, W.frozen? ⟨ob, i, none⟩ = false) :=
          Lib.hid fun W G hk hg => ⟨hk.cell o0 hg, hk.cell o1 hg, hk.cell o2 hg, hk.cell o3 hg, hk.cell o4 hg, hk.cell o5 hg, hk.cell o6 hg, hk.cell o7 hg, fun i => (hk.frozen (p := ⟨ob, i, none⟩) (by show ob < _; omega) hg).trans (z i)⟩
        have KB : Hid (∀ W, KeptBut (fun b => b = ob) W4 W → W.cell? ⟨ab, 2, none⟩ = some (.string kLook) ∧ W.cell? ⟨ab, 3, none⟩ = some (.string key)) := Lib.hid fun W hk => by
          obtain ⟨_, c2, c3, _⟩ := Hcells.out W4 H4.out.2.2.2.1
          have hne : ab ≠ ob := fun e => by have := HP.out.2.2.2.2.2.1; have := H3.out.1.size; omega
          exact ⟨hk.cell c2 hne, hk.cell c3 hne⟩
        rw [hW4, hob]
        rename_i hHeld
        obtain ⟨c2', c3'⟩ := KB.out W4 (KeptBut.refl _ _)
        unfold kLook at c2'
        clear hHeld hb4 hs4 o0 o1 o2 o3 o4 o5 o6 o7 z hP2 hP2e hP2o hk4 hW4 hob KA c0 c2 c3 c4 c5 c7 cn
        have KB3 : Hid (∀ W, KeptBut (fun b => b = ob) W4 W → W.cell? ⟨ab, 3, none⟩ = some (.string key)) := Lib.hid fun W hk => (KB.out W hk).2
        go_wp2
        clear c2' c3'
        go_region_held3 (fun W => W.cell? ⟨ab, 3, none⟩ = some (.string key))
          ((refine KB3.out _ ?_; repeat (first | exact KeptBut.refl _ _ | exact kr5 | apply KeptBut.drew1 | refine KeptBut.set1 ?_ (by exact rfl) _)))
          (first
            | (go_at_call 34; refine (mem_sealed (H4.out.1.kept (Below.refl _ _).drew) H3.out.2.2.1).mono ?_; rintro e w5 ⟨rfl, rfl⟩)
            | (go_at_call 35; refine (mem_get (H4.out.1.kept (Below.refl _ _).drew) H3.out.2.2.1 key hk).mono ?_; rintro e w6 ⟨hb6, v6, rfl, ho6⟩; obtain ⟨a6, cap6, rfl, hv1, hv2, hv3, hv4⟩ := ho6.readS; have hb6' : Below W4.heap.size W4 w6 := (Below.refl _ _).drew.trans hb6; have kr5 : KeptBut (fun b => b = ob) W4 w6 := KeptBut.of_below hb6' (fun k h1 h2 => by omega);
                obtain ⟨o0, o1, o2, o3, o4, o5, o6, o7, z⟩ := Ho.out w6 (fun b => W4.heap.size ≤ b) (KeptBut.of_below (n := W4.heap.size) hb6' (fun _ _ h => h)) (by have := H4.out.2.2.2.2.2.2; omega); have z2 := z 2; have z6 := z 6; have z7 := z 7; have H6 := Lib.hid (And.intro hb6' (And.intro hv1 (And.intro hv2 (And.intro hv3 hv4)))); clear hb6 hb6' ho6 hv1 hv2 hv3 hv4 z))
        obtain ⟨W7, hW7⟩ : ∃ W7, (((w6.setCell ⟨ob, 2, none⟩ (.string ⟨#[116, 111, 108, 100]⟩)).setCell ⟨ob, 6, none⟩ (.bool (H' cf).sd)).setCell ⟨ob, 7, none⟩ (.slice a6 (getL (H' cf).l key).length cap6)) = W7 := ⟨_, rfl⟩
        have hk7 : KeptBut (fun b => b = ob) w6 W7 := by
          rw [← hW7]
          exact (((KeptBut.refl _ _).set1 (by exact rfl) _).set1 (by exact rfl) _).set1 (by exact rfl) _
        have y0 : W7.cell? ⟨ob, 0, none⟩ = some (.string dst) := by rw [← hW7]; simp [go_sem, o0]
        have y1 : W7.cell? ⟨ob, 1, none⟩ = some (.string fr) := by rw [← hW7]; simp [go_sem, o1]
        have y2 : W7.cell? ⟨ob, 2, none⟩ = some (.string ⟨#[116, 111, 108, 100]⟩) := by rw [← hW7]; simp [go_sem, o2]
        have y3 : W7.cell? ⟨ob, 3, none⟩ = some (.string key) := by rw [← hW7]; simp [go_sem, o3]
        have y4 : W7.cell? ⟨ob, 4, none⟩ = some (.int .i64 op) := by rw [← hW7]; simp [go_sem, o4]
        have y5 : W7.cell? ⟨ob, 5, none⟩ = some (.int .i64 cf) := by rw [← hW7]; simp [go_sem, o5]
        have y6 : W7.cell? ⟨ob, 6, none⟩ = some (.bool (H' cf).sd) := by rw [← hW7]; simp [go_sem, o6]
        have y7 : W7.cell? ⟨ob, 7, none⟩ = some (.slice a6 (getL (H' cf).l key).length cap6) := by rw [← hW7]; simp [go_sem, o7]
        rw [hW7]
        rename_i hHeld
        have H7 := Lib.hid (And.intro kr5 hk7)
        clear hHeld hW7 hk7 kr5 o0 o1 o2 o3 o4 o5 o6 o7 z2 z6 z7 KB KB3
        go_wp2
        go_ret
        exact HearPost.answer' (ob := ob) (kTold, (H' cf).sd, getL (H' cf).l key) H4.out.1 (fun b hb => HP.out.2.1 b (H4.out.2.1 b hb)) (Hcells.out W4 H4.out.2.2.2.1).2.2.2.2.2.2.2.2 (H7.out.1.trans H7.out.2) H4.out.2.2.1 (by have := H4.out.2.2.2.2.2.2; have := H4.out.2.2.2.1.size; have := HP.out.2.2.2.2.2.1; have := HM.out.2.2.2; omega) (by rw [HM.out.2.2.2]; exact HP.out.2.2.2.2.2.2.2) (fun b hb => HP.out.2.2.2.2.1 b (by rw [← HM.out.2.2.2]; exact hb)) Hg.out H3.out.2.1
          (by
            rw [getS_abs _ _ _ H3.out.2.2.1]
            show _ = setS _ cf ((H' cf).sd, (H' cf).l)
            rw [setS_abs]
            exact (absM_congr fun k _ => by by_cases e : k = cf; rw [e, updH_same]; rw [updH_other _ _ e]).symm)
          (by rw [getS_abs _ _ _ H3.out.2.2.1]; rfl) H6.out.2.1 H6.out.2.2.1 H6.out.2.2.2.1 (H6.out.2.2.2.2.kept H7.out.2 (fun b _ h1 h2 => by have h1' : W4.heap.size ≤ b := h1; have := H4.out.2.2.2.2.2.2; omega)) rfl
    · have Hg := Lib.hid (hgood (.inr (.inl rfl)))
      clear hgood
      have Hof := Lib.hid (of_walk' P1 w2 mp dst cs H cf HM2.out.2 hc)
      unfold kSeal' at c2
      go_wp2_with fail
      refine Hof.out.mono ?_
      rintro e w3 ⟨hk3, (⟨hof, rfl, hm3⟩ | ⟨cs', H', hof, hcc, rfl, hm3⟩)⟩
      · have H3 := Lib.hid (And.intro (HM2.out.1.trans hk3) (And.intro hof hm3))
        clear hof hm3 hk3
        go_wp2
        go_ret
        exact HearPost.full H3.out.2.2 HP.out.2.1 (Hcells.out w3 H3.out.1).2.2.2.2.2.2.2.2 Hg.out H3.out.2.1
      · have H3 := Lib.hid (And.intro (HM2.out.1.trans hk3) (And.intro hof (And.intro hcc hm3)))
        clear hof hm3 hk3 hcc c0 c2 c3 c4 c5 c7 cn Hof
        obtain ⟨c0, c2, c3, c4, c5, c7, cn, -, -⟩ := Hcells.out w3 H3.out.1
        have KA : Hid (∀ W, Below w3.heap.size w3 W → W.cell? ⟨ab, 0, none⟩ = some (.string fr) ∧ W.cell? ⟨ab, 3, none⟩ = some (.string key) ∧ W.cell? ⟨ab, 4, none⟩ = some (.int .i64 op) ∧ W.cell? ⟨ab, 5, none⟩ = some (.int .i64 cf) ∧ W.cell? ⟨mp, 0, none⟩ = some (.string dst)) := Lib.hid fun W hb => by
          obtain ⟨c0, c2, c3, c4, c5, c7, cn, -, -⟩ := Hcells.out W (H3.out.1.trans (KeptBut.of_below hb (fun k h1 h2 => H3.out.2.2.2.new k h2)))
          exact ⟨c0, c3, c4, c5, cn⟩
        go_wp2
        go_region_held3 (fun W => W.cell? ⟨ab, 0, none⟩ = some (.string fr) ∧ W.cell? ⟨ab, 3, none⟩ = some (.string key) ∧ W.cell? ⟨ab, 4, none⟩ = some (.int .i64 op) ∧ W.cell? ⟨ab, 5, none⟩ = some (.int .i64 cf) ∧ W.cell? ⟨mp, 0, none⟩ = some (.string dst))
          ((refine KA.out _ ?_; repeat (first | exact Below.refl _ _ | apply Below.drew | refine Below.alloc ?_ (Nat.le_refl _) _ | refine Below.setCell ?_ (Nat.le_refl _) _)))
          (fail)
        obtain ⟨W4, hW4⟩ : ∃ W4, (w3.alloc (.cells #[.string dst, .string fr, .string ⟨#[]⟩, .string key, .int .i64 op, .int .i64 cf, .bool false, .slice none 0 0] 42)).drew = W4 := ⟨_, rfl⟩
        obtain ⟨ob, hob⟩ : ∃ ob, w3.heap.size = ob := ⟨_, rfl⟩
        have hb4 : Below w3.heap.size w3 W4 := by rw [← hW4]; exact ((Below.refl _ _).alloc (Nat.le_refl _) _).drew
        have hs4 : W4.heap.size = ob + 1 := by rw [← hW4, ← hob]; simp
        have o2 : W4.cell? ⟨ob, 2, none⟩ = some (.string ⟨#[]⟩) := by rw [← hW4, ← hob]; simp
        have o6 : W4.cell? ⟨ob, 6, none⟩ = some (.bool false) := by rw [← hW4, ← hob]; simp
        have o7 : W4.cell? ⟨ob, 7, none⟩ = some (.slice none 0 0) := by rw [← hW4, ← hob]; simp
        have o0 : W4.cell? ⟨ob, 0, none⟩ = some (.string dst) := by rw [← hW4, ← hob]; simp
        have o1 : W4.cell? ⟨ob, 1, none⟩ = some (.string fr) := by rw [← hW4, ← hob]; simp
        have o3 : W4.cell? ⟨ob, 3, none⟩ = some (.string key) := by rw [← hW4, ← hob]; simp
        have o4 : W4.cell? ⟨ob, 4, none⟩ = some (.int .i64 op) := by rw [← hW4, ← hob]; simp
        have o5 : W4.cell? ⟨ob, 5, none⟩ = some (.int .i64 cf) := by rw [← hW4, ← hob]; simp
        have z : ∀ i, W4.frozen? ⟨ob, i, none⟩ = false := fun i => by rw [← hW4, ← hob]; simp
        obtain ⟨P2, hP2, hP2e, hP2o⟩ : ∃ P2 : Nat → Prop, MemAt P2 W4 mp dst cs' H' ∧ (∀ b, P2 b → P1 b) ∧ ¬ P2 ob := by
          refine ⟨_, H3.out.2.2.2.past hb4, fun b hb => hb.1, fun hb => ?_⟩
          have h2 := hb.2
          omega
        have hk4 : KeptBut P1 W1 W4 := H3.out.1.trans (KeptBut.of_below hb4 (fun k h1 h2 => H3.out.2.2.2.new k h2))
        have H4 := Lib.hid (And.intro hP2 (And.intro hP2e (And.intro hP2o (And.intro hk4 (And.intro hW4 (And.intro hob hs4))))))
        have Ho : Hid (∀ W G, KeptBut G W4 W → ¬ G ob → W.cell? ⟨ob, 0, none⟩ = some (.string dst) ∧ W.cell? ⟨ob, 1, none⟩ = some (.string fr) ∧ W.cell? ⟨ob, 2, none⟩ = some (.string ⟨#[]⟩) ∧ W.cell? ⟨ob, 3, none⟩ = some (.string key) ∧ W.cell? ⟨ob, 4, none⟩ = some (.int .i64 op) ∧ W.cell? ⟨ob, 5, none⟩ = some (.int .i64 cf) ∧ W.cell? ⟨ob, 6, none⟩ = some (.bool false) ∧ W.cell? ⟨ob, 7, none⟩ = some (.slice none 0 0) ∧ ∀ i, W.frozen? ⟨ob, i, none⟩ = false) :=
          Lib.hid fun W G hk hg => ⟨hk.cell o0 hg, hk.cell o1 hg, hk.cell o2 hg, hk.cell o3 hg, hk.cell o4 hg, hk.cell o5 hg, hk.cell o6 hg, hk.cell o7 hg, fun i => (hk.frozen (p := ⟨ob, i, none⟩) (by show ob < _; omega) hg).trans (z i)⟩
        have KB : Hid (∀ W, KeptBut (fun b => b = ob) W4 W → W.cell? ⟨ab, 2, none⟩ = some (.string kSeal') ∧ W.cell? ⟨ab, 3, none⟩ = some (.string key)) := Lib.hid fun W hk => by
          obtain ⟨_, c2, c3, _⟩ := Hcells.out W4 H4.out.2.2.2.1
          have hne : ab ≠ ob := fun e => by have := HP.out.2.2.2.2.2.1; have := H3.out.1.size; omega
          exact ⟨hk.cell c2 hne, hk.cell c3 hne⟩
        rw [hW4, hob]
        rename_i hHeld
        obtain ⟨c2', c3'⟩ := KB.out W4 (KeptBut.refl _ _)
        unfold kSeal' at c2'
        clear hHeld hb4 hs4 o0 o1 o2 o3 o4 o5 o6 o7 z hP2 hP2e hP2o hk4 hW4 hob KA c0 c2 c3 c4 c5 c7 cn
        have Hkey : Hid (∀ W, KeptBut P2 W4 W → W.cell? ⟨ab, 3, none⟩ = some (.string key)) := Lib.hid fun W hk => by
          obtain ⟨_, c3⟩ := KB.out W4 (KeptBut.refl _ _)
          exact hk.cell c3 (fun h9 => HP.out.2.2.1 (H4.out.2.1 _ h9))
        go_wp2_with fail
        refine (mem_seal H4.out.1 H3.out.2.2.1).mono ?_
        rintro e w5 ⟨rfl, h5, hm5, hk5, g1, g2, g3⟩
        have c3a := Hkey.out w5 hk5
        have Hget := mem_get hm5 H3.out.2.2.1 key hk
        rw [updH_same, g3, g2] at Hget
        have HG := Lib.hid Hget
        have H5 := Lib.hid (And.intro hm5 (And.intro hk5 (And.intro g1 (And.intro g2 g3))))
        clear hm5 hk5 g1 g2 g3 c2' c3' Hget
        go_wp2_with fail
        refine HG.out.mono ?_
        rintro e w6 ⟨hb6, v6, rfl, ho6⟩
        obtain ⟨a6, cap6, rfl, hv1, hv2, hv3, hv4⟩ := ho6.readS
        have hk6 : KeptBut P2 W4 w6 := H5.out.2.1.trans (KeptBut.of_below hb6 (fun k h1 h2 => H5.out.1.new k h2))
        obtain ⟨o0, o1, o2, o3, o4, o5, o6, o7, z⟩ := Ho.out w6 P2 hk6 H4.out.2.2.1
        have z2 := z 2
        have z7 := z 7
        have H6 := Lib.hid (And.intro hb6 (And.intro hv1 (And.intro hv2 (And.intro hv3 hv4))))
        have kr6 : Hid (KeptBut (fun b => b = ob) w5 w6) := Lib.hid (KeptBut.of_below hb6 (fun k h1 h2 => by omega))
        clear hb6 ho6 hv1 hv2 hv3 hv4 z hk6
        go_wp2
        go_ret
        exact HearPost.answer' (ob := ob) (kSealed, false, getL (H' cf).l key) H5.out.1 (fun b hb => HP.out.2.1 b (H4.out.2.1 b hb)) (Hcells.out w5 (H4.out.2.2.2.1.trans (H5.out.2.1.mono fun b _ hb => H4.out.2.1 b hb))).2.2.2.2.2.2.2.2 ((kr6.out.set1 (p := ⟨ob, 2, none⟩) rfl _).set1 (p := ⟨ob, 7, none⟩) rfl _) H4.out.2.2.1 (by have := H4.out.2.2.2.2.2.2; have := H4.out.2.2.2.1.size; have := HP.out.2.2.2.2.2.1; have := HM.out.2.2.2; omega) (by rw [HM.out.2.2.2]; exact HP.out.2.2.2.2.2.2.2) (fun b hb => HP.out.2.2.2.2.1 b (by rw [← HM.out.2.2.2]; exact hb)) Hg.out H3.out.2.1
          (by
            rw [getS_abs _ _ _ H3.out.2.2.1]
            show _ = setS _ cf (true, (H' cf).l)
            rw [← setS_abs, H5.out.2.2.1, H5.out.2.2.2.1])
          (by rw [getS_abs _ _ _ H3.out.2.2.1]; rfl) H6.out.2.1 H6.out.2.2.1 H6.out.2.2.2.1 (H6.out.2.2.2.2.kept (((KeptBut.refl (fun b => b = ob) w6).set1 (p := ⟨ob, 2, none⟩) rfl _).set1 (p := ⟨ob, 7, none⟩) rfl _) (fun b _ h1 h2 => by have h1' : w5.heap.size ≤ b := h1; have := H4.out.2.2.2.2.2.2; have := H5.out.2.1.size; omega)) (by simp [World.setCell])
    · have Hg := Lib.hid (hgood (.inr (.inr ⟨rfl, rfl⟩)))
      clear hgood
      have Hof := Lib.hid (of_walk' P1 w2 mp dst cs H cf HM2.out.2 hc)
      unfold kKeep at c2
      go_wp2_with fail
      refine Hof.out.mono ?_
      rintro e w3 ⟨hk3, (⟨hof, rfl, hm3⟩ | ⟨cs', H', hof, hcc, rfl, hm3⟩)⟩
      · have H3 := Lib.hid (And.intro (HM2.out.1.trans hk3) (And.intro hof hm3))
        clear hof hm3 hk3
        go_wp2
        go_ret
        exact HearPost.full H3.out.2.2 HP.out.2.1 (Hcells.out w3 H3.out.1).2.2.2.2.2.2.2.2 Hg.out H3.out.2.1
      · have H3 := Lib.hid (And.intro (HM2.out.1.trans hk3) (And.intro hof (And.intro hcc hm3)))
        clear hof hm3 hk3 hcc c0 c2 c3 c4 c5 c7 cn Hof
        obtain ⟨c0, c2, c3, c4, c5, c7, cn, -, -⟩ := Hcells.out w3 H3.out.1
        have KA : Hid (∀ W, Below w3.heap.size w3 W → W.cell? ⟨ab, 0, none⟩ = some (.string fr) ∧ W.cell? ⟨ab, 3, none⟩ = some (.string key) ∧ W.cell? ⟨ab, 4, none⟩ = some (.int .i64 op) ∧ W.cell? ⟨ab, 5, none⟩ = some (.int .i64 cf) ∧ W.cell? ⟨mp, 0, none⟩ = some (.string dst)) := Lib.hid fun W hb => by
          obtain ⟨c0, c2, c3, c4, c5, c7, cn, -, -⟩ := Hcells.out W (H3.out.1.trans (KeptBut.of_below hb (fun k h1 h2 => H3.out.2.2.2.new k h2)))
          exact ⟨c0, c3, c4, c5, cn⟩
        go_wp2
        go_region_held3 (fun W => W.cell? ⟨ab, 0, none⟩ = some (.string fr) ∧ W.cell? ⟨ab, 3, none⟩ = some (.string key) ∧ W.cell? ⟨ab, 4, none⟩ = some (.int .i64 op) ∧ W.cell? ⟨ab, 5, none⟩ = some (.int .i64 cf) ∧ W.cell? ⟨mp, 0, none⟩ = some (.string dst))
          ((refine KA.out _ ?_; repeat (first | exact Below.refl _ _ | apply Below.drew | refine Below.alloc ?_ (Nat.le_refl _) _ | refine Below.setCell ?_ (Nat.le_refl _) _)))
          (fail)
        obtain ⟨W4, hW4⟩ : ∃ W4, (w3.alloc (.cells #[.string dst, .string fr, .string ⟨#[]⟩, .string key, .int .i64 op, .int .i64 cf, .bool false, .slice none 0 0] 42)).drew = W4 := ⟨_, rfl⟩
        obtain ⟨ob, hob⟩ : ∃ ob, w3.heap.size = ob := ⟨_, rfl⟩
        have hb4 : Below w3.heap.size w3 W4 := by rw [← hW4]; exact ((Below.refl _ _).alloc (Nat.le_refl _) _).drew
        have hs4 : W4.heap.size = ob + 1 := by rw [← hW4, ← hob]; simp
        have o2 : W4.cell? ⟨ob, 2, none⟩ = some (.string ⟨#[]⟩) := by rw [← hW4, ← hob]; simp
        have o6 : W4.cell? ⟨ob, 6, none⟩ = some (.bool false) := by rw [← hW4, ← hob]; simp
        have o7 : W4.cell? ⟨ob, 7, none⟩ = some (.slice none 0 0) := by rw [← hW4, ← hob]; simp
        have o0 : W4.cell? ⟨ob, 0, none⟩ = some (.string dst) := by rw [← hW4, ← hob]; simp
        have o1 : W4.cell? ⟨ob, 1, none⟩ = some (.string fr) := by rw [← hW4, ← hob]; simp
        have o3 : W4.cell? ⟨ob, 3, none⟩ = some (.string key) := by rw [← hW4, ← hob]; simp
        have o4 : W4.cell? ⟨ob, 4, none⟩ = some (.int .i64 op) := by rw [← hW4, ← hob]; simp
        have o5 : W4.cell? ⟨ob, 5, none⟩ = some (.int .i64 cf) := by rw [← hW4, ← hob]; simp
        have z : ∀ i, W4.frozen? ⟨ob, i, none⟩ = false := fun i => by rw [← hW4, ← hob]; simp
        obtain ⟨P2, hP2, hP2e, hP2o⟩ : ∃ P2 : Nat → Prop, MemAt P2 W4 mp dst cs' H' ∧ (∀ b, P2 b → P1 b) ∧ ¬ P2 ob := by
          refine ⟨_, H3.out.2.2.2.past hb4, fun b hb => hb.1, fun hb => ?_⟩
          have h2 := hb.2
          omega
        have hk4 : KeptBut P1 W1 W4 := H3.out.1.trans (KeptBut.of_below hb4 (fun k h1 h2 => H3.out.2.2.2.new k h2))
        have H4 := Lib.hid (And.intro hP2 (And.intro hP2e (And.intro hP2o (And.intro hk4 (And.intro hW4 (And.intro hob hs4))))))
        have Ho : Hid (∀ W G, KeptBut G W4 W → ¬ G ob → W.cell? ⟨ob, 0, none⟩ = some (.string dst) ∧ W.cell? ⟨ob, 1, none⟩ = some (.string fr) ∧ W.cell? ⟨ob, 2, none⟩ = some (.string ⟨#[]⟩) ∧ W.cell? ⟨ob, 3, none⟩ = some (.string key) ∧ W.cell? ⟨ob, 4, none⟩ = some (.int .i64 op) ∧ W.cell? ⟨ob, 5, none⟩ = some (.int .i64 cf) ∧ W.cell? ⟨ob, 6, none⟩ = some (.bool false) ∧ W.cell? ⟨ob, 7, none⟩ = some (.slice none 0 0) ∧ ∀ i, W.frozen? ⟨ob, i, none⟩ = false) :=
          Lib.hid fun W G hk hg => ⟨hk.cell o0 hg, hk.cell o1 hg, hk.cell o2 hg, hk.cell o3 hg, hk.cell o4 hg, hk.cell o5 hg, hk.cell o6 hg, hk.cell o7 hg, fun i => (hk.frozen (p := ⟨ob, i, none⟩) (by show ob < _; omega) hg).trans (z i)⟩
        have KB : Hid (∀ W, KeptBut (fun b => b = ob) W4 W → W.cell? ⟨ab, 2, none⟩ = some (.string kKeep) ∧ W.cell? ⟨ab, 3, none⟩ = some (.string key)) := Lib.hid fun W hk => by
          obtain ⟨_, c2, c3, _⟩ := Hcells.out W4 H4.out.2.2.2.1
          have hne : ab ≠ ob := fun e => by have := HP.out.2.2.2.2.2.1; have := H3.out.1.size; omega
          exact ⟨hk.cell c2 hne, hk.cell c3 hne⟩
        rw [hW4, hob]
        rename_i hHeld
        obtain ⟨c2', c3'⟩ := KB.out W4 (KeptBut.refl _ _)
        unfold kKeep at c2'
        clear hHeld hb4 hs4 o0 o1 o2 o3 o4 o5 o6 o7 z hP2 hP2e hP2o hk4 hW4 hob KA c0 c2 c3 c4 c5 c7 cn
        have hL1 := HP.out.2.2.2.1
        have hln := HP.out.2.2.2.2.2.2.1
        rcases hL1 with he | ⟨lb, off, rfl, hlP, hlb, hlc⟩
        · exfalso
          rw [he] at hln; simp at hln
        obtain ⟨f0, f1, f2, f3, f4⟩ := VrR.at5 hlc (i := 0) (by omega)
        obtain ⟨⟨x1, x2, x3, x4, x5⟩, hx⟩ : ∃ x, L[0]?.getD ver0 = x := ⟨_, rfl⟩
        rw [hx] at f0 f1 f2 f3 f4
        dsimp only at f0 f1 f2 f3 f4
        have hne : ab ≠ ob := fun e => by have := HP.out.2.2.2.2.2.1; have := H3.out.1.size; have := H4.out.2.2.2.2.2.1; omega
        have KC : Hid (∀ W, KeptBut P2 W4 W → W.cell? ⟨ab, 3, none⟩ = some (.string key) ∧ W.cell? ⟨ab, 7, none⟩ = some (.slice (some ⟨lb, off, none⟩) 1 cap) ∧ W.cell? ⟨lb, off, none⟩ = some (.int .i64 x1) ∧ W.cell? ⟨lb, off + 1, none⟩ = some (.int .i64 x2) ∧ W.cell? ⟨lb, off + 2, none⟩ = some (.int .i64 x3) ∧ W.cell? ⟨lb, off + 3, none⟩ = some (.int .i64 x4) ∧ W.cell? ⟨lb, off + 4, none⟩ = some (.string x5)) := Lib.hid fun W hk => by
          have hkW : KeptBut P1 W1 W := H4.out.2.2.2.1.trans (hk.mono fun b _ hb => H4.out.2.1 b hb)
          obtain ⟨_, _, c3, _, _, c7, _⟩ := Hcells.out W hkW
          exact ⟨c3, c7, by simpa using hkW.cell f0 hlP, by simpa using hkW.cell f1 hlP, by simpa using hkW.cell f2 hlP, by simpa using hkW.cell f3 hlP, by simpa using hkW.cell f4 hlP⟩
        have HX := Lib.hid hx
        clear hlc f0 f1 f2 f3 f4 hx hln hne
        go_wp2
        clear c2' c3'
        have Hput := Lib.hid (mem_put (H4.out.1.kept (Below.refl _ _).drew) H3.out.2.2.1 E (Hcells.out W4.drew (H4.out.2.2.2.1.drew1)).2.2.2.2.2.2.2.1.hx key x1 x2 x3 x4 x5 hk)
        go_region_held3 (fun W => W.cell? ⟨ab, 3, none⟩ = some (.string key) ∧ W.cell? ⟨ab, 7, none⟩ = some (.slice (some ⟨lb, off, none⟩) 1 cap) ∧ W.cell? ⟨lb, off, none⟩ = some (.int .i64 x1) ∧ W.cell? ⟨lb, off + 1, none⟩ = some (.int .i64 x2) ∧ W.cell? ⟨lb, off + 2, none⟩ = some (.int .i64 x3) ∧ W.cell? ⟨lb, off + 3, none⟩ = some (.int .i64 x4) ∧ W.cell? ⟨lb, off + 4, none⟩ = some (.string x5))
          ((refine KC.out _ ?_; repeat (first | exact KeptBut.refl _ _ | exact kr5 | apply KeptBut.drew1)))
          (first
            | (go_at_call 37; refine Hput.out.mono ?_; rintro e w5 ⟨⟨v, rfl, hv⟩, h5, hm5, hk5, g1, g2⟩; have kr5 : KeptBut P2 W4 w5 := (KeptBut.refl _ _).drew1.trans hk5; have H5 := Lib.hid (And.intro hm5 (And.intro kr5 (And.intro g1 (And.intro g2 hv)))); clear hm5 hk5 g1 g2 hv))
        rename_i hHeld
        clear hHeld kr5
        obtain ⟨o0, o1, o2, o3, o4, o5, o6, o7, z⟩ := Ho.out w5 P2 H5.out.2.1 H4.out.2.2.1
        have z2 := z 2
        have z6 := z 6
        obtain ⟨cd, hcd⟩ : ∃ cd, putM (errM (H' cf).sd (H' cf).l key (x1, x2, x3, x4, x5)) = cd := ⟨_, rfl⟩
        have hv := H5.out.2.2.2.2
        rw [hcd] at hv
        have Hcd := Lib.hid hcd
        have hE5 := (Hcells.out w5 (H4.out.2.2.2.1.trans (H5.out.2.1.mono fun b _ hb => H4.out.2.1 b hb))).2.2.2.2.2.2.2.1
        have e9 := hE5.hx.c9
        have HE5 := Lib.hid hE5
        have hgs : getS (absM cs' H') cf = ((H' cf).sd, (H' cf).l) := getS_abs _ _ _ H3.out.2.2.1
        have Hact : Hid (actT ⟨fr, dst, kKeep, key, op, cf, sl, L⟩ (getS (absM cs' H') cf) = if cd ≠ 0 ∧ cd ≠ 10 then (((H' cf).sd, (H' cf).l), none) else (((H' cf).sd, afterP (H' cf).sd (H' cf).l key (x1, x2, x3, x4, x5)), some (kKept, decide (cd ≠ 0), []))) := Lib.hid (by
          rw [hgs]
          unfold actT
          dsimp only
          rw [if_neg (by decide), if_neg (by decide), HX.out, hcd])
        have Hst : Hid (absM cs' (updH H' cf h5) = setS (absM cs' H') cf ((H' cf).sd, afterP (H' cf).sd (H' cf).l key (x1, x2, x3, x4, x5))) := Lib.hid (by rw [← H5.out.2.2.2.1, ← H5.out.2.2.1]; exact (setS_abs cs' H' cf h5).symm)
        clear hcd hE5 z hgs Hput
        rcases hv with ⟨rfl, rfl⟩ | ⟨i, hi, rfl, rfl⟩
        · go_wp2
          go_region_held3 (fun _ => True) (trivial) (fail)
          rename_i hHeld
          clear hHeld
          go_wp2
          go_ret
          refine HearPost.drew ?_
          exact HearPost.answer' (ob := ob) (rb := w5.heap.size) (kKept, false, []) H5.out.1 (fun b hb => HP.out.2.1 b (H4.out.2.1 b hb)) (Hcells.out w5 (H4.out.2.2.2.1.trans (H5.out.2.1.mono fun b _ hb => H4.out.2.1 b hb))).2.2.2.2.2.2.2.2 (((KeptBut.refl (fun b => b = ob) w5).set1 (p := ⟨ob, 2, none⟩) rfl _).set1 (p := ⟨ob, 6, none⟩) rfl _) H4.out.2.2.1 (by have := H4.out.2.2.2.2.2.2; have := H4.out.2.2.2.1.size; have := HP.out.2.2.2.2.2.1; have := HM.out.2.2.2; omega) (by rw [HM.out.2.2.2]; exact HP.out.2.2.2.2.2.2.2) (fun b hb => HP.out.2.2.2.2.1 b (by rw [← HM.out.2.2.2]; exact hb)) Hg.out H3.out.2.1
            (by rw [Hact.out, if_neg (by omega)]; exact Hst.out) (by rw [Hact.out, if_neg (by omega)]; rfl) (Nat.le_refl _) (by simp [maxLen]) (fun _ => rfl) (.inl rfl) (by simp [World.setCell])
        · by_cases h9 : i = 9
          · subst h9
            go_wp2_with fail
            refine (is_same (E 9) _).mono ?_
            rintro e w6 ⟨rfl, rfl⟩
            go_wp2
            go_region_held3 (fun _ => True) (trivial) (fail)
            rename_i hHeld
            clear hHeld
            go_wp2
            go_ret
            refine HearPost.drew ?_
            exact HearPost.answer' (ob := ob) (rb := w5.heap.size) (kKept, true, []) H5.out.1 (fun b hb => HP.out.2.1 b (H4.out.2.1 b hb)) (Hcells.out w5 (H4.out.2.2.2.1.trans (H5.out.2.1.mono fun b _ hb => H4.out.2.1 b hb))).2.2.2.2.2.2.2.2 (((KeptBut.refl (fun b => b = ob) w5).set1 (p := ⟨ob, 2, none⟩) rfl _).set1 (p := ⟨ob, 6, none⟩) rfl _) H4.out.2.2.1 (by have := H4.out.2.2.2.2.2.2; have := H4.out.2.2.2.1.size; have := HP.out.2.2.2.2.2.1; have := HM.out.2.2.2; omega) (by rw [HM.out.2.2.2]; exact HP.out.2.2.2.2.2.2.2) (fun b hb => HP.out.2.2.2.2.1 b (by rw [← HM.out.2.2.2]; exact hb)) Hg.out H3.out.2.1
              (by rw [Hact.out, if_neg (by omega)]; exact Hst.out) (by rw [Hact.out, if_neg (by omega)]; rfl) (Nat.le_refl _) (by simp [maxLen]) (fun _ => rfl) (.inl rfl) (by simp [World.setCell])
          · have hi5 : i = 1 ∨ i = 3 ∨ i = 5 ∨ i = 6 := by
              have h7 := put_vals (H' cf).sd (H' cf).l key (x1, x2, x3, x4, x5)
              rw [Hcd.out] at h7
              omega
            have Hne := Lib.hid (And.intro (HE5.out.ne i hi5) (HE5.out.blk i (by omega)))
            clear hi5
            go_wp2_with fail
            refine (is_other _ Hne.out.1 Hne.out.2 (HE5.out.blk 9 (by omega))).mono ?_
            rintro e w6 ⟨rfl, rfl⟩
            go_wp2
            go_ret
            have haf : afterP (H' cf).sd (H' cf).l key (x1, x2, x3, x4, x5) = (H' cf).l := by
              unfold afterP
              refine if_neg (fun e0 => ?_)
              have h8 := Hcd.out
              rw [e0] at h8
              unfold putM at h8
              rw [if_neg (by omega)] at h8
              omega
            have hs2 := Hst.out
            rw [haf] at hs2
            exact HearPost.refuse H5.out.1 (fun b hb => HP.out.2.1 b (H4.out.2.1 b hb)) (Hcells.out w5 (H4.out.2.2.2.1.trans (H5.out.2.1.mono fun b _ hb => H4.out.2.1 b hb))).2.2.2.2.2.2.2.2 Hg.out H3.out.2.1 (by rw [Hact.out, if_pos (by omega)]; exact hs2) (by rw [Hact.out, if_pos (by omega)])
    · have Hg4 := Lib.hid g4
      clear g4 hgood
      have hfin : ∀ w', Below w2.heap.size w2 w' → HearPost P w w' mp dst (absM cs H) ⟨fr, dst, kind, key, op, cf, sl, L⟩ (.returned (.slice none 0 0)) := fun _ hb => HearPost.silent HM.out.1 ((HM.out.2.1.trans (H2.out.mono HM.out.2.1.size)).trans (hb.mono (Nat.le_trans HM.out.2.1.size H2.out.size))) Hg4.out
      have Hfin := Lib.hid hfin
      clear hfin
      rcases g3 with g3 | ⟨rfl, g3⟩
      · go_wp2
        go_ret
        exact Hfin.out _ (Below.refl _ _)
      · unfold kKeep at c2
        go_wp2
        go_ret
        exact Hfin.out _ (Below.refl _ _)
end
end Go.Proofs.YtpjbecmedidfgaaGreatDoor
