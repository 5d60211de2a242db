/- What a member does with a message; acts on one of its holds. -/
import Derived.Test.YtpjbecmedidfgaaGreatDoorSvA
import Derived.Test.YtpjbecmedidfgaaGreatDoorHpB
import Derived.Test.YtpjbecmedidfgaaGreatDoorCodeF
namespace Go.Proofs.YtpjbecmedidfgaaGreatDoor
section
open Go.RowKit Go.Maps

def kLook : ByteArray := ⟨#[108, 111, 111, 107]⟩
def kSeal' : ByteArray := ⟨#[115, 101, 97, 108]⟩
def kKeep : ByteArray := ⟨#[107, 101, 101, 112]⟩
def kTold : ByteArray := ⟨#[116, 111, 108, 100]⟩
def kSealed : ByteArray := ⟨#[115, 101, 97, 108, 101, 100]⟩
def kKept : ByteArray := ⟨#[107, 101, 112, 116]⟩
/-- what a hold has: is it sealed, and its rows. -/
abbrev HS := Bool × List Kp
/-- what a member has, in the order in which configurations came. -/
abbrev MS := List (Int × HS)
def absM (cs : List Int) (H : Int → HSt) : MS := cs.map fun c => (c, (H c).sd, (H c).l)
def hasS (s : MS) (c : Int) : Bool := s.any fun p => decide (p.1 = c)
def getS (s : MS) (c : Int) : HS := ((s.find? fun p => decide (p.1 = c)).map (·.2)).getD (false, [])
def setS (s : MS) (c : Int) (x : HS) : MS := s.map fun p => if p.1 = c then (c, x) else p
/-- a configuration's hold is looked for, or made; none: there are too many. -/
def ofS (s : MS) (c : Int) : Option MS := if hasS s c = true then some s else if s.length < 12 then some (s ++ [(c, (false, []))]) else none
/-- an answer: its kind, is it sealed, its versions. -/
abbrev Ans := ByteArray × Bool × List Ver
/-- what a hold does with a message. -/
def actT (m : Msg) (s : HS) : HS × Option Ans :=
  if m.kind = kLook then (s, some (kTold, s.1, getL s.2 m.key))
  else if m.kind = kSeal' then ((true, s.2), some (kSealed, false, getL s.2 m.key))
  else
    if putM (errM s.1 s.2 m.key (m.L[0]?.getD ver0)) ≠ 0 ∧ putM (errM s.1 s.2 m.key (m.L[0]?.getD ver0)) ≠ 10 then (s, none)
    else ((s.1, afterP s.1 s.2 m.key (m.L[0]?.getD ver0)), some (kKept, decide (putM (errM s.1 s.2 m.key (m.L[0]?.getD ver0)) ≠ 0), []))
/-- is a message for a member? -/
def hearsB (name : ByteArray) (m : Msg) : Bool := decide (m.dst = name ∧ 0 ≤ m.cf) && nameB m.key && decide (m.kind = kLook ∨ m.kind = kSeal' ∨ (m.kind = kKeep ∧ m.L.length = 1))
/-- what a member does with a message. -/
def hearT (s : MS) (name : ByteArray) (m : Msg) : MS × Option Ans :=
  if hearsB name m = true then
    match ofS s m.cf with
    | none => (s, none)
    | some s1 => (setS s1 m.cf (actT m (getS s1 m.cf)).1, (actT m (getS s1 m.cf)).2)
  else (s, none)
def ansMsg (name : ByteArray) (m : Msg) (x : Ans) : Msg := ⟨name, m.fr, x.1, m.key, m.op, m.cf, x.2.1, x.2.2⟩
theorem hasS_abs (cs : List Int) (H : Int → HSt) (c : Int) : hasS (absM cs H) c = decide (c ∈ cs) := by
  unfold hasS absM
  rw [Bool.eq_iff_iff, List.any_eq_true, decide_eq_true_iff]
  constructor
  · rintro ⟨p, hp, h⟩
    obtain ⟨k, hk, rfl⟩ := List.mem_map.1 hp
    have e : k = c := of_decide_eq_true h
    rw [← e]; exact hk
  · intro h
    exact ⟨_, List.mem_map.2 ⟨c, h, rfl⟩, decide_eq_true rfl⟩
theorem getS_abs : ∀ (cs : List Int) (H : Int → HSt) (c : Int), c ∈ cs → getS (absM cs H) c = ((H c).sd, (H c).l)
  | k :: r, H, c, h => by
    by_cases e : k = c
    · subst e
      unfold getS absM
      simp
    · have hr : c ∈ r := (List.mem_cons.1 h).resolve_left (fun e2 => e e2.symm)
      have := getS_abs r H c hr
      unfold getS absM at *
      rw [List.map_cons, List.find?_cons_of_neg (by simpa using e)]
      exact this
theorem setS_abs (cs : List Int) (H : Int → HSt) (c : Int) (x : HSt) : setS (absM cs H) c (x.sd, x.l) = absM cs (updH H c x) := by
  unfold setS absM
  rw [List.map_map]
  refine List.map_congr_left fun k _ => ?_
  show (if k = c then _ else _) = _
  by_cases e : k = c
  · rw [if_pos e, e, updH_same]
  · rw [if_neg e, updH_other _ _ e]
theorem absM_congr {cs : List Int} {H H' : Int → HSt} (h : ∀ k ∈ cs, H' k = H k) : absM cs H' = absM cs H := List.map_congr_left fun k hk => by rw [h k hk]
theorem absM_length (cs : List Int) (H : Int → HSt) : (absM cs H).length = cs.length := List.length_map ..
theorem hold_fine {P : Nat → Prop} {w : World} {mp : Nat} {name : ByteArray} {cs : List Int} {H : Int → HSt} {c : Int} (h : MemAt P w mp name cs H) (hc : c ∈ cs) : Fine (H c).l := h.fine c hc
theorem mem_put {P : Nat → Prop} {w : World} {mp : Nat} {name : ByteArray} {cs : List Int} {H : Int → HSt} {c : Int} (h : MemAt P w mp name cs H) (hc : c ∈ cs) (E : Nat → Addr) (hE : ErrHx w E) (key : ByteArray) (x1 x2 x3 x4 : Int) (x5 : ByteArray) (hk : key.size ≤ maxLen) :
    Calls Tryz.prog 37 #[.pointer (some ⟨(H c).hb, 0, none⟩), .string key, .agg #[.int .i64 x1, .int .i64 x2, .int .i64 x3, .int .i64 x4, .string x5]] w fun e w' => (∃ v, e = .returned v ∧ errOf E (putM (errM (H c).sd (H c).l key (x1, x2, x3, x4, x5))) v) ∧
      ∃ h' : HSt, MemAt P w' mp name cs (updH H c h') ∧ KeptBut P w w' ∧ h'.sd = (H c).sd ∧ h'.l = afterP (H c).sd (H c).l key (x1, x2, x3, x4, x5) := by
  have h1 := h.hold c hc
  have hf : Fine (H c).l := hold_fine h hc
  unfold HSt.At at h1
  have ht := h1.tot
  refine (hput_any (H c).F w _ (H c).sd (getL (H c).l) (H c).ks (H c).S key x1 x2 x3 x4 x5 E h1 hE hk (by rw [ht]; have := hf.2; omega) (hf.1.get key)).mono fun e w' hp => ?_
  obtain ⟨hkp, hc2⟩ := hp
  have hs := err_same (sd := (H c).sd) (key := key) (x := (x1, x2, x3, x4, x5)) hf.1 ht
  unfold afterP putM
  rcases hc2 with ⟨i, hpe, he, hh⟩ | ⟨hpe, hhv, he, hh⟩ | ⟨hpe, hhv, he, S', hh⟩
  · rcases hs with ⟨j, h6, h7, h8⟩ | ⟨h6, _⟩ | ⟨h6, _⟩
    · rw [hpe] at h6
      obtain rfl := Option.some.inj h6
      rw [h7, if_neg (by omega), if_neg (by omega)]
      obtain ⟨q1, q2⟩ := MemAt.turn h hc hkp (fun b hb => .inl hb) hh hf
      exact ⟨⟨_, he, .inr ⟨i, by omega, by omega, rfl⟩⟩, _, q1, q2, rfl, rfl⟩
    · rw [hpe] at h6; cases h6
    · rw [hpe] at h6; cases h6
  · rcases hs with ⟨j, h6, _⟩ | ⟨_, _, h7⟩ | ⟨_, h7, _⟩
    · rw [hpe] at h6; cases h6
    · rw [h7, if_pos (by omega), if_neg (by omega)]
      obtain ⟨q1, q2⟩ := MemAt.turn h hc hkp (fun b hb => .inl hb) hh hf
      exact ⟨⟨_, he, .inl ⟨rfl, rfl⟩⟩, _, q1, q2, rfl, rfl⟩
    · rw [hhv] at h7; cases h7
  · have hfp : Fine (afterP (H c).sd (H c).l key (x1, x2, x3, x4, x5)) := hf.put
    rcases hs with ⟨j, h6, _⟩ | ⟨_, h7, _⟩ | ⟨_, _, h7, _⟩
    · rw [hpe] at h6; cases h6
    · rw [hhv] at h7; cases h7
    · unfold afterP at hfp
      rw [h7, if_pos rfl] at hfp
      rw [h7, if_neg (by omega), if_pos rfl]
      rw [← getL_ins hf.1] at hh
      obtain ⟨q1, q2⟩ := MemAt.turn h hc hkp (fun b hb => hb) hh hfp
      exact ⟨⟨_, he, .inl ⟨rfl, rfl⟩⟩, _, q1, q2, rfl, rfl⟩
theorem mem_seal {P : Nat → Prop} {w : World} {mp : Nat} {name : ByteArray} {cs : List Int} {H : Int → HSt} {c : Int} (h : MemAt P w mp name cs H) (hc : c ∈ cs) :
    Calls Tryz.prog 36 #[.pointer (some ⟨(H c).hb, 0, none⟩)] w fun e w' => e = .returned (.tuple #[]) ∧ ∃ h' : HSt, MemAt P w' mp name cs (updH H c h') ∧ KeptBut P w w' ∧ h'.sd = true ∧ h'.l = (H c).l ∧ h'.hb = (H c).hb := by
  have h1 := h.hold c hc
  unfold HSt.At at h1
  refine (hseal_walk (H c).F w _ (H c).sd (getL (H c).l) (H c).ks (H c).S h1).mono fun e w' hp => ?_
  obtain ⟨he, hh, hkp⟩ := hp
  obtain ⟨q1, q2⟩ := MemAt.turn h hc hkp (fun b hb => .inl hb) hh (hold_fine h hc)
  exact ⟨he, _, q1, q2, rfl, rfl, rfl⟩
theorem mem_get {P : Nat → Prop} {w : World} {mp : Nat} {name : ByteArray} {cs : List Int} {H : Int → HSt} {c : Int} (h : MemAt P w mp name cs H) (hc : c ∈ cs) (k : ByteArray) (hk : k.size ≤ maxLen) :
    Calls Tryz.prog 35 #[.pointer (some ⟨(H c).hb, 0, none⟩), .string k] w fun e w' => VCloneOut w w' (getL (H c).l k) e := by
  have h1 := h.hold c hc
  have hf : Fine (H c).l := hold_fine h hc
  unfold HSt.At at h1
  exact hget_walk (H c).F w _ (H c).sd (getL (H c).l) (H c).ks (H c).S k h1 hk (by have := getL_le (H c).l k; have := hf.2; omega)
theorem mem_sealed {P : Nat → Prop} {w : World} {mp : Nat} {name : ByteArray} {cs : List Int} {H : Int → HSt} {c : Int} (h : MemAt P w mp name cs H) (hc : c ∈ cs) :
    Calls Tryz.prog 34 #[.pointer (some ⟨(H c).hb, 0, none⟩)] w fun e w' => e = .returned (.bool (H c).sd) ∧ w = w' := by
  have h1 := h.hold c hc
  unfold HSt.At at h1
  exact hsealed_walk (H c).F w _ (H c).sd (getL (H c).l) (H c).ks (H c).S h1
/-- what 'of' leaves, as one. -/
def OfPost' (P : Nat → Prop) (w w' : World) (mp : Nat) (name : ByteArray) (cs : List Int) (H : Int → HSt) (c : Int) (e : Ending) : Prop :=
  KeptBut P w w' ∧
  ((ofS (absM cs H) c = none ∧ e = .returned (.pointer none) ∧ MemAt P w' mp name cs H) ∨
   ∃ cs' H', ofS (absM cs H) c = some (absM cs' H') ∧ c ∈ cs' ∧ e = .returned (.pointer (some ⟨(H' c).hb, 0, none⟩)) ∧ MemAt P w' mp name cs' H')
theorem of_walk' (P : Nat → Prop) (w : World) (mp : Nat) (name : ByteArray) (cs : List Int) (H : Int → HSt) (c : Int) (h : MemAt P w mp name cs H) (hc : Int64 c) :
    Calls Tryz.prog 33 #[.pointer (some ⟨mp, 0, none⟩), .int .i64 c] w fun e w' => OfPost' P w w' mp name cs H c e := by
  refine (of_walk P w mp name cs H c h hc).mono fun e w' hp => ?_
  obtain ⟨hk, hp⟩ := hp
  refine ⟨hk, ?_⟩
  unfold ofS
  rw [hasS_abs, absM_length]
  rcases hp with ⟨h1, h2, h3⟩ | ⟨h1, h2, H', h3, h4, h5, h6, h7⟩ | ⟨h1, h2, h3, h4⟩
  · rw [decide_eq_true h1, if_pos rfl]
    exact .inr ⟨cs, H, rfl, h1, h2, h3⟩
  · rw [decide_eq_false h1, if_neg (by decide), if_pos h2]
    refine .inr ⟨_, H', ?_, by simp, h3, h4⟩
    congr 1
    unfold absM
    rw [List.map_append, List.map_singleton, h6, h7]
    congr 1
    exact List.map_congr_left fun k hk => by rw [h5 k (fun e => h1 (by rw [← e]; exact hk))]
  · rw [decide_eq_false h1, if_neg (by decide), if_neg (by omega)]
    exact .inl ⟨rfl, h3, h4⟩
end
end Go.Proofs.YtpjbecmedidfgaaGreatDoor
