/- Messages and versions that are read, in blocks of S. -/
import Derived.Test.YtabboioamdphmaaGreatDoorKAskHears26
import Derived.Test.YtabboioamdphmaaGreatDoorKAskHears25
import Derived.Test.YtabboioamdphmaaGreatDoorKAskHears16
import Derived.Test.YtabboioamdphmaaGreatDoorKAskHears21
namespace Go.Proofs.YtabboioamdphmaaGreatDoor
section
open Go.RowKit

theorem txt_neV {a b : ByteArray} (h : a ≠ b) : (a.toList == b.toList) = false := by
  rw [beq_eq_false_iff_ne]
  intro e
  apply h
  rw [ByteArray.toList_eq, ByteArray.toList_eq] at e
  cases a; cases b
  exact congrArg ByteArray.mk (Array.toList_inj.1 e)
def kLook : ByteArray := ⟨#[108, 111, 111, 107]⟩
def kSeal' : ByteArray := ⟨#[115, 101, 97, 108]⟩
def kKeep : ByteArray := ⟨#[107, 101, 101, 112]⟩
def kTold : ByteArray := ⟨#[116, 111, 108, 100]⟩
def kSealed : ByteArray := ⟨#[115, 101, 97, 108, 101, 100]⟩
def kKept : ByteArray := ⟨#[107, 101, 112, 116]⟩
/-- versions that are read, in blocks of S. -/
def VrS (S : Nat → Prop) (w : World) (a : Option Addr) (l : List Ver) : Prop :=
  l = [] ∨ ∃ b off, a = some ⟨b, off, none⟩ ∧ S b ∧ b < w.heap.size ∧ ∀ i j, i < l.length → j < 5 → w.cell? ⟨b, off + i * 5 + j, none⟩ = (encVr (l[i]?.getD ver0))[j]?
theorem VrS.kept {S G : Nat → Prop} {A B : World} (h : KeptBut G A B) (hS : ∀ b, b < A.heap.size → S b → ¬ G b) {a : Option Addr} {l : List Ver} : VrS S A a l → VrS S B a l
  | .inl e => .inl e
  | .inr ⟨b, off, e, hb, hl, hc⟩ => .inr ⟨b, off, e, hb, Nat.lt_of_lt_of_le hl h.size, fun i j hi hj => (World.cell?_of_block (a := ⟨b, off + i * 5 + j, none⟩) (h.block b hl (hS b hl hb))).trans (hc i j hi hj)⟩
theorem VrS.below {S : Nat → Prop} {A B : World} (h : Below A.heap.size A B) {a : Option Addr} {l : List Ver} (hv : VrS S A a l) : VrS S B a l := hv.kept (KeptBut.of_below (F := fun b => A.heap.size ≤ b) h (fun _ _ h => h)) (fun b hb _ => by omega)
theorem VrS.mono {S T : Nat → Prop} {A : World} (h : ∀ b, S b → T b) {a : Option Addr} {l : List Ver} : VrS S A a l → VrS T A a l
  | .inl e => .inl e
  | .inr ⟨b, off, e, hb, hl, hc⟩ => .inr ⟨b, off, e, h b hb, hl, hc⟩
theorem VrS.read {S : Nat → Prop} {A : World} {a : Option Addr} {l : List Ver} : VrS S A a l → VrR A.heap.size A a l
  | .inl e => .inl e
  | .inr ⟨b, off, e, _, hl, hc⟩ => .inr ⟨b, off, e, hl, hc⟩
theorem OwnV.readS {B : Nat} {w : World} {v : Value} {l : List Ver} (h : OwnV B w v l) : ∃ a cap, v = .slice a l.length cap ∧ l.length ≤ cap ∧ cap ≤ maxLen ∧ (a = none → cap = 0) ∧ VrS (fun b => B ≤ b) w a l := by
  have hlt := h.lt
  obtain ⟨a, cap, rfl, h1, h2, h3, h4⟩ := h.read
  refine ⟨a, cap, rfl, h1, h2, h3, ?_⟩
  rcases h4 with e | ⟨b, off, rfl, hb, hc⟩
  · exact .inl e
  · by_cases hl : l = []
    · exact .inl hl
    · refine .inr ⟨b, off, rfl, ?_, hb, hc⟩
      rcases h.2 with ⟨e, hn⟩ | ⟨g, cap', cur, e, hbb, _⟩
      · simp at e
      · simp only [Value.slice.injEq, Option.some.injEq] at e
        have := congrArg Addr.block e.1
        simp at this
        omega
/-- a message that is read, in blocks of S. -/
def MsgAtS (S : Nat → Prop) (w : World) (b o : Nat) (m : Msg) : Prop :=
  w.cell? ⟨b, o, none⟩ = some (.string m.fr) ∧ w.cell? ⟨b, o + 1, none⟩ = some (.string m.dst) ∧ w.cell? ⟨b, o + 2, none⟩ = some (.string m.kind) ∧ w.cell? ⟨b, o + 3, none⟩ = some (.string m.key) ∧
  w.cell? ⟨b, o + 4, none⟩ = some (.int .i64 m.op) ∧ w.cell? ⟨b, o + 5, none⟩ = some (.int .i64 m.cf) ∧ w.cell? ⟨b, o + 6, none⟩ = some (.bool m.sl) ∧
  ∃ ad cap, w.cell? ⟨b, o + 7, none⟩ = some (.slice ad m.L.length cap) ∧ m.L.length ≤ cap ∧ cap ≤ maxLen ∧ (ad = none → cap = 0) ∧ VrS S w ad m.L
theorem MsgAtS.kept {S G : Nat → Prop} {A B : World} (h : KeptBut G A B) (hS : ∀ b, b < A.heap.size → S b → ¬ G b) {b o : Nat} {m : Msg} (hb : S b) (hl : b < A.heap.size) (hm : MsgAtS S A b o m) : MsgAtS S B b o m := by
  obtain ⟨h0, h1, h2, h3, h4, h5, h6, ad, cap, h7, h8, h9, h10, h11⟩ := hm
  have c : ∀ {o v}, A.cell? ⟨b, o, none⟩ = some v → B.cell? ⟨b, o, none⟩ = some v := fun {o v} h9 => (World.cell?_of_block (a := ⟨b, o, none⟩) (h.block b hl (hS b hl hb))).trans h9
  exact ⟨c h0, c h1, c h2, c h3, c h4, c h5, c h6, ad, cap, c h7, h8, h9, h10, h11.kept h hS⟩
theorem MsgAtS.read {S : Nat → Prop} {w : World} {b o : Nat} {m : Msg} (hm : MsgAtS S w b o m) : MsgAt w.heap.size w b o m := by
  obtain ⟨h0, h1, h2, h3, h4, h5, h6, ad, cap, h7, h8, h9, h10, h11⟩ := hm
  exact ⟨h0, h1, h2, h3, h4, h5, h6, ad, cap, h7, h8, h9, h10, h11.read⟩
def MsgsS (S : Nat → Prop) (w : World) (a : Option Addr) (l : List Msg) : Prop :=
  l = [] ∨ ∃ b off, a = some ⟨b, off, none⟩ ∧ S b ∧ b < w.heap.size ∧ ∀ i, i < l.length → MsgAtS S w b (off + i * 8) (l[i]?.getD msg0)
theorem MsgsS.kept {S G : Nat → Prop} {A B : World} (h : KeptBut G A B) (hS : ∀ b, b < A.heap.size → S b → ¬ G b) {a : Option Addr} {l : List Msg} : MsgsS S A a l → MsgsS S B a l
  | .inl e => .inl e
  | .inr ⟨b, off, e, hb, hl, hc⟩ => .inr ⟨b, off, e, hb, Nat.lt_of_lt_of_le hl h.size, fun i hi => (hc i hi).kept h hS hb hl⟩
theorem MsgsS.below {S : Nat → Prop} {A B : World} (h : Below A.heap.size A B) {a : Option Addr} {l : List Msg} (hv : MsgsS S A a l) : MsgsS S B a l := hv.kept (KeptBut.of_below (F := fun b => A.heap.size ≤ b) h (fun _ _ h => h)) (fun b hb _ => by omega)
theorem MsgsS.read {S : Nat → Prop} {w : World} {a : Option Addr} {l : List Msg} : MsgsS S w a l → MsgsR w.heap.size w a l
  | .inl e => .inl e
  | .inr ⟨b, off, e, _, hl, hc⟩ => .inr ⟨b, off, e, hl, fun i hi => (hc i hi).read⟩
/-- messages that are handed back. -/
def RetMsgs (S : Nat → Prop) (w : World) (e : Ending) (l : List Msg) : Prop := ∃ a cap, e = .returned (.slice a l.length cap) ∧ l.length ≤ cap ∧ cap ≤ maxLen ∧ (a = none → cap = 0) ∧ MsgsS S w a l
theorem RetMsgs.nil (S : Nat → Prop) (w : World) : RetMsgs S w (.returned (.slice none 0 0)) [] := ⟨none, 0, rfl, Nat.le_refl _, by simp [maxLen], fun _ => rfl, .inl rfl⟩
theorem VrS.mono2 {S T : Nat → Prop} {A : World} (h : ∀ b, b < A.heap.size → S b → T b) {a : Option Addr} {l : List Ver} : VrS S A a l → VrS T A a l
  | .inl e => .inl e
  | .inr ⟨b, off, e, hb, hl, hc⟩ => .inr ⟨b, off, e, h b hl hb, hl, hc⟩
end
end Go.Proofs.YtabboioamdphmaaGreatDoor
/- A client's ask, and the mover's carry, plain: what is heard, what is answered. -/
namespace Go.Proofs.YtabboioamdphmaaGreatDoor

def kLooking : ByteArray := ⟨#[108, 111, 111, 107, 105, 110, 103]⟩
def kSealing : ByteArray := ⟨#[115, 101, 97, 108, 105, 110, 103]⟩
def kKeeping : ByteArray := ⟨#[107, 101, 101, 112, 105, 110, 103]⟩
def kDone : ByteArray := ⟨#[100, 111, 110, 101]⟩
def kRefused : ByteArray := ⟨#[114, 101, 102, 117, 115, 101, 100]⟩
/-- who was heard, and what each told. -/
abbrev Got := List (ByteArray × List Ver)
/-- a talk: who asks, for which key, in which configuration, what is waited for, what was told. -/
structure TalkS where
  name : ByteArray
  key : ByteArray
  op : Int
  cf : Int
  n : Nat
  k : Nat
  mem : List ByteArray
  wait : ByteArray
  got : Got
/-- is a message an answer that is waited for? -/
def fitsB (t : TalkS) (m : Msg) : Bool :=
  decide (m.dst = t.name ∧ m.key = t.key ∧ m.op = t.op ∧ m.cf = t.cf ∧ m.kind = t.wait) && !(t.got.any fun p => decide (p.1 = m.fr)) && t.mem.any fun s => decide (s = m.fr)
def takeT (t : TalkS) (m : Msg) : TalkS := { t with got := t.got ++ [(m.fr, m.L)] }
def enoughB (t : TalkS) : Bool := decide (t.n + t.k ≤ 2 * t.got.length)
def getT (g : Got) (s : ByteArray) : Option (List Ver) := (g.find? fun p => decide (p.1 = s)).map (·.2)
/-- what was told, in the members' order. -/
def toldT (t : TalkS) : List (List Ver) := t.mem.filterMap (getT t.got)
/-- a message to all members. -/
def sendT (t : TalkS) (kind : ByteArray) (L : Nat → List Ver) : List Msg := (List.range t.mem.length).map fun i => ⟨t.name, t.mem[i]?.getD ⟨#[]⟩, kind, t.key, t.op, t.cf, false, L i⟩
/-- a version for each. -/
def keepV (k : Nat) (tag : Int × Int) (text : ByteArray) (i : Nat) : List Ver := [(tag.1, tag.2, (text.size : Int), (i : Int), encT k text i)]
def keepT (t : TalkS) (tag : Int × Int) (text : ByteArray) : List Msg := sendT t kKeep (keepV t.k tag text)
/-- an ask, or a carry. -/
structure AskS where
  t : TalkS
  who : Int
  put : Bool
  moves : Bool
  n2 : Nat
  k2 : Nat
  mem2 : List ByteArray
  st : Nat
  tag : Int × Int
  text : ByteArray
  found : Bool
def stT (a : AskS) : ByteArray := if a.st = 0 then (if a.moves = true then kSealing else kLooking) else if a.st = 1 then kKeeping else if a.st = 2 then kDone else kRefused
def waitT (a : AskS) : ByteArray := if a.st = 0 then (if a.moves = true then kSealed else kTold) else kKept
/-- the greatest number that was told. -/
def maxN (xs : List Ver) : Int := xs.foldl (fun n x => if n < x.1 ∧ x.1 ≤ 1099511627776 then x.1 else n) 0
/-- what is kept then, or nothing. -/
def chooseT (a : AskS) : AskS :=
  if a.put = true then { a with tag := (maxN (toldT a.t).flatten + 1, a.who), found := true }
  else { a with tag := (bestAns a.t.k (bestG a.t.k (groupsL a.t.n a.t.k (toldT a.t).flatten))).1, text := (bestAns a.t.k (bestG a.t.k (groupsL a.t.n a.t.k (toldT a.t).flatten))).2.1, found := (bestAns a.t.k (bestG a.t.k (groupsL a.t.n a.t.k (toldT a.t).flatten))).2.2 }
/-- it begins to keep. -/
def keepS (a : AskS) : AskS :=
  if a.moves = true then { a with st := 1, t := { a.t with n := a.n2, k := a.k2, mem := a.mem2, cf := a.t.cf + 1, wait := kKept, got := [] } }
  else { a with st := 1, t := { a.t with wait := kKept, got := [] } }
/-- an answer is heard. -/
def askHear (a : AskS) (m : Msg) : AskS × List Msg :=
  if 2 ≤ a.st ∨ fitsB a.t m = false then (a, [])
  else if m.sl = true ∧ ¬ (a.st = 0 ∧ a.moves = true) then ({ a with st := 3 }, [])
  else if enoughB (takeT a.t m) = false then ({ a with t := takeT a.t m }, [])
  else if a.st = 1 then ({ a with st := 2, t := takeT a.t m }, [])
  else if (chooseT { a with t := takeT a.t m }).found = false then ({ chooseT { a with t := takeT a.t m } with st := 2 }, [])
  else (keepS (chooseT { a with t := takeT a.t m }), keepT (keepS (chooseT { a with t := takeT a.t m })).t (keepS (chooseT { a with t := takeT a.t m })).tag (keepS (chooseT { a with t := takeT a.t m })).text)
end Go.Proofs.YtabboioamdphmaaGreatDoor
/- Asks, plain: what was told is what was heard, in another order; the greatest number. -/
namespace Go.Proofs.YtabboioamdphmaaGreatDoor

theorem getT_mem {g : Got} (hn : (g.map (·.1)).Nodup) {p : ByteArray × List Ver} (hp : p ∈ g) : getT g p.1 = some p.2 := by
  unfold getT
  induction g with
  | nil => cases hp
  | cons q r ih =>
    rw [List.find?_cons]
    rw [List.map_cons, List.nodup_cons] at hn
    rcases List.mem_cons.1 hp with rfl | hp
    · simp
    · have hne : q.1 ≠ p.1 := fun e => hn.1 (by rw [e]; exact List.mem_map_of_mem hp)
      rw [decide_eq_false hne]
      exact ih hn.2 hp
theorem getT_some {g : Got} {s : ByteArray} {l : List Ver} (h : getT g s = some l) : (s, l) ∈ g := by
  unfold getT at h
  cases hf : g.find? (fun p => decide (p.1 = s)) with
  | none => rw [hf] at h; cases h
  | some p =>
    rw [hf] at h
    have h1 := List.find?_some hf
    have h2 := List.mem_of_find?_eq_some hf
    have h3 : p.1 = s := of_decide_eq_true h1
    have h4 : p.2 = l := by simpa using h
    have : p = (s, l) := by rw [← h3, ← h4]
    rw [← this]
    exact h2
theorem getT_none {g : Got} {s : ByteArray} : getT g s = none ↔ s ∉ g.map (·.1) := by
  constructor
  · intro h hs
    obtain ⟨p, hp, rfl⟩ := List.mem_map.1 hs
    unfold getT at h
    rw [Option.map_eq_none_iff, List.find?_eq_none] at h
    have := h p hp
    simp at this
  · intro h
    cases e : getT g s with
    | none => rfl
    | some l => exact absurd (List.mem_map.2 ⟨_, getT_some e, rfl⟩) h
theorem filterMap_keys {g : Got} : ∀ {r : Got}, (∀ p ∈ r, getT g p.1 = some p.2) → (r.map (·.1)).filterMap (getT g) = r.map (·.2)
  | [], _ => rfl
  | q :: r, h => by
    rw [List.map_cons, List.map_cons, List.filterMap_cons_some (h q (List.mem_cons_self ..)), filterMap_keys (fun p hp => h p (List.mem_cons_of_mem _ hp))]
/-- a talk is sound. -/
structure TalkOk (t : TalkS) : Prop where
  cfg : configF (t.n : Int) (t.k : Int) t.mem = (0, -1)
  nd : (t.got.map (·.1)).Nodup
  sub : ∀ p ∈ t.got, p.1 ∈ t.mem
theorem filterMap_filter {g : Got} (l : List ByteArray) : l.filterMap (getT g) = (l.filter fun s => decide (s ∈ g.map (·.1))).filterMap (getT g) := by
  induction l with
  | nil => rfl
  | cons s r ih =>
    by_cases h : s ∈ g.map (·.1)
    · rw [List.filter_cons_of_pos (by simpa using h), List.filterMap_cons, List.filterMap_cons, ih]
    · rw [List.filter_cons_of_neg (by simpa using h), List.filterMap_cons_none (getT_none.2 h), ih]
theorem told_perm {t : TalkS} (h : TalkOk t) : (toldT t).Perm (t.got.map (·.2)) := by
  have hm : t.mem.Nodup := (configF_zero (by rw [h.cfg])).2.2.1
  unfold toldT
  rw [filterMap_filter, ← filterMap_keys (fun p hp => getT_mem h.nd hp)]
  refine List.Perm.filterMap _ ?_
  rw [List.perm_ext_iff_of_nodup (hm.filter _) h.nd]
  intro a
  rw [List.mem_filter]
  constructor
  · intro h9; exact of_decide_eq_true h9.2
  · intro h9
    obtain ⟨p, hp, rfl⟩ := List.mem_map.1 h9
    exact ⟨h.sub p hp, decide_eq_true h9⟩
theorem totV_perm {a b : List (List Ver)} (h : a.Perm b) : totV a = totV b := by
  unfold totV
  exact (h.map List.length).sum_nat
/-- what is known of the greatest number. -/
def IsMaxN (xs : List Ver) (r : Int) : Prop := 0 ≤ r ∧ (r = 0 ∨ ∃ x ∈ xs, x.1 = r ∧ x.1 ≤ 1099511627776) ∧ ∀ x ∈ xs, x.1 ≤ 1099511627776 → x.1 ≤ r
theorem maxN_snoc (xs : List Ver) (x : Ver) : maxN (xs ++ [x]) = if maxN xs < x.1 ∧ x.1 ≤ 1099511627776 then x.1 else maxN xs := by
  unfold maxN
  rw [List.foldl_append]
  rfl
theorem maxN_is (xs : List Ver) : IsMaxN xs (maxN xs) := by
  have key : ∀ n : Nat, ∀ xs : List Ver, xs.length = n → IsMaxN xs (maxN xs) := by
    intro n
    induction n with
    | zero =>
      intro xs h
      rw [List.length_eq_zero_iff.1 h]
      exact ⟨Int.le_refl _, .inl rfl, fun x hx => by cases hx⟩
    | succ n ih =>
      intro xs h
      have hne : xs ≠ [] := fun e => by rw [e] at h; cases h
      rw [← List.dropLast_concat_getLast hne]
      have h1 := ih xs.dropLast (by rw [List.length_dropLast]; omega)
      obtain ⟨y, hy⟩ : ∃ y, xs.getLast hne = y := ⟨_, rfl⟩
      obtain ⟨ys, hys⟩ : ∃ ys, xs.dropLast = ys := ⟨_, rfl⟩
      rw [hy, hys]
      rw [hys] at h1
      rw [maxN_snoc]
      obtain ⟨h2, h3, h4⟩ := h1
      split
      · rename_i hc
        refine ⟨by omega, .inr ⟨y, by simp, rfl, hc.2⟩, fun x hx hx2 => ?_⟩
        rcases List.mem_append.1 hx with hx | hx
        · have := h4 x hx hx2; omega
        · rw [List.mem_singleton.1 hx]; exact Int.le_refl _
      · rename_i hc
        refine ⟨h2, ?_, fun x hx hx2 => ?_⟩
        · rcases h3 with h3 | ⟨x, hx, h3⟩
          · exact .inl h3
          · exact .inr ⟨x, List.mem_append_left _ hx, h3⟩
        · rcases List.mem_append.1 hx with hx | hx
          · exact h4 x hx hx2
          · rw [List.mem_singleton.1 hx] at hx2 ⊢
            omega
  exact key _ xs rfl
theorem IsMaxN.eq {xs ys : List Ver} {r s : Int} (h : IsMaxN xs r) (k : IsMaxN ys s) (he : ∀ x, x ∈ xs ↔ x ∈ ys) : r = s := by
  obtain ⟨h1, h2, h3⟩ := h
  obtain ⟨k1, k2, k3⟩ := k
  have a1 : r ≤ s := by
    rcases h2 with h2 | ⟨x, hx, e, hb⟩
    · omega
    · rw [← e]; exact k3 x ((he x).1 hx) hb
  have a2 : s ≤ r := by
    rcases k2 with k2 | ⟨x, hx, e, hb⟩
    · omega
    · rw [← e]; exact h3 x ((he x).2 hx) hb
  omega
theorem maxN_perm {a b : List (List Ver)} (h : a.Perm b) : maxN a.flatten = maxN b.flatten :=
  IsMaxN.eq (maxN_is _) (maxN_is _) (fun x => by
    rw [List.mem_flatten, List.mem_flatten]
    constructor
    · rintro ⟨l, hl, hx⟩; exact ⟨l, h.mem_iff.1 hl, hx⟩
    · rintro ⟨l, hl, hx⟩; exact ⟨l, h.mem_iff.2 hl, hx⟩)
theorem maxN_told {t : TalkS} (h : TalkOk t) : maxN (toldT t).flatten = maxN (t.got.map (·.2)).flatten := maxN_perm (told_perm h)
theorem fits_mem {t : TalkS} {m : Msg} (h : fitsB t m = true) : m.fr ∈ t.mem ∧ m.fr ∉ t.got.map (·.1) := by
  unfold fitsB at h
  rw [Bool.and_eq_true, Bool.and_eq_true] at h
  refine ⟨?_, ?_⟩
  · have h2 := h.2
    rw [List.any_eq_true] at h2
    obtain ⟨s, hs, e⟩ := h2
    rw [← of_decide_eq_true e]; exact hs
  · intro hs
    obtain ⟨p, hp, e⟩ := List.mem_map.1 hs
    have h2 := h.1.2
    have h3 : (t.got.any fun p => decide (p.1 = m.fr)) = true := List.any_eq_true.2 ⟨p, hp, decide_eq_true e⟩
    rw [h3] at h2
    cases h2
theorem take_ok {t : TalkS} {m : Msg} (h : TalkOk t) (hf : fitsB t m = true) : TalkOk (takeT t m) := by
  obtain ⟨h1, h2⟩ := fits_mem hf
  refine ⟨h.cfg, ?_, ?_⟩
  · show ((t.got ++ [(m.fr, m.L)]).map (·.1)).Nodup
    rw [List.map_append, List.nodup_append]
    exact ⟨h.nd, by simp, fun a ha b hb => by simp at hb; rw [hb]; exact fun e => h2 (e ▸ ha)⟩
  · intro p hp
    rcases List.mem_append.1 (show p ∈ t.got ++ [(m.fr, m.L)] from hp) with hp | hp
    · exact h.sub p hp
    · rw [List.mem_singleton.1 hp]; exact h1
end Go.Proofs.YtabboioamdphmaaGreatDoor
/- Walks of a hold's Get, Last, Sealed, Count. -/
namespace Go.Proofs.YtabboioamdphmaaGreatDoor
section
open Go.RowKit Go.Maps

/-- what Last hands back. -/
def lastE (l : List Ver) : Ending := .returned (.tuple #[.agg #[.int .i64 (l[l.length - 1]?.getD ver0).1, .int .i64 (l[l.length - 1]?.getD ver0).2.1], .bool (decide (0 < l.length))])
/-! ### Count -/
/-- of those keys that are still to come: how many versions. -/
def leftC (C : ByteArray → List Ver) (left : Lit → Bool) : List ByteArray → Nat
  | [] => 0
  | k :: r => (if left (litS k) = true then (C k).length else 0) + leftC C left r
theorem leftC_all (C : ByteArray → List Ver) (left : Lit → Bool) : ∀ ks : List ByteArray, (∀ k ∈ ks, left (litS k) = true) → leftC C left ks = totC C ks
  | [], _ => rfl
  | k :: r, h => by
    unfold leftC
    rw [if_pos (h k (List.mem_cons_self ..)), leftC_all C left r (fun x hx => h x (List.mem_cons_of_mem _ hx))]
    simp [totC]
theorem leftC_none (C : ByteArray → List Ver) (left : Lit → Bool) (h : ∀ l, left l = false) : ∀ ks : List ByteArray, leftC C left ks = 0
  | [] => rfl
  | k :: r => by unfold leftC; rw [if_neg (by rw [h]; decide), leftC_none C left h r]
theorem leftC_out (C : ByteArray → List Ver) (left : Lit → Bool) (x : ByteArray) : ∀ ks : List ByteArray, x ∉ ks → leftC C (fun z => left z && !z.sameKey (litS x)) ks = leftC C left ks
  | [], _ => rfl
  | k :: r, h => by
    have hne : litS k ≠ litS x := fun e => h (by rw [litS_inj e]; exact List.mem_cons_self ..)
    unfold leftC
    rw [leftC_out C left x r (fun e => h (List.mem_cons_of_mem _ e)), sameKey_ne hne]
    simp
theorem leftC_step (C : ByteArray → List Ver) (left : Lit → Bool) (x : ByteArray) (hx : left (litS x) = true) : ∀ ks : List ByteArray, ks.Nodup → x ∈ ks → leftC C left ks = (C x).length + leftC C (fun z => left z && !z.sameKey (litS x)) ks
  | [], _, h => by cases h
  | k :: r, hn, h => by
    have hn2 := List.nodup_cons.1 hn
    by_cases e : k = x
    · subst e
      unfold leftC
      rw [if_pos hx, leftC_out C left k r hn2.1]
      have hs : (litS k).sameKey (litS k) = true := by simp [litS, Lit.sameKey]
      rw [if_neg (by rw [hs]; simp)]
      omega
    · have hne : litS k ≠ litS x := fun e2 => e (litS_inj e2)
      have hm : x ∈ r := by
        rcases List.mem_cons.1 h with h | h
        · exact absurd h.symm e
        · exact h
      unfold leftC
      rw [leftC_step C left x hx r hn2.2 hm, sameKey_ne hne]
      simp
      omega
end
section
open Go.RowKit Go.Maps

theorem Rv_inv (v : Value) (y : DataW Value × List MemPlace) (_h : Rv v = some y) : ∃ c : Value, v = (fun v => v) c := ⟨v, rfl⟩
theorem keyS_inv (key : Value) (kl : Lit) (h : keyOf Tryz.prog 9 key = some kl) : ∃ x : ByteArray, key = Value.string x := by
  obtain ⟨x, hx, _⟩ := Go.WideMaps.string_of_keyOf Tryz.underlying9 h
  exact ⟨x, hx⟩
theorem keyS_lit {x : ByteArray} {kl : Lit} (h : keyOf Tryz.prog 9 (.string x) = some kl) : kl = litS x ∧ x.size ≤ maxLen := by
  obtain ⟨y, hy, h1, h2⟩ := Go.WideMaps.string_of_keyOf Tryz.underlying9 h
  cases hy
  exact ⟨h1, h2⟩
end
section
open Go.RowKit

def rightB (x : Ver) : Bool := tagB x.1 x.2.1 && decide (0 ≤ x.2.2.1 ∧ x.2.2.1 ≤ 1000 ∧ 0 ≤ x.2.2.2.1 ∧ x.2.2.2.1 < 12 ∧ x.2.2.2.2.size ≤ 1000)
end
end Go.Proofs.YtabboioamdphmaaGreatDoor
/- A key's row is put into a hold. -/
namespace Go.Proofs.YtabboioamdphmaaGreatDoor
open Go.RowKit Go.Maps

/-- the hold's map is there. -/
def MapAt (F : Nat → Prop) (w : World) (hb : Nat) (ks : List ByteArray) (S : ByteArray → Value) (bm : Nat) (D : DataW Value) : Prop :=
  w.cell? ⟨hb, 0, none⟩ = some (.map (some bm)) ∧ F bm ∧ bm ≠ hb ∧ w.ownsMap Tryz.prog 9 Rv bm ks.length D ∧
    (∀ k, D.atKey (litS k) (.held (.slice none 0 0)) = .held (S k)) ∧ (∀ k, Maps.has D (litS k) = decide (k ∈ ks)) ∧ (∀ k g, (S k).ownBlock = some g → g ≠ bm) ∧ Maps.size D = ks.length
def updC (C : ByteArray → List Ver) (key : ByteArray) (L : List Ver) : ByteArray → List Ver := fun k => if k = key then L else C k
def updS (S : ByteArray → Value) (key : ByteArray) (v : Value) : ByteArray → Value := fun k => if k = key then v else S k
def addK (ks : List ByteArray) (key : ByteArray) : List ByteArray := if key ∈ ks then ks else ks ++ [key]
theorem mem_addK {ks : List ByteArray} {key k : ByteArray} : k ∈ addK ks key ↔ k ∈ ks ∨ k = key := by
  unfold addK
  split
  · constructor
    · exact .inl
    · rintro (h | rfl)
      · exact h
      · assumption
  · simp
theorem addK_nodup {ks : List ByteArray} (h : ks.Nodup) (key : ByteArray) : (addK ks key).Nodup := by
  unfold addK
  split
  · exact h
  · rename_i hn
    rw [List.nodup_append]
    exact ⟨h, by simp, fun a ha b hb => by rw [List.mem_singleton.1 hb]; exact fun e => hn (e ▸ ha)⟩
theorem addK_length (ks : List ByteArray) (key : ByteArray) : (addK ks key).length = if key ∈ ks then ks.length else ks.length + 1 := by
  unfold addK
  split <;> simp
theorem keyLit (k : ByteArray) : WideAt.IsKeyLit (litS k) := trivial
/-- a row is put back under its key. -/
theorem HoldAt.put {F : Nat → Prop} {w w2 w3 : World} {hb : Nat} {sd : Bool} {C : ByteArray → List Ver} {ks : List ByteArray} {S : ByteArray → Value} {bm : Nat} {D : DataW Value} {key : ByteArray} {v' : Value} {L' : List Ver}
    (h : HoldAt F w hb sd C ks S) (hm : MapAt F w hb ks S bm D) (hg2 : w.grownBy w2 (S key).ownBlock) (hv : OwnV 0 w2 v' L') (hne : L' ≠ []) (hbl : v'.ownBlock = (S key).ownBlock ∨ ∃ g, v'.ownBlock = some g ∧ w.heap.size ≤ g)
    (hown : w3.ownsMap Tryz.prog 9 Rv bm (ks.length + 1) (D.put (litS key) (.held v'))) (hg3 : w2.grownBy w3 (some bm)) (hkz : key.size ≤ maxLen) :
    HoldAt (fun b => F b ∨ w.heap.size ≤ b) w3 hb sd (updC C key L') (addK ks key) (updS S key v') ∧ KeptBut F w w3 := by
  obtain ⟨m0, mF, mne, mo, mat, mhas, mrow, msz⟩ := hm
  have hbmlt : bm < w.heap.size := mo.lt
  have hrow : ∀ k, k ≠ key → ∀ g, (S k).ownBlock = some g → w3.heap[g]? = w.heap[g]? := fun k hk g hg => by
    have h1 : g < w.heap.size := h.rowLt hg
    have h2 : some g ≠ (S key).ownBlock := fun e => h.apart k key g hk hg e.symm
    have h3 : some g ≠ some bm := fun e => mrow k g hg (Option.some.inj e)
    exact (hg3.block g (Nat.lt_of_lt_of_le h1 hg2.size) h3).trans (hg2.block g h1 h2)
  have hhb : w3.heap[hb]? = w.heap[hb]? := by
    have h2 : some hb ≠ (S key).ownBlock := fun e => (h.rowF key hb e.symm).2 rfl
    have h3 : some hb ≠ some bm := fun e => mne (Option.some.inj e).symm
    exact (hg3.block hb (Nat.lt_of_lt_of_le h.hlt hg2.size) h3).trans (hg2.block hb h.hlt h2)
  have ec : ∀ j, w3.cell? ⟨hb, j, none⟩ = w.cell? ⟨hb, j, none⟩ := fun j => World.cell?_of_block (a := ⟨hb, j, none⟩) hhb
  have ef : ∀ j, w3.frozen? ⟨hb, j, none⟩ = w.frozen? ⟨hb, j, none⟩ := fun j => World.frozen?_of_block (a := ⟨hb, j, none⟩) hhb
  have hsz3 : w.heap.size ≤ w3.heap.size := Nat.le_trans hg2.size hg3.size
  have hvbm : ∀ g, v'.ownBlock = some g → g ≠ bm := fun g hg => by
    rcases hbl with e | ⟨g', e, hge⟩
    · rw [hg] at e; exact mrow key g e.symm
    · rw [hg] at e; cases e; omega
  have hv3 : OwnV 0 w3 v' L' := hv.kept hg3 (by
    cases e : v'.ownBlock with
    | none => exact .inl rfl
    | some g => exact .inr (fun e2 => hvbm g e (Option.some.inj e2)))
  have hS : ∀ k g, (updS S key v' k).ownBlock = some g → (F g ∨ w.heap.size ≤ g) ∧ g ≠ hb ∧ g ≠ bm := fun k g hg => by
    unfold updS at hg
    split at hg
    · refine ⟨?_, ?_, hvbm g hg⟩
      · rcases hbl with e | ⟨g', e, hge⟩
        · rw [hg] at e; exact .inl (h.rowF key g e.symm).1
        · rw [hg] at e; cases e; exact .inr hge
      · rcases hbl with e | ⟨g', e, hge⟩
        · rw [hg] at e; exact (h.rowF key g e.symm).2
        · rw [hg] at e; cases e; have := h.hlt; omega
    · exact ⟨.inl (h.rowF k g hg).1, (h.rowF k g hg).2, mrow k g hg⟩
  have hnewap : ∀ k g, k ≠ key → v'.ownBlock = some g → (S k).ownBlock ≠ some g := fun k g hk hg e2 => by
    rcases hbl with e | ⟨g', e, hge⟩
    · rw [hg] at e; exact h.apart k key g hk e2 e.symm
    · rw [hg] at e; cases e; have := h.rowLt e2; omega
  refine ⟨⟨.inl h.hF, Nat.lt_of_lt_of_le h.hlt hsz3, (ec 1).trans h.c1, (ef 0).trans h.f0, (ef 1).trans h.f1, .inr ⟨bm, D.put (litS key) (.held v'), (ec 0).trans m0, .inl mF, mne, ?_, ?_, ?_, fun k g hg => (hS k g hg).2.2, ?_⟩, ?_, fun k g hg => ⟨(hS k g hg).1, (hS k g hg).2.1⟩, ?_, addK_nodup h.nodup key, ?_, ?_, ?_⟩, ?_⟩
  · have h1 := ownsMap_tight hown
    rw [size_put (mo.tidy keyedS), mhas key, msz] at h1
    rw [addK_length]
    by_cases e : key ∈ ks
    · simpa [e] using h1
    · simpa [e] using h1
  · intro k
    unfold updS
    by_cases e : k = key
    · rw [if_pos e, e, atKey_put_same (mo.tidy keyedS).isMap (keyLit key)]
    · rw [if_neg e, atKey_put_other (fun e2 => e (litS_inj e2)), mat k]
  · intro k
    by_cases e : k = key
    · rw [e, has_put_same (mo.tidy keyedS).isMap (keyLit key)]
      exact (decide_eq_true (mem_addK.2 (.inr rfl))).symm
    · rw [has_put_other (fun e2 => e (litS_inj e2)), mhas k, decide_eq_decide, mem_addK]
      exact ⟨.inl, fun h => h.resolve_right e⟩
  · rw [size_put (mo.tidy keyedS), mhas key, msz, addK_length]
    by_cases e : key ∈ ks <;> simp [e]
  · intro k
    unfold updS updC
    by_cases e : k = key
    · rw [if_pos e, if_pos e]; exact hv3
    · rw [if_neg e, if_neg e]
      exact (h.row k).heap (hrow k e)
  · intro k k' g hkk hg
    unfold updS at hg ⊢
    by_cases e : k = key
    · rw [if_pos e] at hg
      rw [if_neg (fun e2 => hkk (e.trans e2.symm))]
      exact hnewap k' g (fun e2 => hkk (e.trans e2.symm)) hg
    · rw [if_neg e] at hg
      by_cases e2 : k' = key
      · rw [if_pos e2]
        exact fun e3 => hnewap k g e e3 hg
      · rw [if_neg e2]
        exact h.apart k k' g hkk hg
  · intro k
    rw [mem_addK]
    unfold updC
    by_cases e : k = key
    · rw [if_pos e]; exact ⟨fun _ => hne, fun _ => .inr e⟩
    · rw [if_neg e, ← h.mem k]; exact ⟨fun h => h.resolve_right e, .inl⟩
  · intro k hk
    have hk2 : ¬ (k ∈ ks ∨ k = key) := fun e => hk (mem_addK.2 e)
    unfold updS
    rw [if_neg (fun e => hk2 (.inr e))]
    exact h.no k (fun e => hk2 (.inl e))
  · intro k hk
    rcases mem_addK.1 hk with h1 | rfl
    · exact h.kz k h1
    · exact hkz
  · refine (KeptBut.of_grown hg2 (fun k hk => (h.rowF key k hk).1)).trans ((KeptBut.of_grown hg3 (fun k hk => by cases hk; exact mF)))
/-- the map is made. -/
theorem HoldAt.made {F : Nat → Prop} {w : World} {hb : Nat} {sd : Bool} {C : ByteArray → List Ver} {S : ByteArray → Value} (h : HoldAt F w hb sd C [] S) (hc : w.cell? ⟨hb, 0, none⟩ = some (.map none)) :
    HoldAt (fun b => F b ∨ w.heap.size ≤ b) ((w.alloc (.map #[] 0)).setCell ⟨hb, 0, none⟩ (.map (some w.heap.size))) hb sd C [] S ∧
    MapAt (fun b => F b ∨ w.heap.size ≤ b) ((w.alloc (.map #[] 0)).setCell ⟨hb, 0, none⟩ (.map (some w.heap.size))) hb [] S w.heap.size (.map []) ∧
    KeptBut F w ((w.alloc (.map #[] 0)).setCell ⟨hb, 0, none⟩ (.map (some w.heap.size))) := by
  have hB : Below w.heap.size w (w.alloc (.map #[] 0)) := (Below.refl _ w).alloc (Nat.le_refl _) _
  have hlt := h.hlt
  have hne : ¬ w.heap.size = hb := by omega
  have e0 : (w.alloc (.map #[] 0)).cell? ⟨hb, 0, none⟩ = some (.map none) := (hB.cell hlt).trans hc
  have e1 : (w.alloc (.map #[] 0)).cell? ⟨hb, 1, none⟩ = some (.bool sd) := (hB.cell hlt).trans h.c1
  obtain ⟨W, hW⟩ : ∃ W, (w.alloc (.map #[] 0)).setCell ⟨hb, 0, none⟩ (.map (some w.heap.size)) = W := ⟨_, rfl⟩
  have c0 : W.cell? ⟨hb, 0, none⟩ = some (.map (some w.heap.size)) := by rw [← hW]; exact World.cell?_setCell_same _ _ _ e0
  have c1 : W.cell? ⟨hb, 1, none⟩ = some (.bool sd) := by rw [← hW, World.cell?_setCell_other _ _ _ _ (by simp)]; exact e1
  have ef : ∀ j, W.frozen? ⟨hb, j, none⟩ = w.frozen? ⟨hb, j, none⟩ := fun j => by rw [← hW, World.frozen?_setCell]; exact hB.frozen (p := ⟨hb, j, none⟩) hlt
  have hown : W.ownsMap (H := Value) Tryz.prog 9 Rv w.heap.size 0 (.map []) := by
    rw [← hW]
    exact (World.ownsMap_made w Tryz.prog 9 Rv).setCell hne _
  have hS : ∀ k, S k = .slice none 0 0 := fun k => h.no k (by simp)
  have hk : KeptBut F w W := by
    rw [← hW]
    refine (KeptBut.of_below (F := F) hB (fun k h1 h2 => by omega)).trans ⟨rfl, rfl, rfl, by simp [World.setCell], fun k h1 h2 => Below.heap_setCell _ _ _ _ (fun e => h2 (by rw [e]; exact h.hF))⟩
  have hm : MapAt (fun b => F b ∨ w.heap.size ≤ b) W hb [] S w.heap.size (.map []) := by
    refine ⟨c0, .inr (Nat.le_refl _), hne, hown, fun k => ?_, fun k => ?_, fun k g hg => ?_, rfl⟩
    · rw [hS k]; exact atKey_of_not_has (k := litS k) (D := (.map [] : DataW Value)) rfl _
    · rfl
    · rw [hS k] at hg; cases hg
  rw [hW]
  refine ⟨⟨.inl h.hF, Nat.lt_of_lt_of_le hlt hk.size, c1, (ef 0).trans h.f0, (ef 1).trans h.f1, .inr ⟨w.heap.size, .map [], hm⟩, fun k => ?_, fun k g hg => ?_, fun k k' g _ hg => ?_, h.nodup, h.mem, h.no, h.kz⟩, hm, hk⟩
  · have h1 := h.row k
    rw [hS k] at h1 ⊢
    exact h1.heap (fun g hg => by cases hg)
  · rw [hS k] at hg; cases hg
  · rw [hS k] at hg; cases hg
end Go.Proofs.YtabboioamdphmaaGreatDoor
