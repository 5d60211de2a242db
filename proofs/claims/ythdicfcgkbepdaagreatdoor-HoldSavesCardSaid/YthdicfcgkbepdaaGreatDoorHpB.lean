/- A hold and its model in one memory: what each act leaves. -/
import Derived.Test.YthdicfcgkbepdaaGreatDoorHpA
namespace Go.Proofs.YthdicfcgkbepdaaGreatDoor
section
open Go.RowKit

/-- a hold at hb, a model at mb, apart from one another, both of blocks of P; what is new is of P. -/
def Two (P : Nat → Prop) (w : World) (hb mb : Nat) (s1 : Bool) (l1 : List Kp) (s2 : Bool) (l2 : List Kp) : Prop :=
  ∃ (F G : Nat → Prop) (ks : List ByteArray) (S : ByteArray → Value), HoldAt F w hb s1 (getL l1) ks S ∧ MHAt G w mb s2 l2 ∧ (∀ b, F b → ¬ G b) ∧ (∀ b, F b → P b ∧ b < w.heap.size) ∧ (∀ b, G b → P b ∧ b < w.heap.size) ∧ (∀ b, w.heap.size ≤ b → P b)
theorem Two.below {P : Nat → Prop} {w w' : World} {hb mb : Nat} {s1 s2 : Bool} {l1 l2 : List Kp} (h : Two P w hb mb s1 l1 s2 l2) {n : Nat} (hk : Below n w w') (hn : w.heap.size ≤ n) : Two P w' hb mb s1 l1 s2 l2 := by
  obtain ⟨F, G, ks, S, h1, h2, h3, h4, h5, hB⟩ := h
  exact ⟨F, G, ks, S, h1.below hk hn, h2.below hk hn, h3, fun b hb => ⟨(h4 b hb).1, Nat.lt_of_lt_of_le (h4 b hb).2 hk.size⟩, fun b hb => ⟨(h5 b hb).1, Nat.lt_of_lt_of_le (h5 b hb).2 hk.size⟩, fun b hb => hB b (Nat.le_trans hk.size hb)⟩
theorem Two.mono {P Q : Nat → Prop} {w : World} {hb mb : Nat} {s1 s2 : Bool} {l1 l2 : List Kp} (h : Two P w hb mb s1 l1 s2 l2) (hPQ : ∀ b, P b → Q b) : Two Q w hb mb s1 l1 s2 l2 := by
  obtain ⟨F, G, ks, S, h1, h2, h3, h4, h5, hB⟩ := h
  exact ⟨F, G, ks, S, h1, h2, h3, fun b hb => ⟨hPQ b (h4 b hb).1, (h4 b hb).2⟩, fun b hb => ⟨hPQ b (h5 b hb).1, (h5 b hb).2⟩, fun b hb => hPQ b (hB b hb)⟩
/-- a block more, which is none of theirs. -/
theorem Two.past {P : Nat → Prop} {w w' : World} {hb mb : Nat} {s1 s2 : Bool} {l1 l2 : List Kp} (h : Two P w hb mb s1 l1 s2 l2) (hk : Below w.heap.size w w') : Two (fun b => P b ∧ (b < w.heap.size ∨ w'.heap.size ≤ b)) w' hb mb s1 l1 s2 l2 := by
  obtain ⟨F, G, ks, S, h1, h2, h3, h4, h5, hB⟩ := h
  exact ⟨F, G, ks, S, h1.below hk (Nat.le_refl _), h2.below hk (Nat.le_refl _), h3, fun b hb => ⟨⟨(h4 b hb).1, .inl (h4 b hb).2⟩, Nat.lt_of_lt_of_le (h4 b hb).2 hk.size⟩, fun b hb => ⟨⟨(h5 b hb).1, .inl (h5 b hb).2⟩, Nat.lt_of_lt_of_le (h5 b hb).2 hk.size⟩, fun b hb => ⟨hB b (Nat.le_trans hk.size hb), .inr hb⟩⟩
theorem Two.mcells {P : Nat → Prop} {w : World} {hb mb : Nat} {s1 s2 : Bool} {l1 l2 : List Kp} (h : Two P w hb mb s1 l1 s2 l2) : w.cell? ⟨mb, 1, none⟩ = some (.bool s2) ∧ (∃ a cap, w.cell? ⟨mb, 0, none⟩ = some (.slice a l2.length cap)) ∧ w.frozen? ⟨mb, 0, none⟩ = false ∧ w.frozen? ⟨mb, 1, none⟩ = false := by
  obtain ⟨F, G, ks, S, h1, h2, _⟩ := h
  obtain ⟨a, cap, c0, _⟩ := h2.c0
  exact ⟨h2.c1, ⟨a, cap, c0⟩, h2.f0, h2.f1⟩
/-- an act on the hold. -/
theorem two_hold {P : Nat → Prop} {w w' : World} {hb mb : Nat} {s2 s1' : Bool} {l2 l1' : List Kp} {F G F' : Nat → Prop} {ks' : List ByteArray} {S' : ByteArray → Value} (h2 : MHAt G w mb s2 l2) (h3 : ∀ b, F b → ¬ G b) (h4 : ∀ b, F b → P b ∧ b < w.heap.size) (h5 : ∀ b, G b → P b ∧ b < w.heap.size) (hB : ∀ b, w.heap.size ≤ b → P b)
    (hk : KeptBut F w w') (hF : ∀ b, F' b → F b ∨ w.heap.size ≤ b) (h1 : HoldAt F' w' hb s1' (getL l1') ks' S') : Two P w' hb mb s1' l1' s2 l2 ∧ KeptBut P w w' := by
  refine ⟨⟨_, G, ks', S', h1.restrict, h2.kept hk (fun b _ hg hf => h3 b hf hg), fun b hf hg => ?_, fun b hf => ?_, fun b hg => ⟨(h5 b hg).1, Nat.lt_of_lt_of_le (h5 b hg).2 hk.size⟩, fun b hb => hB b (Nat.le_trans hk.size hb)⟩, hk.mono (fun k _ hf => (h4 k hf).1)⟩
  · rcases hF b hf.1 with h9 | h9
    · exact h3 b h9 hg
    · have := (h5 b hg).2; omega
  · refine ⟨?_, hf.2⟩
    rcases hF b hf.1 with h9 | h9
    · exact (h4 b h9).1
    · exact hB b h9
/-- an act on the model. -/
theorem two_model {P : Nat → Prop} {w w' : World} {hb mb : Nat} {s1 s2' : Bool} {l1 l2' : List Kp} {F G G' K : Nat → Prop} {ks : List ByteArray} {S : ByteArray → Value} (h1 : HoldAt F w hb s1 (getL l1) ks S) (h3 : ∀ b, F b → ¬ G b) (h4 : ∀ b, F b → P b ∧ b < w.heap.size) (h5 : ∀ b, G b → P b ∧ b < w.heap.size) (hB : ∀ b, w.heap.size ≤ b → P b)
    (hk : KeptBut K w w') (hK : ∀ b, K b → G b) (hG : ∀ b, G' b → b < w'.heap.size ∧ (G b ∨ w.heap.size ≤ b)) (h2 : MHAt G' w' mb s2' l2') : Two P w' hb mb s1 l1 s2' l2' ∧ KeptBut P w w' := by
  refine ⟨⟨F, G', ks, S, h1.kept hk (fun b _ hf hg => h3 b hf (hK b hg)), h2, fun b hf hg => ?_, fun b hf => ⟨(h4 b hf).1, Nat.lt_of_lt_of_le (h4 b hf).2 hk.size⟩, fun b hg => ?_, fun b hb => hB b (Nat.le_trans hk.size hb)⟩, hk.mono (fun k _ hg => (h5 k (hK k hg)).1)⟩
  · rcases (hG b hg).2 with h9 | h9
    · exact h3 b hf h9
    · have := (h4 b hf).2; omega
  · refine ⟨?_, (hG b hg).1⟩
    rcases (hG b hg).2 with h9 | h9
    · exact (h5 b h9).1
    · exact hB b h9
/-- the rows behind a put. -/
def afterP (sd : Bool) (l : List Kp) (key : ByteArray) (x : Ver) : List Kp := if errM sd l key x = 0 then insL l key x else l
/-- an error by its number: none is 0. -/
def errOf (E : Nat → Addr) (c : Int) (v : Value) : Prop := (c = 0 ∧ v = .nilIface) ∨ ∃ i : Nat, i < 12 ∧ c = (i : Int) + 1 ∧ v = errV (E i)
/-- rows in order, and not too many. -/
def Fine (l : List Kp) : Prop := Srt l ∧ l.length ≤ 60
theorem Fine.put {sd : Bool} {l : List Kp} {key : ByteArray} {x : Ver} (h : Fine l) : Fine (afterP sd l key x) := by
  unfold afterP
  by_cases e : errM sd l key x = 0
  · rw [if_pos e]
    obtain ⟨ks, hn, hm⟩ : ∃ ks : List ByteArray, ks.Nodup ∧ ∀ p ∈ l, p.1 ∈ ks := by
      obtain ⟨b1, b2⟩ := keys_fold l [] List.Pairwise.nil (fun o h => by cases h) h.1
      refine ⟨_, b1.imp (fun {a b} h9 e => ?_), fun p hp => (b2 p.1).2 (.inr ⟨p, hp, rfl⟩)⟩
      rw [e, Rg.tlt_irrefl] at h9; cases h9
    rcases err_same (sd := sd) (key := key) (x := x) h.1 (tot_is l ks hn hm) with ⟨i, _, h9, _⟩ | ⟨_, _, h9⟩ | ⟨_, _, _, h10, h11⟩
    · rw [e] at h9; omega
    · rw [e] at h9; omega
    · refine ⟨?_, by rw [insL_len]; omega⟩
      rw [insL_is]
      exact insL_sorted h.1 h10
  · rw [if_neg e]; exact h
theorem Fine.trim {l : List Kp} {key : ByteArray} {g : Nat} (h : Fine l) : Fine (trimL l key g) :=
  ⟨h.1.sublist (trimL_sub l key g), Nat.le_trans (trimL_sub l key g).length_le h.2⟩
theorem Fine.nil : Fine [] := ⟨List.Pairwise.nil, Nat.zero_le _⟩
theorem HoldAt.tot {F : Nat → Prop} {w : World} {hb : Nat} {sd : Bool} {l : List Kp} {ks : List ByteArray} {S : ByteArray → Value} (h : HoldAt F w hb sd (getL l) ks S) : totC (getL l) ks = l.length :=
  tot_is l ks h.nodup (fun p hp => (h.mem p.1).2 (getL_ne.2 ⟨p, hp, rfl⟩))
theorem two_hput {P : Nat → Prop} {w : World} {hb mb : Nat} {sd s2 : Bool} {l l2 : List Kp} (h : Two P w hb mb sd l s2 l2) (hf : Fine l) (E : Nat → Addr) (hE : ErrHx w E) (key : ByteArray) (x1 x2 x3 x4 : Int) (x5 : ByteArray) (hk : key.size ≤ maxLen) :
    Calls Tryz.prog 15 #[.pointer (some ⟨hb, 0, none⟩), .string key, .agg #[.int .i64 x1, .int .i64 x2, .int .i64 x3, .int .i64 x4, .string x5]] w fun e w' => (∃ v, e = .returned v ∧ errOf E (putM (errM sd l key (x1, x2, x3, x4, x5))) v) ∧ Two P w' hb mb sd (afterP sd l key (x1, x2, x3, x4, x5)) s2 l2 ∧ KeptBut P w w' := by
  obtain ⟨F, G, ks, S, h1, h2, h3, h4, h5, hB⟩ := h
  have ht := h1.tot
  refine (hput_any F w hb sd (getL l) ks S key x1 x2 x3 x4 x5 E h1 hE hk (by rw [ht]; have := hf.2; omega) (hf.1.get key)).mono fun e w' hp => ?_
  obtain ⟨hkp, hc⟩ := hp
  have hs := err_same (sd := sd) (key := key) (x := (x1, x2, x3, x4, x5)) hf.1 ht
  unfold afterP putM
  rcases hc with ⟨i, hpe, he, hh⟩ | ⟨hpe, hhv, he, hh⟩ | ⟨hpe, hhv, he, S', hh⟩
  · rcases hs with ⟨j, h6, h7, h8⟩ | ⟨h6, _⟩ | ⟨h6, _⟩
    · rw [hpe] at h6
      obtain rfl := Option.some.inj h6
      rw [h7, if_neg (by omega), if_neg (by omega)]
      exact ⟨⟨_, he, .inr ⟨i, by omega, by omega, rfl⟩⟩, two_hold h2 h3 h4 h5 hB hkp (fun b hb => .inl hb) hh⟩
    · rw [hpe] at h6; cases h6
    · rw [hpe] at h6; cases h6
  · rcases hs with ⟨j, h6, _⟩ | ⟨_, _, h7⟩ | ⟨_, h7, _⟩
    · rw [hpe] at h6; cases h6
    · rw [h7, if_pos (by omega), if_neg (by omega)]
      exact ⟨⟨_, he, .inl ⟨rfl, rfl⟩⟩, two_hold h2 h3 h4 h5 hB hkp (fun b hb => .inl hb) hh⟩
    · rw [hhv] at h7; cases h7
  · rcases hs with ⟨j, h6, _⟩ | ⟨_, h7, _⟩ | ⟨_, _, h7, _⟩
    · rw [hpe] at h6; cases h6
    · rw [hhv] at h7; cases h7
    · rw [h7, if_neg (by omega), if_pos rfl]
      rw [← getL_ins hf.1] at hh
      exact ⟨⟨_, he, .inl ⟨rfl, rfl⟩⟩, two_hold h2 h3 h4 h5 hB hkp (fun b hb => hb) hh⟩
theorem two_mput {P : Nat → Prop} {w : World} {hb mb : Nat} {sd s1 : Bool} {l l1 : List Kp} (h : Two P w hb mb s1 l1 sd l) (hf : Fine l) (key : ByteArray) (x1 x2 x3 x4 : Int) (x5 : ByteArray) (hk : key.size ≤ maxLen) (hx5 : x5.size ≤ maxLen) :
    Calls Tryz.prog 31 #[.pointer (some ⟨mb, 0, none⟩), .string key, .agg #[.int .i64 x1, .int .i64 x2, .int .i64 x3, .int .i64 x4, .string x5]] w fun e w' => e = .returned (.int .i64 (putM (errM sd l key (x1, x2, x3, x4, x5)))) ∧ Two P w' hb mb s1 l1 sd (afterP sd l key (x1, x2, x3, x4, x5)) ∧ KeptBut P w w' := by
  obtain ⟨F, G, ks, S, h1, h2, h3, h4, h5, hB⟩ := h
  refine (mput_walk G w mb sd l key x1 x2 x3 x4 x5 h2 (by have := hf.2; omega) hk hx5).mono fun e w' hp => ?_
  obtain ⟨he, hkp, hc⟩ := hp
  refine ⟨he, ?_⟩
  have hKG : ∀ b, b = mb → G b := fun b e => by rw [e]; exact h2.hG
  unfold afterP
  rcases hc with ⟨h6, h7⟩ | ⟨h6, h7⟩
  · rw [if_neg h6]
    exact two_model h1 h3 h4 h5 hB hkp hKG (fun b hb => ⟨Nat.lt_of_lt_of_le (h5 b hb).2 hkp.size, .inl hb⟩) h7
  · rw [if_pos h6]
    exact two_model h1 h3 h4 h5 hB hkp hKG (fun b hb => by
      rcases hb with rfl | hb
      · exact ⟨h7.hlt, .inl h2.hG⟩
      · exact ⟨hb.2, .inr hb.1⟩) h7
theorem two_htrim {P : Nat → Prop} {w : World} {hb mb : Nat} {sd s2 : Bool} {l l2 : List Kp} (h : Two P w hb mb sd l s2 l2) (hf : Fine l) (E : Nat → Addr) (hE : ErrHx w E) (key : ByteArray) (keep : Int) (hk : key.size ≤ maxLen) (hw : keep ≤ 9223372036854775807) :
    Calls Tryz.prog 32 #[.pointer (some ⟨hb, 0, none⟩), .string key, .int .i64 keep] w fun e w' => KeptBut P w w' ∧
      ((keep < 0 ∧ e = .returned (.tuple #[.int .i64 0, errV (E 1)]) ∧ Two P w' hb mb sd l s2 l2) ∨
       (∃ K : Nat, keep = K ∧ e = .returned (.tuple #[.int .i64 (goneM (getL l key).length K : Nat), .nilIface]) ∧ Two P w' hb mb sd (trimL l key (goneM (getL l key).length K)) s2 l2)) := by
  obtain ⟨F, G, ks, S, h1, h2, h3, h4, h5, hB⟩ := h
  have ht := h1.tot
  have hl60 := hf.2
  have hlen := h1.len_le key
  refine (htrim_walk F w hb sd (getL l) ks S key keep E h1 hE.c1 hk (by omega) (by have := ks_le_tot (C := getL l) (ks := ks) (fun k hk => (h1.mem k).1 hk); omega) hw).mono fun e w' hp => ?_
  obtain ⟨hkp, hc⟩ := hp
  rcases hc with ⟨hn, he, hh⟩ | ⟨hn, he, ks', S', hh⟩
  · obtain ⟨p1, p2⟩ := two_hold h2 h3 h4 h5 hB hkp (fun b hb => .inl hb) hh
    exact ⟨p2, .inl ⟨hn, he, p1⟩⟩
  · obtain ⟨K, rfl⟩ : ∃ K : Nat, keep = K := ⟨keep.toNat, by omega⟩
    have eg : goneN (getL l key).length K = goneM (getL l key).length K := by unfold goneN goneM; omega
    rw [eg] at he hh
    rw [← getL_trim] at hh
    obtain ⟨p1, p2⟩ := two_hold h2 h3 h4 h5 hB hkp (fun b hb => hb) hh
    exact ⟨p2, .inr ⟨K, rfl, he, p1⟩⟩
theorem two_mtrim {P : Nat → Prop} {w : World} {hb mb : Nat} {sd s1 : Bool} {l l1 : List Kp} (h : Two P w hb mb s1 l1 sd l) (hf : Fine l) (key : ByteArray) (K : Nat) (hK : K ≤ 9223372036854775807) :
    Calls Tryz.prog 33 #[.pointer (some ⟨mb, 0, none⟩), .string key, .int .i64 K] w fun e w' => e = .returned (.int .i64 (goneM (getL l key).length K : Nat)) ∧ Two P w' hb mb s1 l1 sd (trimL l key (goneM (getL l key).length K)) ∧ KeptBut P w w' := by
  obtain ⟨F, G, ks, S, h1, h2, h3, h4, h5, hB⟩ := h
  refine (mtrim_walk G w mb sd l key K h2 (by have := hf.2; omega) hK).mono fun e w' hp => ?_
  obtain ⟨he, hh, hkp⟩ := hp
  refine ⟨he, ?_⟩
  exact two_model h1 h3 h4 h5 hB hkp (fun b e => by rw [e]; exact h2.hG) (fun b hb => by
      rcases hb with rfl | hb
      · exact ⟨hh.hlt, .inl h2.hG⟩
      · exact ⟨hb.2, .inr hb.1⟩) hh
theorem two_seal {P : Nat → Prop} {w : World} {hb mb : Nat} {sd s2 : Bool} {l l2 : List Kp} (h : Two P w hb mb sd l s2 l2) :
    Calls Tryz.prog 34 #[.pointer (some ⟨hb, 0, none⟩)] w fun e w' => e = .returned (.tuple #[]) ∧ Two P w' hb mb true l s2 l2 ∧ KeptBut P w w' := by
  obtain ⟨F, G, ks, S, h1, h2, h3, h4, h5, hB⟩ := h
  refine (hseal_walk F w hb sd (getL l) ks S h1).mono fun e w' hp => ?_
  obtain ⟨he, hh, hkp⟩ := hp
  exact ⟨he, two_hold h2 h3 h4 h5 hB hkp (fun b hb => .inl hb) hh⟩
theorem two_wipe {P : Nat → Prop} {w : World} {hb mb : Nat} {sd s2 : Bool} {l l2 : List Kp} (h : Two P w hb mb sd l s2 l2) :
    Calls Tryz.prog 35 #[.pointer (some ⟨hb, 0, none⟩)] w fun e w' => e = .returned (.tuple #[]) ∧ Two P w' hb mb false [] s2 l2 ∧ KeptBut P w w' := by
  obtain ⟨F, G, ks, S, h1, h2, h3, h4, h5, hB⟩ := h
  refine (hwipe_walk F w hb sd (getL l) ks S h1).mono fun e w' hp => ?_
  obtain ⟨he, hh, hkp⟩ := hp
  exact ⟨he, two_hold h2 h3 h4 h5 hB hkp (fun b hb => .inl hb) hh⟩
theorem KpR.set {n₀ : Nat} {w : World} {a : Option Addr} {l : List Kp} {mb o : Nat} {v : Value} (h : KpR n₀ w a l) (ha : ∀ x, a = some x → x.block ≠ mb) : KpR n₀ (w.setCell ⟨mb, o, none⟩ v) a l := by
  rcases h with e | ⟨b, off, rfl, hb, hc⟩
  · exact .inl e
  · have hbm : b ≠ mb := ha _ rfl
    have hcc : ∀ p, (w.setCell ⟨mb, o, none⟩ v).cell? ⟨b, p, none⟩ = w.cell? ⟨b, p, none⟩ := fun p => World.cell?_of_block (a := ⟨b, p, none⟩) (Below.heap_setCell _ _ _ _ hbm)
    refine .inr ⟨b, off, rfl, hb, fun i hi => ?_⟩
    obtain ⟨k0, k1, k2, k3, k4, k5⟩ := hc i hi
    exact ⟨(hcc _).trans k0, (hcc _).trans k1, (hcc _).trans k2, (hcc _).trans k3, (hcc _).trans k4, (hcc _).trans k5⟩
theorem Two.mseal {P : Nat → Prop} {w : World} {hb mb : Nat} {s1 sd : Bool} {l1 l : List Kp} (h : Two P w hb mb s1 l1 sd l) (b : Bool) : Two P (w.setCell ⟨mb, 1, none⟩ (.bool b)) hb mb s1 l1 b l ∧ KeptBut P w (w.setCell ⟨mb, 1, none⟩ (.bool b)) := by
  obtain ⟨F, G, ks, S, h1, h2, h3, h4, h5, hB⟩ := h
  have hk : KeptBut (fun b => b = mb) w (w.setCell ⟨mb, 1, none⟩ (.bool b)) := KeptBut.set rfl
  have hsz : (w.setCell ⟨mb, 1, none⟩ (.bool b)).heap.size = w.heap.size := by simp [World.setCell]
  refine two_model (G' := G) h1 h3 h4 h5 hB hk (fun b e => by rw [e]; exact h2.hG) (fun b hb => ⟨by rw [hsz]; exact (h5 b hb).2, .inl hb⟩) ?_
  obtain ⟨a, cap, c0, h6, h7, h8, h9, h10⟩ := h2.c0
  refine ⟨h2.hG, by rw [hsz]; exact h2.hlt, World.cell?_setCell_same _ _ _ h2.c1, by rw [World.frozen?_setCell]; exact h2.f0, by rw [World.frozen?_setCell]; exact h2.f1, a, cap, ?_, h6, h7, h8, h9, ?_⟩
  · rw [World.cell?_setCell_other _ _ _ _ (by simp)]; exact c0
  · rw [hsz]; exact h10.set (fun x e => (h9 x e).2)
theorem Two.mnil {P : Nat → Prop} {w : World} {hb mb : Nat} {s1 sd : Bool} {l1 l : List Kp} (h : Two P w hb mb s1 l1 sd l) : Two P (w.setCell ⟨mb, 0, none⟩ (.slice none 0 0)) hb mb s1 l1 sd [] ∧ KeptBut P w (w.setCell ⟨mb, 0, none⟩ (.slice none 0 0)) := by
  obtain ⟨F, G, ks, S, h1, h2, h3, h4, h5, hB⟩ := h
  have hk : KeptBut (fun b => b = mb) w (w.setCell ⟨mb, 0, none⟩ (.slice none 0 0)) := KeptBut.set rfl
  have hsz : (w.setCell ⟨mb, 0, none⟩ (.slice none 0 0)).heap.size = w.heap.size := by simp [World.setCell]
  refine two_model (G' := G) h1 h3 h4 h5 hB hk (fun b e => by rw [e]; exact h2.hG) (fun b hb => ⟨by rw [hsz]; exact (h5 b hb).2, .inl hb⟩) ?_
  obtain ⟨a, cap, c0, h6, h7, h8, h9, h10⟩ := h2.c0
  refine ⟨h2.hG, by rw [hsz]; exact h2.hlt, ?_, by rw [World.frozen?_setCell]; exact h2.f0, by rw [World.frozen?_setCell]; exact h2.f1, none, 0, World.cell?_setCell_same _ _ _ c0, Nat.le_refl _, by simp [maxLen], fun _ => rfl, fun x e => (by cases e), .inl rfl⟩
  rw [World.cell?_setCell_other _ _ _ _ (by simp)]; exact h2.c1
end
end Go.Proofs.YthdicfcgkbepdaaGreatDoor
