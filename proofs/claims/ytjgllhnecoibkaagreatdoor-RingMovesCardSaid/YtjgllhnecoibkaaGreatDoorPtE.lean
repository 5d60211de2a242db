/- The walk of ring.Prefer. -/
import Derived.Test.YtjgllhnecoibkaaGreatDoorPtD
namespace Go.Proofs.YtjgllhnecoibkaaGreatDoor
open Go.RowKit

/-- the points from the key's place on. -/
def turnP (P : List Rg.Pt) (f : Nat) : List Rg.Pt := P.drop f ++ P.take f
theorem turnP_length {P : List Rg.Pt} {f : Nat} (hf : f ≤ P.length) : (turnP P f).length = P.length := by unfold turnP; simp; omega
theorem turnP_at {P : List Rg.Pt} {f i : Nat} (hf : f < P.length) (hi : i < P.length) : (turnP P f)[i]? = P[(f + i) % P.length]? := by
  unfold turnP
  by_cases h : i < P.length - f
  · rw [List.getElem?_append_left (by simp; omega), List.getElem?_drop, Nat.mod_eq_of_lt (by omega)]
  · rw [List.getElem?_append_right (by simp; omega)]
    have e1 : (f + i) % P.length = f + i - P.length := by rw [Nat.mod_eq_sub_mod (by omega), Nat.mod_eq_of_lt (by omega)]
    rw [e1, List.getElem?_take_of_lt (by simp; omega)]
    congr 1
    simp; omega
/-- the names that the first i points tell. -/
def outs (R : List Rg.Pt) (i : Nat) : List ByteArray := Rg.firsts ((R.take i).map (·.2.1))
theorem outs_succ {R : List Rg.Pt} {i : Nat} (hi : i < R.length) : outs R (i + 1) = Rg.addN (outs R i) (R[i]?.getD (0, ⟨#[]⟩, 0)).2.1 := by
  unfold outs
  rw [List.take_succ_eq_append_getElem hi, List.map_append, List.map_cons, List.map_nil, Rg.firsts_snoc, List.getElem?_eq_getElem hi]
  rfl
/-- what Prefer answers. -/
def PrefOut (w w' : World) (E : Nat → Addr) (L : List ByteArray) (key : ByteArray) (n : Int) (e : Ending) : Prop := Below w.heap.size w w' ∧
  (((lookF L n).1 ≠ 0 ∧ ∃ v, ((∃ x, v = errV x) ∨ ∃ m, v = faultV m) ∧ FltV w' E (lookF L n) v ∧ e = .returned (.tuple #[.slice none 0 0, v])) ∨
   ((lookF L n).1 = 0 ∧ ∃ v O, Rg.IsPref ringH (Sm.hash (Sm.nats key)) L O ∧ OwnT w.heap.size w' v (O.take n.toNat) ∧ e = .returned (.tuple #[v, .nilIface])))
theorem pref_round {L : List ByteArray} {P : List Rg.Pt} {h f : Nat} (hL : L.Nodup) (hp : P.Perm (Rg.pts ringH L)) (hs : P.Pairwise (fun x y => Rg.plt y x = false)) (hlt : ∀ s k, ringH s k < 4294967296)
    (hf : (f = 0 ∧ ∀ j, j < P.length → (P[j]?.getD (0, ⟨#[]⟩, 0)).1 < h) ∨ (f < P.length ∧ (∀ j, j < f → (P[j]?.getD (0, ⟨#[]⟩, 0)).1 < h) ∧ h ≤ (P[f]?.getD (0, ⟨#[]⟩, 0)).1)) :
    Rg.IsPref ringH h L (Rg.firsts ((turnP P f).map (·.2.1))) ∧ (turnP P f).Perm (Rg.pts ringH L) := by
  have hb : ∀ p ∈ P, p.1 < 4294967296 := fun p hp' => by
    have := (Rg.mem_pts.1 (hp.mem_iff.1 hp')).2.2
    rw [this]; exact hlt _ _
  have at_ : ∀ j (hj : j < P.length), P[j]?.getD (0, ⟨#[]⟩, 0) = P[j] := fun j hj => by rw [List.getElem?_eq_getElem hj]; rfl
  have hperm : ∀ f, (turnP P f).Perm (Rg.pts ringH L) := fun f => by
    unfold turnP
    refine (List.perm_append_comm).trans ?_
    rw [List.take_append_drop]
    exact hp
  have hR : Rg.Round h (turnP P f) := by
    rcases hf with ⟨rfl, hall⟩ | ⟨hfl, hlo, hhi⟩
    · have := Rg.round_of_sorted (h := h) (f := P.length) hs hb (fun j hj _ => by rw [← at_ j hj]; exact hall j hj) (fun j hj hle => by omega)
      rw [List.drop_length, List.take_length, List.nil_append] at this
      unfold turnP
      simpa using this
    · refine Rg.round_of_sorted hs hb (fun j hj hjf => by rw [← at_ j hj]; exact hlo j hjf) (fun j hj hle => ?_)
      rw [at_ f hfl] at hhi
      rcases Nat.lt_or_ge f j with h1 | h1
      · have := List.pairwise_iff_getElem.1 hs f j hfl hj h1
        rw [Bool.eq_false_iff, Ne, Rg.plt_iff] at this
        have h2 : ¬ P[j].1 < P[f].1 := fun h3 => this (.inl h3)
        omega
      · obtain rfl : f = j := by omega
        exact hhi
  exact ⟨Rg.firsts_pref hL (hperm f) hR, hperm f⟩
theorem ringH_lt (s : ByteArray) (k : Nat) : ringH s k < 4294967296 := by
  unfold ringH
  exact Sm.hashN_lt _ _
theorem PtsAt.block {w w' : World} {g : Nat} {P : List Rg.Pt} (h : PtsAt w g P) (hb : w'.heap[g]? = w.heap[g]?) : PtsAt w' g P := fun i hi =>
  ⟨(World.cell?_of_block (a := ⟨g, i * 3, none⟩) hb).trans (h i hi).1, (World.cell?_of_block (a := ⟨g, i * 3 + 1, none⟩) hb).trans (h i hi).2.1, (World.cell?_of_block (a := ⟨g, i * 3 + 2, none⟩) hb).trans (h i hi).2.2⟩
set_option maxRecDepth 100000 in
set_option maxHeartbeats 4000000 in
theorem prefer_walk (n : Int) (key : ByteArray) (n₀ : Nat) (a : Option Addr) (len cap : Nat) (L : List ByteArray) (w : World) (E : Nat → Addr) (hE : ErrRx w E) (hlen : L.length = len) (hm : len ≤ maxLen) (hcap : len ≤ cap) (hsz : ∀ j : Nat, (L[j]?.getD (⟨#[]⟩ : ByteArray)).size ≤ maxLen) (hI : TxsAt n₀ w a L) (hn : n₀ ≤ w.heap.size) (hks : key.size ≤ maxLen) :
    Calls Tryz.prog 12 #[.slice a len cap, .string key, .int .i64 n] w fun e w' => PrefOut w w' E L key n e := by
  have Hlk := Lib.hid (rlook_walk n n₀ a len cap L w E hE hlen hm hcap hsz hI hn)
  have Hz := Lib.hid (fun h => lookF_zero (L := L) (n := n) h)
  have HI := Lib.hid (hI.mono hn)
  have Hl := Lib.hid hlen
  have Hks := Lib.hid hks
  obtain ⟨G, hG⟩ : ∃ G, lookF L n = G := ⟨_, rfl⟩
  have HG := Lib.hid hG
  rw [hG] at Hlk Hz
  clear hG hE hI hsz hlen hks
  go_enter Tryz.func12, Tryz.ntmps12
  go_wp2_with fail
  refine Hlk.out.mono ?_
  rintro e w1 ⟨⟨v, rfl, hv⟩, hb1⟩
  have HB1 := Lib.hid hb1
  clear hb1
  by_cases h0 : G.1 = 0
  · obtain ⟨hF0, rfl⟩ := hv.nil h0
    obtain ⟨⟨hl1, hl16⟩, hnd, hnm, hn0, hnl, _⟩ := Hz.out h0
    rw [Hl.out] at hl1 hl16 hnl
    obtain ⟨n, rfl⟩ := Int.eq_ofNat_of_zero_le hn0
    have hnl2 : n ≤ len := by omega
    have H0 := Lib.hid (And.intro h0 (And.intro hnd hnm))
    clear hv h0 hF0 hnd hnm hn0
    have Hp := Lib.hid (points_walk w.heap.size a len cap L w1 Hl.out hl1 hl16 (fun s hs => nameB_le (H0.out.2.2 s hs)) (HI.out.below HB1.out) HB1.out.size)
    go_wp2_with fail
    refine Hp.out.mono ?_
    rintro e w2 ⟨hb2, g, cp, P, rfl, hg1, hg2, hpc, hcm, hperm, hsrt, hcells⟩
    have HB2 := Lib.hid (HB1.out.trans (hb2.mono HB1.out.size))
    have hpl := hperm.length_eq
    rw [pts_length, Hl.out] at hpl
    have HP := Lib.hid (And.intro hg2 (And.intro hperm (And.intro hsrt hcells)))
    obtain ⟨pl, hpl2⟩ : ∃ pl, P.length = pl := ⟨_, rfl⟩
    rw [hpl2] at hpl hpc ⊢
    have hg0 : w.heap.size ≤ g := Nat.le_trans HB1.out.size hg1
    have Hpl := Lib.hid (And.intro hpl2 hg0)
    have hpl128 : pl ≤ 128 := by omega
    have hpl8 : 8 ≤ pl := by omega
    have Hpl3 := Lib.hid hpl
    have Hh := Lib.hid (hash_walk key w2 Hks.out)
    obtain ⟨h, hh⟩ : ∃ h, Sm.hash (Sm.nats key) = h := ⟨_, rfl⟩
    rw [hh] at Hh
    have Hhe := Lib.hid hh
    clear hb2 hg1 hg2 hperm hsrt hcells hpl hpl2 hg0 hh
    have hB3 : Below w.heap.size w (w2.alloc (.cells #[.int .u32 (h : Nat)] 73)) := HB2.out.alloc HB2.out.size _
    have hP3 : PtsAt (w2.alloc (.cells #[.int .u32 (h : Nat)] 73)) g P := PtsAt.below HP.out.2.2.2 ((Below.refl w2.heap.size w2).alloc (Nat.le_refl _) _) HP.out.1
    have hg3 : g < (w2.alloc (.cells #[.int .u32 (h : Nat)] 73)).heap.size := by have := HP.out.1; simp; omega
    have hix : Calls Tryz.prog 36 #[.slice (some ⟨g, 0, none⟩) pl cp, .func (.func 37) #[] #[.pointer (some ⟨w2.heap.size, 0, none⟩)]] (w2.alloc (.cells #[.int .u32 (h : Nat)] 73))
        fun e w' => (∃ (fv : Int) (f : Nat), e = .returned (.int .i64 fv) ∧ max 0 fv = (f : Int) ∧ ((f = 0 ∧ ∀ j, j < P.length → (P[j]?.getD (0, ⟨#[]⟩, 0)).1 < h) ∨ (f < P.length ∧ (∀ j, j < f → (P[j]?.getD (0, ⟨#[]⟩, 0)).1 < h) ∧ h ≤ (P[f]?.getD (0, ⟨#[]⟩, 0)).1))) ∧ Below (w2.alloc (.cells #[.int .u32 (h : Nat)] 73)).heap.size (w2.alloc (.cells #[.int .u32 (h : Nat)] 73)) w' :=
      (idxP_walk g cp h w2.heap.size pl P _ Hpl.out.1 (by unfold maxLen; omega) hP3 hg3 (by simp)).mono fun e w' ⟨hr, hb⟩ => by
        refine ⟨?_, hb⟩
        have hpe := Hpl.out.1
        rcases hr with ⟨h1, rfl⟩ | ⟨k, h1, h2, h3, rfl⟩
        · exact ⟨-1, 0, rfl, by omega, .inl ⟨rfl, fun j hj => h1 j (by omega)⟩⟩
        · exact ⟨(k : Nat), k, rfl, by omega, .inr ⟨by omega, h2, h3⟩⟩
    have Hix := Lib.hid hix
    have H3 := Lib.hid (And.intro hB3 (And.intro hP3 hg3))
    clear hix hB3 hP3 hg3
    go_wp2_with fail
    refine Hh.out.mono ?_
    rintro e w' ⟨rfl, rfl⟩
    go_wp2_with fail
    refine Hix.out.mono ?_
    rintro e w4 ⟨⟨fv, f, rfl, hfv, hf⟩, hb4⟩
    have H4 := Lib.hid (And.intro (H3.out.1.trans (hb4.mono H3.out.1.size)) (And.intro (H3.out.2.1.below hb4 H3.out.2.2) (Nat.lt_of_lt_of_le H3.out.2.2 hb4.size)))
    obtain ⟨hO, hRp⟩ := pref_round H0.out.2.1 HP.out.2.1 HP.out.2.2.1 ringH_lt hf
    have hfl : f < P.length := by
      have h8 := Hpl.out.1
      rcases hf with ⟨rfl, _⟩ | ⟨h9, _⟩ <;> omega
    have hTl := turnP_length (Nat.le_of_lt hfl)
    have hTa : ∀ i, i < P.length → (turnP P f)[i]? = P[(f + i) % P.length]? := fun i hi => turnP_at hfl hi
    obtain ⟨R, hR⟩ : ∃ R, turnP P f = R := ⟨_, rfl⟩
    rw [hR] at hO hRp hTl hTa
    have hfl2 : f < pl := by have := Hpl.out.1; omega
    have HR := Lib.hid (And.intro hO (And.intro hTl (And.intro hTa (hO.1.length_eq))))
    have Hfv := Lib.hid hfv
    clear hb4 hf hO hRp hTl hTa hR hfl hfv
    go_wp2
    go_loopw [12, 13] (fun vo vi wr => ∃ i : Nat, i ≤ pl ∧ vi = .int .i64 i ∧ Hid (OwnT w.heap.size wr vo (outs R i) ∧ Below w.heap.size w wr ∧ PtsAt wr g P ∧ g < wr.heap.size ∧ (outs R i).length ≤ n ∧ vo.ownBlock ≠ some g)) (fun _ i _ => pl - (intOf i).toNat)
    case atStart => exact ⟨0, by omega, rfl, Lib.hid ⟨by simpa [outs, Rg.firsts] using OwnT.nil _ _, H4.out.1, H4.out.2.1, H4.out.2.2, by simp [outs, Rg.firsts], by simp [Value.ownBlock]⟩⟩
    case round =>
      obtain ⟨i, hi, rfl, Hr⟩ := hrel
      obtain ⟨ao, co, hve, hco, hcm2, _, hto⟩ := Hr.out.1.read
      obtain ⟨m, hm2⟩ : ∃ m, (outs R i).length = m := ⟨_, rfl⟩
      rw [hm2] at hve hco
      have hmn : m ≤ n := by have := Hr.out.2.2.2.2.1; omega
      rw [hve]
      by_cases hgo : m < n
      · have hgo2 : (m : Int) < n := by omega
        have hgod : decide (m < n) = true := decide_eq_true hgo
        -- there is a point yet
        have hip : i < pl := by
          rcases Nat.lt_or_ge i pl with h1 | h1
          · exact h1
          · exfalso
            have h2 : (outs R i) = Rg.firsts (R.map (·.2.1)) := by
              unfold outs
              rw [List.take_of_length_le (by have := HR.out.2.1; have := Hpl.out.1; omega)]
            have h3 := HR.out.2.2.2
            have h4 := Hl.out
            rw [← h2] at h3
            omega
        have hq : (f + i) % pl < pl := Nat.mod_lt _ (by omega)
        obtain ⟨q, hqe⟩ : ∃ q, (f + i) % pl = q := ⟨_, rfl⟩
        rw [hqe] at hq
        have hqi : ((f : Int) + (i : Int)) % (pl : Int) = (q : Int) := by rw [← hqe, Int.natCast_emod, Int.natCast_add]
        have hqi2 : ((f : Int) + (i : Int)).tmod (pl : Int) = (q : Int) := by rw [Int.tmod_eq_emod_of_nonneg (by omega)]; exact hqi
        have hri := HR.out.2.2.1 i (by have := Hpl.out.1; omega)
        rw [Hpl.out.1, hqe] at hri
        obtain ⟨_, hc1, _⟩ := Hr.out.2.2.1 q (by have := Hpl.out.1; omega)
        have hos := outs_succ (R := R) (i := i) (by have := HR.out.2.1; have := Hpl.out.1; omega)
        rw [hri] at hos
        obtain ⟨s, hs⟩ : ∃ s, (P[q]?.getD (0, ⟨#[]⟩, 0)).2.1 = s := ⟨_, rfl⟩
        rw [hs] at hos hc1
        obtain ⟨rb, hrb⟩ : ∃ rb, decide (s ∈ outs R i) = rb := ⟨_, rfl⟩
        have Hcs := Lib.hid (contS_walk wr.heap.size ao m co (outs R i) s rb wr hm2 (by have := Hl.out; unfold maxLen; omega) hto hrb)
        have hq2 : (q : Int) < pl := by omega
        have Hq := Lib.hid (And.intro hqi hqi2)
        have Hos := Lib.hid hos
        have Hrb := Lib.hid hrb
        have Hm2 := Lib.hid hm2
        have hown := Lib.hid (show OwnT w.heap.size wr (.slice ao m co) (outs R i) by rw [← hve]; exact Hr.out.1)
        have Hve := Lib.hid hve
        have hszr := Hr.out.2.1.size
        have hfx := Hfv.out
        clear hve hto hm2 hqe hri hos hs hrb hgo
        cases rb with
        | true =>
          have hsame : outs R (i + 1) = outs R i := by
            rw [Hos.out]; unfold Rg.addN; rw [if_pos (of_decide_eq_true Hrb.out)]
          have Hs := Lib.hid hsame
          clear hsame
          go_wp2_with fail
          refine Hcs.out.mono ?_
          rintro e w' ⟨rfl, rfl⟩
          clear hfx hqi hqi2
          go_wp2
          go_roundw
          case rel => exact ⟨i + 1, by omega, by go_num, Lib.hid (by rw [Hs.out, ← Hve.out]; exact Hr.out)⟩
          case measure => simp [intOf]; omega
        | false =>
          have hmore : outs R (i + 1) = outs R i ++ [s] := by
            rw [Hos.out]; unfold Rg.addN; rw [if_neg (of_decide_eq_false Hrb.out)]
          have Hs := Lib.hid hmore
          have hul : (outs R i).length ≤ 1000000 := by have := Hm2.out; have := Hl.out; omega
          clear hmore
          go_wp2_with fail
          refine Hcs.out.mono ?_
          rintro e w' ⟨rfl, rfl⟩
          clear hfx hqi hqi2
          go_wp2_with (at_builtin; refine append_txt 49 51 rfl rfl w.heap.size _ _ s rfl rfl hown.out hul hszr ?_)
          intro v' w' k1 k2 k3
          have hB2 : Below w.heap.size w w' := (Hr.out.2.1.alloc hszr _).grown k2 (by simp; omega) (fun j e => (Own1.lt hown.out j e).1)
          have hne : (Value.slice ao m co).ownBlock ≠ some g := by rw [← Hve.out]; exact Hr.out.2.2.2.2.2
          have hgr := Hr.out.2.2.2.1
          have hblk : w'.heap[g]? = wr.heap[g]? := (k2.block g (by simp; omega) (fun e => hne e.symm)).trans (Below.heap_alloc _ _ _ hgr)
          have hg' : g < w'.heap.size := by have := k2.size; simp at this; omega
          have hne' : v'.ownBlock ≠ some g := by
            rcases k3 with h | h
            · rw [h]; exact hne
            · rw [h]; intro e; have := Option.some.inj e; omega
          have HR2 : Hid (OwnT w.heap.size w' v' (outs R (i + 1)) ∧ Below w.heap.size w w' ∧ PtsAt w' g P ∧ g < w'.heap.size ∧ (outs R (i + 1)).length ≤ n ∧ v'.ownBlock ≠ some g) :=
            Lib.hid (by rw [Hs.out]; exact ⟨k1, hB2, Hr.out.2.2.1.block hblk, hg', by rw [List.length_append, Hm2.out]; simp; omega, hne'⟩)
          clear k1 k2 k3 hB2 hne hgr hblk hg' hne'
          go_wp2
          go_roundw
          case rel => exact ⟨i + 1, by omega, by go_num, HR2⟩
          case measure => simp [intOf]; omega
      · have hmeq : m = n := by omega
        have hfin : PrefOut w wr E L key (n : Int) (.returned (.tuple #[.slice ao m co, .nilIface])) := by
          refine ⟨Hr.out.2.1, .inr ⟨by rw [HG.out]; exact H0.out.1, _, Rg.firsts (R.map (·.2.1)), by rw [Hhe.out]; exact HR.out.1, ?_, rfl⟩⟩
          rw [← hve]
          have h2 := Rg.firsts_take (R := R) i
          have h3 : (Rg.firsts ((R.take i).map (·.2.1))).length = n := by rw [← hmeq, ← hm2]; rfl
          rw [h3] at h2
          rw [Int.toNat_natCast, ← h2]
          exact Hr.out.1
        have HF := Lib.hid hfin
        have g1 : ¬ (m : Int) < n := by omega
        have g1d : decide (m < n) = false := decide_eq_false hgo
        clear hve hto hm2 hgo hmeq hfin
        go_wp2
        go_ret2
        exact HF.out
  · have H0 := Lib.hid (And.intro h0 (And.intro (hv.some_ h0) hv))
    rcases hv.some_ h0 with ⟨x, rfl⟩ | ⟨m, rfl⟩
    · clear hv h0
      go_wp2
      go_ret2
      exact ⟨HB1.out, .inl ⟨by rw [HG.out]; exact H0.out.1, _, H0.out.2.1, by rw [HG.out]; exact H0.out.2.2, rfl⟩⟩
    · unfold faultV at H0 ⊢
      clear hv h0
      go_wp2
      go_ret2
      exact ⟨HB1.out, .inl ⟨by rw [HG.out]; exact H0.out.1, _, H0.out.2.1, by rw [HG.out]; exact H0.out.2.2, rfl⟩⟩
end Go.Proofs.YtjgllhnecoibkaaGreatDoor
