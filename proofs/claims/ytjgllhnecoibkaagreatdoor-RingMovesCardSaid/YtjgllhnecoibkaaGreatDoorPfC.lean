/- The walk of the document's Prefer. -/
import Derived.Test.YtjgllhnecoibkaaGreatDoorPfB
import Derived.Test.YtjgllhnecoibkaaGreatDoorPtE
import Derived.Lib.QuietBelow
import Derived.BigQuiet
namespace Go.Proofs.YtjgllhnecoibkaaGreatDoor
open Go.RowKit Go.BigFrame

def PrefO (w w' : World) (Q : List ByteArray) (e : Ending) : Prop := Below w.heap.size w w' ∧ ∃ v, e = .returned v ∧ OwnT w.heap.size w' v Q
/-- the document's points. -/
def dps (h : Nat) (P : List Rg.Pt) : List Dp := P.map (dpt h)
theorem OwnT.lower {B B' : Nat} {w : World} {v : Value} {l : List ByteArray} (h : OwnT B w v l) (hB : B' ≤ B) : OwnT B' w v l := by
  unfold OwnT Own1 World.ownsRow at *
  refine ⟨h.1, ?_⟩
  rcases h.2 with h2 | ⟨g, cap, cur, e, hb, h3⟩
  · exact .inl h2
  · exact .inr ⟨g, cap, cur, e, Nat.le_trans hB hb, h3⟩
theorem OwnT.below {B n₀ : Nat} {w w' : World} {v : Value} {l : List ByteArray} (h : OwnT B w v l) (hb : Below n₀ w w') (hn : w.heap.size ≤ n₀ := by exact Nat.le_refl _) : OwnT B w' v l :=
  World.ownsRow.kept (row := none) h ⟨hb.os, hb.tape, hb.output, hb.size, fun k hk _ => hb.block k (by omega)⟩ (by cases v.ownBlock <;> simp)
def dp0 : Dp := (0, ⟨#[]⟩)
/-- what the search holds so far: none whose node is not yet chosen, or one that none of these is ahead of. -/
def BestI (D : List Dp) (Q : List ByteArray) (i : Nat) : Option Nat → Prop
  | none => ∀ j, j < i → j < D.length → (D[j]?.getD dp0).2 ∈ Q
  | some b => b < i ∧ b < D.length ∧ (D[b]?.getD dp0).2 ∉ Q ∧ ∀ j, j < i → j < D.length → (D[j]?.getD dp0).2 ∉ Q → aheadD (D[j]?.getD dp0) (D[b]?.getD dp0) = false
def bestV : Option Nat → Value
  | none => .int .i64 (-1)
  | some b => .int .i64 (b : Nat)
theorem BestI.start (D : List Dp) (Q : List ByteArray) : BestI D Q 0 none := fun j h => by omega
theorem BestI.skip {D : List Dp} {Q : List ByteArray} {i : Nat} {o : Option Nat} (h : BestI D Q i o) (hx : (D[i]?.getD dp0).2 ∈ Q) : BestI D Q (i + 1) o := by
  cases o with
  | none =>
    intro j h1 h2
    by_cases e : j = i
    · rw [e]; exact hx
    · exact h j (by omega) h2
  | some b =>
    obtain ⟨h1, h2, h3, h4⟩ := h
    refine ⟨by omega, h2, h3, fun j k1 k2 k3 => ?_⟩
    by_cases e : j = i
    · rw [e] at k3; exact absurd hx k3
    · exact h4 j (by omega) k2 k3
theorem BestI.first {D : List Dp} {Q : List ByteArray} {i : Nat} (h : BestI D Q i none) (hi : i < D.length) (hx : (D[i]?.getD dp0).2 ∉ Q) : BestI D Q (i + 1) (some i) := by
  refine ⟨by omega, hi, hx, fun j k1 k2 k3 => ?_⟩
  by_cases e : j = i
  · rw [e]; exact aheadD_irrefl _
  · exact absurd (h j (by omega) k2) k3
theorem BestI.better {D : List Dp} {Q : List ByteArray} {i b : Nat} (h : BestI D Q i (some b)) (hi : i < D.length) (hx : (D[i]?.getD dp0).2 ∉ Q) (ha : aheadD (D[i]?.getD dp0) (D[b]?.getD dp0) = true) : BestI D Q (i + 1) (some i) := by
  obtain ⟨h1, h2, h3, h4⟩ := h
  refine ⟨by omega, hi, hx, fun j k1 k2 k3 => ?_⟩
  by_cases e : j = i
  · rw [e]; exact aheadD_irrefl _
  · have h5 := h4 j (by omega) k2 k3
    cases h6 : aheadD (D[j]?.getD dp0) (D[i]?.getD dp0) with
    | false => rfl
    | true => rw [aheadD_trans h6 ha] at h5; cases h5
theorem BestI.stay {D : List Dp} {Q : List ByteArray} {i b : Nat} (h : BestI D Q i (some b)) (ha : aheadD (D[i]?.getD dp0) (D[b]?.getD dp0) = false) : BestI D Q (i + 1) (some b) := by
  obtain ⟨h1, h2, h3, h4⟩ := h
  refine ⟨by omega, h2, h3, fun j k1 k2 k3 => ?_⟩
  by_cases e : j = i
  · rw [e]; exact ha
  · exact h4 j (by omega) k2 k3
/-- the search's end: the next node. -/
theorem BestI.next {L O : List ByteArray} {h j : Nat} {o : Option Nat} (hO : Rg.IsPref ringH h L O) (hL : L.Nodup) (hj : j < O.length) (hb : BestI (dps h (Rg.pts ringH L)) (O.take j) (dps h (Rg.pts ringH L)).length o) : ∃ b, o = some b ∧ b < (dps h (Rg.pts ringH L)).length ∧ ((dps h (Rg.pts ringH L))[b]?.getD dp0).2 = O[j] := by
  have hget : ∀ i, i < (dps h (Rg.pts ringH L)).length → ∃ p ∈ Rg.pts ringH L, (dps h (Rg.pts ringH L))[i]?.getD dp0 = dpt h p := fun i hi => by
    have hi2 : i < (Rg.pts ringH L).length := by unfold dps at hi; simpa using hi
    refine ⟨(Rg.pts ringH L)[i], List.getElem_mem hi2, ?_⟩
    unfold dps
    rw [List.getElem?_map, List.getElem?_eq_getElem hi2]
    rfl
  have hput : ∀ p ∈ Rg.pts ringH L, ∃ i, i < (dps h (Rg.pts ringH L)).length ∧ (dps h (Rg.pts ringH L))[i]?.getD dp0 = dpt h p := fun p hp => by
    obtain ⟨i, hi, e⟩ := List.getElem_of_mem hp
    refine ⟨i, by unfold dps; simpa using hi, ?_⟩
    unfold dps
    rw [List.getElem?_map, List.getElem?_eq_getElem hi, e]
    rfl
  have hnd : O.Nodup := (hO.1.nodup_iff).2 hL
  have hno : O[j] ∉ O.take j := fun hm => by
    obtain ⟨i2, hi2, e2⟩ := List.mem_take_iff_getElem.1 hm
    exact (List.pairwise_iff_getElem.1 (List.nodup_iff_pairwise_ne.1 hnd)) i2 j (by omega) hj (by omega) e2
  cases o with
  | none =>
    exfalso
    have hsL : O[j] ∈ L := hO.1.mem_iff.1 (List.getElem_mem hj)
    obtain ⟨i, hi, e⟩ := hput (ringH O[j] 0, O[j], 0) (Rg.mem_pts.2 ⟨hsL, (show (0 : Nat) < 8 by decide), rfl⟩)
    have := hb i hi hi
    rw [e] at this
    exact hno this
  | some b =>
    obtain ⟨_, h2, h3, h4⟩ := hb
    obtain ⟨p, hp, e⟩ := hget b h2
    rw [e] at h3 h4
    refine ⟨b, rfl, h2, ?_⟩
    rw [e]
    refine Rg.next_is hO hL hj hp h3 (fun q hq hqn => ?_)
    obtain ⟨i, hi, e2⟩ := hput q hq
    have := h4 i hi hi (by rw [e2]; exact hqn)
    rw [e2, aheadD_is] at this
    exact this
theorem idxT_mem {L : List ByteArray} {s : ByteArray} (h : s ∈ L) : ∃ j : Nat, idxT L s = j ∧ j < L.length := by
  obtain ⟨h1, h2, h3⟩ := idxT_range L s
  have h4 := h3.2 h
  exact ⟨(idxT L s).toNat, by omega, by omega⟩
theorem idxT_mis {L : List ByteArray} {s : ByteArray} (h : s ∉ L) : idxT L s = -1 := by
  obtain ⟨h1, h2, h3⟩ := idxT_range L s
  have h4 : ¬ 0 ≤ idxT L s := fun e => h (h3.1 e)
  omega
def slLen : Value → Nat
  | .slice _ l _ => l
  | _ => 0
set_option maxRecDepth 100000 in
set_option maxHeartbeats 8000000 in
theorem rprefer_walk (n₀ : Nat) (a : Option Addr) (len cap : Nat) (L : List ByteArray) (key : ByteArray) (n : Nat) (O : List ByteArray) (w : World) (hlen : L.length = len) (hl1 : 1 ≤ len) (hl : len ≤ 16) (hsz : ∀ s ∈ L, s.size ≤ 16) (hnd : L.Nodup) (hk : key.size ≤ 100) (hnl : n ≤ len)
    (hO : Rg.IsPref ringH (Sm.hash (Sm.nats key)) L O) (hI : TxsAt n₀ w a L) (hn : n₀ ≤ w.heap.size) :
    Calls Tryz.prog 15 #[.slice a len cap, .string key, .int .i64 n] w fun e w' => PrefO w w' (O.take n) e := by
  have HI := Lib.hid (hI.mono hn)
  have Hl := Lib.hid hlen
  have Hs := Lib.hid hsz
  have Hk := Lib.hid (rhash_walk key w (by unfold maxLen; omega))
  have hhl : Sm.hash (Sm.nats key) < 4294967296 := Sm.hashN_lt _ _
  obtain ⟨h, hh⟩ : ∃ h, Sm.hash (Sm.nats key) = h := ⟨_, rfl⟩
  rw [hh] at Hk hO hhl
  have HO := Lib.hid (And.intro hO hnd)
  clear hI hlen hsz hh hO hnd hn hk
  go_enter Tryz.func15, Tryz.ntmps15
  go_wp2_with fail
  refine Hk.out.mono ?_
  rintro e w' ⟨rfl, rfl⟩
  go_wp2
  go_loopw [8, 9] (fun vo vi wr => ∃ k : Nat, k ≤ len ∧ vi = .int .i64 k ∧ Hid (OwnD w.heap.size wr vo (dps h (Rg.pts ringH (L.take k))) ∧ Below w.heap.size w wr)) (fun _ i _ => len - (intOf i).toNat)
  case atStart => exact ⟨0, by omega, rfl, Lib.hid ⟨by simpa [Rg.pts, dps] using OwnD.nil _ _, Below.refl _ _⟩⟩
  case round =>
    obtain ⟨k, hk, rfl, Ho⟩ := hrel
    have hk2 : k < len ∨ k = len := by omega
    rcases hk2 with hlt | rfl
    · have hlt2 : (k : Int) < len := by omega
      have hkl : k < L.length := by have := Hl.out; omega
      have hpt := pts_take L hkl
      obtain ⟨s, hs⟩ : ∃ s, L[k]?.getD ⟨#[]⟩ = s := ⟨_, rfl⟩
      rw [hs] at hpt
      have hsm : s.size ≤ 16 := by
        rw [List.getElem?_eq_getElem hkl] at hs
        simp only [Option.getD_some] at hs
        rw [← hs]; exact Hs.out _ (List.getElem_mem hkl)
      have Hnode : Hid (∃ b off, a = some ⟨b, off, none⟩ ∧ ∀ W, Below w.heap.size w W → W.cell? ⟨b, off + k, none⟩ = some (.string s)) := Lib.hid (by
        rcases HI.out with he | ⟨b, off, e, hbl, hc⟩
        · exfalso
          have := Hl.out
          rw [he] at this; simp at this; omega
        · refine ⟨b, off, e, fun W hW => ?_⟩
          rw [hW.cell (p := ⟨b, off + k, none⟩) hbl, hc k hkl, hs])
      have Hpt := Lib.hid hpt
      clear hs hpt
      go_wp2
      go_loopw [8, 10] (fun vo vi wr => ∃ i : Nat, i ≤ 8 ∧ vi = .int .i64 i ∧ Hid (OwnD w.heap.size wr vo (dps h (Rg.pts ringH (L.take k) ++ (List.range i).map fun j => (ringH s j, s, j))) ∧ Below w.heap.size w wr)) (fun _ i _ => 8 - (intOf i).toNat)
      case atStart => exact ⟨0, by omega, rfl, Lib.hid ⟨by simpa using Ho.out.1, Ho.out.2⟩⟩
      case round =>
        obtain ⟨i, hi, rfl, Hr⟩ := hrel
        have hi2 : i < 8 ∨ i = 8 := by omega
        rcases hi2 with hilt | rfl
        · have hilt2 : (i : Int) < 8 := by omega
          obtain ⟨b, off, rfl, hnode⟩ := Hnode.out
          have h1 := cell_regrown (hnode _ Hr.out.2)
          have hdg : (digT i).size = 1 := rfl
          have hhs : (s ++ (⟨#[35]⟩ : ByteArray) ++ digT i).size ≤ maxLen := by
            have e2 : (⟨#[35]⟩ : ByteArray).size = 1 := rfl
            rw [ByteArray.size_append, ByteArray.size_append, hdg, e2]
            unfold maxLen; omega
          have cD := fun d os => Calls.regrown_of (rdec_walk i hilt (Go.Sort.grow (redrawn wr d) os))
          have cH := fun d os => Calls.regrown_of ((rhash_walk (s ++ (⟨#[35]⟩ : ByteArray) ++ digT i) (Go.Sort.grow (redrawn wr d) os) hhs).mono fun e w' ⟨he, hw⟩ => ⟨he, hw ▸ Below.refl _ _⟩)
          have hrh : Sm.hash (Sm.nats (s ++ (⟨#[35]⟩ : ByteArray) ++ digT i)) = ringH s i := rfl
          rw [hrh] at cH
          have hal : ringH s i < 4294967296 := ringH_lt s i
          obtain ⟨at', hat⟩ : ∃ at', ringH s i = at' := ⟨_, rfl⟩
          rw [hat] at cH hal
          have Hat := Lib.hid hat
          have Hnode2 := Lib.hid hnode
          clear hrh hhs hat hnode
          go_wp2
          refine wp_region_quiet_below (by kernel_rfl) (by kernel_rfl) ?_
          repeat (go_big_quiet_step (first | exact cD _ _ | exact cH _ _))
          refine wpQuiet_nil ?_
          intro w2 hw'
          obtain ⟨⟨dq, osq⟩, hw2⟩ := hw'
          have hb2 : Below wr.heap.size wr w2 := by rw [hw2]; exact below_regrown wr dq osq
          have hB2 : Below w.heap.size w w2 := Hr.out.2.trans (hb2.mono Hr.out.2.size)
          have h1' := Hnode2.out w2 hB2
          have hown := Lib.hid (Hr.out.1.below hb2 (Nat.le_refl _))
          have HB2 := Lib.hid hB2
          have hszr := hB2.size
          have hul : (dps h (Rg.pts ringH (L.take k) ++ (List.range i).map fun j => (ringH s j, s, j))).length ≤ 1000000 := by
            unfold dps
            rw [List.length_map, List.length_append, pts_length, List.length_take]
            simp; omega
          have hnxt : dps h (Rg.pts ringH (L.take k) ++ (List.range (i + 1)).map fun j => (ringH s j, s, j)) = dps h (Rg.pts ringH (L.take k) ++ (List.range i).map fun j => (ringH s j, s, j)) ++ [(((Rg.sh h at' : Nat) : Int), s)] := by
            unfold dps
            simp only [List.range_succ, List.map_append, List.map_cons, List.map_nil, List.append_assoc, Hat.out, dpt]
          have Hnxt := Lib.hid hnxt
          clear hw2 hb2 hB2 h1 cD cH hnxt
          by_cases hah : at' < h
          · have hah2 : (at' : Int) < h := by omega
            have hsh : ((Rg.sh h at' : Nat) : Int) = (at' : Int) + 4294967296 := by unfold Rg.sh; rw [if_pos hah]; omega
            have Hsh := Lib.hid hsh
            clear hah hsh
            go_wp2_with (at_builtin; refine append_dpt 41 48 rfl rfl w.heap.size _ _ ((at' : Int) + 4294967296) s rfl rfl hown.out hul hszr ?_)
            intro v' w' k1 k2 _
            have hB3 : Below w.heap.size w w' := (HB2.out.alloc hszr _).grown k2 (by simp; omega) (fun j e => (hown.out.lt j e).1)
            have HR : Hid (OwnD w.heap.size w' v' (dps h (Rg.pts ringH (L.take k) ++ (List.range (i + 1)).map fun j => (ringH s j, s, j))) ∧ Below w.heap.size w w') := Lib.hid ⟨by rw [Hnxt.out, Hsh.out]; exact k1, hB3⟩
            clear k1 k2 hB3 hown
            go_wp2
            go_roundw
            case rel => exact ⟨i + 1, by omega, by go_num, HR⟩
            case measure => simp [intOf]; omega
          · have hah2 : ¬ (at' : Int) < h := by omega
            have hsh : ((Rg.sh h at' : Nat) : Int) = (at' : Int) := by unfold Rg.sh; rw [if_neg hah]
            have Hsh := Lib.hid hsh
            clear hah hsh
            go_wp2_with (at_builtin; refine append_dpt 41 48 rfl rfl w.heap.size _ _ (at' : Int) s rfl rfl hown.out hul hszr ?_)
            intro v' w' k1 k2 _
            have hB3 : Below w.heap.size w w' := (HB2.out.alloc hszr _).grown k2 (by simp; omega) (fun j e => (hown.out.lt j e).1)
            have HR : Hid (OwnD w.heap.size w' v' (dps h (Rg.pts ringH (L.take k) ++ (List.range (i + 1)).map fun j => (ringH s j, s, j))) ∧ Below w.heap.size w w') := Lib.hid ⟨by rw [Hnxt.out, Hsh.out]; exact k1, hB3⟩
            clear k1 k2 hB3 hown
            go_wp2
            go_roundw
            case rel => exact ⟨i + 1, by omega, by go_num, HR⟩
            case measure => simp [intOf]; omega
        · have HR : Hid (OwnD w.heap.size wr u8 (dps h (Rg.pts ringH (L.take (k + 1)))) ∧ Below w.heap.size w wr) := Lib.hid (by rw [Hpt.out]; exact Hr.out)
          go_wp2
          go_roundw
          case rel => exact ⟨k + 1, by omega, by go_num, HR⟩
          case measure => simp [intOf]; omega
    · have hown := Ho.out.1
      rw [List.take_of_length_le (by have := Hl.out; omega)] at hown
      obtain ⟨ga, capd, hve, hcd, hmd, hDr⟩ := hown.read
      have hDl : (dps h (Rg.pts ringH L)).length = k * 8 := by unfold dps; rw [List.length_map, pts_length, Hl.out]
      obtain ⟨D, hD⟩ : ∃ D, dps h (Rg.pts ringH L) = D := ⟨_, rfl⟩
      have Hnext := Lib.hid (fun (j : Nat) (o : Option Nat) (hj : j < O.length) => BestI.next (o := o) HO.out.1 HO.out.2 hj)
      rw [hD] at hve hcd hDr hDl Hnext
      obtain ⟨m, hm⟩ : ∃ m, D.length = m := ⟨_, rfl⟩
      rw [hm] at hve hcd hDl Hnext
      have hOl : O.length = k := by rw [HO.out.1.1.length_eq, Hl.out]
      have HDm := Lib.hid (And.intro hm hOl)
      obtain ⟨Wd, hWd⟩ : ∃ Wd : World, Wd = wr := ⟨_, rfl⟩
      have HWd : Hid (Below w.heap.size w Wd ∧ DpR Wd.heap.size Wd ga D) := Lib.hid (by rw [hWd]; exact ⟨Ho.out.2, hDr⟩)
      rw [hve, ← hWd]
      have hmb : m ≤ 128 := by omega
      clear hown hve hDr hD hm hOl hWd Ho hDl
      go_wp2
      go_loopw [12] (fun vo wr => ∃ j : Nat, j ≤ n ∧ slLen vo = j ∧ Hid (OwnT Wd.heap.size wr vo (O.take j) ∧ Below Wd.heap.size Wd wr)) (fun vo _ => n - slLen vo)
      case atStart => exact ⟨0, by omega, rfl, Lib.hid ⟨by simpa using OwnT.nil _ _, Below.refl _ _⟩⟩
      case round =>
        obtain ⟨j, hj, hsl, Ho⟩ := hrel
        obtain ⟨aq, cq, hve, hcq, hmq, _, hQt⟩ := Ho.out.1.read
        have hQl : (O.take j).length = j := by rw [List.length_take, HDm.out.2]; omega
        obtain ⟨Q, hQ⟩ : ∃ Q, O.take j = Q := ⟨_, rfl⟩
        rw [hQ] at hQl hve hcq hQt
        rw [hQl] at hve hcq
        obtain ⟨Wo, hWo⟩ : ∃ Wo : World, Wo = wr := ⟨_, rfl⟩
        have HWo : Hid (OwnT Wd.heap.size Wo (.slice aq j cq) Q ∧ Below Wd.heap.size Wd Wo ∧ TxsAt Wo.heap.size Wo aq Q) := Lib.hid (by rw [hWo, ← hve, ← hQ]; exact ⟨Ho.out.1, Ho.out.2, by rw [hQ]; exact hQt⟩)
        rw [hve, ← hWo]
        have HQ := Lib.hid (And.intro hQ hQl)
        have Hsl := Lib.hid hsl
        clear hve hQ hQl hQt hWo Ho hsl
        have hj2 : j < n ∨ j = n := by omega
        rcases hj2 with hjn | rfl
        · have hjn2 : (j : Int) < n := by omega
          go_wp2
          go_loopw [13, 14] (fun vb vi wr => ∃ (i : Nat) (o : Option Nat), i ≤ m ∧ vi = .int .i64 i ∧ vb = bestV o ∧ Hid (BestI D Q i o ∧ Below Wo.heap.size Wo wr)) (fun _ i _ => m - (intOf i).toNat)
          case atStart => exact ⟨0, none, by omega, rfl, rfl, Lib.hid ⟨BestI.start _ _, Below.refl _ _⟩⟩
          case round =>
            obtain ⟨i, o, hi, rfl, rfl, Hr⟩ := hrel
            have HB := Lib.hid (HWo.out.2.1.trans (Hr.out.2.mono HWo.out.2.1.size))
            have hcell : ∀ i, i < m → ∃ b off, ga = some ⟨b, off, none⟩ ∧ wr.cell? ⟨b, off + i * 2, none⟩ = some (.int .i64 (D[i]?.getD dp0).1) ∧ wr.cell? ⟨b, off + i * 2 + 1, none⟩ = some (.string (D[i]?.getD dp0).2) := fun i hi => by
              rcases HWd.out.2.below HB.out with he | ⟨b, off, e, _, hcx⟩
              · exfalso
                have := HDm.out.1
                rw [he] at this; simp at this; omega
              · exact ⟨b, off, e, hcx i (by have := HDm.out.1; omega)⟩
            have Hcell := Lib.hid hcell
            have hQw := HWo.out.2.2.below Hr.out.2
            have hjm : j ≤ 16 := by omega
            have hi2 : i < m ∨ i = m := by omega
            rcases hi2 with hilt | hie
            · have hilt2 : (i : Int) < m := by omega
              obtain ⟨b, off, rfl, f0, f1⟩ := Hcell.out i hilt
              have g0 := cell_regrown f0
              have g1 := cell_regrown f1
              obtain ⟨⟨px, sx⟩, hx⟩ : ∃ x, D[i]?.getD dp0 = x := ⟨_, rfl⟩
              rw [hx] at g0 g1
              dsimp only at g0 g1
              have cI := fun d os => Calls.regrown_of ((ridx_walk Wo.heap.size aq j cq Q sx (Go.Sort.grow (redrawn wr d) os) HQ.out.2 (by unfold maxLen; omega) (hQw.below ((below_regrown wr d os).mono Hr.out.2.size))).mono fun e w' ⟨he, hw⟩ => ⟨he, hw ▸ Below.refl _ _⟩)
              have Hx := Lib.hid hx
              have hDi : i < D.length := by have := HDm.out.1; omega
              clear hcell f0 f1 hQw hx
              by_cases hin : sx ∈ Q
              · obtain ⟨q, hq, _⟩ := idxT_mem hin
                rw [hq] at cI
                have hq0 : decide ((q : Int) < 0) = false := decide_eq_false (by omega)
                have HN : Hid (BestI D Q (i + 1) o) := Lib.hid (Hr.out.1.skip (by rw [Hx.out]; exact hin))
                clear hin hq hDi
                go_wp2
                refine wp_region_quiet_below (by kernel_rfl) (by kernel_rfl) ?_
                repeat (go_big_quiet_step (first | exact cI _ _))
                refine wpQuiet_nil ?_
                intro w3 hw'
                obtain ⟨⟨dq, osq⟩, hw3⟩ := hw'
                have HR : Hid (BestI D Q (i + 1) o ∧ Below Wo.heap.size Wo w3) := Lib.hid ⟨HN.out, Hr.out.2.trans (by rw [hw3]; exact (below_regrown wr dq osq).mono Hr.out.2.size)⟩
                clear hw3 g0 g1 cI
                go_wp2
                go_roundw
                case rel => exact ⟨i + 1, o, by omega, by go_num, rfl, HR⟩
                case measure => simp [intOf]; omega
              · rw [idxT_mis hin] at cI
                cases o with
                | none =>
                  have HN : Hid (BestI D Q (i + 1) (some i)) := Lib.hid (Hr.out.1.first hDi (by rw [Hx.out]; exact hin))
                  unfold bestV
                  clear hin hDi
                  go_wp2
                  refine wp_region_quiet_below (by kernel_rfl) (by kernel_rfl) ?_
                  repeat (go_big_quiet_step (first | exact cI _ _))
                  refine wpQuiet_nil ?_
                  intro w3 hw'
                  obtain ⟨⟨dq, osq⟩, hw3⟩ := hw'
                  have HR : Hid (BestI D Q (i + 1) (some i) ∧ Below Wo.heap.size Wo w3) := Lib.hid ⟨HN.out, Hr.out.2.trans (by rw [hw3]; exact (below_regrown wr dq osq).mono Hr.out.2.size)⟩
                  clear hw3 g0 g1 cI
                  go_wp2
                  go_roundw
                  case rel => exact ⟨i + 1, some i, by omega, by go_num, rfl, HR⟩
                  case measure => simp [intOf]; omega
                | some bb =>
                  have hbb := Hr.out.1.1
                  have hbm : bb < m := by omega
                  have hbm2 : (bb : Int) < m := by omega
                  have hb0 : decide ((bb : Int) < 0) = false := decide_eq_false (by omega)
                  obtain ⟨b', off', e', f2, f3⟩ := Hcell.out bb hbm
                  simp only [Option.some.injEq, Addr.mk.injEq] at e'
                  obtain ⟨rfl, rfl, _⟩ := e'
                  have g2 := cell_regrown f2
                  have g3 := cell_regrown f3
                  obtain ⟨⟨py, sy⟩, hy⟩ : ∃ y, D[bb]?.getD dp0 = y := ⟨_, rfl⟩
                  rw [hy] at g2 g3
                  dsimp only at g2 g3
                  have cA := fun d os => Calls.regrown_of (rahead_walk px sx py sy (Go.Sort.grow (redrawn wr d) os))
                  have Hy := Lib.hid hy
                  clear f2 f3 hy
                  unfold bestV
                  cases hah : aheadD (px, sx) (py, sy) with
                  | true =>
                    rw [hah] at cA
                    have HN : Hid (BestI D Q (i + 1) (some i)) := Lib.hid (Hr.out.1.better hDi (by rw [Hx.out]; exact hin) (by rw [Hx.out, Hy.out]; exact hah))
                    clear hin hDi hah
                    go_wp2
                    refine wp_region_quiet_below (by kernel_rfl) (by kernel_rfl) ?_
                    repeat (go_big_quiet_step (first | exact cI _ _ | exact cA _ _))
                    refine wpQuiet_nil ?_
                    intro w3 hw'
                    obtain ⟨⟨dq, osq⟩, hw3⟩ := hw'
                    have HR : Hid (BestI D Q (i + 1) (some i) ∧ Below Wo.heap.size Wo w3) := Lib.hid ⟨HN.out, Hr.out.2.trans (by rw [hw3]; exact (below_regrown wr dq osq).mono Hr.out.2.size)⟩
                    clear hw3 g0 g1 g2 g3 cI cA
                    go_wp2
                    go_roundw
                    case rel => exact ⟨i + 1, some i, by omega, by go_num, rfl, HR⟩
                    case measure => simp [intOf]; omega
                  | false =>
                    rw [hah] at cA
                    have HN : Hid (BestI D Q (i + 1) (some bb)) := Lib.hid (Hr.out.1.stay (by rw [Hx.out, Hy.out]; exact hah))
                    clear hin hDi hah
                    go_wp2
                    refine wp_region_quiet_below (by kernel_rfl) (by kernel_rfl) ?_
                    repeat (go_big_quiet_step (first | exact cI _ _ | exact cA _ _))
                    refine wpQuiet_nil ?_
                    intro w3 hw'
                    obtain ⟨⟨dq, osq⟩, hw3⟩ := hw'
                    have HR : Hid (BestI D Q (i + 1) (some bb) ∧ Below Wo.heap.size Wo w3) := Lib.hid ⟨HN.out, Hr.out.2.trans (by rw [hw3]; exact (below_regrown wr dq osq).mono Hr.out.2.size)⟩
                    clear hw3 g0 g1 g2 g3 cI cA
                    go_wp2
                    go_roundw
                    case rel => exact ⟨i + 1, some bb, by omega, by go_num, rfl, HR⟩
                    case measure => simp [intOf]; omega
            · have hie2 := hie.symm
              subst hie2
              obtain ⟨bb, rfl, hbm, hbe⟩ := Hnext.out j o (by have := HDm.out.2; omega) (by rw [HQ.out.1]; exact Hr.out.1)
              have hbm2 : (bb : Int) < m := by omega
              have hb0 : ¬ (bb : Int) < 0 := by omega
              obtain ⟨b, off, rfl, f0, f1⟩ := Hcell.out bb hbm
              rw [hbe] at f1
              have hjO : j < O.length := by have := HDm.out.2; omega
              obtain ⟨t, ht⟩ : ∃ t, O[j] = t := ⟨_, rfl⟩
              rw [ht] at f1
              have hown := Lib.hid (HWo.out.1.below Hr.out.2)
              have hul : Q.length ≤ 1000000 := by rw [HQ.out.2]; omega
              have hszr := (HWo.out.2.1.trans (Hr.out.2.mono HWo.out.2.1.size)).size
              have HT : Hid (O.take (j + 1) = Q ++ [t]) := Lib.hid (by rw [List.take_succ_eq_append_getElem hjO, HQ.out.1, ht])
              clear hcell hQw ht hbe hjO f0
              unfold bestV
              go_wp2_with (at_builtin; refine append_txt 87 93 rfl rfl Wd.heap.size _ Q t rfl rfl hown.out hul hszr ?_)
              intro v' w' k1 k2 _
              have hB3 : Below Wd.heap.size Wd w' := (HB.out.alloc hszr _).grown k2 (by simp; omega) (fun j e => (Own1.lt hown.out j e).1)
              have HR : Hid (OwnT Wd.heap.size w' v' (O.take (j + 1)) ∧ Below Wd.heap.size Wd w') := Lib.hid ⟨by rw [HT.out]; exact k1, hB3⟩
              have hsl : slLen v' = j + 1 := by
                obtain ⟨a9, c9, e9, _⟩ := k1.read
                rw [e9]
                show (Q ++ [t]).length = j + 1
                rw [List.length_append, HQ.out.2]; rfl
              clear k1 k2 hB3 hown
              go_wp2
              go_roundw
              case rel => exact ⟨j + 1, by omega, hsl, HR⟩
              case measure =>
                rw [hsl]
                show n - (j + 1) < n - j
                omega
        · have hjn2 : ¬ (j : Int) < j := by omega
          go_wp2
          go_ret
          exact ⟨HWd.out.1.trans (HWo.out.2.1.mono HWd.out.1.size), _, rfl, by rw [HQ.out.1]; exact HWo.out.1.lower (Nat.le_trans HWd.out.1.size (Nat.le_refl _))⟩
end Go.Proofs.YtjgllhnecoibkaaGreatDoor
