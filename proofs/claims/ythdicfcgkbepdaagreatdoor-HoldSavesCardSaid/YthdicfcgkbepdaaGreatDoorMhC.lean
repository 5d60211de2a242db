/- Walks of the document's Keys and Trim of a hold. -/
import Derived.Test.YthdicfcgkbepdaaGreatDoorMhB
namespace Go.Proofs.YthdicfcgkbepdaaGreatDoor
section
open Go.RowKit

/-- append(s, l...) of structs. -/
theorem append_recs {P : Program} {ops : Array Oper} {rest : List Oper} {o : Oper} {a : Act} {Q : Exit → Act → World → Prop} {w : World} (T E : TypeId) (z : Value) (m bytes : Nat) (hT : P.underlying T = some (.slice E))
    (hE : (P.info? E).map (fun i => (i.zero, i.size, i.bytes)) = some (some z, m, bytes)) (hz : z.cells.size = m) (hm : 0 < m) (s x : Nat) (hgd : o.guard = none)
    (ho : o.op = .call { callee := .builtin .append, args := #[.tmp s, .tmp x], argTypes := #[T, T] }) (B : Nat) (v : Value) (l : List (List Value)) (n₀ : Nat) (ad : Option Addr) (len cap : Nat) (M : List (List Value))
    (hs : a.eval (.tmp s) = v) (hx : a.eval (.tmp x) = .slice ad len cap) (hown : OwnRec E m B w v l) (hlen : M.length = len) (hM : ∀ y ∈ M, y.length = m) (hM1 : ∀ y ∈ M, ∀ u ∈ y, u.oneCell' = true) (hl : (l.length + M.length) * bytes ≤ 140737488355328) (hl2 : l.length + M.length ≤ maxLen) (ha : ad = none → cap = 0) (hI : RecR m n₀ w ad M) (hB : B ≤ w.heap.size)
    (h : ∀ v' w', OwnRec E m B w' v' (l ++ M) → w.grownBy w' v.ownBlock → (v'.ownBlock = v.ownBlock ∨ v'.ownBlock = some w.heap.size) → wpList P ops Q rest (a.put o.dst v') w') :
    wpList P ops Q (o :: rest) a w := by
  obtain ⟨i, hi, hz0, hz1, hz2⟩ := info_parts hE
  subst hlen
  have at_ : ∀ y : Addr, ad = some y → (∀ j u, M.flatten[j]? = some u → w.cell? (y.add j) = some u) → wpList P ops Q (o :: rest) a w := fun y e hc => by
    refine wpList_append_own_at _ hgd (.tmp s) (.tmp x) T ho B E i z m bytes hT hi hz0 hz1 hz2 hz hm v l.length l.flatten hs hown.2 y M.length cap M.flatten (hx.trans (by rw [e])) (flat_length m M hM) hc (fun u hu => ?_) hl2 hl hB ?_
    · obtain ⟨y2, hy, hu2⟩ := List.mem_flatten.1 hu
      exact hM1 y2 hy u hu2
    · intro v' w' h1 h2 _ h4
      refine h v' w' ⟨fun y2 hy => ?_, ?_⟩ h2 h4
      · rcases List.mem_append.1 hy with hy | hy
        · exact hown.1 y2 hy
        · exact hM y2 hy
      · rw [List.length_append, List.flatten_append]
        exact h1
  rcases hI with rfl | ⟨b, off, e, _, hcell⟩
  · cases ad with
    | none =>
      obtain rfl := ha rfl
      refine wpList_append_own_none hgd (.tmp s) (.tmp x) T ho B E i m hT hi v l.length l.flatten hs hown.2 hx ?_
      exact h v w (by simpa using hown) (World.grownBy.refl _ _) (.inl rfl)
    | some ad => exact at_ ad rfl (fun j u hj => by simp at hj)
  · refine at_ _ e (fun j u hj => ?_)
    have hj2 : j < M.length * m := by have := (List.getElem?_eq_some_iff.1 hj).1; rw [flat_length m M hM] at this; exact this
    have hd : j / m < M.length := Nat.div_lt_of_lt_mul (by rw [Nat.mul_comm]; exact hj2)
    have hr : j % m < m := Nat.mod_lt _ hm
    have h9 := flat_at m M (j / m) (j % m) hM hd hr
    have e5 : j / m * m + j % m = j := by rw [Nat.mul_comm]; exact Nat.div_add_mod j m
    rw [e5, hj] at h9
    rw [Go.WideShapes.add_plain, h9, ← hcell (j / m) (j % m) hd hr]
    rw [Nat.add_assoc, e5]
theorem KpR.to_rec {n₀ : Nat} {w : World} {a : Option Addr} {l : List Kp} (h : KpR n₀ w a l) : RecR 6 n₀ w a (l.map encKp) := by
  rcases h with rfl | ⟨b, off, e, hb, hc⟩
  · exact .inl rfl
  · refine .inr ⟨b, off, e, hb, fun i j hi hj => ?_⟩
    have hi2 : i < l.length := by simpa using hi
    obtain ⟨k0, k1, k2, k3, k4, k5⟩ := hc i hi2
    have hel : (l.map encKp)[i]?.getD [] = encKp (l[i]?.getD kp0) := by simp [List.getElem?_eq_getElem hi2]
    rw [hel]
    rcases (show j = 0 ∨ j = 1 ∨ j = 2 ∨ j = 3 ∨ j = 4 ∨ j = 5 by omega) with rfl | rfl | rfl | rfl | rfl | rfl
    · exact k0
    · exact k1
    · exact k2
    · exact k3
    · exact k4
    · exact k5
theorem encKp_len (l : List Kp) : ∀ y ∈ l.map encKp, y.length = 6 := fun y hy => by
  obtain ⟨p, _, rfl⟩ := List.mem_map.1 hy
  rfl
theorem encKp_one1 (p : Kp) : ∀ u ∈ encKp p, u.oneCell' = true := fun u hu => by
  rcases List.mem_cons.1 hu with rfl | hu
  · rfl
  · exact vrV_one [p.2] u (by simpa [vrV] using hu)
theorem encKp_one (l : List Kp) : ∀ y ∈ l.map encKp, ∀ u ∈ y, u.oneCell' = true := fun y hy u hu => by
  obtain ⟨p, _, rfl⟩ := List.mem_map.1 hy
  exact encKp_one1 p u hu
theorem info_kept : (Tryz.prog.info? 51).map (fun i => (i.zero, i.size, i.bytes)) = some (some (.agg #[.string ⟨#[]⟩, .int .i64 0, .int .i64 0, .int .i64 0, .int .i64 0, .string ⟨#[]⟩]), 6, 64) := by kernel_rfl
/-- v owns the rows l. -/
def OwnK (B : Nat) (w : World) (v : Value) (l : List Kp) : Prop := OwnRec 51 6 B w v (l.map encKp)
theorem OwnK.nil (B : Nat) (w : World) : OwnK B w (.slice none 0 0) [] := OwnRec.nil _ _ _ _
theorem OwnK.read {B : Nat} {w : World} {v : Value} {l : List Kp} (h : OwnK B w v l) : ∃ a cap, v = .slice a l.length cap ∧ l.length ≤ cap ∧ cap ≤ maxLen ∧ (a = none → cap = 0) ∧ (∀ x, a = some x → B ≤ x.block ∧ x.block < w.heap.size ∧ x.off = 0) ∧ KpR w.heap.size w a l := by
  obtain ⟨a, cap, h1, h2, h3, h4, h5, h6⟩ := OwnRec.read h
  simp only [List.length_map] at h1 h2
  exact ⟨a, cap, h1, h2, h3, h4, h5, KpR.of_rec h6⟩
/-- the document's hold with its rows stored anew. -/
theorem MHAt.put {G : Nat → Prop} {w w2 : World} {mb : Nat} {sd : Bool} {l l2 : List Kp} {v : Value} (h : MHAt G w mb sd l) (hb : Below w.heap.size w w2) (hv : OwnK w.heap.size w2 v l2) :
    MHAt (fun b => b = mb ∨ (w.heap.size ≤ b ∧ b < w2.heap.size)) (w2.setCell ⟨mb, 0, none⟩ v) mb sd l2 ∧ KeptBut (fun b => b = mb) w (w2.setCell ⟨mb, 0, none⟩ v) := by
  obtain ⟨a, cap, rfl, h2, h3, h4, h5, h6⟩ := hv.read
  obtain ⟨a0, cap0, c0, _⟩ := h.c0
  have c0' : w2.cell? ⟨mb, 0, none⟩ = some (.slice a0 l.length cap0) := (hb.cell (p := ⟨mb, 0, none⟩) h.hlt).trans c0
  have hsz : (w2.setCell ⟨mb, 0, none⟩ (.slice a l2.length cap)).heap.size = w2.heap.size := by simp [World.setCell]
  have hkb : ∀ k, k ≠ mb → (w2.setCell ⟨mb, 0, none⟩ (.slice a l2.length cap)).heap[k]? = w2.heap[k]? := fun k hk => Below.heap_setCell _ _ _ _ hk
  refine ⟨⟨.inl rfl, by rw [hsz]; exact Nat.lt_of_lt_of_le h.hlt hb.size, ?_, ?_, ?_, a, cap, World.cell?_setCell_same _ _ _ c0', h2, h3, h4, fun x e => ⟨.inr ⟨(h5 x e).1, (h5 x e).2.1⟩, ?_⟩, ?_⟩, ⟨hb.os, hb.tape, hb.output, by rw [hsz]; exact hb.size, fun k hk hne => (hkb k hne).trans (hb.block k hk)⟩⟩
  · rw [World.cell?_setCell_other _ _ _ _ (by simp)]; exact (hb.cell (p := ⟨mb, 1, none⟩) h.hlt).trans h.c1
  · rw [World.frozen?_setCell]; exact (hb.frozen (p := ⟨mb, 0, none⟩) h.hlt).trans h.f0
  · rw [World.frozen?_setCell]; exact (hb.frozen (p := ⟨mb, 1, none⟩) h.hlt).trans h.f1
  · have := (h5 x e).1; have := h.hlt; omega
  · rw [hsz]
    rcases h6 with he | ⟨b, off, rfl, hbl, hc⟩
    · exact .inl he
    · have hbm : b ≠ mb := by
        have h8 : w.heap.size ≤ b := (h5 _ rfl).1
        have h9 := h.hlt
        omega
      have hcc : ∀ o, (w2.setCell ⟨mb, 0, none⟩ (.slice (some ⟨b, off, none⟩) l2.length cap)).cell? ⟨b, o, none⟩ = w2.cell? ⟨b, o, none⟩ := fun o => World.cell?_of_block (a := ⟨b, o, none⟩) (hkb b hbm)
      refine .inr ⟨b, off, rfl, hbl, fun i hi => ?_⟩
      obtain ⟨k0, k1, k2, k3, k4, k5⟩ := hc i hi
      exact ⟨(hcc _).trans k0, (hcc _).trans k1, (hcc _).trans k2, (hcc _).trans k3, (hcc _).trans k4, (hcc _).trans k5⟩
def goneM (n K : Nat) : Nat := n - K
/-- without the first g of a key. -/
def trimL : List Kp → ByteArray → Nat → List Kp
  | [], _, _ => []
  | p :: r, key, g => if p.1 = key ∧ 0 < g then trimL r key (g - 1) else p :: trimL r key g
theorem trimL_drop {l : List Kp} {key : ByteArray} {g i : Nat} (hi : i < l.length) : trimL (l.drop i) key g = if (l[i]?.getD kp0).1 = key ∧ 0 < g then trimL (l.drop (i + 1)) key (g - 1) else (l[i]?.getD kp0) :: trimL (l.drop (i + 1)) key g := by
  rw [List.drop_eq_getElem_cons hi, List.getElem?_eq_getElem hi]
  rfl
set_option maxRecDepth 100000 in
set_option maxHeartbeats 8000000 in
theorem mtrim_walk (G : Nat → Prop) (w : World) (mb : Nat) (sd : Bool) (l : List Kp) (key : ByteArray) (K : Nat) (h : MHAt G w mb sd l) (hl : l.length ≤ 1000) (hK : K ≤ 9223372036854775807) :
    Calls Tryz.prog 33 #[.pointer (some ⟨mb, 0, none⟩), .string key, .int .i64 K] w fun e w' => e = .returned (.int .i64 (goneM (getL l key).length K : Nat)) ∧
      MHAt (fun b => b = mb ∨ (w.heap.size ≤ b ∧ b < w'.heap.size)) w' mb sd (trimL l key (goneM (getL l key).length K)) ∧ KeptBut (fun b => b = mb) w w' := by
  have HM := Lib.hid h
  have Hget := Lib.hid (mget_walk G w mb sd l key h hl)
  obtain ⟨n, hn⟩ : ∃ n, l.length = n := ⟨_, rfl⟩
  have Hn := Lib.hid hn
  rw [hn] at hl
  have hgl := getL_le l key
  rw [hn] at hgl
  obtain ⟨g, hg⟩ : ∃ g, (getL l key).length = g := ⟨_, rfl⟩
  have Hg := Lib.hid hg
  rw [hg] at hgl ⊢
  obtain ⟨q, hq⟩ : ∃ q, goneM g K = q := ⟨_, rfl⟩
  rw [hq]
  have hq2 : g - K = q := hq
  have hqg : q ≤ g := by omega
  have hcs : ((g : Int) - K < 0 ∧ q = 0) ∨ (¬ (g : Int) - K < 0 ∧ (g : Int) - K = q) := by omega
  clear h hn hg hq hq2
  go_enter Tryz.func33, Tryz.ntmps33
  go_wp2_with fail
  refine Hget.out.mono ?_
  rintro e w1 ⟨hb1, v1, rfl, hv1⟩
  obtain ⟨a1, c1, rfl, _⟩ := hv1.read
  rw [Hg.out]
  have H1 := Lib.hid hb1
  clear hb1 hv1
  rcases hcs with ⟨hneg, rfl⟩ | ⟨hneg, hqi⟩
  · go_wp2
    go_loopw [8, 9, 10] (fun vl vo vi wr => ∃ i left : Nat, i ≤ n ∧ left ≤ 1000 ∧ vi = .int .i64 i ∧ vl = .int .i64 left ∧ Hid (∃ out, OwnK w.heap.size wr vo out ∧ out.length ≤ i ∧ out ++ trimL (l.drop i) key left = trimL l key 0 ∧ Below w.heap.size w wr)) (fun _ _ vi _ => n - (intOf vi).toNat)
    case atStart => exact ⟨0, 0, by omega, by omega, rfl, rfl, Lib.hid ⟨[], OwnK.nil _ _, Nat.le_refl _, by simp, H1.out⟩⟩
    case round =>
      obtain ⟨i, left, hi, hlf, rfl, rfl, Hr⟩ := hrel
      obtain ⟨out, hown, hol, heq, hB⟩ := Hr.out
      have hM := HM.out.below hB (Nat.le_refl _)
      obtain ⟨a, cap, c0, hc, hcm, ha, _, hRd⟩ := hM.c0
      rw [Hn.out] at c0 hc
      have hi2 : i < n ∨ i = n := by omega
      rcases hi2 with hilt | rfl
      · have hilt2 : (i : Int) < n := by omega
        have hil : i < l.length := by have := Hn.out; omega
        rcases hRd with he | ⟨b, off, rfl, hbl, hcx⟩
        · exfalso
          rw [he] at hil; simp at hil
        obtain ⟨k0, k1, k2, k3, k4, k5⟩ := hcx i hil
        rw [trimL_drop hil] at heq
        obtain ⟨⟨x, y1, y2, y3, y4, y5⟩, hx⟩ : ∃ x, l[i]?.getD kp0 = x := ⟨_, rfl⟩
        rw [hx] at k0 k1 k2 k3 k4 k5 heq
        dsimp only at k0 k1 k2 k3 k4 k5
        have Ho := Lib.hid (And.intro hown (And.intro hol (And.intro heq hB)))
        clear hcx hx hM ha hc hcm hbl hil Hr hown hol heq hB
        have hcs2 : (x = key ∧ ∃ L, left = L + 1) ∨ (x = key ∧ left = 0) ∨ x ≠ key := by
          by_cases e : x = key
          · rcases Nat.eq_zero_or_pos left with h9 | h9
            · exact .inr (.inl ⟨e, h9⟩)
            · exact .inl ⟨e, left - 1, by omega⟩
          · exact .inr (.inr e)
        rcases hcs2 with ⟨rfl, L, rfl⟩ | ⟨rfl, rfl⟩ | hne
        · have hpos : (0 : Int) < ((L + 1 : Nat) : Int) := by omega
          have HN : Hid (∃ out, OwnK w.heap.size wr u9 out ∧ out.length ≤ i + 1 ∧ out ++ trimL (l.drop (i + 1)) x L = trimL l x 0 ∧ Below w.heap.size w wr) := Lib.hid ⟨out, Ho.out.1, by have := Ho.out.2.1; omega, by
            have h9 := Ho.out.2.2.1
            rw [if_pos ⟨rfl, by omega⟩] at h9
            exact h9, Ho.out.2.2.2⟩
          go_wp2
          go_roundw
          case rel => exact ⟨i + 1, L, by omega, by omega, by go_num, by go_num, HN⟩
          case measure => simp [intOf]; omega
        · have hsel : ¬ (x = x ∧ 0 < 0) := fun h9 => by omega
          have heq2 := Ho.out.2.2.1
          rw [if_neg hsel] at heq2
          have Heq2 := Lib.hid heq2
          have hszr := Ho.out.2.2.2.size
          have hlen6 : (out.map encKp).length ≤ 1000 := by rw [List.length_map]; have := Ho.out.2.1; omega
          clear hsel heq2
          go_wp2_with (at_builtin; refine append_rec 40 51 _ 6 64 Tryz.underlying40 info_kept rfl (by decide) 45 53 rfl rfl w.heap.size _ (out.map encKp) [.string x, .int .i64 y1, .int .i64 y2, .int .i64 y3, .int .i64 y4, .string y5] rfl (encKp_one1 (x, y1, y2, y3, y4, y5)) rfl rfl Ho.out.1 (by omega) (by unfold maxLen; omega) hszr ?_)
          intro v' w' q1 q2 _
          have HN : Hid (∃ out, OwnK w.heap.size w' v' out ∧ out.length ≤ i + 1 ∧ out ++ trimL (l.drop (i + 1)) x 0 = trimL l x 0 ∧ Below w.heap.size w w') := Lib.hid ⟨out ++ [(x, y1, y2, y3, y4, y5)], by unfold OwnK; rw [List.map_append]; exact q1, by have := Ho.out.2.1; simp; omega, by rw [← Heq2.out, List.append_assoc]; rfl, (Ho.out.2.2.2.alloc hszr _).grown q2 (by simp; omega) (fun j e => (OwnRec.lt Ho.out.1 j e).1)⟩
          clear q1 q2 k0 k1 k2 k3 k4 k5
          go_wp2
          go_roundw
          case rel => exact ⟨i + 1, _, by omega, by omega, by go_num, rfl, HN⟩
          case measure => simp [intOf]; omega
        · have hsel : ¬ (x = key ∧ 0 < left) := fun h9 => hne h9.1
          have e1 := txt_neW hne
          clear hne
          have heq2 := Ho.out.2.2.1
          rw [if_neg hsel] at heq2
          have Heq2 := Lib.hid heq2
          have hszr := Ho.out.2.2.2.size
          have hlen6 : (out.map encKp).length ≤ 1000 := by rw [List.length_map]; have := Ho.out.2.1; omega
          clear hsel heq2
          go_wp2_with (at_builtin; refine append_rec 40 51 _ 6 64 Tryz.underlying40 info_kept rfl (by decide) 45 53 rfl rfl w.heap.size _ (out.map encKp) [.string x, .int .i64 y1, .int .i64 y2, .int .i64 y3, .int .i64 y4, .string y5] rfl (encKp_one1 (x, y1, y2, y3, y4, y5)) rfl rfl Ho.out.1 (by omega) (by unfold maxLen; omega) hszr ?_)
          intro v' w' q1 q2 _
          have HN : Hid (∃ out, OwnK w.heap.size w' v' out ∧ out.length ≤ i + 1 ∧ out ++ trimL (l.drop (i + 1)) key left = trimL l key 0 ∧ Below w.heap.size w w') := Lib.hid ⟨out ++ [(x, y1, y2, y3, y4, y5)], by unfold OwnK; rw [List.map_append]; exact q1, by have := Ho.out.2.1; simp; omega, by rw [← Heq2.out, List.append_assoc]; rfl, (Ho.out.2.2.2.alloc hszr _).grown q2 (by simp; omega) (fun j e => (OwnRec.lt Ho.out.1 j e).1)⟩
          clear q1 q2 k0 k1 k2 k3 k4 k5
          go_wp2
          go_roundw
          case rel => exact ⟨i + 1, _, by omega, by omega, by go_num, rfl, HN⟩
          case measure => simp [intOf]; omega
      · have hd : l.drop i = [] := List.drop_of_length_le (by have := Hn.out; omega)
        rw [hd] at heq
        have he2 : out = trimL l key 0 := by simpa [trimL] using heq
        subst he2
        obtain ⟨ao, co, hve, _⟩ := hown.read
        have Hp := Lib.hid (MHAt.put HM.out hB hown)
        have f0 := hM.f0
        have hsz : (wr.setCell ⟨mb, 0, none⟩ u9).heap.size = wr.heap.size := by simp [World.setCell]
        have Hsz := Lib.hid hsz
        rw [hve] at Hp Hsz ⊢
        clear hM ha hc hcm hd heq hown hol hB hRd hsz hve Hr
        go_wp2
        go_ret
        refine ⟨rfl, ?_, Hp.out.2⟩
        rw [Hsz.out]
        exact Hp.out.1
  · go_wp2
    go_loopw [8, 9, 10] (fun vl vo vi wr => ∃ i left : Nat, i ≤ n ∧ left ≤ 1000 ∧ vi = .int .i64 i ∧ vl = .int .i64 left ∧ Hid (∃ out, OwnK w.heap.size wr vo out ∧ out.length ≤ i ∧ out ++ trimL (l.drop i) key left = trimL l key q ∧ Below w.heap.size w wr)) (fun _ _ vi _ => n - (intOf vi).toNat)
    case atStart => exact ⟨0, q, by omega, by omega, rfl, rfl, Lib.hid ⟨[], OwnK.nil _ _, Nat.le_refl _, by simp, H1.out⟩⟩
    case round =>
      obtain ⟨i, left, hi, hlf, rfl, rfl, Hr⟩ := hrel
      obtain ⟨out, hown, hol, heq, hB⟩ := Hr.out
      have hM := HM.out.below hB (Nat.le_refl _)
      obtain ⟨a, cap, c0, hc, hcm, ha, _, hRd⟩ := hM.c0
      rw [Hn.out] at c0 hc
      have hi2 : i < n ∨ i = n := by omega
      rcases hi2 with hilt | rfl
      · have hilt2 : (i : Int) < n := by omega
        have hil : i < l.length := by have := Hn.out; omega
        rcases hRd with he | ⟨b, off, rfl, hbl, hcx⟩
        · exfalso
          rw [he] at hil; simp at hil
        obtain ⟨k0, k1, k2, k3, k4, k5⟩ := hcx i hil
        rw [trimL_drop hil] at heq
        obtain ⟨⟨x, y1, y2, y3, y4, y5⟩, hx⟩ : ∃ x, l[i]?.getD kp0 = x := ⟨_, rfl⟩
        rw [hx] at k0 k1 k2 k3 k4 k5 heq
        dsimp only at k0 k1 k2 k3 k4 k5
        have Ho := Lib.hid (And.intro hown (And.intro hol (And.intro heq hB)))
        clear hcx hx hM ha hc hcm hbl hil Hr hown hol heq hB
        have hcs2 : (x = key ∧ ∃ L, left = L + 1) ∨ (x = key ∧ left = 0) ∨ x ≠ key := by
          by_cases e : x = key
          · rcases Nat.eq_zero_or_pos left with h9 | h9
            · exact .inr (.inl ⟨e, h9⟩)
            · exact .inl ⟨e, left - 1, by omega⟩
          · exact .inr (.inr e)
        rcases hcs2 with ⟨rfl, L, rfl⟩ | ⟨rfl, rfl⟩ | hne
        · have hpos : (0 : Int) < ((L + 1 : Nat) : Int) := by omega
          have HN : Hid (∃ out, OwnK w.heap.size wr u9 out ∧ out.length ≤ i + 1 ∧ out ++ trimL (l.drop (i + 1)) x L = trimL l x q ∧ Below w.heap.size w wr) := Lib.hid ⟨out, Ho.out.1, by have := Ho.out.2.1; omega, by
            have h9 := Ho.out.2.2.1
            rw [if_pos ⟨rfl, by omega⟩] at h9
            exact h9, Ho.out.2.2.2⟩
          go_wp2
          go_roundw
          case rel => exact ⟨i + 1, L, by omega, by omega, by go_num, by go_num, HN⟩
          case measure => simp [intOf]; omega
        · have hsel : ¬ (x = x ∧ 0 < 0) := fun h9 => by omega
          have heq2 := Ho.out.2.2.1
          rw [if_neg hsel] at heq2
          have Heq2 := Lib.hid heq2
          have hszr := Ho.out.2.2.2.size
          have hlen6 : (out.map encKp).length ≤ 1000 := by rw [List.length_map]; have := Ho.out.2.1; omega
          clear hsel heq2
          go_wp2_with (at_builtin; refine append_rec 40 51 _ 6 64 Tryz.underlying40 info_kept rfl (by decide) 45 53 rfl rfl w.heap.size _ (out.map encKp) [.string x, .int .i64 y1, .int .i64 y2, .int .i64 y3, .int .i64 y4, .string y5] rfl (encKp_one1 (x, y1, y2, y3, y4, y5)) rfl rfl Ho.out.1 (by omega) (by unfold maxLen; omega) hszr ?_)
          intro v' w' q1 q2 _
          have HN : Hid (∃ out, OwnK w.heap.size w' v' out ∧ out.length ≤ i + 1 ∧ out ++ trimL (l.drop (i + 1)) x 0 = trimL l x q ∧ Below w.heap.size w w') := Lib.hid ⟨out ++ [(x, y1, y2, y3, y4, y5)], by unfold OwnK; rw [List.map_append]; exact q1, by have := Ho.out.2.1; simp; omega, by rw [← Heq2.out, List.append_assoc]; rfl, (Ho.out.2.2.2.alloc hszr _).grown q2 (by simp; omega) (fun j e => (OwnRec.lt Ho.out.1 j e).1)⟩
          clear q1 q2 k0 k1 k2 k3 k4 k5
          go_wp2
          go_roundw
          case rel => exact ⟨i + 1, _, by omega, by omega, by go_num, rfl, HN⟩
          case measure => simp [intOf]; omega
        · have hsel : ¬ (x = key ∧ 0 < left) := fun h9 => hne h9.1
          have e1 := txt_neW hne
          clear hne
          have heq2 := Ho.out.2.2.1
          rw [if_neg hsel] at heq2
          have Heq2 := Lib.hid heq2
          have hszr := Ho.out.2.2.2.size
          have hlen6 : (out.map encKp).length ≤ 1000 := by rw [List.length_map]; have := Ho.out.2.1; omega
          clear hsel heq2
          go_wp2_with (at_builtin; refine append_rec 40 51 _ 6 64 Tryz.underlying40 info_kept rfl (by decide) 45 53 rfl rfl w.heap.size _ (out.map encKp) [.string x, .int .i64 y1, .int .i64 y2, .int .i64 y3, .int .i64 y4, .string y5] rfl (encKp_one1 (x, y1, y2, y3, y4, y5)) rfl rfl Ho.out.1 (by omega) (by unfold maxLen; omega) hszr ?_)
          intro v' w' q1 q2 _
          have HN : Hid (∃ out, OwnK w.heap.size w' v' out ∧ out.length ≤ i + 1 ∧ out ++ trimL (l.drop (i + 1)) key left = trimL l key q ∧ Below w.heap.size w w') := Lib.hid ⟨out ++ [(x, y1, y2, y3, y4, y5)], by unfold OwnK; rw [List.map_append]; exact q1, by have := Ho.out.2.1; simp; omega, by rw [← Heq2.out, List.append_assoc]; rfl, (Ho.out.2.2.2.alloc hszr _).grown q2 (by simp; omega) (fun j e => (OwnRec.lt Ho.out.1 j e).1)⟩
          clear q1 q2 k0 k1 k2 k3 k4 k5
          go_wp2
          go_roundw
          case rel => exact ⟨i + 1, _, by omega, by omega, by go_num, rfl, HN⟩
          case measure => simp [intOf]; omega
      · have hd : l.drop i = [] := List.drop_of_length_le (by have := Hn.out; omega)
        rw [hd] at heq
        have he2 : out = trimL l key q := by simpa [trimL] using heq
        subst he2
        obtain ⟨ao, co, hve, _⟩ := hown.read
        have Hp := Lib.hid (MHAt.put HM.out hB hown)
        have f0 := hM.f0
        have hsz : (wr.setCell ⟨mb, 0, none⟩ u9).heap.size = wr.heap.size := by simp [World.setCell]
        have Hsz := Lib.hid hsz
        rw [hve] at Hp Hsz ⊢
        clear hM ha hc hcm hd heq hown hol hB hRd hsz hve Hr
        go_wp2
        go_ret
        refine ⟨rfl, ?_, Hp.out.2⟩
        rw [Hsz.out]
        exact Hp.out.1
end
end Go.Proofs.YthdicfcgkbepdaaGreatDoor
