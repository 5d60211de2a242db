/- Slices of texts: that are read, that come in, that are the call's own. -/
import Derived.Test.YthdicfcgkbepdaaGreatDoorErr
import Derived.SliceStrings
import Derived.Maps.AppendAt
import Derived.Laws.AppendOwnNone
namespace Go.Proofs.YthdicfcgkbepdaaGreatDoor
open Go.RowKit Go.ChangeShapes Go.WideShapes

/-- The slice at address a reads as the texts L, in a block below n₀. -/
def TxsAt (n₀ : Nat) (w : World) (a : Option Addr) (L : List ByteArray) : Prop :=
  L = [] ∨ ∃ b off, a = some ⟨b, off, none⟩ ∧ b < n₀ ∧ ∀ j, j < L.length → w.cell? ⟨b, off + j, none⟩ = some (.string (L[j]?.getD ⟨#[]⟩))
theorem TxsAt.below {n₀ : Nat} {A B : World} (h : Below n₀ A B) {a : Option Addr} {L : List ByteArray} : TxsAt n₀ A a L → TxsAt n₀ B a L
  | .inl e => .inl e
  | .inr ⟨b, off, e, hb, hc⟩ => .inr ⟨b, off, e, hb, fun j hj => (h.cell (p := ⟨b, off + j, none⟩) hb).trans (hc j hj)⟩
theorem TxsAt.mono {n₀ n₁ : Nat} {A : World} (h : n₀ ≤ n₁) {a : Option Addr} {L : List ByteArray} : TxsAt n₀ A a L → TxsAt n₁ A a L
  | .inl e => .inl e
  | .inr ⟨b, off, e, hb, hc⟩ => .inr ⟨b, off, e, by omega, hc⟩
theorem TxsAt.take {n₀ : Nat} {A : World} {a : Option Addr} {L : List ByteArray} (k : Nat) : TxsAt n₀ A a L → TxsAt n₀ A a (L.take k)
  | .inl e => .inl (by rw [e]; simp)
  | .inr ⟨b, off, e, hb, hc⟩ => .inr ⟨b, off, e, hb, fun j hj => by
      have hj' : j < L.length := by simp at hj; omega
      have hk : j < k := by simp at hj; omega
      rw [hc j hj', List.getElem?_take, if_pos hk]⟩
/-- What the walk is told of a slice of texts that came in. -/
structure TxsIn (w : World) (a : Option Addr) (len cap : Nat) (L : List ByteArray) : Prop where
  len_ : L.length = len
  cap_ : len ≤ cap
  max_ : cap ≤ maxLen
  nil_ : a = none → cap = 0
  siz_ : ∀ s ∈ L, s.size ≤ maxLen
  txs : TxsAt w.heap.size w a L
theorem TxsIn.sizeAt {w : World} {a : Option Addr} {len cap : Nat} {L : List ByteArray} (h : TxsIn w a len cap L) (j : Nat) : (L[j]?.getD ⟨#[]⟩).size ≤ maxLen := by
  by_cases hj : j < L.length
  · rw [List.getElem?_eq_getElem hj]; exact h.siz_ _ (List.getElem_mem hj)
  · rw [List.getElem?_eq_none (by omega)]; exact Nat.zero_le _
theorem cellsOfStr : Tryz.prog.cellsOf 9 = 1 := by kernel_rfl
theorem text_at {w : World} {x : Addr} {n : Nat} {V : Nat → Value} (h : ∀ i, i < n → w.cell? (x.add i) = some (V i)) (hp : 0 < n) : ∃ b off, x = ⟨b, off, none⟩ ∧ b < w.heap.size ∧ ∀ j, j < n → w.cell? ⟨b, off + j, none⟩ = some (V j) := by
  obtain ⟨b, off, spot⟩ := x
  have hspot : spot = none := by simpa [Addr.add] using World.cell?_spot (h 0 hp)
  subst hspot
  have hc : ∀ j, j < n → w.cell? ⟨b, off + j, none⟩ = some (V j) := fun j hj => by rw [← Go.WideShapes.add_plain]; exact h j hj
  refine ⟨b, off, rfl, ?_, hc⟩
  have h1 := hc 0 hp
  rcases Nat.lt_or_ge b w.heap.size with h | h
  · exact h
  · simp [World.cell?, Array.getElem?_eq_none h] at h1
theorem texts_of_trod {H : Type} {enc : TypeId × Value → H} {W : World} {v : Value} {fuel : Nat} {x : DataW H × List MemPlace} (h : DataW.trod enc Tryz.prog W 0 (fun _ => true) true fuel 80 [v] = some x) :
    ∃ a len cap L, v = .slice a len cap ∧ TxsIn W a len cap L := by
  rcases open_strings Tryz.underlying80 Tryz.underlying9 cellsOfStr h with ⟨hcs, _⟩ | ⟨x, l, c, ss, hcs, _, hl, hm, hz, _, hcell, hsz⟩
  · simp at hcs
    subst hcs
    exact ⟨none, 0, 0, [], rfl, rfl, Nat.le_refl _, by simp [maxLen], fun _ => rfl, (fun _ h => by cases h), .inl rfl⟩
  · simp at hcs
    subst hcs
    rw [if_pos rfl] at hz
    subst hz
    refine ⟨some x, l, ss.length, ss.take l, rfl, by simp; omega, hl, hm, (fun e => by cases e), fun s hs => hsz s (List.mem_of_mem_take hs), ?_⟩
    by_cases h0 : l = 0
    · left; subst h0; simp
    · obtain ⟨b, off, rfl, hb, hc⟩ := text_at hcell (by omega)
      refine .inr ⟨b, off, rfl, hb, fun j hj => ?_⟩
      have hj2 : j < l := by simp at hj; omega
      have hj3 : j < ss.length := by omega
      rw [hc j hj3, List.getElem?_take, if_pos hj2]
      simp [List.getD, List.getElem?_eq_getElem hj3]
theorem open_texts {H : Type} {enc : TypeId × Value → H} {W : World} {a : Option Addr} {len cap : Nat} {d : DataW H} {p : List MemPlace} (h : DataW.Trod enc Tryz.prog W 0 (fun _ => true) true 80 (.slice a len cap) d p) :
    ∃ L, TxsIn W a len cap L := by
  obtain ⟨fuel, hf⟩ := h
  obtain ⟨a', len', cap', L, e, hL⟩ := texts_of_trod (v := .slice a len cap) (by simpa [Value.cells] using hf)
  obtain ⟨rfl, rfl, rfl⟩ := Value.slice.inj e
  exact ⟨L, hL⟩

/-- v owns the texts L. -/
def OwnT (B : Nat) (w : World) (v : Value) (L : List ByteArray) : Prop := Own1 9 B w v (L.map Value.string)
theorem OwnT.nil (B : Nat) (w : World) : OwnT B w (.slice none 0 0) [] := World.ownsRow_nil _ _ _ _
theorem OwnT.read {B : Nat} {w : World} {v : Value} {L : List ByteArray} (h : OwnT B w v L) : ∃ a cap, v = .slice a L.length cap ∧ L.length ≤ cap ∧ cap ≤ maxLen ∧ (a = none → cap = 0) ∧ TxsAt w.heap.size w a L := by
  rcases Own1.shape h with ⟨rfl, hl⟩ | ⟨g, cap, rfl, _, hg, hc, hm, _, hcell⟩
  · have : L = [] := by simpa using hl
    subst this
    exact ⟨none, 0, rfl, by simp, by simp [maxLen], fun _ => rfl, .inl rfl⟩
  · refine ⟨_, cap, by simp, by simpa using hc, hm, (fun e => by cases e), .inr ⟨g, 0, rfl, hg, fun j hj => ?_⟩⟩
    rw [Nat.zero_add, hcell j (by simpa using hj)]
    simp [hj]
theorem info_text : (Tryz.prog.info? 9).map (fun i => (i.zero, i.size, i.bytes)) = some (some (.string ⟨#[]⟩), 1, 16) := by kernel_rfl
/-- append(s, t) of a text. -/
theorem append_txt {ops : Array Oper} {rest : List Oper} {o : Oper} {a : Act} {Q : Exit → Act → World → Prop} {w0 : World} (s x : Nat) (hgd : o.guard = none)
    (ho : o.op = .call { callee := .builtin .append, args := #[.tmp s, .tmp x], argTypes := #[80, 80] }) (B : Nat) (v : Value) (L : List ByteArray) (t : ByteArray)
    (hs : a.eval (.tmp s) = v) (hx : a.eval (.tmp x) = .slice (some ⟨w0.heap.size, 0, none⟩) 1 1) (hown : OwnT B w0 v L) (hl : L.length ≤ 1000000) (hB : B ≤ w0.heap.size)
    (h : ∀ v' w', OwnT B w' v' (L ++ [t]) → (w0.alloc (.cells #[.string t] 9)).grownBy w' v.ownBlock → (v'.ownBlock = v.ownBlock ∨ v'.ownBlock = some (w0.heap.size + 1)) → wpList Tryz.prog ops Q rest (a.put o.dst v') w') :
    wpList Tryz.prog ops Q (o :: rest) a (w0.alloc (.cells #[.string t] 9)) := by
  refine append_one 80 9 (.string ⟨#[]⟩) 16 Tryz.underlying80 info_text rfl s x hgd ho B v _ _ rfl hs hx hown (by simp; omega) (by simp [maxLen]; omega) hB ?_
  intro v' w' h1 h2 h3
  exact h v' w' (by unfold OwnT; rw [List.map_append]; exact h1) h2 h3
/-- append(s, l...) of texts. -/
theorem append_txts {ops : Array Oper} {rest : List Oper} {o : Oper} {a : Act} {Q : Exit → Act → World → Prop} {w : World} (s x : Nat) (hgd : o.guard = none)
    (ho : o.op = .call { callee := .builtin .append, args := #[.tmp s, .tmp x], argTypes := #[80, 80] }) (B : Nat) (v : Value) (L : List ByteArray) (n₀ : Nat) (ad : Option Addr) (len cap : Nat) (M : List ByteArray)
    (hs : a.eval (.tmp s) = v) (hx : a.eval (.tmp x) = .slice ad len cap) (hown : OwnT B w v L) (hlen : M.length = len) (hl : L.length + M.length ≤ 1000000) (ha : ad = none → cap = 0) (hI : TxsAt n₀ w ad M) (hB : B ≤ w.heap.size)
    (h : ∀ v' w', OwnT B w' v' (L ++ M) → w.grownBy w' v.ownBlock → (v'.ownBlock = v.ownBlock ∨ v'.ownBlock = some w.heap.size) → wpList Tryz.prog ops Q rest (a.put o.dst v') w') :
    wpList Tryz.prog ops Q (o :: rest) a w := by
  obtain ⟨i, hi, hz0, hz1, hz2⟩ := info_parts info_text
  subst hlen
  have hown' : w.ownsRow B 9 1 v L.length (L.map Value.string) := by
    have h0 := hown
    unfold OwnT Own1 at h0
    simpa using h0
  have at_ : ∀ y : Addr, ad = some y → (∀ j u, (M.map Value.string)[j]? = some u → w.cell? (y.add j) = some u) → wpList Tryz.prog ops Q (o :: rest) a w := fun y e hc => by
    refine wpList_append_own_at _ hgd (.tmp s) (.tmp x) 80 ho B 9 i _ 1 16 Tryz.underlying80 hi hz0 hz1 hz2 rfl (by decide) v L.length (L.map Value.string) hs hown' y M.length cap (M.map Value.string) (hx.trans (by rw [e])) (by simp) hc (fun u hu => ?_) (by unfold maxLen; omega) (by omega) hB ?_
    · obtain ⟨t, _, rfl⟩ := List.mem_map.1 hu
      rfl
    · intro v' w' h1 h2 _ h4
      refine h v' w' ?_ h2 h4
      unfold OwnT Own1
      rw [List.map_append]
      simpa using h1
  rcases hI with rfl | ⟨b, off, e, _, hcell⟩
  · cases ad with
    | none =>
      obtain rfl := ha rfl
      refine wpList_append_own_none hgd (.tmp s) (.tmp x) 80 ho B 9 i 1 Tryz.underlying80 hi v L.length (L.map Value.string) hs hown' hx ?_
      exact h v w (by simpa using hown) (World.grownBy.refl _ _) (.inl rfl)
    | some ad => exact at_ ad rfl (fun j u hj => by simp at hj)
  · refine at_ _ e (fun j u hj => ?_)
    have hj2 : j < M.length := by have := (List.getElem?_eq_some_iff.1 hj).1; simpa using this
    rw [Go.WideShapes.add_plain, hcell j hj2, ← hj]
    simp [List.getElem?_eq_getElem hj2]
end Go.Proofs.YthdicfcgkbepdaaGreatDoor
