/- The walk of coder.Rebuild, at a place that is. -/
import Derived.Test.YtfojimaafhpgbaaDoorCodI
namespace Go.Proofs.YtfojimaafhpgbaaDoor
open Go.RowKit

/-- no shard. -/
def shZ : Value := .agg #[.int .i64 0, .string ⟨#[]⟩]
/-- what Rebuild answers. -/
def RebOut (w w' : World) (n k size a : Nat) (l : List Sh) (e2 e7 : Value) (e : Ending) : Prop := Below w.heap.size w w' ∧
  ((¬ (∀ s ∈ l, GoodS n (wideN k size) s) ∧ e = .returned (.tuple #[shZ, e2])) ∨ ((∀ s ∈ l, GoodS n (wideN k size) s) ∧ (pickS k l).length < k ∧ e = .returned (.tuple #[shZ, e7])) ∨
    ((∀ s ∈ l, GoodS n (wideN k size) s) ∧ (pickS k l).length = k ∧ e = .returned (.tuple #[.agg #[.int .i64 a, .string (encT k (decT k size l) a)], .nilIface])))
theorem shZ_cells (w : World) : (w.alloc (.cells #[.int .i64 0, .string ⟨#[]⟩] 85)).cell? ⟨w.heap.size, 0, none⟩ = some (.int .i64 0) ∧ (w.alloc (.cells #[.int .i64 0, .string ⟨#[]⟩] 85)).cell? ⟨w.heap.size, 1, none⟩ = some (.string ⟨#[]⟩) ∧
    (∀ j, (w.alloc (.cells #[.int .i64 0, .string ⟨#[]⟩] 85)).frozen? ⟨w.heap.size, j, none⟩ = false) ∧ w.heap.size < (w.alloc (.cells #[.int .i64 0, .string ⟨#[]⟩] 85)).heap.size := by
  refine ⟨by simp, by simp, fun j => ?_, by simp⟩
  unfold World.frozen?
  rw [heap_alloc_new]
  simp
set_option maxRecDepth 100000 in
set_option maxHeartbeats 8000000 in
theorem rebuild_walk (n₀ n k size p : Nat) (a : Option Addr) (cap : Nat) (l : List Sh) (w : World) (E : Nat → Addr) (hE : ErrEf w E)
    (hk : 1 ≤ k) (hkn : k ≤ n) (hn : n ≤ 12) (hs : size ≤ 1000) (hp : p < n) (hl : l.length ≤ maxLen) (hn₀ : n₀ ≤ w.heap.size) (hI : ShR n₀ w a l) :
    Calls Tryd.prog 66 #[.int .i64 n, .int .i64 k, .int .i64 size, .int .i64 p, .slice a l.length cap] w fun e w' => RebOut w w' n k size p l (errV (E 2)) (errV (E 7)) e := by
  obtain ⟨z0, z1, zf, zb⟩ := shZ_cells w
  have hB0 : Below w.heap.size w (w.alloc (.cells #[.int .i64 0, .string ⟨#[]⟩] 85)) := (Below.refl _ w).alloc (Nat.le_refl _) _
  have hE0 := hE.below hB0 (Nat.le_refl _)
  have Hd := Lib.hid (decode_walk n₀ n k size a cap l _ E hE0 hk hkn hn hs hl (Nat.le_trans hn₀ hB0.size) (hI.below (hB0.mono hn₀)))
  have HE := Lib.hid hE0
  have HZ := Lib.hid (And.intro z0 (And.intro z1 (And.intro zf (And.intro zb hB0))))
  obtain ⟨len, hlen⟩ : ∃ len, l.length = len := ⟨_, rfl⟩
  rw [hlen] at Hd ⊢
  have g1 : ¬ (p : Int) < 0 := by omega
  have g2 : ¬ (n : Int) ≤ p := by omega
  have g2d : decide (n ≤ p) = false := by simp; omega
  clear hE hlen hl hI z0 z1 zf zb hB0 hE0
  go_enter Tryd.func66, Tryd.ntmps66
  go_wp2_with fail
  refine Hd.out.mono ?_
  rintro e w1 ⟨hb1, hres⟩
  have hw1 : Below w.heap.size w w1 := HZ.out.2.2.2.2.trans (hb1.mono HZ.out.2.2.2.2.size)
  have f0 := (hb1.cell (p := ⟨w.heap.size, 0, none⟩) HZ.out.2.2.2.1).trans HZ.out.1
  have f1 := (hb1.cell (p := ⟨w.heap.size, 1, none⟩) HZ.out.2.2.2.1).trans HZ.out.2.1
  have ff : ∀ j, w1.frozen? ⟨w.heap.size, j, none⟩ = false := fun j => by
    have h1 := hb1.block w.heap.size HZ.out.2.2.2.1
    have h2 := HZ.out.2.2.1 j
    unfold World.frozen? at h2 ⊢
    rw [h1]; exact h2
  have ff0 := ff 0
  have ff1 := ff 1
  have H1 := Lib.hid (And.intro hw1 (And.intro hb1 ff))
  clear hb1 hw1 ff
  have hBs := fun (w1 : World) (h : Below w.heap.size w w1) (u v : Value) => Lib.hid ((h.setCell (p := ⟨w.heap.size, 0, none⟩) (Nat.le_refl _) u).setCell (p := ⟨w.heap.size, 1, none⟩) (Nat.le_refl _) v)
  have HBs := Lib.hid hBs
  clear hBs
  rcases hres with ⟨hbad, rfl⟩ | ⟨hall, hfew, rfl⟩ | ⟨hall, hpl, rfl⟩
  · have Hx := Lib.hid hbad
    clear hbad
    go_wp2
    exact bodyPost_ret (v := .tuple #[shZ, errV (E 2)]) (by simp [results, Tryd.results66, shZ, f0, f1, go_sem]) rfl ⟨(HBs.out w1 H1.out.1 _ _).out, .inl ⟨Hx.out, rfl⟩⟩
  · have Hx := Lib.hid (And.intro hall hfew)
    clear hall hfew
    go_wp2
    exact bodyPost_ret (v := .tuple #[shZ, errV (E 7)]) (by simp [results, Tryd.results66, shZ, f0, f1, go_sem]) rfl ⟨(HBs.out w1 H1.out.1 _ _).out, .inr (.inl ⟨Hx.out.1, Hx.out.2, rfl⟩)⟩
  · have Hall := Lib.hid (And.intro hall hpl)
    obtain ⟨S, hS⟩ : ∃ S, textOf (decF (pickS k l) k (wideN k size)) size = S := ⟨_, rfl⟩
    have hSs : S.size = size := by rw [← hS]; exact textOf_size _ _
    rw [hS]
    have HS := Lib.hid (And.intro hS hSs)
    clear hall hpl hS hSs
    go_wp2_with fail
    refine (encode_walk n k S w1 E (HE.out.below H1.out.2.1 (Nat.le_refl _)).ez hk hkn hn (by have := HS.out.2; omega)).mono ?_
    rintro e w2 ⟨⟨v, rfl, hv⟩, hb2⟩
    obtain ⟨g, c, hve, hg0, hg, _, hc⟩ := hv.at_ (by rw [encL_length]; omega)
    rw [encL_length] at hve hc
    rw [hve]
    have hb1 := H1.out.2.1.size
    have hzl : w.heap.size < w1.heap.size := Nat.lt_of_lt_of_le HZ.out.2.2.2.1 hb1
    have q0 := (hb2.cell (p := ⟨w.heap.size, 0, none⟩) hzl).trans f0
    have q1 := (hb2.cell (p := ⟨w.heap.size, 1, none⟩) hzl).trans f1
    have qf : ∀ j, w2.frozen? ⟨w.heap.size, j, none⟩ = false := fun j => by
      have h1 := hb2.block w.heap.size hzl
      have h2 := H1.out.2.2 j
      unfold World.frozen? at h2 ⊢
      rw [h1]; exact h2
    have qf0 := qf 0
    have qf1 := qf 1
    have h1 := (hc p hp).1
    have h2 := (hc p hp).2
    rw [encL_at _ _ _ hp] at h1 h2
    have HB := Lib.hid (H1.out.1.trans (hb2.mono H1.out.1.size))
    obtain ⟨T, hT⟩ : ∃ T, encT k S p = T := ⟨_, rfl⟩
    simp only [hT] at h1 h2
    have HT := Lib.hid hT
    have hgp : (⟨w.heap.size, 0, none⟩ : Addr) ≠ ⟨g, p * 2 + 1, none⟩ := fun h => by have := (Addr.mk.inj h).1; omega
    clear hve hv hg0 hg hc hb1 hzl qf hT hb2 f0 f1 ff0 ff1
    go_wp2
    refine bodyPost_ret (v := .tuple #[.agg #[.int .i64 p, .string T], .nilIface]) (by simp [results, Tryd.results66, q0, q1, go_sem]) rfl ⟨(HBs.out w2 HB.out _ _).out, .inr (.inr ⟨Hall.out.1, Hall.out.2, ?_⟩)⟩
    unfold decT
    rw [HS.out.1, HT.out]
end Go.Proofs.YtfojimaafhpgbaaDoor
