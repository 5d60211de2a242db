/- The walk of coder.Agree. -/
import Derived.Test.YtfojimaafhpgbaaDoorCodG
import Derived.Test.YtfojimaafhpgbaaDoorCodH
import Derived.Test.YtfojimaafhpgbaaDoorCodC
namespace Go.Proofs.YtfojimaafhpgbaaDoor
open Go.RowKit

/-- the object that shards tell. -/
def decT (k size : Nat) (l : List Sh) : ByteArray := textOf (decF (pickS k l) k (wideN k size)) size
theorem decT_size (k size : Nat) (l : List Sh) : (decT k size l).size = size := textOf_size _ _
/-- what Agree answers. -/
def AgrOut (w w' : World) (n k size : Nat) (l : List Sh) (e2 e7 : Value) (e : Ending) : Prop := Below w.heap.size w w' ∧
  ((¬ (∀ s ∈ l, GoodS n (wideN k size) s) ∧ e = .returned (.tuple #[.bool false, e2])) ∨ ((∀ s ∈ l, GoodS n (wideN k size) s) ∧ (pickS k l).length < k ∧ e = .returned (.tuple #[.bool false, e7])) ∨
    ((∀ s ∈ l, GoodS n (wideN k size) s) ∧ (pickS k l).length = k ∧ e = .returned (.tuple #[.bool (agreeB l (encT k (decT k size l))), .nilIface])))
set_option maxRecDepth 100000 in
set_option maxHeartbeats 8000000 in
theorem agree_walk (n₀ n k size : Nat) (a : Option Addr) (cap : Nat) (l : List Sh) (w : World) (E : Nat → Addr) (hE : ErrEf w E)
    (hk : 1 ≤ k) (hkn : k ≤ n) (hn : n ≤ 12) (hs : size ≤ 1000) (hl : l.length ≤ maxLen) (hn₀ : n₀ ≤ w.heap.size) (hI : ShR n₀ w a l) :
    Calls Tryd.prog 64 #[.int .i64 n, .int .i64 k, .int .i64 size, .slice a l.length cap] w fun e w' => AgrOut w w' n k size l (errV (E 2)) (errV (E 7)) e := by
  have Hd := Lib.hid (decode_walk n₀ n k size a cap l w E hE hk hkn hn hs hl hn₀ hI)
  have HE := Lib.hid hE
  obtain ⟨len, hlen⟩ : ∃ len, l.length = len := ⟨_, rfl⟩
  have Hlen := Lib.hid (And.intro hlen hl)
  have HI := Lib.hid hI
  rw [hlen] at Hd ⊢
  clear hE hlen hl hI
  go_enter Tryd.func64, Tryd.ntmps64
  go_wp2_with fail
  refine Hd.out.mono ?_
  rintro e w1 ⟨hb1, hres⟩
  have H1 := Lib.hid hb1
  clear hb1
  rcases hres with ⟨hbad, rfl⟩ | ⟨hall, hfew, rfl⟩ | ⟨hall, hpl, rfl⟩
  · have Hx := Lib.hid hbad
    clear hbad
    go_wp2
    go_ret2
    exact ⟨H1.out, .inl ⟨Hx.out, rfl⟩⟩
  · have Hx := Lib.hid (And.intro hall hfew)
    clear hall hfew
    go_wp2
    go_ret2
    exact ⟨H1.out, .inr (.inl ⟨Hx.out.1, Hx.out.2, rfl⟩)⟩
  · have hgd : ∀ s ∈ l, 0 ≤ s.1 ∧ s.1 < n := fun s hs => ⟨(hall s hs).1, (hall s hs).2.1⟩
    have Hall := Lib.hid (And.intro hall (And.intro hpl hgd))
    obtain ⟨S, hS⟩ : ∃ S, textOf (decF (pickS k l) k (wideN k size)) size = S := ⟨_, rfl⟩
    have hSs : S.size = size := by rw [← hS]; exact textOf_size _ _
    rw [hS]
    have HS := Lib.hid (And.intro hS hSs)
    clear hall hpl hgd hS hSs
    go_wp2_with fail
    refine (encode_walk n k S w1 E (HE.out.below H1.out (Nat.le_refl _)).ez hk hkn hn (by have := HS.out.2; omega)).mono ?_
    rintro e w2 ⟨⟨v, rfl, hv⟩, hb2⟩
    obtain ⟨g, c, hve, _, hg, _, hc⟩ := hv.at_ (by rw [encL_length]; omega)
    rw [encL_length] at hve hc
    rw [hve]
    have hb12 := H1.out.trans (hb2.mono H1.out.size)
    have hbA : Below w.heap.size w (w2.alloc (.cells #[.slice (some ⟨g, 0, none⟩) n c] 81)) := hb12.alloc hb12.size _
    have hbB : Below w2.heap.size w2 (w2.alloc (.cells #[.slice (some ⟨g, 0, none⟩) n c] 81)) := (Below.refl _ _).alloc (Nat.le_refl _) _
    have hA : AllS (w2.alloc (.cells #[.slice (some ⟨g, 0, none⟩) n c] 81)) w2.heap.size g n c (encT k S) := ⟨by simp, fun i hi => by
      refine (hbB.cell (by exact hg)).trans ?_
      have := (hc i hi).1
      rwa [encL_at _ _ _ hi] at this, fun i hi => by
      refine (hbB.cell (by exact hg)).trans ?_
      have := (hc i hi).2
      rwa [encL_at _ _ _ hi] at this⟩
    have Hc := Lib.hid (agreeC_walk n₀ a cap n c w2.heap.size g l (encT k S) (w2.alloc (.cells #[.slice (some ⟨g, 0, none⟩) n c] 81)) Hlen.out.2 (Nat.le_trans hn₀ hbA.size) (HI.out.below (hbA.mono hn₀)) hA Hall.out.2.2)
    have HA := Lib.hid hbA
    rw [Hlen.out.1] at Hc
    clear hve hv hg hc hb12 hbA hbB hA hb2
    go_wp2_with fail
    refine Hc.out.mono ?_
    rintro e w3 ⟨rfl, hb3⟩
    have HB := Lib.hid (HA.out.trans (hb3.mono HA.out.size))
    clear hb3
    obtain ⟨r, hr⟩ : ∃ r, agreeB l (encT k S) = r := ⟨_, rfl⟩
    have Hr := Lib.hid hr
    rw [hr]
    clear hr
    go_wp2
    go_ret2
    refine ⟨HB.out, .inr (.inr ⟨Hall.out.1, Hall.out.2.1, ?_⟩)⟩
    unfold decT
    rw [HS.out.1, Hr.out]
    simp
end Go.Proofs.YtfojimaafhpgbaaDoor
