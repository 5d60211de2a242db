/- Plain: messages as bytes: what is written is read; what is read was written. -/
import Derived.Test.YtgcnohejmofhkaaDoorMsg
import Derived.Test.YtgcnohejmofhkaaDoorSumsLaw
namespace Go.Proofs.YtgcnohejmofhkaaDoor.Wp
open Go.Proofs.YtgcnohejmofhkaaDoor

/-- eight bytes of a number. -/
def wrN (n : Nat) : List UInt8 := [UInt8.ofNat (n / 72057594037927936 % 256), UInt8.ofNat (n / 281474976710656 % 256), UInt8.ofNat (n / 1099511627776 % 256), UInt8.ofNat (n / 4294967296 % 256), UInt8.ofNat (n / 16777216 % 256), UInt8.ofNat (n / 65536 % 256), UInt8.ofNat (n / 256 % 256), UInt8.ofNat (n % 256)]
/-- what eight bytes tell. -/
def be8 (b0 b1 b2 b3 b4 b5 b6 b7 : UInt8) : Nat := ((((((b0.toNat * 256 + b1.toNat) * 256 + b2.toNat) * 256 + b3.toNat) * 256 + b4.toNat) * 256 + b5.toNat) * 256 + b6.toNat) * 256 + b7.toNat
def rdN : List UInt8 → Option (Nat × List UInt8)
  | b0 :: b1 :: b2 :: b3 :: b4 :: b5 :: b6 :: b7 :: r => if b0.toNat < 128 then some (be8 b0 b1 b2 b3 b4 b5 b6 b7, r) else none
  | _ => none
def wrT (t : List UInt8) : List UInt8 := wrN t.length ++ t
def rdT (l : List UInt8) : Option (List UInt8 × List UInt8) :=
  match rdN l with
  | some (n, r) => if n ≤ r.length then some (r.take n, r.drop n) else none
  | none => none
theorem u8_toNat (n : Nat) : (UInt8.ofNat (n % 256)).toNat = n % 256 := by
  rw [UInt8.toNat_ofNat']
  omega
theorem rdN_wrN {n : Nat} (h : n < 9223372036854775808) (r : List UInt8) : rdN (wrN n ++ r) = some (n, r) := by
  show (if (UInt8.ofNat (n / 72057594037927936 % 256)).toNat < 128 then _ else _) = _
  rw [u8_toNat, if_pos (by omega)]
  unfold be8
  simp only [u8_toNat]
  congr 2
  omega
theorem u8_eq {b : UInt8} {n : Nat} (h : n % 256 = b.toNat) : UInt8.ofNat (n % 256) = b := by
  rw [h]
  exact UInt8.ofNat_toNat
theorem wrN_rdN : ∀ {l : List UInt8} {n : Nat} {r : List UInt8}, rdN l = some (n, r) → l = wrN n ++ r ∧ n < 9223372036854775808
  | b0 :: b1 :: b2 :: b3 :: b4 :: b5 :: b6 :: b7 :: t, n, r, h => by
    have h : (if b0.toNat < 128 then some (be8 b0 b1 b2 b3 b4 b5 b6 b7, t) else none) = some (n, r) := h
    by_cases h0 : b0.toNat < 128
    · rw [if_pos h0] at h
      simp only [Option.some.injEq, Prod.mk.injEq] at h
      obtain ⟨hn, rfl⟩ := h
      unfold be8 at hn
      have l0 := b0.toNat_lt
      have l1 := b1.toNat_lt
      have l2 := b2.toNat_lt
      have l3 := b3.toNat_lt
      have l4 := b4.toNat_lt
      have l5 := b5.toNat_lt
      have l6 := b6.toNat_lt
      have l7 := b7.toNat_lt
      refine ⟨?_, by omega⟩
      unfold wrN
      rw [u8_eq (b := b0) (by omega), u8_eq (b := b1) (by omega), u8_eq (b := b2) (by omega), u8_eq (b := b3) (by omega), u8_eq (b := b4) (by omega), u8_eq (b := b5) (by omega), u8_eq (b := b6) (by omega), u8_eq (b := b7) (by omega)]
      rfl
    · rw [if_neg h0] at h; cases h
  | [], _, _, h => by cases h
  | [_], _, _, h => by cases h
  | [_, _], _, _, h => by cases h
  | [_, _, _], _, _, h => by cases h
  | [_, _, _, _], _, _, h => by cases h
  | [_, _, _, _, _], _, _, h => by cases h
  | [_, _, _, _, _, _], _, _, h => by cases h
  | [_, _, _, _, _, _, _], _, _, h => by cases h
theorem rdT_wrT {t : List UInt8} (h : t.length < 9223372036854775808) (r : List UInt8) : rdT (wrT t ++ r) = some (t, r) := by
  unfold rdT wrT
  rw [List.append_assoc, rdN_wrN h]
  simp
theorem wrT_rdT {l t r : List UInt8} (h : rdT l = some (t, r)) : l = wrT t ++ r ∧ t.length < 9223372036854775808 := by
  unfold rdT at h
  cases e : rdN l with
  | none => rw [e] at h; cases h
  | some p =>
    obtain ⟨n, q⟩ := p
    rw [e] at h
    dsimp only at h
    by_cases hn : n ≤ q.length
    · rw [if_pos hn] at h
      simp only [Option.some.injEq, Prod.mk.injEq] at h
      obtain ⟨rfl, rfl⟩ := h
      obtain ⟨rfl, h2⟩ := wrN_rdN e
      have h3 : (q.take n).length = n := by simp; omega
      refine ⟨?_, by omega⟩
      unfold wrT
      rw [h3, List.append_assoc, List.take_append_drop]
    · rw [if_neg hn] at h; cases h
/-- a version's five parts. -/
abbrev VerN := Nat × Nat × Nat × Nat × List UInt8
def wrV (v : VerN) : List UInt8 := wrN v.1 ++ (wrN v.2.1 ++ (wrN v.2.2.1 ++ (wrN v.2.2.2.1 ++ wrT v.2.2.2.2)))
def rdV (l : List UInt8) : Option (VerN × List UInt8) :=
  match rdN l with
  | none => none
  | some (a, l1) => match rdN l1 with
    | none => none
    | some (b, l2) => match rdN l2 with
      | none => none
      | some (c, l3) => match rdN l3 with
        | none => none
        | some (d, l4) => match rdT l4 with
          | none => none
          | some (t, l5) => some ((a, b, c, d, t), l5)
def VFits (v : VerN) : Prop := v.1 < 9223372036854775808 ∧ v.2.1 < 9223372036854775808 ∧ v.2.2.1 < 9223372036854775808 ∧ v.2.2.2.1 < 9223372036854775808 ∧ v.2.2.2.2.length < 9223372036854775808
theorem rdV_wrV {v : VerN} (h : VFits v) (r : List UInt8) : rdV (wrV v ++ r) = some (v, r) := by
  obtain ⟨a, b, c, d, t⟩ := v
  obtain ⟨h1, h2, h3, h4, h5⟩ := h
  unfold rdV wrV
  simp only [List.append_assoc]
  rw [rdN_wrN h1]
  dsimp only
  rw [rdN_wrN h2]
  dsimp only
  rw [rdN_wrN h3]
  dsimp only
  rw [rdN_wrN h4]
  dsimp only
  rw [rdT_wrT h5]
theorem wrV_rdV {l r : List UInt8} {v : VerN} (h : rdV l = some (v, r)) : l = wrV v ++ r ∧ VFits v := by
  unfold rdV at h
  cases e1 : rdN l with
  | none => rw [e1] at h; cases h
  | some p =>
    obtain ⟨a, l1⟩ := p
    rw [e1] at h
    dsimp only at h
    cases e2 : rdN l1 with
    | none => rw [e2] at h; cases h
    | some p =>
      obtain ⟨b, l2⟩ := p
      rw [e2] at h
      dsimp only at h
      cases e3 : rdN l2 with
      | none => rw [e3] at h; cases h
      | some p =>
        obtain ⟨c, l3⟩ := p
        rw [e3] at h
        dsimp only at h
        cases e4 : rdN l3 with
        | none => rw [e4] at h; cases h
        | some p =>
          obtain ⟨d, l4⟩ := p
          rw [e4] at h
          dsimp only at h
          cases e5 : rdT l4 with
          | none => rw [e5] at h; cases h
          | some p =>
            obtain ⟨t, l5⟩ := p
            rw [e5] at h
            dsimp only at h
            simp only [Option.some.injEq, Prod.mk.injEq] at h
            obtain ⟨rfl, rfl⟩ := h
            obtain ⟨rfl, g1⟩ := wrN_rdN e1
            obtain ⟨rfl, g2⟩ := wrN_rdN e2
            obtain ⟨rfl, g3⟩ := wrN_rdN e3
            obtain ⟨rfl, g4⟩ := wrN_rdN e4
            obtain ⟨rfl, g5⟩ := wrT_rdT e5
            refine ⟨?_, g1, g2, g3, g4, g5⟩
            unfold wrV
            simp only [List.append_assoc]
def wrVs (l : List VerN) : List UInt8 := l.flatMap wrV
/-- n versions are read. -/
def rdVs : Nat → List UInt8 → Option (List VerN × List UInt8)
  | 0, l => some ([], l)
  | n + 1, l => match rdV l with
    | none => none
    | some (v, r) => match rdVs n r with
      | none => none
      | some (vs, r2) => some (v :: vs, r2)
theorem rdVs_wrVs : ∀ {vs : List VerN}, (∀ v ∈ vs, VFits v) → ∀ r : List UInt8, rdVs vs.length (wrVs vs ++ r) = some (vs, r)
  | [], _, r => rfl
  | v :: vs, h, r => by
    unfold wrVs
    rw [List.flatMap_cons, List.append_assoc, List.length_cons]
    unfold rdVs
    rw [rdV_wrV (h v (List.mem_cons_self ..))]
    dsimp only
    have := rdVs_wrVs (fun x hx => h x (List.mem_cons_of_mem _ hx)) r
    unfold wrVs at this
    rw [this]
theorem wrVs_rdVs : ∀ {n : Nat} {l r : List UInt8} {vs : List VerN}, rdVs n l = some (vs, r) → l = wrVs vs ++ r ∧ vs.length = n ∧ ∀ v ∈ vs, VFits v
  | 0, l, r, vs, h => by
    unfold rdVs at h
    simp only [Option.some.injEq, Prod.mk.injEq] at h
    obtain ⟨rfl, rfl⟩ := h
    exact ⟨rfl, rfl, fun v hv => by cases hv⟩
  | n + 1, l, r, vs, h => by
    unfold rdVs at h
    cases e1 : rdV l with
    | none => rw [e1] at h; cases h
    | some p =>
      obtain ⟨v, r1⟩ := p
      rw [e1] at h
      dsimp only at h
      cases e2 : rdVs n r1 with
      | none => rw [e2] at h; cases h
      | some p =>
        obtain ⟨vs1, r2⟩ := p
        rw [e2] at h
        dsimp only at h
        simp only [Option.some.injEq, Prod.mk.injEq] at h
        obtain ⟨rfl, rfl⟩ := h
        obtain ⟨rfl, g1⟩ := wrV_rdV e1
        obtain ⟨rfl, g2, g3⟩ := wrVs_rdVs e2
        refine ⟨?_, by rw [List.length_cons, g2], fun x hx => ?_⟩
        · unfold wrVs
          rw [List.flatMap_cons, List.append_assoc]
        · rcases List.mem_cons.1 hx with rfl | hx
          · exact g1
          · exact g3 x hx
/-- a message's parts: four texts, op, configuration, sealed, versions. -/
structure MsgN where
  fr : List UInt8
  dst : List UInt8
  kind : List UInt8
  key : List UInt8
  op : Nat
  cf : Nat
  sl : Nat
  L : List VerN
def wrH (m : MsgN) : List UInt8 := wrT m.fr ++ (wrT m.dst ++ (wrT m.kind ++ (wrT m.key ++ (wrN m.op ++ (wrN m.cf ++ (wrN m.sl ++ wrN m.L.length))))))
def wrM (m : MsgN) : List UInt8 := wrH m ++ wrVs m.L
/-- the head of a message: all but its versions; how many of them. -/
def rdH (l : List UInt8) : Option ((List UInt8 × List UInt8 × List UInt8 × List UInt8 × Nat × Nat × Nat × Nat) × List UInt8) :=
  match rdT l with
  | none => none
  | some (a, l1) => match rdT l1 with
    | none => none
    | some (b, l2) => match rdT l2 with
      | none => none
      | some (c, l3) => match rdT l3 with
        | none => none
        | some (d, l4) => match rdN l4 with
          | none => none
          | some (e, l5) => match rdN l5 with
            | none => none
            | some (f, l6) => match rdN l6 with
              | none => none
              | some (g, l7) => match rdN l7 with
                | none => none
                | some (h, l8) => some ((a, b, c, d, e, f, g, h), l8)
structure MFits (m : MsgN) : Prop where
  fr : m.fr.length < 9223372036854775808
  dst : m.dst.length < 9223372036854775808
  kind : m.kind.length < 9223372036854775808
  key : m.key.length < 9223372036854775808
  op : m.op < 9223372036854775808
  cf : m.cf < 9223372036854775808
  sl : m.sl < 9223372036854775808
  len : m.L.length < 9223372036854775808
  L : ∀ v ∈ m.L, VFits v
theorem rdH_wrH {m : MsgN} (h : MFits m) (r : List UInt8) : rdH (wrH m ++ r) = some ((m.fr, m.dst, m.kind, m.key, m.op, m.cf, m.sl, m.L.length), r) := by
  unfold rdH wrH
  simp only [List.append_assoc]
  rw [rdT_wrT h.fr]
  dsimp only
  rw [rdT_wrT h.dst]
  dsimp only
  rw [rdT_wrT h.kind]
  dsimp only
  rw [rdT_wrT h.key]
  dsimp only
  rw [rdN_wrN h.op]
  dsimp only
  rw [rdN_wrN h.cf]
  dsimp only
  rw [rdN_wrN h.sl]
  dsimp only
  rw [rdN_wrN h.len]
/-- all of a message, and nothing behind it. -/
def rdM (l : List UInt8) : Option MsgN :=
  match rdH l with
  | none => none
  | some ((a, b, c, d, e, f, g, h), l8) => match rdVs h l8 with
    | none => none
    | some (vs, r) => if r = [] ∧ g < 2 then some ⟨a, b, c, d, e, f, g, vs⟩ else none
theorem rdM_wrM {m : MsgN} (h : MFits m) (h2 : m.sl < 2) : rdM (wrM m) = some m := by
  unfold rdM wrM
  rw [rdH_wrH h]
  dsimp only
  have := rdVs_wrVs h.L []
  rw [List.append_nil] at this
  rw [this]
  dsimp only
  rw [if_pos ⟨rfl, h2⟩]
theorem wrM_rdM {l : List UInt8} {m : MsgN} (h : rdM l = some m) : l = wrM m ∧ MFits m ∧ m.sl < 2 := by
  unfold rdM at h
  cases e0 : rdH l with
  | none => rw [e0] at h; cases h
  | some p =>
    obtain ⟨⟨a, b, c, d, e, f, g, k⟩, l8⟩ := p
    rw [e0] at h
    dsimp only at h
    cases e9 : rdVs k l8 with
    | none => rw [e9] at h; cases h
    | some p =>
      obtain ⟨vs, r⟩ := p
      rw [e9] at h
      dsimp only at h
      by_cases hr : r = [] ∧ g < 2
      · rw [if_pos hr] at h
        obtain ⟨rfl, hg⟩ := hr
        obtain rfl := Option.some.inj h
        obtain ⟨rfl, hk, hv⟩ := wrVs_rdVs e9
        subst hk
        rw [List.append_nil] at e0
        unfold rdH at e0
        cases e1 : rdT l with
        | none => rw [e1] at e0; cases e0
        | some p =>
          obtain ⟨a', l1⟩ := p
          rw [e1] at e0
          dsimp only at e0
          cases e2 : rdT l1 with
          | none => rw [e2] at e0; cases e0
          | some p =>
            obtain ⟨b', l2⟩ := p
            rw [e2] at e0
            dsimp only at e0
            cases e3 : rdT l2 with
            | none => rw [e3] at e0; cases e0
            | some p =>
              obtain ⟨c', l3⟩ := p
              rw [e3] at e0
              dsimp only at e0
              cases e4 : rdT l3 with
              | none => rw [e4] at e0; cases e0
              | some p =>
                obtain ⟨d', l4⟩ := p
                rw [e4] at e0
                dsimp only at e0
                cases e5 : rdN l4 with
                | none => rw [e5] at e0; cases e0
                | some p =>
                  obtain ⟨n5, l5⟩ := p
                  rw [e5] at e0
                  dsimp only at e0
                  cases e6 : rdN l5 with
                  | none => rw [e6] at e0; cases e0
                  | some p =>
                    obtain ⟨n6, l6⟩ := p
                    rw [e6] at e0
                    dsimp only at e0
                    cases e7 : rdN l6 with
                    | none => rw [e7] at e0; cases e0
                    | some p =>
                      obtain ⟨n7, l7⟩ := p
                      rw [e7] at e0
                      dsimp only at e0
                      cases e8 : rdN l7 with
                      | none => rw [e8] at e0; cases e0
                      | some p =>
                        obtain ⟨n8, l8⟩ := p
                        rw [e8] at e0
                        dsimp only at e0
                        simp only [Option.some.injEq, Prod.mk.injEq] at e0
                        obtain ⟨⟨rfl, rfl, rfl, rfl, rfl, rfl, rfl, rfl⟩, rfl⟩ := e0
                        obtain ⟨rfl, g1⟩ := wrT_rdT e1
                        obtain ⟨rfl, g2⟩ := wrT_rdT e2
                        obtain ⟨rfl, g3⟩ := wrT_rdT e3
                        obtain ⟨rfl, g4⟩ := wrT_rdT e4
                        obtain ⟨rfl, g5⟩ := wrN_rdN e5
                        obtain ⟨rfl, g6⟩ := wrN_rdN e6
                        obtain ⟨rfl, g7⟩ := wrN_rdN e7
                        obtain ⟨rfl, g8⟩ := wrN_rdN e8
                        refine ⟨?_, ⟨g1, g2, g3, g4, g5, g6, g7, g8, hv⟩, hg⟩
                        unfold wrM wrH
                        simp only [List.append_assoc]
      · rw [if_neg hr] at h; cases h
theorem wrN_length (n : Nat) : (wrN n).length = 8 := rfl
end Go.Proofs.YtgcnohejmofhkaaDoor.Wp
