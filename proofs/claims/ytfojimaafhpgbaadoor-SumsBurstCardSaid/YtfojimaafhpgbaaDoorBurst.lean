/- Plain law: a burst of at most 32 bits turns the CRC. -/
import Derived.Test.YtfojimaafhpgbaaDoorSumsLaw
namespace Go.Proofs.YtfojimaafhpgbaaDoor
namespace Sm
theorem cstep_xor (a b : Nat) : cstep (a ^^^ b) = cstep a ^^^ cstep b := by
  unfold cstep
  have h2 : (a ^^^ b) / 2 = a / 2 ^^^ b / 2 := by
    have := Nat.shiftRight_xor_distrib (a := a) (b := b) (i := 1)
    simpa [Nat.shiftRight_eq_div_pow] using this
  have hm : (a ^^^ b) % 2 = a % 2 ^^^ b % 2 := by
    have := Nat.xor_mod_two_pow (a := a) (b := b) (n := 1)
    simpa using this
  have hp : 3988292384 * (a % 2 ^^^ b % 2) = (3988292384 * (a % 2)) ^^^ (3988292384 * (b % 2)) := by
    rcases Nat.mod_two_eq_zero_or_one a with h | h <;> rcases Nat.mod_two_eq_zero_or_one b with h' | h' <;> rw [h, h'] <;> simp
  rw [h2, hm, hp]
  ac_rfl
theorem cstep_two (b : Nat) : cstep (2 * b) = b := by
  unfold cstep
  rw [Nat.mul_div_cancel_left _ (by decide), Nat.mul_mod_right]
  simp
theorem cstepN_xor : ∀ (n a b : Nat), cstepN n (a ^^^ b) = cstepN n a ^^^ cstepN n b
  | 0, _, _ => rfl
  | n + 1, a, b => by
    show cstepN n (cstep (a ^^^ b)) = _
    rw [cstep_xor, cstepN_xor n]; rfl
theorem cstepN_pow : ∀ (n b : Nat), cstepN n (2 ^ n * b) = b
  | 0, b => by simp [cstepN]
  | n + 1, b => by
    show cstepN n (cstep _) = _
    rw [Nat.pow_succ, Nat.mul_comm (2 ^ n) 2, Nat.mul_assoc, cstep_two, cstepN_pow n]
theorem cstepN_add : ∀ (m n c : Nat), cstepN (m + n) c = cstepN n (cstepN m c)
  | 0, n, c => by rw [Nat.zero_add]; rfl
  | m + 1, n, c => by
    rw [Nat.add_right_comm]
    exact cstepN_add m n (cstep c)
theorem cstep_ne {c : Nat} (h : c < 4294967296) (h0 : c ≠ 0) : cstep c ≠ 0 := by
  unfold cstep
  intro he
  have he2 : c / 2 = 3988292384 * (c % 2) := by
    have := congrArg (fun x => x ^^^ (3988292384 * (c % 2))) he
    simpa [Nat.xor_assoc] using this
  omega
theorem cstepN_ne : ∀ (n : Nat) {c : Nat}, c < 4294967296 → c ≠ 0 → cstepN n c ≠ 0
  | 0, _, _, h => h
  | n + 1, _, h, h0 => cstepN_ne n (cstep_lt h) (cstep_ne h h0)
/-- byte j of a number. -/
def byteAt (D j : Nat) : Nat := D / 256 ^ j % 256
theorem split256 (x : Nat) : x = (x % 256) ^^^ (256 * (x / 256)) := by
  have h : 256 * (x / 256) + x % 256 = (256 * (x / 256)) ||| (x % 256) := by
    have := Nat.two_pow_add_eq_or_of_lt (i := 8) (b := x % 256) (Nat.mod_lt _ (by decide)) (x / 256)
    simpa using this
  apply Nat.eq_of_testBit_eq
  intro i
  rw [Nat.testBit_xor]
  have h1 : (256 * (x / 256)).testBit i = (decide (8 ≤ i) && (x / 256).testBit (i - 8)) := by
    have := Nat.testBit_two_pow_mul (a := x / 256) (i := 8) (j := i)
    simpa using this
  have h2 : (x % 256).testBit i = (decide (i < 8) && x.testBit i) := by
    have := Nat.testBit_mod_two_pow x 8 i
    simpa using this
  have h3 : (x / 256).testBit (i - 8) = x.testBit (8 + (i - 8)) := by
    have := Nat.testBit_div_two_pow (n := 8) x (i - 8)
    rw [show (256 : Nat) = 2 ^ 8 from rfl, this, Nat.add_comm]
  rw [h1, h2, h3]
  by_cases h8 : i < 8
  · simp [h8, Nat.not_le.2 h8]
  · have : 8 ≤ i := Nat.not_lt.1 h8
    simp [h8, this, Nat.add_sub_cancel' this]
theorem crc_burst {l l' : List Nat} {D : Nat} {n : Nat} (h : ∀ j, j < n → l'[j]?.getD 0 = l[j]?.getD 0 ^^^ byteAt D j) :
    ∀ k, k ≤ n → crcN l' k ^^^ (D / 256 ^ k) = crcN l k ^^^ cstepN (8 * k) D
  | 0, _ => by simp [crcN, cstepN]
  | k + 1, hk => by
    have ih := crc_burst h k (by omega)
    have e := split256 (D / 256 ^ k)
    have ed : D / 256 ^ k / 256 = D / 256 ^ (k + 1) := by rw [Nat.div_div_eq_div_mul, Nat.pow_succ]
    rw [ed] at e
    show cstepN 8 (crcN l' k ^^^ l'[k]?.getD 0) ^^^ _ = cstepN 8 (crcN l k ^^^ l[k]?.getD 0) ^^^ _
    rw [show 8 * (k + 1) = 8 * k + 8 by omega, cstepN_add, ← cstepN_xor, h k (by omega)]
    have e8 : D / 256 ^ (k + 1) = cstepN 8 (256 * (D / 256 ^ (k + 1))) := (cstepN_pow 8 _).symm
    have step : cstepN 8 (crcN l' k ^^^ (l[k]?.getD 0 ^^^ byteAt D k)) ^^^ D / 256 ^ (k + 1) = cstepN 8 ((crcN l' k ^^^ (l[k]?.getD 0 ^^^ byteAt D k)) ^^^ (256 * (D / 256 ^ (k + 1)))) := by
      rw [cstepN_xor 8 _ (256 * _), ← e8]
    rw [step]
    congr 1
    have e2 : byteAt D k ^^^ (256 * (D / 256 ^ (k + 1))) = D / 256 ^ k := e.symm
    calc crcN l' k ^^^ (l[k]?.getD 0 ^^^ byteAt D k) ^^^ (256 * (D / 256 ^ (k + 1)))
        = (crcN l' k ^^^ (byteAt D k ^^^ (256 * (D / 256 ^ (k + 1))))) ^^^ l[k]?.getD 0 := by ac_rfl
      _ = (crcN l k ^^^ cstepN (8 * k) D) ^^^ l[k]?.getD 0 := by rw [e2, ih]
      _ = crcN l k ^^^ l[k]?.getD 0 ^^^ cstepN (8 * k) D := by ac_rfl
/-- the bits that are turned, i of them looked at. -/
def turned (burst at' n8 : Nat) : Nat → Nat
  | 0 => 0
  | i + 1 => if burst / 2 ^ i % 2 = 1 ∧ at' + i < n8 then turned burst at' n8 i ^^^ 2 ^ i else turned burst at' n8 i
theorem turned_lt (b a n : Nat) : ∀ i, turned b a n i < 2 ^ i
  | 0 => by simp [turned]
  | i + 1 => by
    have h := turned_lt b a n i
    have hp : 2 ^ i < 2 ^ (i + 1) := Nat.pow_lt_pow_right (by decide) (by omega)
    unfold turned
    split
    · exact Nat.xor_lt_two_pow (Nat.lt_trans h hp) hp
    · exact Nat.lt_trans h hp
theorem xor_mul_pow (x y n : Nat) : (x ^^^ y) * 2 ^ n = x * 2 ^ n ^^^ y * 2 ^ n := by
  have := Nat.shiftLeft_xor_distrib (a := x) (b := y) (i := n)
  simpa [Nat.shiftLeft_eq] using this
theorem turned_in (b a n : Nat) : ∀ i, turned b a n i * 2 ^ a < 2 ^ n
  | 0 => by simp [turned, Nat.two_pow_pos]
  | i + 1 => by
    have h := turned_in b a n i
    unfold turned
    split
    · rename_i hc
      rw [xor_mul_pow, ← Nat.pow_add]
      exact Nat.xor_lt_two_pow h (Nat.pow_lt_pow_right (by decide) (by omega))
    · exact h
theorem byteAt_xor (D m j : Nat) : byteAt (D ^^^ 2 ^ m) j = if j = m / 8 then byteAt D j ^^^ 2 ^ (m % 8) else byteAt D j := by
  have hx : byteAt (D ^^^ 2 ^ m) j = byteAt D j ^^^ byteAt (2 ^ m) j := by
    unfold byteAt
    have e : (256 : Nat) ^ j = 2 ^ (8 * j) := by rw [Nat.pow_mul]
    have h1 := Nat.shiftRight_xor_distrib (a := D) (b := 2 ^ m) (i := 8 * j)
    have h2 := Nat.xor_mod_two_pow (a := D / 2 ^ (8 * j)) (b := 2 ^ m / 2 ^ (8 * j)) (n := 8)
    rw [Nat.shiftRight_eq_div_pow, Nat.shiftRight_eq_div_pow, Nat.shiftRight_eq_div_pow] at h1
    rw [e, h1]
    exact h2
  have hb : byteAt (2 ^ m) j = if j = m / 8 then 2 ^ (m % 8) else 0 := by
    unfold byteAt
    have e : (256 : Nat) ^ j = 2 ^ (8 * j) := by rw [Nat.pow_mul]
    rw [e]
    by_cases h : m < 8 * j
    · rw [Nat.div_eq_of_lt (Nat.pow_lt_pow_right (by decide) h), if_neg (by omega)]
    · have em : 2 ^ m = 2 ^ (8 * j) * 2 ^ (m - 8 * j) := by rw [← Nat.pow_add]; congr 1; omega
      rw [em, Nat.mul_div_cancel_left _ (Nat.two_pow_pos _)]
      by_cases h8 : m - 8 * j < 8
      · rw [if_pos (by omega), show m % 8 = m - 8 * j by omega]
        exact Nat.mod_eq_of_lt (Nat.lt_of_lt_of_le (Nat.pow_lt_pow_right (by decide) h8) (Nat.le_refl _))
      · rw [if_neg (by omega), show m - 8 * j = 8 + (m - 8 * j - 8) by omega, Nat.pow_add]
        exact Nat.mul_mod_right _ _
  rw [hx, hb]
  split <;> simp
theorem byteAt_lt (D j : Nat) : byteAt D j < 256 := Nat.mod_lt _ (by decide)
theorem byteAt_high {D n j : Nat} (h : D < 2 ^ (8 * n)) (hj : n ≤ j) : byteAt D j = 0 := by
  unfold byteAt
  have e : (256 : Nat) ^ j = 2 ^ (8 * j) := by rw [Nat.pow_mul]
  rw [e, Nat.div_eq_of_lt (Nat.lt_of_lt_of_le h (Nat.pow_le_pow_right (by decide) (by omega)))]
/-- the text with the bits turned. -/
def flipB (q : ByteArray) (D : Nat) : ByteArray := ⟨((nats q).mapIdx fun j x => UInt8.ofNat (x ^^^ byteAt D j)).toArray⟩
theorem flip_size (q : ByteArray) (D : Nat) : (flipB q D).size = q.size := by
  show (List.toArray _).size = _
  simp [nats]
theorem flip_nats (q : ByteArray) (D j : Nat) (h : j < q.size) : (nats (flipB q D))[j]?.getD 0 = (nats q)[j]?.getD 0 ^^^ byteAt D j := by
  have hl : j < (nats q).length := by rwa [nats_length]
  have hlt := nats_lt q j
  rw [List.getElem?_eq_getElem hl] at hlt ⊢
  have hd : (nats (flipB q D))[j]? = some ((nats q)[j] ^^^ byteAt D j) := by
    show (List.map UInt8.toNat (((nats q).mapIdx fun j x => UInt8.ofNat (x ^^^ byteAt D j)).toArray).toList)[j]? = _
    rw [List.getElem?_map, List.getElem?_mapIdx, List.getElem?_eq_getElem hl]
    simp only [Option.map_some, UInt8.toNat_ofNat']
    congr 1
    exact Nat.mod_eq_of_lt (Nat.xor_lt_two_pow (n := 8) hlt (byteAt_lt _ _))
  rw [hd]
  rfl
theorem nats_inj {a b : ByteArray} (h : a.size = b.size) (hn : ∀ j, j < a.size → (nats a)[j]?.getD 0 = (nats b)[j]?.getD 0) : a = b := by
  apply data_inj
  apply List.ext_getElem
  · simpa using h
  intro j h1 h2
  have h1' : j < a.size := by simpa using h1
  have h2' : j < b.size := by simpa using h2
  have := hn j h1'
  rw [nats_at h1', nats_at h2'] at this
  exact UInt8.toNat_inj.1 this
theorem nats_append (a b : ByteArray) : nats (a ++ b) = nats a ++ nats b := by
  unfold nats
  rw [append_list, List.map_append]
/-- the bits lie within the text: its sum stays. -/
theorem flip_append {s f : ByteArray} {D : Nat} (hD : D < 2 ^ (8 * s.size)) : flipB (s ++ f) D = flipB s D ++ f := by
  apply nats_inj
  · rw [flip_size, ByteArray.size_append, ByteArray.size_append, flip_size]
  intro j hj
  rw [flip_size] at hj
  rw [flip_nats _ _ _ hj, nats_append, nats_append]
  by_cases h : j < s.size
  · rw [List.getElem?_append_left (by rwa [nats_length]), List.getElem?_append_left (by rwa [nats_length, flip_size]), flip_nats _ _ _ h]
  · rw [List.getElem?_append_right (by rw [nats_length]; omega), List.getElem?_append_right (by rw [nats_length, flip_size]; omega), byteAt_high hD (by omega), nats_length, nats_length, flip_size]
    simp
theorem flip_zero (q : ByteArray) : flipB q 0 = q := by
  apply nats_inj (flip_size _ _)
  intro j hj
  rw [flip_size] at hj
  rw [flip_nats _ _ _ hj]
  simp [byteAt]
/-- THE LAW. -/
theorem burst_crc {s : ByteArray} {b a : Nat} (ha : a ≤ 8 * s.size) (h0 : turned b a (8 * s.size) 32 ≠ 0) :
    crc (nats (flipB s (turned b a (8 * s.size) 32 * 2 ^ a))) ≠ crc (nats s) := by
  have hD := turned_in b a (8 * s.size) 32
  have hv := turned_lt b a (8 * s.size) 32
  generalize turned b a (8 * s.size) 32 = v at *
  have h := crc_burst (l := nats s) (l' := nats (flipB s (v * 2 ^ a))) (D := v * 2 ^ a) (n := s.size) (fun j hj => flip_nats s _ j hj) s.size (Nat.le_refl _)
  have e : (256 : Nat) ^ s.size = 2 ^ (8 * s.size) := by rw [Nat.pow_mul]
  rw [e, Nat.div_eq_of_lt hD, Nat.xor_zero] at h
  have hn : cstepN (8 * s.size) (v * 2 ^ a) = cstepN (8 * s.size - a) v := by
    rw [show 8 * s.size = a + (8 * s.size - a) by omega, cstepN_add, Nat.mul_comm v, cstepN_pow]
    congr 1
    omega
  rw [hn] at h
  intro he
  unfold crc at he
  rw [nats_length, nats_length, flip_size] at he
  have he2 : crcN (nats (flipB s (v * 2 ^ a))) s.size = crcN (nats s) s.size := by
    have := congrArg (fun x => x ^^^ 4294967295) he
    simpa [Nat.xor_assoc] using this
  rw [he2] at h
  have hz : cstepN (8 * s.size - a) v = 0 := by
    have := congrArg (fun x => crcN (nats s) s.size ^^^ x) h
    simpa [← Nat.xor_assoc] using this.symm
  exact cstepN_ne _ hv h0 hz
theorem fourS_inj {m n : Nat} (hm : m < 4294967296) (hn : n < 4294967296) (h : fourS m = fourS n) : m = n := by
  have h1 : fourL m = fourL n := by
    have := congrArg (fun x : ByteArray => x.data.toList) h
    simpa [fourS] using this
  unfold fourL at h1
  simp only [List.cons.injEq, and_true] at h1
  obtain ⟨h1, h2, h3, h4⟩ := h1
  have g1 := congrArg UInt8.toNat h1
  have g2 := congrArg UInt8.toNat h2
  have g3 := congrArg UInt8.toNat h3
  have g4 := congrArg UInt8.toNat h4
  simp only [UInt8.toNat_ofNat'] at g1 g2 g3 g4
  omega
end Sm
end Go.Proofs.YtfojimaafhpgbaaDoor
