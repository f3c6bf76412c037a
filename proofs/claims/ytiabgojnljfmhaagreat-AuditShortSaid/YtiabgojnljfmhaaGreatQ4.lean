/-
  THE CHECKSUM, DIGIT BY DIGIT: plain arithmetic. No condition beyond each statement's own.
-/
import Derived.Test.YtiabgojnljfmhaaGreatPX
namespace Go.Proofs.YtiabgojnljfmhaaGreat.Ov.W

/-- One digit more, on natural numbers. -/
def st (s : Nat) : Nat := if 2147483648 ≤ s then (2 * s % 4294967296) ^^^ 79764919 else 2 * s % 4294967296
def stN : Nat → Nat → Nat
  | 0, s => s
  | n + 1, s => st (stN n s)
theorem st_lt (s : Nat) : st s < 4294967296 := by
  unfold st
  split
  · exact Nat.xor_lt_two_pow (n := 32) (Nat.mod_lt _ (by decide)) (by decide)
  · exact Nat.mod_lt _ (by decide)
theorem stN_lt {s : Nat} (hs : s < 4294967296) : ∀ n, stN n s < 4294967296 := by
  intro n
  cases n with
  | zero => exact hs
  | succ n => exact st_lt _

theorem wrap32_id {n : Int} (h : 0 ≤ n ∧ n < 4294967296) : IntKind.u32.wrap n = n := by
  unfold IntKind.wrap IntKind.bits IntKind.signed
  simp
  omega
theorem wrap32_mod (n : Int) : IntKind.u32.wrap n = n % 4294967296 := by
  unfold IntKind.wrap IntKind.bits IntKind.signed
  simp
theorem wrap8_mod8 (n : Int) : IntKind.u8.wrap n = n % 256 := by
  unfold IntKind.wrap IntKind.bits IntKind.signed
  simp
theorem xor32 (a b : Nat) (ha : a < 4294967296) (hb : b < 4294967296) : bitsV .xor .u32 (a : Int) (b : Int) = ((a ^^^ b : Nat) : Int) := by
  have hab : a ^^^ b < 2 ^ 32 := Nat.xor_lt_two_pow ha hb
  simp only [bitsV, ofInt_nat]
  have : (BitVec.ofNat IntKind.u32.bits a ^^^ BitVec.ofNat IntKind.u32.bits b).toNat = a ^^^ b := by
    rw [BitVec.toNat_xor, BitVec.toNat_ofNat, BitVec.toNat_ofNat]
    show a % 2 ^ 32 ^^^ b % 2 ^ 32 = _
    rw [Nat.mod_eq_of_lt ha, Nat.mod_eq_of_lt hb]
  rw [this]
  exact wrap32_id (by omega)
theorem xor8 (a b : Nat) (ha : a < 256) (hb : b < 256) : bitsV .xor .u8 (a : Int) (b : Int) = ((a ^^^ b : Nat) : Int) := by
  have hab : a ^^^ b < 2 ^ 8 := Nat.xor_lt_two_pow ha hb
  simp only [bitsV, ofInt_nat]
  have : (BitVec.ofNat IntKind.u8.bits a ^^^ BitVec.ofNat IntKind.u8.bits b).toNat = a ^^^ b := by
    rw [BitVec.toNat_xor, BitVec.toNat_ofNat, BitVec.toNat_ofNat]
    show a % 2 ^ 8 ^^^ b % 2 ^ 8 = _
    rw [Nat.mod_eq_of_lt ha, Nat.mod_eq_of_lt hb]
  rw [this]
  exact wrap8_id (by omega)

theorem crc1_nat {s : Nat} (hs : s < 4294967296) : crc1 (s : Int) = (st s : Int) := by
  unfold crc1 st
  have h1 : ((s : Int).fdiv (2 ^ min 31 IntKind.u32.bits) = 1) ↔ 2147483648 ≤ s := by
    rw [show (2 : Int) ^ min 31 IntKind.u32.bits = 2147483648 from by decide, Int.fdiv_eq_ediv_of_nonneg _ (by omega)]
    omega
  have h2 : IntKind.u32.wrap ((s : Int) * 2 ^ min 1 IntKind.u32.bits) = ((2 * s % 4294967296 : Nat) : Int) := by
    rw [show (2 : Int) ^ min 1 IntKind.u32.bits = 2 from by decide, wrap32_mod]
    omega
  by_cases h : 2147483648 ≤ s
  · rw [if_pos (h1.2 h), if_pos h, h2]
    exact xor32 _ 79764919 (Nat.mod_lt _ (by decide)) (by decide)
  · rw [if_neg (fun h' => h (h1.1 h')), if_neg h, h2]
theorem crcN_nat {s : Nat} (hs : s < 4294967296) : ∀ n, crcN n (s : Int) = (stN n s : Int) := by
  intro n
  induction n with
  | zero => rfl
  | succ n ih => rw [crcN, ih, crc1_nat (stN_lt hs n)]; rfl

theorem dbl_bit (s i : Nat) : (2 * s % 4294967296).testBit i = (decide (i < 32) && decide (0 < i) && s.testBit (i - 1)) := by
  rw [show (4294967296 : Nat) = 2 ^ 32 from rfl, Nat.testBit_mod_two_pow]
  cases i with
  | zero => simp [Nat.testBit_zero]
  | succ i =>
    rw [show 2 * s = 2 ^ 1 * s from rfl, Nat.testBit_two_pow_mul]
    simp
theorem top_bit {s : Nat} (hs : s < 4294967296) : decide (2147483648 ≤ s) = s.testBit 31 := by
  rw [Nat.testBit_eq_decide_div_mod_eq]
  congr 1
  apply propext
  omega
theorem st_bit {s : Nat} (hs : s < 4294967296) (i : Nat) : (st s).testBit i = ((decide (i < 32) && decide (0 < i) && s.testBit (i - 1)) ^^ (s.testBit 31 && (79764919 : Nat).testBit i)) := by
  rw [← top_bit hs]
  unfold st
  split
  · rename_i h
    rw [Nat.testBit_xor, dbl_bit, decide_eq_true h, Bool.true_and]
  · rename_i h
    rw [dbl_bit, decide_eq_false h, Bool.false_and, Bool.xor_false]
theorem st_xor {a b : Nat} (ha : a < 4294967296) (hb : b < 4294967296) : st (a ^^^ b) = st a ^^^ st b := by
  have hab : a ^^^ b < 4294967296 := Nat.xor_lt_two_pow (n := 32) ha hb
  apply Nat.eq_of_testBit_eq
  intro i
  rw [Nat.testBit_xor, st_bit ha, st_bit hb, st_bit hab, Nat.testBit_xor, Nat.testBit_xor]
  generalize a.testBit (i - 1) = p
  generalize b.testBit (i - 1) = q
  generalize a.testBit 31 = r
  generalize b.testBit 31 = t
  generalize (79764919 : Nat).testBit i = u
  generalize decide (i < 32) = v
  generalize decide (0 < i) = w
  cases p <;> cases q <;> cases r <;> cases t <;> cases u <;> cases v <;> cases w <;> rfl
theorem stN_xor {a b : Nat} (ha : a < 4294967296) (hb : b < 4294967296) : ∀ n, stN n (a ^^^ b) = stN n a ^^^ stN n b := by
  intro n
  induction n with
  | zero => rfl
  | succ n ih => rw [stN, ih, st_xor (stN_lt ha n) (stN_lt hb n)]; rfl
theorem st_zero : st 0 = 0 := by decide
theorem stN_zero : ∀ n, stN n 0 = 0 := by
  intro n
  induction n with
  | zero => rfl
  | succ n ih => rw [stN, ih, st_zero]
/-- Only nought becomes nought. -/
theorem st_inj0 {s : Nat} (hs : s < 4294967296) (h : st s = 0) : s = 0 := by
  unfold st at h
  split at h
  · have h1 : 2 * s % 4294967296 = 79764919 := by
      have h2 := congrArg (fun x => x ^^^ 79764919) h
      simp only [Nat.xor_assoc, Nat.xor_self, Nat.xor_zero, Nat.zero_xor] at h2
      exact h2
    omega
  · omega
theorem stN_inj0 {s : Nat} (hs : s < 4294967296) : ∀ n, stN n s = 0 → s = 0 := by
  intro n
  induction n with
  | zero => exact id
  | succ n ih => exact fun h => ih (st_inj0 (stN_lt hs n) h)
theorem stN_small {s : Nat} (hs : s < 16777216) : ∀ n, n ≤ 8 → stN n s = s * 2 ^ n := by
  intro n
  induction n with
  | zero => intro _; simp [stN]
  | succ n ih =>
    intro hn
    rw [stN, ih (by omega)]
    have hp : (2 : Nat) ^ n ≤ 2 ^ 7 := Nat.pow_le_pow_right (by omega) (by omega)
    have h1 : s * 2 ^ n ≤ 16777215 * 128 := Nat.mul_le_mul (by omega) hp
    unfold st
    rw [if_neg (by omega), Nat.mod_eq_of_lt (by omega), Nat.pow_succ, Nat.mul_comm 2, Nat.mul_assoc]

theorem split24 (s c : Nat) (hs : s < 4294967296) : s ^^^ (c * 16777216) = ((s / 16777216 ^^^ c) * 16777216) ^^^ (s % 16777216) := by
  apply Nat.eq_of_testBit_eq
  intro i
  simp only [Nat.testBit_xor, show (16777216 : Nat) = 2 ^ 24 from rfl, Nat.testBit_mul_two_pow, Nat.testBit_mod_two_pow, Nat.testBit_div_two_pow]
  by_cases h : i < 24
  · have h' : ¬ 24 ≤ i := by omega
    simp [h, h']
  · have h' : 24 ≤ i := by omega
    simp [h, h']
/-- The byte's step, without the table. -/
theorem crcByte_nat {s c : Nat} (hs : s < 4294967296) (hc : c < 256) : crcByte (s : Int) (c : Int) = (stN 8 (s ^^^ (c * 16777216)) : Int) := by
  have hhi : s / 16777216 < 256 := by omega
  have hx : s / 16777216 ^^^ c < 256 := Nat.xor_lt_two_pow (n := 8) hhi hc
  have h1 : IntKind.u8.wrap ((s : Int).fdiv (2 ^ min 24 IntKind.u32.bits)) = ((s / 16777216 : Nat) : Int) := by
    rw [show (2 : Int) ^ min 24 IntKind.u32.bits = 16777216 from by decide, Int.fdiv_eq_ediv_of_nonneg _ (by omega), wrap8_id (by omega)]
    omega
  have h2 : IntKind.u32.wrap ((s : Int) * 2 ^ min 8 IntKind.u32.bits) = (((s % 16777216) * 256 : Nat) : Int) := by
    rw [show (2 : Int) ^ min 8 IntKind.u32.bits = 256 from by decide, wrap32_mod]
    omega
  have h3 : tabAt (s / 16777216 ^^^ c) = (stN 8 ((s / 16777216 ^^^ c) * 16777216) : Int) := by
    rw [tabAt_eq, crcStep_eq, wrap32_id (n := ((s / 16777216 ^^^ c : Nat) : Int)) (by omega), show (2 : Int) ^ min 24 IntKind.u32.bits = 16777216 from by decide, wrap32_id (by omega)]
    rw [show ((s / 16777216 ^^^ c : Nat) : Int) * 16777216 = (((s / 16777216 ^^^ c) * 16777216 : Nat) : Int) from by omega]
    exact crcN_nat (by omega) 8
  rw [crcByte_eq, h1, h2, xor8 _ _ hhi hc, show (((s / 16777216 ^^^ c : Nat) : Int)).toNat = s / 16777216 ^^^ c from by omega, crcTab_at hx, h3, xor32 _ _ (by omega) (stN_lt (by omega) 8)]
  rw [split24 s c hs, stN_xor (by omega) (by omega), stN_small (s := s % 16777216) (by omega) 8 (by omega), Nat.xor_comm]
theorem crcByte_bd {s c : Int} (hs : 0 ≤ s ∧ s < 4294967296) (hc : isByte c) : 0 ≤ crcByte s c ∧ crcByte s c < 4294967296 := by
  obtain ⟨a, rfl⟩ := Int.eq_ofNat_of_zero_le hs.1
  obtain ⟨b, rfl⟩ := Int.eq_ofNat_of_zero_le hc.1
  rw [crcByte_nat (by omega) (by have := hc.2; omega)]
  have h := stN_lt (s := a ^^^ (b * 16777216)) (Nat.xor_lt_two_pow (n := 32) (by omega) (by have := hc.2; omega)) 8
  omega
theorem crcOf_bd : ∀ (bs : List Int) (s : Int), 0 ≤ s ∧ s < 4294967296 → (∀ x ∈ bs, isByte x) → 0 ≤ crcOf s bs ∧ crcOf s bs < 4294967296 := by
  intro bs
  induction bs with
  | nil => intro s hs _; exact hs
  | cons b r ih => intro s hs hb; exact ih _ (crcByte_bd hs (hb b (by simp))) fun x hx => hb x (by simp [hx])
theorem crcOf_zeros : ∀ (n : Nat) (s : Nat), s < 4294967296 → crcOf (s : Int) (List.replicate n 0) = (stN (8 * n) s : Int) := by
  intro n
  induction n with
  | zero => intro s _; rfl
  | succ n ih =>
    intro s hs
    have h0 := crcByte_nat hs (show 0 < 256 by decide)
    rw [Nat.zero_mul, Nat.xor_zero] at h0
    rw [List.replicate_succ]
    show crcOf (crcByte (s : Int) 0) (List.replicate n 0) = _
    rw [show crcByte (s : Int) 0 = (stN 8 s : Int) from h0, ih _ (stN_lt hs 8)]
    have hadd : ∀ (a b x : Nat), stN a (stN b x) = stN (a + b) x := by
      intro a b x
      induction a with
      | zero => rw [Nat.zero_add]; rfl
      | succ a ih => rw [Nat.succ_add, stN, ih]; rfl
    rw [hadd, show 8 * n + 8 = 8 * (n + 1) from by omega]

theorem sum4_zero {n : Int} (hn : 0 ≤ n ∧ n < 4294967296) (h : sum4 n = [0, 0, 0, 0]) : n = 0 := by
  unfold sum4 at h
  rw [show (2 : Int) ^ min 24 IntKind.u32.bits = 16777216 from by decide, show (2 : Int) ^ min 16 IntKind.u32.bits = 65536 from by decide, show (2 : Int) ^ min 8 IntKind.u32.bits = 256 from by decide] at h
  simp only [wrap8_mod8, List.cons.injEq, and_true] at h
  rw [Int.fdiv_eq_ediv_of_nonneg _ (by omega), Int.fdiv_eq_ediv_of_nonneg _ (by omega), Int.fdiv_eq_ediv_of_nonneg _ (by omega)] at h
  omega
theorem sum4_len (n : Int) : (sum4 n).length = 4 := rfl
theorem sum4_byte (n : Int) : ∀ x ∈ sum4 n, isByte x := by
  intro x hx
  have h : ∀ m : Int, isByte (IntKind.u8.wrap m) := fun m => wrap8_bd m
  simp only [sum4, List.mem_cons, List.not_mem_nil, or_false] at hx
  rcases hx with rfl | rfl | rfl | rfl <;> exact h _
theorem crc_zeros : sum4 (crcOf 4294967295 (List.replicate 124 0)) ≠ [0, 0, 0, 0] := by
  intro h
  have h1 := crcOf_zeros 124 4294967295 (by decide)
  have h2 := crcOf_bd (List.replicate 124 0) 4294967295 (by decide) (fun x hx => by rw [List.eq_of_mem_replicate hx]; unfold isByte; omega)
  have h3 := sum4_zero h2 h
  rw [show ((4294967295 : Nat) : Int) = 4294967295 from rfl, h3] at h1
  have := stN_inj0 (s := 4294967295) (by decide) (8 * 124) (by omega)
  omega
end Go.Proofs.YtiabgojnljfmhaaGreat.Ov.W
