import Derived.Test.YtojhnakgmihedaaDoorEvTac
/-! Words on words of 64 bits, as natural numbers. -/
namespace Go.Ev
theorem bits_u64 : IntKind.u64.bits = 64 := rfl
theorem ofInt_u64 (a : Nat) : BitVec.ofInt 64 (a : Int) = BitVec.ofNat 64 a := BitVec.ofInt_natCast 64 a
theorem wrap_nat (a : Nat) : IntKind.u64.wrap (a : Int) = ((a % 2 ^ 64 : Nat) : Int) := by
  unfold IntKind.wrap; simp [IntKind.bits, IntKind.signed]
theorem wrap_natlt {a : Nat} (h : a < 2 ^ 64) : IntKind.u64.wrap (a : Int) = (a : Int) := by rw [wrap_nat, Nat.mod_eq_of_lt h]
theorem orW_nat {a b : Nat} (ha : a < 2 ^ 64) (hb : b < 2 ^ 64) : orW .u64 a b = ((a ||| b : Nat) : Int) := by
  unfold orW
  rw [bits_u64, ofInt_u64, ofInt_u64, BitVec.toNat_or, BitVec.toNat_ofNat, BitVec.toNat_ofNat, Nat.mod_eq_of_lt ha, Nat.mod_eq_of_lt hb, wrap_natlt (Nat.or_lt_two_pow ha hb)]
theorem andW_nat {a b : Nat} (ha : a < 2 ^ 64) (hb : b < 2 ^ 64) : andW .u64 a b = ((a &&& b : Nat) : Int) := by
  unfold andW
  rw [bits_u64, ofInt_u64, ofInt_u64, BitVec.toNat_and, BitVec.toNat_ofNat, BitVec.toNat_ofNat, Nat.mod_eq_of_lt ha, Nat.mod_eq_of_lt hb, wrap_natlt (Nat.and_lt_two_pow a hb)]
theorem xorW_nat {a b : Nat} (ha : a < 2 ^ 64) (hb : b < 2 ^ 64) : xorW .u64 a b = ((a ^^^ b : Nat) : Int) := by
  unfold xorW
  rw [bits_u64, ofInt_u64, ofInt_u64, BitVec.toNat_xor, BitVec.toNat_ofNat, BitVec.toNat_ofNat, Nat.mod_eq_of_lt ha, Nat.mod_eq_of_lt hb, wrap_natlt (Nat.xor_lt_two_pow ha hb)]
theorem notW_nat {a : Nat} (ha : a < 2 ^ 64) : notW .u64 a = ((2 ^ 64 - 1 - a : Nat) : Int) := by
  have h1 : notW .u64 (a : Int) = xorW .u64 ((2 ^ 64 - 1 : Nat) : Int) a := rfl
  rw [h1, xorW_nat (by decide) ha]
  congr 1
  apply Nat.eq_of_testBit_eq
  intro i
  rw [Nat.testBit_xor, Nat.testBit_two_pow_sub_one]
  have := Nat.testBit_two_pow_sub_succ (x := a) (n := 64) ha i
  rw [show 2 ^ 64 - 1 - a = 2 ^ 64 - (a + 1) by omega, this]
  by_cases hi : i < 64
  · simp [hi]
  · simp only [hi, decide_false, Bool.false_xor, Bool.false_and]
    exact Nat.testBit_lt_two_pow (Nat.lt_of_lt_of_le ha (Nat.pow_le_pow_right (by decide) (by omega)))
theorem shlW_nat (a s : Nat) : shlW .u64 a s = ((a <<< s % 2 ^ 64 : Nat) : Int) := by
  unfold shlW
  rw [bits_u64, Int.toNat_natCast]
  have : (a : Int) * 2 ^ min s 64 = ((a * 2 ^ min s 64 : Nat) : Int) := by push_cast; rfl
  rw [this, wrap_nat, Nat.shiftLeft_eq]
  congr 1
  rcases Nat.le_total s 64 with h | h
  · rw [Nat.min_eq_left h]
  · rw [Nat.min_eq_right h, Nat.mul_mod_left]
    have : 2 ^ s = 2 ^ (s - 64) * 2 ^ 64 := by rw [← Nat.pow_add]; congr 1; omega
    rw [this, ← Nat.mul_assoc, Nat.mul_mod_left]
theorem shrW_nat {a : Nat} (ha : a < 2 ^ 64) (s : Nat) : shrW .u64 a s = ((a >>> s : Nat) : Int) := by
  unfold shrW
  rw [bits_u64, Int.toNat_natCast]
  have : (2 : Int) ^ min s 64 = ((2 ^ min s 64 : Nat) : Int) := by push_cast; rfl
  rw [this]
  have e : Int.fdiv (a : Int) ((2 ^ min s 64 : Nat) : Int) = ((a / 2 ^ min s 64 : Nat) : Int) := by
    rw [Int.fdiv_eq_ediv_of_nonneg _ (Int.natCast_nonneg _)]
    rfl
  rw [e, Nat.shiftRight_eq_div_pow]
  congr 1
  rcases Nat.le_total s 64 with h | h
  · rw [Nat.min_eq_left h]
  · rw [Nat.min_eq_right h, Nat.div_eq_of_lt ha, Nat.div_eq_of_lt (Nat.lt_of_lt_of_le ha (Nat.pow_le_pow_right (by decide) h))]
theorem shl_lt (a s : Nat) : a <<< s % 2 ^ 64 < 2 ^ 64 := Nat.mod_lt _ (by decide)
theorem shr_lt {a : Nat} (ha : a < 2 ^ 64) (s : Nat) : a >>> s < 2 ^ 64 := by
  rw [Nat.shiftRight_eq_div_pow]
  exact Nat.lt_of_le_of_lt (Nat.div_le_self _ _) ha
/-- How many bits a number has. -/
def blen (n : Nat) : Nat := if n = 0 then 0 else n.log2 + 1
theorem blen_le {n k : Nat} : blen n ≤ k ↔ n < 2 ^ k := by
  unfold blen
  split
  · rename_i h; subst h; simp [Nat.pow_pos]
  · rename_i h
    rw [← Nat.log2_lt h]
    omega
theorem lt_blen (n : Nat) : n < 2 ^ blen n := blen_le.1 (Nat.le_refl _)
theorem blen_zero : blen 0 = 0 := rfl
theorem blen_pos {n : Nat} (h : n ≠ 0) : 0 < blen n := by unfold blen; rw [if_neg h]; omega
theorem blen_eq {n w : Nat} (h : ∀ k, w ≤ k ↔ n < 2 ^ k) : blen n = w := by
  have h1 := (blen_le (n := n) (k := w)).2 ((h w).1 (Nat.le_refl _))
  have h2 := (h (blen n)).2 (lt_blen n)
  omega
theorem blen_shr (n s : Nat) : blen (n >>> s) = blen n - s := by
  apply blen_eq
  intro k
  rw [Nat.shiftRight_eq_div_pow, Nat.div_lt_iff_lt_mul (Nat.pow_pos (by decide)), ← Nat.pow_add, ← blen_le]
  omega
theorem blen_64 {n : Nat} (h : n < 2 ^ 64) : blen n ≤ 64 := blen_le.2 h
theorem blen_mono {m n : Nat} (h : m ≤ n) : blen m ≤ blen n := blen_le.2 (Nat.lt_of_le_of_lt h (lt_blen n))
end Go.Ev
