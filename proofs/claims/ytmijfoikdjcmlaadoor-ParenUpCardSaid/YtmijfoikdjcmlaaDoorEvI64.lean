import Derived.Test.YtmijfoikdjcmlaaDoorEvBits
/-! Signed words that are small numbers. -/
namespace Go.Ev
theorem ofInt_i64 (a : Nat) : BitVec.ofInt 64 (a : Int) = BitVec.ofNat 64 a := BitVec.ofInt_natCast 64 a
theorem wrap_i64n {a : Nat} (h : a < 2 ^ 63) : IntKind.i64.wrap (a : Int) = (a : Int) := wrap_i64 (by omega) (by omega)
theorem and_i64 {a b : Nat} (ha : a < 2 ^ 63) (hb : b < 2 ^ 63) : andW .i64 a b = ((a &&& b : Nat) : Int) := by
  unfold andW
  rw [show IntKind.i64.bits = 64 from rfl, ofInt_i64, ofInt_i64, BitVec.toNat_and, BitVec.toNat_ofNat, BitVec.toNat_ofNat, Nat.mod_eq_of_lt (by omega), Nat.mod_eq_of_lt (by omega), wrap_i64n (Nat.and_lt_two_pow a hb)]
theorem or_i64 {a b : Nat} (ha : a < 2 ^ 63) (hb : b < 2 ^ 63) : orW .i64 a b = ((a ||| b : Nat) : Int) := by
  unfold orW
  rw [show IntKind.i64.bits = 64 from rfl, ofInt_i64, ofInt_i64, BitVec.toNat_or, BitVec.toNat_ofNat, BitVec.toNat_ofNat, Nat.mod_eq_of_lt (by omega), Nat.mod_eq_of_lt (by omega), wrap_i64n (Nat.or_lt_two_pow ha hb)]
theorem shr_i64 {a : Nat} (ha : a < 2 ^ 63) (s : Nat) : shrW .i64 a s = ((a >>> s : Nat) : Int) := by
  have h := shrW_nat (a := a) (by omega) s
  exact h
theorem shl_i64 {a s : Nat} (h : a * 2 ^ s < 2 ^ 63) (hs : s ≤ 64) : shlW .i64 a s = ((a * 2 ^ s : Nat) : Int) := by
  unfold shlW
  rw [show IntKind.i64.bits = 64 from rfl, Int.toNat_natCast, Nat.min_eq_left hs]
  have : (a : Int) * 2 ^ s = ((a * 2 ^ s : Nat) : Int) := by push_cast; rfl
  rw [this, wrap_i64n h]
end Go.Ev
