import Derived.Test.YtimjpijbcnjaaaaDoorVm
set_option linter.unusedSimpArgs false
set_option linter.unusedVariables false
namespace Cae
open Go Go.Vc

theorem wrap_i64 {n : Int} (h : -9223372036854775808 ≤ n ∧ n ≤ 9223372036854775807) : IntKind.i64.wrap n = n := by rw [IntKind.wrap_i64]; omega
theorem wrap_i64_nat {n : Nat} (h : n < 9223372036854775808) : IntKind.i64.wrap (n : Int) = n := wrap_i64 (by omega)
theorem wrap_u8 (n : Int) : IntKind.u8.wrap n = n % 256 := by simp [IntKind.wrap, IntKind.bits, IntKind.signed]
theorem wrap_u8_nat (n : Nat) : IntKind.u8.wrap (n : Int) = ((n % 256 : Nat) : Int) := by rw [wrap_u8]; omega
theorem wrap_u32_nat (n : Nat) : IntKind.u32.wrap (n : Int) = ((n % 4294967296 : Nat) : Int) := by simp [IntKind.wrap, IntKind.bits, IntKind.signed]
theorem wrap_u64_nat (n : Nat) : IntKind.u64.wrap (n : Int) = ((n % 18446744073709551616 : Nat) : Int) := by simp [IntKind.wrap, IntKind.bits, IntKind.signed]

theorem ofInt_nat (n x : Nat) : BitVec.ofInt n (x : Int) = BitVec.ofNat n x := by
  apply BitVec.eq_of_toNat_eq
  simp

theorem and_lt {x y n : Nat} (h : x < 2 ^ n) : x &&& y < 2 ^ n := Nat.lt_of_le_of_lt Nat.and_le_left h
theorem bits_and_i64 {x y : Nat} (hx : x < 9223372036854775808) (hy : y < 9223372036854775808) : bitop .and .i64 x y = ((x &&& y : Nat) : Int) := by
  simp only [bitop, ofInt_nat, BitVec.toNat_and, BitVec.toNat_ofNat]
  rw [Nat.mod_eq_of_lt (show x < 2 ^ IntKind.i64.bits by show x < 2 ^ 64; omega), Nat.mod_eq_of_lt (show y < 2 ^ IntKind.i64.bits by show y < 2 ^ 64; omega)]
  exact wrap_i64_nat (and_lt (n := 63) hx)
theorem bits_or_i64 {x y : Nat} (hx : x < 9223372036854775808) (hy : y < 9223372036854775808) : bitop .or .i64 x y = ((x ||| y : Nat) : Int) := by
  simp only [bitop, ofInt_nat, BitVec.toNat_or, BitVec.toNat_ofNat]
  rw [Nat.mod_eq_of_lt (show x < 2 ^ IntKind.i64.bits by show x < 2 ^ 64; omega), Nat.mod_eq_of_lt (show y < 2 ^ IntKind.i64.bits by show y < 2 ^ 64; omega)]
  exact wrap_i64_nat (Nat.or_lt_two_pow (n := 63) hx hy)
theorem bits_and_u8 {x y : Nat} (hx : x < 256) (hy : y < 256) : bitop .and .u8 x y = ((x &&& y : Nat) : Int) := by
  simp only [bitop, ofInt_nat, BitVec.toNat_and, BitVec.toNat_ofNat]
  rw [Nat.mod_eq_of_lt (show x < 2 ^ IntKind.u8.bits by show x < 2 ^ 8; omega), Nat.mod_eq_of_lt (show y < 2 ^ IntKind.u8.bits by show y < 2 ^ 8; omega), wrap_u8_nat, Nat.mod_eq_of_lt (and_lt (n := 8) hx)]
theorem bits_or_u8 {x y : Nat} (hx : x < 256) (hy : y < 256) : bitop .or .u8 x y = ((x ||| y : Nat) : Int) := by
  simp only [bitop, ofInt_nat, BitVec.toNat_or, BitVec.toNat_ofNat]
  rw [Nat.mod_eq_of_lt (show x < 2 ^ IntKind.u8.bits by show x < 2 ^ 8; omega), Nat.mod_eq_of_lt (show y < 2 ^ IntKind.u8.bits by show y < 2 ^ 8; omega), wrap_u8_nat, Nat.mod_eq_of_lt (Nat.or_lt_two_pow (n := 8) hx hy)]

theorem and_mask (x k : Nat) : x &&& (2 ^ k - 1) = x % 2 ^ k := Nat.and_two_pow_sub_one_eq_mod x k
theorem or_low {p x k : Nat} (h : x < 2 ^ k) : p * 2 ^ k ||| x = p * 2 ^ k + x := by
  rw [Nat.mul_comm]; exact (Nat.two_pow_add_eq_or_of_lt h p).symm

/-- A shift to the left by a known number, nothing lost. -/
theorem shl_i64 {p k : Nat} {b : Int} (hb : b.toNat = k) (hk : k ≤ 64) (h : p * 2 ^ k < 9223372036854775808) : IntKind.i64.wrap ((p : Int) * 2 ^ min b.toNat IntKind.i64.bits) = ((p * 2 ^ k : Nat) : Int) := by
  rw [hb, show min k IntKind.i64.bits = k from Nat.min_eq_left hk]
  rw [show ((p : Int) * 2 ^ k) = ((p * 2 ^ k : Nat) : Int) by push_cast; rfl]
  exact wrap_i64_nat h
theorem shr_nat {p k : Nat} {b : Int} {kd : IntKind} (hb : b.toNat = k) (hk : k ≤ kd.bits) : ((p : Int).fdiv (2 ^ min b.toNat kd.bits)) = ((p / 2 ^ k : Nat) : Int) := by
  rw [hb, Nat.min_eq_left hk]
  rw [show (2 : Int) ^ k = ((2 ^ k : Nat) : Int) by push_cast; rfl, Int.fdiv_eq_ediv_of_nonneg _ (Int.natCast_nonneg _)]
  rfl
end Cae
