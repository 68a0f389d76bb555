/- What the mirror's numbers are, in plain words. -/
import Derived.Test.YtohonlojnflejaaGreatDoorMirTree
namespace Go.Mir

theorem wrap_i64 (n : Int) : IntKind.i64.wrap n = (n + 9223372036854775808) % 18446744073709551616 - 9223372036854775808 := by
  have h : IntKind.i64.wrap n = if n % 18446744073709551616 ≥ 9223372036854775808 then n % 18446744073709551616 - 18446744073709551616 else n % 18446744073709551616 := by
    simp [IntKind.wrap, IntKind.bits, IntKind.signed]
  rw [h]
  split <;> omega
theorem wrap_u64 (n : Int) : IntKind.u64.wrap n = n % 18446744073709551616 := by
  simp [IntKind.wrap, IntKind.bits, IntKind.signed]
theorem wrap_u32 (n : Int) : IntKind.u32.wrap n = n % 4294967296 := by
  simp [IntKind.wrap, IntKind.bits, IntKind.signed]
theorem wrap_u8 (n : Int) : IntKind.u8.wrap n = n % 256 := by
  simp [IntKind.wrap, IntKind.bits, IntKind.signed]

theorem tdiv_if (a b : Int) : a.tdiv b = if 0 ≤ a then a / b else -(-a / b) := by
  split
  · rename_i h
    exact Int.tdiv_eq_ediv_of_nonneg h
  · rename_i h
    have h1 : a = -(-a) := by omega
    rw [h1, Int.neg_tdiv, Int.tdiv_eq_ediv_of_nonneg (by omega : 0 ≤ -a)]
    simp
theorem tmod_if (a b : Int) : a.tmod b = if 0 ≤ a then a % b else -(-a % b) := by
  split
  · rename_i h
    exact Int.tmod_eq_emod_of_nonneg h
  · rename_i h
    have h1 : a = -(-a) := by omega
    rw [h1, Int.neg_tmod, Int.tmod_eq_emod_of_nonneg (by omega : 0 ≤ -a)]
    simp

theorem add_i64 (x y : Int) : binV .add .i64 x y = (x + y + 9223372036854775808) % 18446744073709551616 - 9223372036854775808 := wrap_i64 _
theorem sub_i64 (x y : Int) : binV .sub .i64 x y = (x - y + 9223372036854775808) % 18446744073709551616 - 9223372036854775808 := wrap_i64 _
theorem mul_i64 (x y : Int) : binV .mul .i64 x y = (x * y + 9223372036854775808) % 18446744073709551616 - 9223372036854775808 := wrap_i64 _
theorem quo_i64 (x y : Int) : binV .quo .i64 x y = ((if 0 ≤ x then x / y else -(-x / y)) + 9223372036854775808) % 18446744073709551616 - 9223372036854775808 := by
  show IntKind.i64.wrap (x.tdiv y) = _
  rw [wrap_i64, tdiv_if]
theorem rem_i64 (x y : Int) : binV .rem .i64 x y = if 0 ≤ x then x % y else -(-x % y) := tmod_if x y
theorem add_u64 (x y : Int) : binV .add .u64 x y = (x + y) % 18446744073709551616 := wrap_u64 _
theorem sub_u64 (x y : Int) : binV .sub .u64 x y = (x - y) % 18446744073709551616 := wrap_u64 _
theorem mul_u64 (x y : Int) : binV .mul .u64 x y = (x * y) % 18446744073709551616 := wrap_u64 _
theorem quo_u64 (x y : Int) : binV .quo .u64 x y = (if 0 ≤ x then x / y else -(-x / y)) % 18446744073709551616 := by
  show IntKind.u64.wrap (x.tdiv y) = _
  rw [wrap_u64, tdiv_if]
theorem rem_u64 (x y : Int) : binV .rem .u64 x y = if 0 ≤ x then x % y else -(-x % y) := tmod_if x y

theorem cmp_eql (x y : Int) : (cmpV .eql x y = true) = (x = y) := by simp [cmpV]
theorem cmp_neq (x y : Int) : (cmpV .neq x y = true) = (x ≠ y) := by simp [cmpV]
theorem cmp_lss (x y : Int) : (cmpV .lss x y = true) = (x < y) := by simp [cmpV]
theorem cmp_leq (x y : Int) : (cmpV .leq x y = true) = (x ≤ y) := by simp [cmpV]
theorem cmp_gtr (x y : Int) : (cmpV .gtr x y = true) = (y < x) := by simp [cmpV]
theorem cmp_geq (x y : Int) : (cmpV .geq x y = true) = (y ≤ x) := by simp [cmpV]
theorem cmp_eql0 (x y : Int) : (cmpV .eql x y = false) = (x ≠ y) := by simp [cmpV]
theorem cmp_neq0 (x y : Int) : (cmpV .neq x y = false) = (x = y) := by simp [cmpV]
theorem cmp_lss0 (x y : Int) : (cmpV .lss x y = false) = (y ≤ x) := by simp [cmpV]
theorem cmp_leq0 (x y : Int) : (cmpV .leq x y = false) = (y < x) := by simp [cmpV]
theorem cmp_gtr0 (x y : Int) : (cmpV .gtr x y = false) = (x ≤ y) := by simp [cmpV]
theorem cmp_geq0 (x y : Int) : (cmpV .geq x y = false) = (x < y) := by simp [cmpV]
theorem beq_t (b : Bool) : ((true == b) = true) = (b = true) := by cases b <;> simp
theorem beq_f (b : Bool) : ((false == b) = true) = (b = false) := by cases b <;> simp
theorem beq_t0 (b : Bool) : ((true == b) = false) = (b = false) := by cases b <;> simp
theorem beq_f0 (b : Bool) : ((false == b) = false) = (b = true) := by cases b <;> simp
theorem mmV_max (x y : Int) : mmV true x y = if y > x then y else x := rfl
theorem mmV_min (x y : Int) : mmV false x y = if y < x then y else x := rfl

/-- A mask of low bits. -/
theorem mask_u64 (x : Int) (n : Nat) (hn : n ≤ 64) (m : Int) (hm : m = ((2 ^ n - 1 : Nat) : Int)) : binV .and .u64 x m = x % ((2 ^ n : Nat) : Int) := by
  show IntKind.u64.wrap ((BitVec.ofInt 64 x &&& BitVec.ofInt 64 m).toNat : Int) = _
  have hp : 0 < 2 ^ n := Nat.two_pow_pos n
  have hle : 2 ^ n ≤ 2 ^ 64 := Nat.pow_le_pow_right (by omega) hn
  have h1 : BitVec.ofInt 64 m = BitVec.ofNat 64 (2 ^ n - 1) := by rw [hm, BitVec.ofInt_natCast]
  have hx0 : 0 ≤ x % ((2 ^ 64 : Nat) : Int) := Int.emod_nonneg _ (by decide)
  have h2 : ((BitVec.ofInt 64 x &&& BitVec.ofNat 64 (2 ^ n - 1)).toNat : Int) = x % ((2 ^ n : Nat) : Int) := by
    rw [BitVec.toNat_and, BitVec.toNat_ofNat, Nat.mod_eq_of_lt (by omega), Nat.and_two_pow_sub_one_eq_mod, BitVec.toNat_ofInt, Int.natCast_emod, Int.toNat_of_nonneg hx0]
    exact Int.emod_emod_of_dvd x (Int.natCast_dvd_natCast.2 (Nat.pow_dvd_pow 2 hn))
  rw [h1, h2, wrap_u64]
  have h5 := Int.emod_nonneg x (by omega : ((2 ^ n : Nat) : Int) ≠ 0)
  have h6 := Int.emod_lt_of_pos x (by omega : (0 : Int) < ((2 ^ n : Nat) : Int))
  have h8 : (2 : Nat) ^ 64 = 18446744073709551616 := by decide
  omega
theorem mask48 (x : Int) : binV .and .u64 x 281474976710655 = x % 281474976710656 := mask_u64 x 48 (by omega) _ (by decide)
theorem mask24 (x : Int) : binV .and .u64 x 16777215 = x % 16777216 := mask_u64 x 24 (by omega) _ (by decide)

end Go.Mir
