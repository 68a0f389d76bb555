/- What the mirror's numbers are where nothing wraps. -/
import Derived.Test.YtohonlojnflejaaGreatDoorMirSat
namespace Go.Mir

theorem add_i64r {x y : Int} (h1 : -9223372036854775808 ≤ x + y) (h2 : x + y < 9223372036854775808) : binV .add .i64 x y = x + y := by rw [add_i64]; omega
theorem sub_i64r {x y : Int} (h1 : -9223372036854775808 ≤ x - y) (h2 : x - y < 9223372036854775808) : binV .sub .i64 x y = x - y := by rw [sub_i64]; omega
theorem mul_i64r {x y : Int} (h1 : -9223372036854775808 ≤ x * y) (h2 : x * y < 9223372036854775808) : binV .mul .i64 x y = x * y := by rw [mul_i64]; omega
theorem quo_le {x y : Int} (h1 : 0 ≤ x) (h3 : 0 < y) : 0 ≤ x / y ∧ x / y ≤ x :=
  ⟨Int.ediv_nonneg h1 (Int.le_of_lt h3), Int.ediv_le_self y h1⟩
theorem quo_i64r {x y : Int} (h1 : 0 ≤ x) (h2 : x < 9223372036854775808) (h3 : 0 < y) : binV .quo .i64 x y = x / y := by
  have := quo_le h1 h3
  rw [quo_i64, if_pos h1]; omega
theorem rem_i64r {x y : Int} (h1 : 0 ≤ x) : binV .rem .i64 x y = x % y := by rw [rem_i64, if_pos h1]
theorem add_u64r {x y : Int} (h1 : 0 ≤ x + y) (h2 : x + y < 18446744073709551616) : binV .add .u64 x y = x + y := by rw [add_u64]; omega
theorem sub_u64r {x y : Int} (h1 : 0 ≤ x - y) (h2 : x - y < 18446744073709551616) : binV .sub .u64 x y = x - y := by rw [sub_u64]; omega
theorem mul_u64r {x y : Int} (h1 : 0 ≤ x * y) (h2 : x * y < 18446744073709551616) : binV .mul .u64 x y = x * y := by rw [mul_u64]; omega
theorem quo_u64r {x y : Int} (h1 : 0 ≤ x) (h2 : x < 18446744073709551616) (h3 : 0 < y) : binV .quo .u64 x y = x / y := by
  have := quo_le h1 h3
  rw [quo_u64, if_pos h1]; omega
theorem rem_u64r {x y : Int} (h1 : 0 ≤ x) : binV .rem .u64 x y = x % y := by rw [rem_u64, if_pos h1]
theorem wrap_u64r {x : Int} (h1 : 0 ≤ x) (h2 : x < 18446744073709551616) : IntKind.u64.wrap x = x := by rw [wrap_u64]; omega
theorem wrap_i64r {x : Int} (h1 : -9223372036854775808 ≤ x) (h2 : x < 9223372036854775808) : IntKind.i64.wrap x = x := by rw [wrap_i64]; omega
theorem wrap_u32r {x : Int} (h1 : 0 ≤ x) (h2 : x < 4294967296) : IntKind.u32.wrap x = x := by rw [wrap_u32]; omega
theorem and48_sub (x y : Int) : binV .and .u64 (binV .sub .u64 x y) 281474976710655 = (x - y) % 281474976710656 := by rw [mask48, sub_u64]; omega
theorem and48_addw (x y : Int) : binV .and .u64 (binV .add .u64 x (IntKind.u64.wrap y)) 281474976710655 = (x + y) % 281474976710656 := by rw [mask48, add_u64, wrap_u64]; omega
theorem and48_add (x y : Int) : binV .and .u64 (binV .add .u64 x y) 281474976710655 = (x + y) % 281474976710656 := by rw [mask48, add_u64]; omega
theorem emod_wrap (x y : Int) : (x + IntKind.u64.wrap y) % 281474976710656 = (x + y) % 281474976710656 := by rw [wrap_u64]; omega
theorem emod_add2 (x y : Int) : (x + y % 281474976710656) % 281474976710656 = (x + y) % 281474976710656 := by omega
theorem and48_plus (x y : Int) : binV .and .u64 (x + y) 281474976710655 = (x + y) % 281474976710656 := mask48 _
theorem and48_minus (x y : Int) : binV .and .u64 (x - y) 281474976710655 = (x - y) % 281474976710656 := mask48 _
theorem and48_mod (x y : Int) : binV .and .u64 (x % y) 281474976710655 = (x % y) % 281474976710656 := mask48 _
theorem and48_id {x : Int} (h1 : 0 ≤ x) (h2 : x < 281474976710656) : binV .and .u64 x 281474976710655 = x := by rw [mask48]; omega
theorem emod_sub1 (x y : Int) : (x % 281474976710656 - y) % 281474976710656 = (x - y) % 281474976710656 := by omega
theorem emod_sub2 (x y : Int) : (x - y % 281474976710656) % 281474976710656 = (x - y) % 281474976710656 := by omega
theorem emod_add1 (x y : Int) : (x % 281474976710656 + y) % 281474976710656 = (x + y) % 281474976710656 := by omega
theorem emod_two (x : Int) : x % 281474976710656 % 281474976710656 = x % 281474976710656 := by omega
theorem emod_small {x : Int} (h1 : 0 ≤ x) (h2 : x < 281474976710656) : x % 281474976710656 = x := by omega
theorem emod_neg {x : Int} (h1 : -281474976710656 ≤ x) (h2 : x < 0) : x % 281474976710656 = x + 281474976710656 := by omega
theorem emod_over {x : Int} (h1 : 281474976710656 ≤ x) (h2 : x < 562949953421312) : x % 281474976710656 = x - 281474976710656 := by omega
theorem max_l {x y : Int} (h : y ≤ x) : mmV true x y = x := by rw [mmV_max]; split <;> omega
theorem max_r {x y : Int} (h : x ≤ y) : mmV true x y = y := by rw [mmV_max]; split <;> omega
theorem min_l {x y : Int} (h : x ≤ y) : mmV false x y = x := by rw [mmV_min]; split <;> omega
theorem min_r {x y : Int} (h : y ≤ x) : mmV false x y = y := by rw [mmV_min]; split <;> omega
theorem clamp (x : Int) : ∃ m, mmV false (mmV true x 32) 1000 = m ∧ 32 ≤ m ∧ m ≤ 1000 := ⟨_, rfl, by rw [mmV_max, mmV_min]; split <;> (try split) <;> omega, by rw [mmV_max, mmV_min]; split <;> (try split) <;> omega⟩
end Go.Mir
