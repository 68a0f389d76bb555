/- A product, divided bit by bit: plain laws. -/
import Derived.Test.YtohonlojnflejaaGreatDoorMirRng
namespace Go.Mir

theorem bit_step (T : Int) (hT : 0 ≤ T) (k : Nat) (hk : k < 64) :
    T / ((2 ^ k : Nat) : Int) = 2 * (T / ((2 ^ (k + 1) : Nat) : Int)) + (T % 18446744073709551616 / ((2 ^ k : Nat) : Int)) % 2 := by
  obtain ⟨n, rfl⟩ := Int.eq_ofNat_of_zero_le hT
  have h1 : n / 2 ^ (k + 1) = n / 2 ^ k / 2 := by rw [Nat.pow_succ, Nat.div_div_eq_div_mul]
  have e : (18446744073709551616 : Nat) = 2 ^ k * 2 ^ (64 - k) := by
    rw [← Nat.pow_add, show k + (64 - k) = 64 by omega]
  have h2 : n % 18446744073709551616 / 2 ^ k % 2 = n / 2 ^ k % 2 := by
    rw [e, Nat.mod_mul_right_div_self]
    refine Nat.mod_mod_of_dvd _ ?_
    exact Nat.dvd_trans (Nat.dvd_refl 2) (by
      have : 64 - k = (63 - k) + 1 := by omega
      rw [this, Nat.pow_succ]; exact Nat.dvd_mul_left 2 _)
  have h3 : n / 2 ^ k = 2 * (n / 2 ^ (k + 1)) + (n % 18446744073709551616 / 2 ^ k) % 2 := by rw [h1, h2]; omega
  have h4 : ((n / 2 ^ k : Nat) : Int) = ((2 * (n / 2 ^ (k + 1)) + (n % 18446744073709551616 / 2 ^ k) % 2 : Nat) : Int) := congrArg _ h3
  simp only [Int.natCast_add, Int.natCast_mul, Int.natCast_ediv, Int.natCast_emod] at h4
  exact h4

/-- One bit more. -/
theorem md_step {n1 n0 c q r b : Int} (hc : 0 < c) (hn : n0 = 2 * n1 + b) (hb : 0 ≤ b ∧ b < 2) (hq : q = n1 / c) (hr : r = n1 % c) :
    (2 * r + b < c → n0 / c = 2 * q ∧ n0 % c = 2 * r + b) ∧ (c ≤ 2 * r + b → n0 / c = 2 * q + 1 ∧ n0 % c = 2 * r + b - c) := by
  have e1 := Int.mul_ediv_add_emod n1 c
  have e2 := Int.emod_nonneg n1 (Int.ne_of_gt hc)
  have e3 := Int.emod_lt_of_pos n1 hc
  rw [← hq, ← hr] at e1
  rw [← hr] at e2 e3
  have uniq : ∀ q' r', n0 = c * q' + r' → 0 ≤ r' → r' < c → n0 / c = q' ∧ n0 % c = r' := fun q' r' h h0 h1 =>
    (Int.ediv_emod_unique hc).2 ⟨by omega, h0, h1⟩
  have d1 : c * (2 * q) = 2 * (c * q) := by rw [Int.mul_left_comm]
  have d2 : c * (2 * q + 1) = 2 * (c * q) + c := by rw [Int.mul_add, d1, Int.mul_one]
  refine ⟨fun h => uniq _ _ (by rw [d1]; omega) (by omega) h, fun h => uniq _ _ (by rw [d2]; omega) (by omega) (by omega)⟩

theorem shr_k (x : Int) (k : Nat) (hk : k < 64) (y : Int) (hy : y = (k : Int)) : binV .shr .u64 x y = x / ((2 ^ k : Nat) : Int) := by
  subst hy
  simp only [binV, IntKind.bits]
  rw [show min (Int.toNat (k : Int)) 64 = k by omega, Int.fdiv_eq_ediv_of_nonneg _ (by exact_mod_cast Nat.zero_le _)]
  norm_cast
theorem md_leaf {A B c l i q r : Int} (hT : 0 ≤ A * B) (hc : 1 ≤ c) (hH : A * B / 18446744073709551616 < c) (hl : l = A * B % 18446744073709551616) (h0 : 0 ≤ i) (h1 : i ≤ 63)
    (hq : q = A * B / ((2 ^ (i + 1).toNat : Nat) : Int) / c) (hr : r = A * B / ((2 ^ (i + 1).toNat : Nat) : Int) % c) :
    ∃ S, binV .shr .u64 l i = S ∧ 0 ≤ S ∧
      (2 * r + S % 2 < c → A * B / ((2 ^ (i - 1 + 1).toNat : Nat) : Int) / c = 2 * q ∧ A * B / ((2 ^ (i - 1 + 1).toNat : Nat) : Int) % c = 2 * r + S % 2) ∧
      (c ≤ 2 * r + S % 2 → A * B / ((2 ^ (i - 1 + 1).toNat : Nat) : Int) / c = 2 * q + 1 ∧ A * B / ((2 ^ (i - 1 + 1).toNat : Nat) : Int) % c = 2 * r + S % 2 - c) ∧
      0 ≤ r ∧ r < c ∧ 0 ≤ q ∧ A * B / ((2 ^ (i - 1 + 1).toNat : Nat) : Int) / c < 18446744073709551616 := by
  generalize A * B = T at *
  obtain ⟨k, rfl⟩ := Int.eq_ofNat_of_zero_le h0
  have hk : k < 64 := by omega
  have e1 : ((k : Int) + 1).toNat = k + 1 := by omega
  have e2 : ((k : Int) - 1 + 1).toNat = k := by omega
  rw [e1] at hq hr
  rw [e2]
  have hp : (0 : Int) < ((2 ^ k : Nat) : Int) := by
    have := Nat.two_pow_pos k
    omega
  have hl0 : 0 ≤ l := by omega
  have hb := bit_step T hT k hk
  rw [← hl] at hb
  refine ⟨l / ((2 ^ k : Nat) : Int), shr_k l k hk _ rfl, Int.ediv_nonneg hl0 (Int.le_of_lt hp), ?_⟩
  have z := md_step (c := c) (q := q) (r := r) (by omega) hb (by omega) hq hr
  refine ⟨z.1, z.2, by rw [hr]; exact Int.emod_nonneg _ (by omega), by rw [hr]; exact Int.emod_lt_of_pos _ (by omega), ?_, ?_⟩
  · rw [hq]; exact Int.ediv_nonneg (Int.ediv_nonneg hT (by omega)) (by omega)
  · have h3 : T / ((2 ^ k : Nat) : Int) ≤ T := Int.ediv_le_self _ hT
    have h4 : T < 18446744073709551616 * c := by omega
    exact Int.ediv_lt_of_lt_mul (by omega) (by omega)
theorem md_start {A B c : Int} (hT : 0 ≤ A * B) (hH : A * B / 18446744073709551616 < c) : 0 = A * B / ((2 ^ ((63 : Int) + 1).toNat : Nat) : Int) / c ∧ A * B / 18446744073709551616 = A * B / ((2 ^ ((63 : Int) + 1).toNat : Nat) : Int) % c := by
  have e : ((2 ^ ((63 : Int) + 1).toNat : Nat) : Int) = 18446744073709551616 := by decide
  have h0 : 0 ≤ A * B / 18446744073709551616 := Int.ediv_nonneg hT (by omega)
  rw [e]
  exact ⟨(Int.ediv_eq_zero_of_lt h0 hH).symm, (Int.emod_eq_of_lt h0 hH).symm⟩
theorem md_end {A B c i q : Int} (hi : -1 ≤ i) (hn : i < 0) (hc : 1 ≤ c) (hH : A * B / 18446744073709551616 < c) (hq : q = A * B / ((2 ^ (i + 1).toNat : Nat) : Int) / c) : satMulDiv A B c = q := by
  have e : (i + 1).toNat = 0 := by omega
  rw [e] at hq
  unfold satMulDiv
  rw [if_neg (by omega), hq]
  simp
end Go.Mir
