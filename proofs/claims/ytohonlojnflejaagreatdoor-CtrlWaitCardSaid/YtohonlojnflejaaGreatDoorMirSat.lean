/- Numbers that do not wrap: plain laws. -/
import Derived.Test.YtohonlojnflejaaGreatDoorMirCon
import Derived.Lib.Mul64
namespace Go.Mir

def satAdd (a b : Int) : Int := if a + b < 18446744073709551616 then a + b else 18446744073709551615
def satSub (a b : Int) : Int := if b ≤ a then a - b else 0
def satMul (a b : Int) : Int := if a * b < 18446744073709551616 then a * b else 18446744073709551615
def satMulDiv (a b c : Int) : Int := if c = 0 ∨ c ≤ a * b / 18446744073709551616 then 18446744073709551615 else a * b / c

/-- What the functions' numbers stand for: 40: a product, 41: a sum, 42: a difference, 43: a product, divided. -/
structure SatOK (σ : Val) : Prop where
  mul : ∀ a b c, σ.app 40 a b c = satMul a b
  add : ∀ a b c, σ.app 41 a b c = satAdd a b
  sub : ∀ a b c, σ.app 42 a b c = satSub a b
  muldiv : ∀ a b c, σ.app 43 a b c = satMulDiv a b c
  hi : ∀ a b c, σ.app 45 a b c = a * b / 18446744073709551616
  lo : ∀ a b c, σ.app 46 a b c = a * b % 18446744073709551616
/-- Such functions. -/
def satApp (f : Nat) (a b c : Int) : Int :=
  match f with
  | 40 => satMul a b
  | 41 => satAdd a b
  | 42 => satSub a b
  | 43 => satMulDiv a b c
  | 45 => a * b / 18446744073709551616
  | 46 => a * b % 18446744073709551616
  | _ => 0
theorem SatOK.sub' {σ : Val} (h : SatOK σ) (τ : List (Nat × SE)) : SatOK (σ.sub τ) := ⟨h.mul, h.add, h.sub, h.muldiv, h.hi, h.lo⟩

theorem shr_u64 (x : Int) : binV .shr .u64 x 32 = x / 4294967296 := by
  simp only [binV, IntKind.bits]
  rw [show (2 : Int) ^ min (Int.toNat 32) 64 = 4294967296 by decide, Int.fdiv_eq_ediv_of_nonneg _ (by decide)]
theorem mask32 (x : Int) : binV .and .u64 x 4294967295 = x % 4294967296 := mask_u64 x 32 (by omega) _ (by decide)

def rng32 : SE → Bool
  | .wrap .u32 _ => true
  | _ => false
theorem rng32_sound {σ : Val} {e : SE} (h : rng32 e = true) : 0 ≤ e.eval σ ∧ e.eval σ < 4294967296 := by
  unfold rng32 at h
  split at h
  · simp only [SE.eval, wrap_u32]; omega
  · cases h
def hiFix (a b : Int) : Int := (binV .add .u64 (binV .add .u64 (binV .mul .u64 (binV .shr .u64 a 32) (binV .shr .u64 b 32)) (binV .shr .u64 (binV .add .u64 (binV .mul .u64 (binV .shr .u64 a 32) (binV .and .u64 b 4294967295)) (binV .shr .u64 (binV .mul .u64 (binV .and .u64 a 4294967295) (binV .and .u64 b 4294967295)) 32)) 32)) (binV .shr .u64 (binV .add .u64 (binV .and .u64 (binV .add .u64 (binV .mul .u64 (binV .shr .u64 a 32) (binV .and .u64 b 4294967295)) (binV .shr .u64 (binV .mul .u64 (binV .and .u64 a 4294967295) (binV .and .u64 b 4294967295)) 32)) 4294967295) (binV .mul .u64 (binV .and .u64 a 4294967295) (binV .shr .u64 b 32))) 32))
def loFix (a b : Int) : Int := (binV .mul .u64 a b)
def hiRef (a b : Int) : Int := (binV .add .u64 (binV .add .u64 (binV .mul .u64 (binV .quo .u64 a 4294967296) (binV .quo .u64 b 4294967296)) (binV .quo .u64 (binV .add .u64 (binV .mul .u64 (binV .quo .u64 a 4294967296) (binV .rem .u64 b 4294967296)) (binV .quo .u64 (binV .mul .u64 (binV .rem .u64 a 4294967296) (binV .rem .u64 b 4294967296)) 4294967296)) 4294967296)) (binV .quo .u64 (binV .add .u64 (binV .mul .u64 (binV .rem .u64 a 4294967296) (binV .quo .u64 b 4294967296)) (binV .rem .u64 (binV .add .u64 (binV .mul .u64 (binV .quo .u64 a 4294967296) (binV .rem .u64 b 4294967296)) (binV .quo .u64 (binV .mul .u64 (binV .rem .u64 a 4294967296) (binV .rem .u64 b 4294967296)) 4294967296)) 4294967296)) 4294967296))
def loRef (a b : Int) : Int := (binV .add .u64 (binV .mul .u64 (binV .rem .u64 (binV .add .u64 (binV .mul .u64 (binV .rem .u64 a 4294967296) (binV .quo .u64 b 4294967296)) (binV .rem .u64 (binV .add .u64 (binV .mul .u64 (binV .quo .u64 a 4294967296) (binV .rem .u64 b 4294967296)) (binV .quo .u64 (binV .mul .u64 (binV .rem .u64 a 4294967296) (binV .rem .u64 b 4294967296)) 4294967296)) 4294967296)) 4294967296) 4294967296) (binV .rem .u64 (binV .mul .u64 (binV .rem .u64 a 4294967296) (binV .rem .u64 b 4294967296)) 4294967296))

theorem split_int (a1 a0 b1 b0 : Int) : (4294967296 * a1 + a0) * (4294967296 * b1 + b0) = a1 * b1 * 18446744073709551616 + (a1 * b0 + a0 * b1) * 4294967296 + a0 * b0 := by grind

theorem halves {a b : Int} (ha : 0 ≤ a ∧ a < 18446744073709551616) (hb : 0 ≤ b ∧ b < 18446744073709551616) :
    a * b = a / 4294967296 * (b / 4294967296) * 18446744073709551616 + (a / 4294967296 * (b % 4294967296) + a % 4294967296 * (b / 4294967296)) * 4294967296 + a % 4294967296 * (b % 4294967296) ∧
    (0 ≤ a / 4294967296 * (b / 4294967296) ∧ a / 4294967296 * (b / 4294967296) ≤ 18446744065119617025) ∧ (0 ≤ a / 4294967296 * (b % 4294967296) ∧ a / 4294967296 * (b % 4294967296) ≤ 18446744065119617025) ∧
    (0 ≤ a % 4294967296 * (b / 4294967296) ∧ a % 4294967296 * (b / 4294967296) ≤ 18446744065119617025) ∧ (0 ≤ a % 4294967296 * (b % 4294967296) ∧ a % 4294967296 * (b % 4294967296) ≤ 18446744065119617025) := by
  have half : ∀ p q : Int, 0 ≤ p ∧ p ≤ 4294967295 → 0 ≤ q ∧ q ≤ 4294967295 → 0 ≤ p * q ∧ p * q ≤ 18446744065119617025 := fun p q hp hq =>
    ⟨Int.mul_nonneg hp.1 hq.1, Int.le_trans (Int.mul_le_mul hp.2 hq.2 hq.1 (by decide)) (by decide)⟩
  refine ⟨?_, half _ _ (by omega) (by omega), half _ _ (by omega) (by omega), half _ _ (by omega) (by omega), half _ _ (by omega) (by omega)⟩
  rw [← split_int, Int.mul_ediv_add_emod, Int.mul_ediv_add_emod]

theorem hiFix_eq {a b : Int} (ha : 0 ≤ a ∧ a < 18446744073709551616) (hb : 0 ≤ b ∧ b < 18446744073709551616) : hiFix a b = a * b / 18446744073709551616 := by
  obtain ⟨e, p1, p2, p3, p4⟩ := halves ha hb
  simp only [hiFix, add_u64, mul_u64, shr_u64, mask32]
  rw [e]
  generalize a / 4294967296 * (b / 4294967296) = x1 at *
  generalize a / 4294967296 * (b % 4294967296) = x2 at *
  generalize a % 4294967296 * (b / 4294967296) = x3 at *
  generalize a % 4294967296 * (b % 4294967296) = x4 at *
  omega
theorem quo_pos {a c : Int} (ha : 0 ≤ a) : binV .quo .u64 a c = a / c % 18446744073709551616 := by rw [quo_u64, if_pos ha]
theorem rem_pos {a c : Int} (ha : 0 ≤ a) : binV .rem .u64 a c = a % c := by rw [rem_u64, if_pos ha]
theorem hiRef_eq {a b : Int} (ha : 0 ≤ a ∧ a < 18446744073709551616) (hb : 0 ≤ b ∧ b < 18446744073709551616) : hiRef a b = a * b / 18446744073709551616 := by
  obtain ⟨e, p1, p2, p3, p4⟩ := halves ha hb
  have q1 : binV .quo .u64 a 4294967296 = a / 4294967296 := by rw [quo_pos ha.1]; omega
  have q2 : binV .quo .u64 b 4294967296 = b / 4294967296 := by rw [quo_pos hb.1]; omega
  have q3 : binV .rem .u64 a 4294967296 = a % 4294967296 := rem_pos ha.1
  have q4 : binV .rem .u64 b 4294967296 = b % 4294967296 := rem_pos hb.1
  simp only [hiRef, q1, q2, q3, q4]
  simp only [add_u64, mul_u64, quo_u64, rem_u64]
  rw [e]
  generalize a / 4294967296 * (b / 4294967296) = x1 at *
  generalize a / 4294967296 * (b % 4294967296) = x2 at *
  generalize a % 4294967296 * (b / 4294967296) = x3 at *
  generalize a % 4294967296 * (b % 4294967296) = x4 at *
  omega
theorem loRef_eq {a b : Int} (ha : 0 ≤ a ∧ a < 18446744073709551616) (hb : 0 ≤ b ∧ b < 18446744073709551616) : loRef a b = a * b % 18446744073709551616 := by
  obtain ⟨e, p1, p2, p3, p4⟩ := halves ha hb
  have q1 : binV .quo .u64 a 4294967296 = a / 4294967296 := by rw [quo_pos ha.1]; omega
  have q2 : binV .quo .u64 b 4294967296 = b / 4294967296 := by rw [quo_pos hb.1]; omega
  have q3 : binV .rem .u64 a 4294967296 = a % 4294967296 := rem_pos ha.1
  have q4 : binV .rem .u64 b 4294967296 = b % 4294967296 := rem_pos hb.1
  simp only [loRef, q1, q2, q3, q4]
  simp only [add_u64, mul_u64, quo_u64, rem_u64]
  rw [e]
  generalize a / 4294967296 * (b / 4294967296) = x1 at *
  generalize a / 4294967296 * (b % 4294967296) = x2 at *
  generalize a % 4294967296 * (b / 4294967296) = x3 at *
  generalize a % 4294967296 * (b % 4294967296) = x4 at *
  omega

theorem wide_fix {a b : Int} (ha : 0 ≤ a ∧ a < 18446744073709551616) (hb : 0 ≤ b ∧ b < 18446744073709551616) :
    some (Value.tuple [Value.int .u64 (hiFix a b), Value.int .u64 (loFix a b)].toArray) = some (Value.tuple #[.int .u64 (a * b / 18446744073709551616), .int .u64 (a * b % 18446744073709551616)]) ∧ True := by
  rw [hiFix_eq ha hb]
  simp only [loFix, mul_u64, and_true]
theorem wide_ref {a b : Int} (ha : 0 ≤ a ∧ a < 18446744073709551616) (hb : 0 ≤ b ∧ b < 18446744073709551616) :
    some (Value.tuple [Value.int .u64 (hiRef a b), Value.int .u64 (loRef a b)].toArray) = some (Value.tuple #[.int .u64 (a * b / 18446744073709551616), .int .u64 (a * b % 18446744073709551616)]) ∧ True := by
  rw [hiRef_eq ha hb, loRef_eq ha hb]
  simp only [and_true]
theorem mul_fix {a b : Int} (ha : 0 ≤ a ∧ a < 18446744073709551616) (hb : 0 ≤ b ∧ b < 18446744073709551616) :
    (cmpV .gtr (hiFix a b) 0 = true → some (Value.int .u64 18446744073709551615) = some (Value.int .u64 (satMul a b)) ∧ True) ∧ (cmpV .gtr (hiFix a b) 0 = false → some (Value.int .u64 (loFix a b)) = some (Value.int .u64 (satMul a b)) ∧ True) := by
  rw [hiFix_eq ha hb]
  have h0 := Int.mul_nonneg ha.1 hb.1
  simp only [loFix, mul_u64, satMul, cmp_gtr, cmp_gtr0, and_true, Option.some.injEq, Value.int.injEq, true_and]
  generalize a * b = n at *
  refine ⟨fun h => ?_, fun h => ?_⟩ <;> omega
theorem mul_ref {a b : Int} (ha : 0 ≤ a ∧ a < 18446744073709551616) (hb : 0 ≤ b ∧ b < 18446744073709551616) :
    (cmpV .gtr (hiRef a b) 0 = true → some (Value.int .u64 18446744073709551615) = some (Value.int .u64 (satMul a b)) ∧ True) ∧ (cmpV .gtr (hiRef a b) 0 = false → some (Value.int .u64 (loRef a b)) = some (Value.int .u64 (satMul a b)) ∧ True) := by
  rw [hiRef_eq ha hb, loRef_eq ha hb]
  have h0 := Int.mul_nonneg ha.1 hb.1
  simp only [satMul, cmp_gtr, cmp_gtr0, and_true, Option.some.injEq, Value.int.injEq, true_and]
  generalize a * b = n at *
  refine ⟨fun h => ?_, fun h => ?_⟩ <;> omega

theorem rng_vars {σ : Val} {L : List Nat} (hL : L.all (fun i => Nat.blt i 1000) = true) (h : ∀ i ∈ L, 0 ≤ σ.v i ∧ σ.v i < 18446744073709551616) : RngOK σ L := by
  refine ⟨fun i hi => ?_, fun f hf => ?_⟩
  · rw [Bool.and_eq_true] at hi
    obtain ⟨j, hj, he⟩ := List.any_eq_true.1 hi.2
    rw [Nat.eq_of_beq_eq_true he]; exact h j hj
  · obtain ⟨j, hj, he⟩ := List.any_eq_true.1 hf
    have h1 := Nat.eq_of_beq_eq_true he
    have h2 : j < 1000 := Nat.le_of_ble_eq_true (List.all_eq_true.1 hL j hj)
    omega
theorem rng_sat {σ : Val} (hs : SatOK σ) {L : List Nat} (hL : L.all (fun i => Nat.blt i 1000) = true) (h : ∀ i ∈ L, 0 ≤ σ.v i ∧ σ.v i < 18446744073709551616) : RngOK σ (1040 :: 1041 :: 1042 :: 1043 :: 1045 :: 1046 :: L) := by
  have hv := rng_vars hL h
  refine ⟨fun i hi => ?_, fun f hf a b c ha hb hc => ?_⟩
  · simp only [List.any_cons, Bool.and_eq_true, Bool.or_eq_true] at hi
    obtain ⟨hb, hi⟩ := hi
    have hlt : i < 1000 := Nat.le_of_ble_eq_true hb
    rcases hi with hi | hi | hi | hi | hi | hi | hi
    · have := Nat.eq_of_beq_eq_true hi; omega
    · have := Nat.eq_of_beq_eq_true hi; omega
    · have := Nat.eq_of_beq_eq_true hi; omega
    · have := Nat.eq_of_beq_eq_true hi; omega
    · have := Nat.eq_of_beq_eq_true hi; omega
    · have := Nat.eq_of_beq_eq_true hi; omega
    · exact hv.1 i (by rw [Bool.and_eq_true]; exact ⟨hb, hi⟩)
  · have hab := Int.mul_nonneg ha.1 hb.1
    simp only [List.any_cons, Bool.or_eq_true] at hf
    rcases hf with hf | hf | hf | hf | hf | hf | hf
    · have := Nat.eq_of_beq_eq_true hf
      obtain rfl : f = 40 := by omega
      show 0 ≤ σ.app 40 a b c ∧ σ.app 40 a b c < _
      rw [hs.mul]; unfold satMul; split <;> omega
    · have := Nat.eq_of_beq_eq_true hf
      obtain rfl : f = 41 := by omega
      show 0 ≤ σ.app 41 a b c ∧ σ.app 41 a b c < _
      rw [hs.add]; unfold satAdd; split <;> omega
    · have := Nat.eq_of_beq_eq_true hf
      obtain rfl : f = 42 := by omega
      show 0 ≤ σ.app 42 a b c ∧ σ.app 42 a b c < _
      rw [hs.sub]; unfold satSub; split <;> omega
    · have := Nat.eq_of_beq_eq_true hf
      obtain rfl : f = 43 := by omega
      show 0 ≤ σ.app 43 a b c ∧ σ.app 43 a b c < _
      rw [hs.muldiv]; unfold satMulDiv
      split
      · omega
      · rename_i hn
        have hc0 : 0 < c := by omega
        have h1 : a * b / 18446744073709551616 < c := by omega
        refine ⟨Int.ediv_nonneg hab hc.1, ?_⟩
        have h2 : a * b < c * 18446744073709551616 := by omega
        exact Int.ediv_lt_of_lt_mul hc0 (by omega)
    · have := Nat.eq_of_beq_eq_true hf
      obtain rfl : f = 45 := by omega
      show 0 ≤ σ.app 45 a b c ∧ σ.app 45 a b c < _
      have hlt : a * b ≤ 18446744073709551615 * 18446744073709551615 := Int.mul_le_mul (by omega) (by omega) hb.1 (by decide)
      rw [hs.hi]; omega
    · have := Nat.eq_of_beq_eq_true hf
      obtain rfl : f = 46 := by omega
      show 0 ≤ σ.app 46 a b c ∧ σ.app 46 a b c < _
      rw [hs.lo]; omega
    · obtain ⟨j, hj, he⟩ := List.any_eq_true.1 hf
      have h1 := Nat.eq_of_beq_eq_true he
      have h2 : j < 1000 := Nat.le_of_ble_eq_true (List.all_eq_true.1 hL j hj)
      omega
end Go.Mir
