/- Contracts of functions of numbers: what each gives; each leaves all that was as it was. -/
import Derived.Test.YtohonlojnflejaaGreatDoorCon2
namespace Go.Proofs.YtohonlojnflejaaGreatDoor
open Go.Mir Go.RowKit
set_option maxRecDepth 100000
def t_refWide : PT := (.leaf [.done (.tuple [(.sx .u64 (.bin .add .u64 (.bin .add .u64 (.bin .mul .u64 (.bin .quo .u64 (.var 0) (.lit 4294967296)) (.bin .quo .u64 (.var 1) (.lit 4294967296))) (.bin .quo .u64 (.bin .add .u64 (.bin .mul .u64 (.bin .quo .u64 (.var 0) (.lit 4294967296)) (.bin .rem .u64 (.var 1) (.lit 4294967296))) (.bin .quo .u64 (.bin .mul .u64 (.bin .rem .u64 (.var 0) (.lit 4294967296)) (.bin .rem .u64 (.var 1) (.lit 4294967296))) (.lit 4294967296))) (.lit 4294967296))) (.bin .quo .u64 (.bin .add .u64 (.bin .mul .u64 (.bin .rem .u64 (.var 0) (.lit 4294967296)) (.bin .quo .u64 (.var 1) (.lit 4294967296))) (.bin .rem .u64 (.bin .add .u64 (.bin .mul .u64 (.bin .quo .u64 (.var 0) (.lit 4294967296)) (.bin .rem .u64 (.var 1) (.lit 4294967296))) (.bin .quo .u64 (.bin .mul .u64 (.bin .rem .u64 (.var 0) (.lit 4294967296)) (.bin .rem .u64 (.var 1) (.lit 4294967296))) (.lit 4294967296))) (.lit 4294967296))) (.lit 4294967296)))), (.sx .u64 (.bin .add .u64 (.bin .mul .u64 (.bin .rem .u64 (.bin .add .u64 (.bin .mul .u64 (.bin .rem .u64 (.var 0) (.lit 4294967296)) (.bin .quo .u64 (.var 1) (.lit 4294967296))) (.bin .rem .u64 (.bin .add .u64 (.bin .mul .u64 (.bin .quo .u64 (.var 0) (.lit 4294967296)) (.bin .rem .u64 (.var 1) (.lit 4294967296))) (.bin .quo .u64 (.bin .mul .u64 (.bin .rem .u64 (.var 0) (.lit 4294967296)) (.bin .rem .u64 (.var 1) (.lit 4294967296))) (.lit 4294967296))) (.lit 4294967296))) (.lit 4294967296)) (.lit 4294967296)) (.bin .rem .u64 (.bin .mul .u64 (.bin .rem .u64 (.var 0) (.lit 4294967296)) (.bin .rem .u64 (.var 1) (.lit 4294967296))) (.lit 4294967296))))])])
theorem c_refWide (a b : Int) (h : (0 ≤ a ∧ a < 18446744073709551616) ∧ 0 ≤ b ∧ b < 18446744073709551616) (w : World) : Calls Tryz.prog 106 #[.int .u64 a, .int .u64 b] w (Post w (.tuple #[.int .u64 (a * b / 18446744073709551616), .int .u64 (a * b % 18446744073709551616)])) := by
  refine calls_tree noNum mixed (σ := ⟨fun i => match i with | 0 => a | 1 => b | _ => 0, fun _ _ _ _ => 0, fun _ => (none, 0)⟩) (fun B hB => ext_ok hB (lies_none)) noCons_ok Tryz.func106 (by kernel_rfl) (args := [.sx .u64 (.var 0), .sx .u64 (.var 1)]) (by kernel_rfl) (.cons (by simp only [VR, SE.eval]) (.cons (by simp only [VR, SE.eval]) .nil)) (t := t_refWide) (A := ⟨[], [(.cmp .geq (.var 0) (.lit 0), true), (.cmp .geq (.var 1) (.lit 0), true)]⟩) (ps := []) (fuel := 100000) (k := 100000) (by kernel_rfl) ⟨(fun q hq => by cases hq), (fun q hq => by
      simp only [List.mem_cons, List.not_mem_nil, or_false] at hq
      rcases hq with rfl | rfl
      all_goals
        simp only [SB.eval, SE.eval, cmp_geq]
        omega)⟩ (by kernel_rfl) ?_
  simp only [t_refWide, PT.Goal, LfGoal, den, denL, den1, SE.eval]
  exact wide_ref h.1 h.2
theorem f_refWide {σ : Val} {R : List Nat} (hR : RngOK σ R) (hs : SatOK σ) : FnOK Tryz.prog σ 106 (k_refWide R) :=
  fn2 (p := fun a b => (0 ≤ a ∧ a < 18446744073709551616) ∧ 0 ≤ b ∧ b < 18446744073709551616) (X := fun a b => .tuple #[.int .u64 (a * b / 18446744073709551616), .int .u64 (a * b % 18446744073709551616)]) (fun a b h w => c_refWide a b h w) (fun x y hx => by
    rw [Bool.and_eq_true] at hx
    exact ⟨rngE_sound hR hx.1, rngE_sound hR hx.2⟩) (fun x y hx => by
    simp only [den, denL, den1, SE.eval, appV]
    rw [hs.hi, hs.lo])
def t_bitsMul64 : PT := (.leaf [.done (.tuple [(.sx .u64 (.bin .add .u64 (.bin .add .u64 (.bin .mul .u64 (.bin .shr .u64 (.var 0) (.lit 32)) (.bin .shr .u64 (.var 1) (.lit 32))) (.bin .shr .u64 (.bin .add .u64 (.bin .mul .u64 (.bin .shr .u64 (.var 0) (.lit 32)) (.bin .and .u64 (.var 1) (.lit 4294967295))) (.bin .shr .u64 (.bin .mul .u64 (.bin .and .u64 (.var 0) (.lit 4294967295)) (.bin .and .u64 (.var 1) (.lit 4294967295))) (.lit 32))) (.lit 32))) (.bin .shr .u64 (.bin .add .u64 (.bin .and .u64 (.bin .add .u64 (.bin .mul .u64 (.bin .shr .u64 (.var 0) (.lit 32)) (.bin .and .u64 (.var 1) (.lit 4294967295))) (.bin .shr .u64 (.bin .mul .u64 (.bin .and .u64 (.var 0) (.lit 4294967295)) (.bin .and .u64 (.var 1) (.lit 4294967295))) (.lit 32))) (.lit 4294967295)) (.bin .mul .u64 (.bin .and .u64 (.var 0) (.lit 4294967295)) (.bin .shr .u64 (.var 1) (.lit 32)))) (.lit 32)))), (.sx .u64 (.bin .mul .u64 (.var 0) (.var 1)))])])
theorem c_bitsMul64 (a b : Int) (h : (0 ≤ a ∧ a < 18446744073709551616) ∧ 0 ≤ b ∧ b < 18446744073709551616) (w : World) : Calls Tryz.prog 146 #[.int .u64 a, .int .u64 b] w (Post w (.tuple #[.int .u64 (a * b / 18446744073709551616), .int .u64 (a * b % 18446744073709551616)])) := by
  refine calls_tree noNum mixed (σ := ⟨fun i => match i with | 0 => a | 1 => b | _ => 0, fun _ _ _ _ => 0, fun _ => (none, 0)⟩) (fun B hB => ext_ok hB (lies_none)) noCons_ok Tryz.func146 (by kernel_rfl) (args := [.sx .u64 (.var 0), .sx .u64 (.var 1)]) (by kernel_rfl) (.cons (by simp only [VR, SE.eval]) (.cons (by simp only [VR, SE.eval]) .nil)) (t := t_bitsMul64) (A := ⟨[], [(.cmp .geq (.var 0) (.lit 0), true), (.cmp .geq (.var 1) (.lit 0), true)]⟩) (ps := []) (fuel := 100000) (k := 100000) (by kernel_rfl) ⟨(fun q hq => by cases hq), (fun q hq => by
      simp only [List.mem_cons, List.not_mem_nil, or_false] at hq
      rcases hq with rfl | rfl
      all_goals
        simp only [SB.eval, SE.eval, cmp_geq]
        omega)⟩ (by kernel_rfl) ?_
  simp only [t_bitsMul64, PT.Goal, LfGoal, den, denL, den1, SE.eval]
  exact wide_fix h.1 h.2
theorem f_bitsMul64 {σ : Val} {R : List Nat} (hR : RngOK σ R) (hs : SatOK σ) : FnOK Tryz.prog σ 146 (k_bitsMul64 R) :=
  fn2 (p := fun a b => (0 ≤ a ∧ a < 18446744073709551616) ∧ 0 ≤ b ∧ b < 18446744073709551616) (X := fun a b => .tuple #[.int .u64 (a * b / 18446744073709551616), .int .u64 (a * b % 18446744073709551616)]) (fun a b h w => c_bitsMul64 a b h w) (fun x y hx => by
    rw [Bool.and_eq_true] at hx
    exact ⟨rngE_sound hR hx.1, rngE_sound hR hx.2⟩) (fun x y hx => by
    simp only [den, denL, den1, SE.eval, appV]
    rw [hs.hi, hs.lo])
end Go.Proofs.YtohonlojnflejaaGreatDoor
