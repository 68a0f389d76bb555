/- Contracts of functions of numbers: what each gives; each leaves all that was as it was. -/
import Derived.Test.YtohonlojnflejaaGreatDoorCon1
namespace Go.Proofs.YtohonlojnflejaaGreatDoor
open Go.Mir Go.RowKit
set_option maxRecDepth 100000
def t_fixAdd : PT := (.split (.cmp .gtr (.app 30 (.var 0) (.var 1) (.lit 0)) (.lit 0)) (.leaf [.done (.int .u64 18446744073709551615)]) (.leaf [.done (.sx .u64 (.app 31 (.var 0) (.var 1) (.lit 0)))]))
theorem c_fixAdd (a b : Int) (h : (0 ≤ a ∧ a < 18446744073709551616) ∧ 0 ≤ b ∧ b < 18446744073709551616) (w : World) : Calls Tryz.prog 109 #[.int .u64 a, .int .u64 b] w (Post w (.int .u64 (satAdd a b))) := by
  refine calls_tree noNum mixed (σ := ⟨fun i => match i with | 0 => a | 1 => b | _ => 0, fun _ _ _ _ => 0, fun _ => (none, 0)⟩) (fun B hB => ext_ok hB (lies_none)) noCons_ok Tryz.func109 (by kernel_rfl) (args := [.sx .u64 (.var 0), .sx .u64 (.var 1)]) (by kernel_rfl) (.cons (by simp only [VR, SE.eval]) (.cons (by simp only [VR, SE.eval]) .nil)) (t := t_fixAdd) (A := ⟨[], [(.cmp .geq (.var 0) (.lit 0), true), (.cmp .geq (.var 1) (.lit 0), true)]⟩) (ps := []) (fuel := 100000) (k := 100000) (by kernel_rfl) ⟨(fun q hq => by cases hq), (fun q hq => by
      simp only [List.mem_cons, List.not_mem_nil, or_false] at hq
      rcases hq with rfl | rfl
      all_goals
        simp only [SB.eval, SE.eval, cmp_geq]
        omega)⟩ (by kernel_rfl) ?_
  simp only [t_fixAdd, PT.Goal, LfGoal, den, den1, SE.eval, SB.eval, appV, cmp_gtr, cmp_gtr0]
  repeat' first | apply And.intro | intro _
  all_goals try simp only [satAdd, Option.some.injEq, Value.int.injEq, true_and]
  all_goals first | trivial | omega
theorem f_fixAdd {σ : Val} {R : List Nat} (hR : RngOK σ R) (hs : SatOK σ) : FnOK Tryz.prog σ 109 (k_fixAdd R) :=
  fn2 (p := fun a b => (0 ≤ a ∧ a < 18446744073709551616) ∧ 0 ≤ b ∧ b < 18446744073709551616) (X := fun a b => .int .u64 (satAdd a b)) (fun a b h w => c_fixAdd a b h w) (fun x y hx => by
    rw [Bool.and_eq_true] at hx
    exact ⟨rngE_sound hR hx.1, rngE_sound hR hx.2⟩) (fun x y hx => by
    simp only [den, den1, SE.eval, appV]
    rw [hs.add])
def t_fixSub : PT := (.leaf [.done (.sx .u64 (.bin .sub .u64 (.var 0) (.mm false (.var 0) (.var 1))))])
theorem c_fixSub (a b : Int) (h : (0 ≤ a ∧ a < 18446744073709551616) ∧ 0 ≤ b ∧ b < 18446744073709551616) (w : World) : Calls Tryz.prog 108 #[.int .u64 a, .int .u64 b] w (Post w (.int .u64 (satSub a b))) := by
  refine calls_tree noNum mixed (σ := ⟨fun i => match i with | 0 => a | 1 => b | _ => 0, fun _ _ _ _ => 0, fun _ => (none, 0)⟩) (fun B hB => ext_ok hB (lies_none)) noCons_ok Tryz.func108 (by kernel_rfl) (args := [.sx .u64 (.var 0), .sx .u64 (.var 1)]) (by kernel_rfl) (.cons (by simp only [VR, SE.eval]) (.cons (by simp only [VR, SE.eval]) .nil)) (t := t_fixSub) (A := ⟨[], [(.cmp .geq (.var 0) (.lit 0), true), (.cmp .geq (.var 1) (.lit 0), true)]⟩) (ps := []) (fuel := 100000) (k := 100000) (by kernel_rfl) ⟨(fun q hq => by cases hq), (fun q hq => by
      simp only [List.mem_cons, List.not_mem_nil, or_false] at hq
      rcases hq with rfl | rfl
      all_goals
        simp only [SB.eval, SE.eval, cmp_geq]
        omega)⟩ (by kernel_rfl) ?_
  simp only [t_fixSub, PT.Goal, LfGoal, den, den1, SE.eval, sub_u64, mmV_min]
  repeat' first | apply And.intro | intro _
  all_goals try simp only [satSub, Option.some.injEq, Value.int.injEq, true_and]
  all_goals first | trivial | omega
theorem f_fixSub {σ : Val} {R : List Nat} (hR : RngOK σ R) (hs : SatOK σ) : FnOK Tryz.prog σ 108 (k_fixSub R) :=
  fn2 (p := fun a b => (0 ≤ a ∧ a < 18446744073709551616) ∧ 0 ≤ b ∧ b < 18446744073709551616) (X := fun a b => .int .u64 (satSub a b)) (fun a b h w => c_fixSub a b h w) (fun x y hx => by
    rw [Bool.and_eq_true] at hx
    exact ⟨rngE_sound hR hx.1, rngE_sound hR hx.2⟩) (fun x y hx => by
    simp only [den, den1, SE.eval, appV]
    rw [hs.sub])
def t_fixMul : PT := (.split (.cmp .gtr (.bin .add .u64 (.bin .add .u64 (.bin .mul .u64 (.bin .shr .u64 (.var 0) (.lit 32)) (.bin .shr .u64 (.var 1) (.lit 32))) (.bin .shr .u64 (.bin .add .u64 (.bin .mul .u64 (.bin .shr .u64 (.var 0) (.lit 32)) (.bin .and .u64 (.var 1) (.lit 4294967295))) (.bin .shr .u64 (.bin .mul .u64 (.bin .and .u64 (.var 0) (.lit 4294967295)) (.bin .and .u64 (.var 1) (.lit 4294967295))) (.lit 32))) (.lit 32))) (.bin .shr .u64 (.bin .add .u64 (.bin .and .u64 (.bin .add .u64 (.bin .mul .u64 (.bin .shr .u64 (.var 0) (.lit 32)) (.bin .and .u64 (.var 1) (.lit 4294967295))) (.bin .shr .u64 (.bin .mul .u64 (.bin .and .u64 (.var 0) (.lit 4294967295)) (.bin .and .u64 (.var 1) (.lit 4294967295))) (.lit 32))) (.lit 4294967295)) (.bin .mul .u64 (.bin .and .u64 (.var 0) (.lit 4294967295)) (.bin .shr .u64 (.var 1) (.lit 32)))) (.lit 32))) (.lit 0)) (.leaf [.done (.int .u64 18446744073709551615)]) (.leaf [.done (.sx .u64 (.bin .mul .u64 (.var 0) (.var 1)))]))
theorem c_fixMul (a b : Int) (h : (0 ≤ a ∧ a < 18446744073709551616) ∧ 0 ≤ b ∧ b < 18446744073709551616) (w : World) : Calls Tryz.prog 104 #[.int .u64 a, .int .u64 b] w (Post w (.int .u64 (satMul a b))) := by
  refine calls_tree noNum mixed (σ := ⟨fun i => match i with | 0 => a | 1 => b | _ => 0, fun _ _ _ _ => 0, fun _ => (none, 0)⟩) (fun B hB => ext_ok hB (lies_none)) noCons_ok Tryz.func104 (by kernel_rfl) (args := [.sx .u64 (.var 0), .sx .u64 (.var 1)]) (by kernel_rfl) (.cons (by simp only [VR, SE.eval]) (.cons (by simp only [VR, SE.eval]) .nil)) (t := t_fixMul) (A := ⟨[], [(.cmp .geq (.var 0) (.lit 0), true), (.cmp .geq (.var 1) (.lit 0), true)]⟩) (ps := []) (fuel := 100000) (k := 100000) (by kernel_rfl) ⟨(fun q hq => by cases hq), (fun q hq => by
      simp only [List.mem_cons, List.not_mem_nil, or_false] at hq
      rcases hq with rfl | rfl
      all_goals
        simp only [SB.eval, SE.eval, cmp_geq]
        omega)⟩ (by kernel_rfl) ?_
  simp only [t_fixMul, PT.Goal, LfGoal, den, den1, SE.eval, SB.eval]
  exact mul_fix h.1 h.2
theorem f_fixMul {σ : Val} {R : List Nat} (hR : RngOK σ R) (hs : SatOK σ) : FnOK Tryz.prog σ 104 (k_fixMul R) :=
  fn2 (p := fun a b => (0 ≤ a ∧ a < 18446744073709551616) ∧ 0 ≤ b ∧ b < 18446744073709551616) (X := fun a b => .int .u64 (satMul a b)) (fun a b h w => c_fixMul a b h w) (fun x y hx => by
    rw [Bool.and_eq_true] at hx
    exact ⟨rngE_sound hR hx.1, rngE_sound hR hx.2⟩) (fun x y hx => by
    simp only [den, den1, SE.eval, appV]
    rw [hs.mul])
def t_refAdd : PT := (.split (.cmp .gtr (.var 1) (.bin .sub .u64 (.lit 18446744073709551615) (.var 0))) (.leaf [.done (.int .u64 18446744073709551615)]) (.leaf [.done (.sx .u64 (.bin .add .u64 (.var 0) (.var 1)))]))
theorem c_refAdd (a b : Int) (h : (0 ≤ a ∧ a < 18446744073709551616) ∧ 0 ≤ b ∧ b < 18446744073709551616) (w : World) : Calls Tryz.prog 111 #[.int .u64 a, .int .u64 b] w (Post w (.int .u64 (satAdd a b))) := by
  refine calls_tree noNum mixed (σ := ⟨fun i => match i with | 0 => a | 1 => b | _ => 0, fun _ _ _ _ => 0, fun _ => (none, 0)⟩) (fun B hB => ext_ok hB (lies_none)) noCons_ok Tryz.func111 (by kernel_rfl) (args := [.sx .u64 (.var 0), .sx .u64 (.var 1)]) (by kernel_rfl) (.cons (by simp only [VR, SE.eval]) (.cons (by simp only [VR, SE.eval]) .nil)) (t := t_refAdd) (A := ⟨[], [(.cmp .geq (.var 0) (.lit 0), true), (.cmp .geq (.var 1) (.lit 0), true)]⟩) (ps := []) (fuel := 100000) (k := 100000) (by kernel_rfl) ⟨(fun q hq => by cases hq), (fun q hq => by
      simp only [List.mem_cons, List.not_mem_nil, or_false] at hq
      rcases hq with rfl | rfl
      all_goals
        simp only [SB.eval, SE.eval, cmp_geq]
        omega)⟩ (by kernel_rfl) ?_
  simp only [t_refAdd, PT.Goal, LfGoal, den, den1, SE.eval, SB.eval, add_u64, sub_u64, cmp_gtr, cmp_gtr0]
  repeat' first | apply And.intro | intro _
  all_goals try simp only [satAdd, Option.some.injEq, Value.int.injEq, true_and]
  all_goals first | trivial | omega
theorem f_refAdd {σ : Val} {R : List Nat} (hR : RngOK σ R) (hs : SatOK σ) : FnOK Tryz.prog σ 111 (k_refAdd R) :=
  fn2 (p := fun a b => (0 ≤ a ∧ a < 18446744073709551616) ∧ 0 ≤ b ∧ b < 18446744073709551616) (X := fun a b => .int .u64 (satAdd a b)) (fun a b h w => c_refAdd a b h w) (fun x y hx => by
    rw [Bool.and_eq_true] at hx
    exact ⟨rngE_sound hR hx.1, rngE_sound hR hx.2⟩) (fun x y hx => by
    simp only [den, den1, SE.eval, appV]
    rw [hs.add])
def t_refSub : PT := (.split (.cmp .gtr (.var 1) (.var 0)) (.leaf [.done (.int .u64 0)]) (.leaf [.done (.sx .u64 (.bin .sub .u64 (.var 0) (.var 1)))]))
theorem c_refSub (a b : Int) (h : (0 ≤ a ∧ a < 18446744073709551616) ∧ 0 ≤ b ∧ b < 18446744073709551616) (w : World) : Calls Tryz.prog 110 #[.int .u64 a, .int .u64 b] w (Post w (.int .u64 (satSub a b))) := by
  refine calls_tree noNum mixed (σ := ⟨fun i => match i with | 0 => a | 1 => b | _ => 0, fun _ _ _ _ => 0, fun _ => (none, 0)⟩) (fun B hB => ext_ok hB (lies_none)) noCons_ok Tryz.func110 (by kernel_rfl) (args := [.sx .u64 (.var 0), .sx .u64 (.var 1)]) (by kernel_rfl) (.cons (by simp only [VR, SE.eval]) (.cons (by simp only [VR, SE.eval]) .nil)) (t := t_refSub) (A := ⟨[], [(.cmp .geq (.var 0) (.lit 0), true), (.cmp .geq (.var 1) (.lit 0), true)]⟩) (ps := []) (fuel := 100000) (k := 100000) (by kernel_rfl) ⟨(fun q hq => by cases hq), (fun q hq => by
      simp only [List.mem_cons, List.not_mem_nil, or_false] at hq
      rcases hq with rfl | rfl
      all_goals
        simp only [SB.eval, SE.eval, cmp_geq]
        omega)⟩ (by kernel_rfl) ?_
  simp only [t_refSub, PT.Goal, LfGoal, den, den1, SE.eval, SB.eval, sub_u64, cmp_gtr, cmp_gtr0]
  repeat' first | apply And.intro | intro _
  all_goals try simp only [satSub, Option.some.injEq, Value.int.injEq, true_and]
  all_goals first | trivial | omega
theorem f_refSub {σ : Val} {R : List Nat} (hR : RngOK σ R) (hs : SatOK σ) : FnOK Tryz.prog σ 110 (k_refSub R) :=
  fn2 (p := fun a b => (0 ≤ a ∧ a < 18446744073709551616) ∧ 0 ≤ b ∧ b < 18446744073709551616) (X := fun a b => .int .u64 (satSub a b)) (fun a b h w => c_refSub a b h w) (fun x y hx => by
    rw [Bool.and_eq_true] at hx
    exact ⟨rngE_sound hR hx.1, rngE_sound hR hx.2⟩) (fun x y hx => by
    simp only [den, den1, SE.eval, appV]
    rw [hs.sub])
def t_refMul : PT := (.split (.cmp .gtr (.bin .add .u64 (.bin .add .u64 (.bin .mul .u64 (.bin .quo .u64 (.var 0) (.lit 4294967296)) (.bin .quo .u64 (.var 1) (.lit 4294967296))) (.bin .quo .u64 (.bin .add .u64 (.bin .mul .u64 (.bin .quo .u64 (.var 0) (.lit 4294967296)) (.bin .rem .u64 (.var 1) (.lit 4294967296))) (.bin .quo .u64 (.bin .mul .u64 (.bin .rem .u64 (.var 0) (.lit 4294967296)) (.bin .rem .u64 (.var 1) (.lit 4294967296))) (.lit 4294967296))) (.lit 4294967296))) (.bin .quo .u64 (.bin .add .u64 (.bin .mul .u64 (.bin .rem .u64 (.var 0) (.lit 4294967296)) (.bin .quo .u64 (.var 1) (.lit 4294967296))) (.bin .rem .u64 (.bin .add .u64 (.bin .mul .u64 (.bin .quo .u64 (.var 0) (.lit 4294967296)) (.bin .rem .u64 (.var 1) (.lit 4294967296))) (.bin .quo .u64 (.bin .mul .u64 (.bin .rem .u64 (.var 0) (.lit 4294967296)) (.bin .rem .u64 (.var 1) (.lit 4294967296))) (.lit 4294967296))) (.lit 4294967296))) (.lit 4294967296))) (.lit 0)) (.leaf [.done (.int .u64 18446744073709551615)]) (.leaf [.done (.sx .u64 (.bin .add .u64 (.bin .mul .u64 (.bin .rem .u64 (.bin .add .u64 (.bin .mul .u64 (.bin .rem .u64 (.var 0) (.lit 4294967296)) (.bin .quo .u64 (.var 1) (.lit 4294967296))) (.bin .rem .u64 (.bin .add .u64 (.bin .mul .u64 (.bin .quo .u64 (.var 0) (.lit 4294967296)) (.bin .rem .u64 (.var 1) (.lit 4294967296))) (.bin .quo .u64 (.bin .mul .u64 (.bin .rem .u64 (.var 0) (.lit 4294967296)) (.bin .rem .u64 (.var 1) (.lit 4294967296))) (.lit 4294967296))) (.lit 4294967296))) (.lit 4294967296)) (.lit 4294967296)) (.bin .rem .u64 (.bin .mul .u64 (.bin .rem .u64 (.var 0) (.lit 4294967296)) (.bin .rem .u64 (.var 1) (.lit 4294967296))) (.lit 4294967296))))]))
theorem c_refMul (a b : Int) (h : (0 ≤ a ∧ a < 18446744073709551616) ∧ 0 ≤ b ∧ b < 18446744073709551616) (w : World) : Calls Tryz.prog 112 #[.int .u64 a, .int .u64 b] w (Post w (.int .u64 (satMul a b))) := by
  refine calls_tree noNum mixed (σ := ⟨fun i => match i with | 0 => a | 1 => b | _ => 0, fun _ _ _ _ => 0, fun _ => (none, 0)⟩) (fun B hB => ext_ok hB (lies_none)) noCons_ok Tryz.func112 (by kernel_rfl) (args := [.sx .u64 (.var 0), .sx .u64 (.var 1)]) (by kernel_rfl) (.cons (by simp only [VR, SE.eval]) (.cons (by simp only [VR, SE.eval]) .nil)) (t := t_refMul) (A := ⟨[], [(.cmp .geq (.var 0) (.lit 0), true), (.cmp .geq (.var 1) (.lit 0), true)]⟩) (ps := []) (fuel := 100000) (k := 100000) (by kernel_rfl) ⟨(fun q hq => by cases hq), (fun q hq => by
      simp only [List.mem_cons, List.not_mem_nil, or_false] at hq
      rcases hq with rfl | rfl
      all_goals
        simp only [SB.eval, SE.eval, cmp_geq]
        omega)⟩ (by kernel_rfl) ?_
  simp only [t_refMul, PT.Goal, LfGoal, den, den1, SE.eval, SB.eval]
  exact mul_ref h.1 h.2
theorem f_refMul {σ : Val} {R : List Nat} (hR : RngOK σ R) (hs : SatOK σ) : FnOK Tryz.prog σ 112 (k_refMul R) :=
  fn2 (p := fun a b => (0 ≤ a ∧ a < 18446744073709551616) ∧ 0 ≤ b ∧ b < 18446744073709551616) (X := fun a b => .int .u64 (satMul a b)) (fun a b h w => c_refMul a b h w) (fun x y hx => by
    rw [Bool.and_eq_true] at hx
    exact ⟨rngE_sound hR hx.1, rngE_sound hR hx.2⟩) (fun x y hx => by
    simp only [den, den1, SE.eval, appV]
    rw [hs.mul])
end Go.Proofs.YtohonlojnflejaaGreatDoor
