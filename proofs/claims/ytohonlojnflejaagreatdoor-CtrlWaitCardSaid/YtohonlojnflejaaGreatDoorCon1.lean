/- Contracts of functions of numbers: what each gives; each leaves all that was as it was. -/
import Derived.Test.YtohonlojnflejaaGreatDoorBase
import Derived.Test.YtohonlojnflejaaGreatDoorMirCon
import Derived.Test.YtohonlojnflejaaGreatDoorMirGs
namespace Go.Proofs.YtohonlojnflejaaGreatDoor
open Go.Mir Go.RowKit
set_option maxRecDepth 100000
theorem lies_none {N : Nat} {w : World} {v : Nat → Int} {app : Nat → Int → Int → Int → Int} : LiesOK ⟨N, w, ⟨v, app, fun _ => (none, 0)⟩⟩ noD :=
  ⟨(fun _ _ h => by cases h), fun _ h => absurd h (Nat.lt_irrefl 0)⟩
def t_refSeq : PT := (.leaf [.done (.sx .u64 (.bin .rem .u64 (.var 0) (.lit 281474976710656)))])
theorem c_refSeq (a : Int) (h : 0 ≤ a ∧ a < 18446744073709551616) (w : World) : Calls Tryz.prog 26 #[.int .u64 a] w (Post w (.int .u64 (a % 281474976710656))) := by
  refine calls_tree noNum mixed (σ := ⟨fun i => match i with | 0 => a | _ => 0, fun _ _ _ _ => 0, fun _ => (none, 0)⟩) (fun B hB => ext_ok hB (lies_none)) noCons_ok Tryz.func26 (by kernel_rfl) (args := [.sx .u64 (.var 0)]) (by kernel_rfl) (.cons (by simp only [VR, SE.eval]) .nil) (t := t_refSeq) (A := ⟨[], [(.cmp .geq (.var 0) (.lit 0), true)]⟩) (ps := []) (fuel := 100000) (k := 100000) (by kernel_rfl) ⟨(fun q hq => by cases hq), (fun q hq => by
      simp only [List.mem_cons, List.not_mem_nil, or_false] at hq
      rcases hq with rfl
      all_goals
        simp only [SB.eval, SE.eval, cmp_geq]
        omega)⟩ (by kernel_rfl) ?_
  simp only [t_refSeq, PT.Goal, LfGoal, den, den1, SE.eval, rem_u64]
  repeat' first | apply And.intro | intro _
  all_goals try simp only [Option.some.injEq, Value.int.injEq, true_and]
  all_goals first | trivial | omega
theorem f_refSeq {σ : Val} {R : List Nat} (hR : RngOK σ R) : FnOK Tryz.prog σ 26 (k_refSeq R) :=
  fn1 (p := fun a => 0 ≤ a ∧ a < 18446744073709551616) (X := fun a => .int .u64 (a % 281474976710656)) (fun a h w => c_refSeq a h w) (fun x hx => rngE_sound hR hx) (fun x hx => by
    simp only [den, den1, SE.eval, mask48]
    all_goals first | rfl | (simp only [Option.some.injEq, Value.int.injEq, Value.bool.injEq, true_and, cmpV, decide_eq_decide]; omega))
def t_refStep : PT := (.split (.cmp .lss (.bin .rem .i64 (.var 1) (.lit 281474976710656)) (.lit 0)) (.leaf [.done (.sx .u64 (.bin .rem .u64 (.bin .add .u64 (.bin .rem .u64 (.var 0) (.lit 281474976710656)) (.wrap .u64 (.bin .add .i64 (.bin .rem .i64 (.var 1) (.lit 281474976710656)) (.lit 281474976710656)))) (.lit 281474976710656)))]) (.leaf [.done (.sx .u64 (.bin .rem .u64 (.bin .add .u64 (.bin .rem .u64 (.var 0) (.lit 281474976710656)) (.wrap .u64 (.bin .rem .i64 (.var 1) (.lit 281474976710656)))) (.lit 281474976710656)))]))
theorem c_refStep (a b : Int) (h : 0 ≤ a ∧ a < 18446744073709551616) (w : World) : Calls Tryz.prog 27 #[.int .u64 a, .int .i64 b] w (Post w (.int .u64 ((a + b) % 281474976710656))) := by
  refine calls_tree noNum mixed (σ := ⟨fun i => match i with | 0 => a | 1 => b | _ => 0, fun _ _ _ _ => 0, fun _ => (none, 0)⟩) (fun B hB => ext_ok hB (lies_none)) noCons_ok Tryz.func27 (by kernel_rfl) (args := [.sx .u64 (.var 0), .sx .i64 (.var 1)]) (by kernel_rfl) (.cons (by simp only [VR, SE.eval]) (.cons (by simp only [VR, SE.eval]) .nil)) (t := t_refStep) (A := ⟨[], [(.cmp .geq (.var 0) (.lit 0), true)]⟩) (ps := []) (fuel := 100000) (k := 100000) (by kernel_rfl) ⟨(fun q hq => by cases hq), (fun q hq => by
      simp only [List.mem_cons, List.not_mem_nil, or_false] at hq
      rcases hq with rfl
      all_goals
        simp only [SB.eval, SE.eval, cmp_geq]
        omega)⟩ (by kernel_rfl) ?_
  simp only [t_refStep, PT.Goal, LfGoal, den, den1, SE.eval, SB.eval, add_i64, rem_i64, add_u64, rem_u64, wrap_u64, cmp_lss, cmp_lss0]
  repeat' first | apply And.intro | intro _
  all_goals try simp only [Option.some.injEq, Value.int.injEq, true_and]
  all_goals first | trivial | omega
theorem f_refStep {σ : Val} {R : List Nat} (hR : RngOK σ R) : FnOK Tryz.prog σ 27 (k_refStep R) :=
  fn2 (p := fun a b => 0 ≤ a ∧ a < 18446744073709551616) (X := fun a b => .int .u64 ((a + b) % 281474976710656)) (fun a b h w => c_refStep a b h w) (fun x y hx => rngE_sound hR hx) (fun x y hx => by
    simp only [den, den1, SE.eval, add_u64, mask48, wrap_u64]
    all_goals first | rfl | (simp only [Option.some.injEq, Value.int.injEq, true_and]; omega))
def t_seqLess : PT := (.split (.cmp .geq (.bin .and .u64 (.bin .sub .u64 (.var 0) (.var 1)) (.lit 281474976710655)) (.lit 140737488355328)) (.leaf [.done (.sb (.cmp .lss (.bin .sub .i64 (.wrap .i64 (.bin .and .u64 (.bin .sub .u64 (.var 0) (.var 1)) (.lit 281474976710655))) (.lit 281474976710656)) (.lit 0)))]) (.leaf [.done (.sb (.cmp .lss (.wrap .i64 (.bin .and .u64 (.bin .sub .u64 (.var 0) (.var 1)) (.lit 281474976710655))) (.lit 0)))]))
theorem c_seqLess (a b : Int) (_h : True) (w : World) : Calls Tryz.prog 84 #[.int .u64 a, .int .u64 b] w (Post w (.bool (decide ((a - b) % 281474976710656 ≥ 140737488355328)))) := by
  refine calls_tree noNum mixed (σ := ⟨fun i => match i with | 0 => a | 1 => b | _ => 0, fun _ _ _ _ => 0, fun _ => (none, 0)⟩) (fun B hB => ext_ok hB (lies_none)) noCons_ok Tryz.func84 (by kernel_rfl) (args := [.sx .u64 (.var 0), .sx .u64 (.var 1)]) (by kernel_rfl) (.cons (by simp only [VR, SE.eval]) (.cons (by simp only [VR, SE.eval]) .nil)) (t := t_seqLess) (A := Asm.none) (ps := []) (fuel := 100000) (k := 100000) (by kernel_rfl) (Asm.none_ok _) (by kernel_rfl) ?_
  simp only [t_seqLess, PT.Goal, LfGoal, den, den1, SE.eval, SB.eval, sub_i64, sub_u64, mask48, wrap_i64, cmp_geq, cmp_geq0]
  repeat' first | apply And.intro | intro _
  all_goals try simp only [Option.some.injEq, Value.bool.injEq, cmpV, decide_eq_decide]
  all_goals first | trivial | omega
theorem f_seqLess {σ : Val} {R : List Nat} (_hR : RngOK σ R) : FnOK Tryz.prog σ 84 (k_seqLess R) :=
  fn2 (p := fun a b => True) (X := fun a b => .bool (decide ((a - b) % 281474976710656 ≥ 140737488355328))) (fun a b h w => c_seqLess a b h w) (fun x y hx => trivial) (fun x y hx => by
    simp only [den, den1, SE.eval, SB.eval, sub_u64, mask48]
    all_goals first | rfl | (simp only [Option.some.injEq, Value.bool.injEq, cmpV, decide_eq_decide]; omega))
def t_refLess : PT := (.split (.cmp .geq (.bin .rem .u64 (.bin .sub .u64 (.bin .add .u64 (.bin .rem .u64 (.var 0) (.lit 281474976710656)) (.lit 281474976710656)) (.bin .rem .u64 (.var 1) (.lit 281474976710656))) (.lit 281474976710656)) (.lit 140737488355328)) (.leaf [.done (.sb (.cmp .lss (.bin .sub .i64 (.wrap .i64 (.bin .rem .u64 (.bin .sub .u64 (.bin .add .u64 (.bin .rem .u64 (.var 0) (.lit 281474976710656)) (.lit 281474976710656)) (.bin .rem .u64 (.var 1) (.lit 281474976710656))) (.lit 281474976710656))) (.lit 281474976710656)) (.lit 0)))]) (.leaf [.done (.sb (.cmp .lss (.wrap .i64 (.bin .rem .u64 (.bin .sub .u64 (.bin .add .u64 (.bin .rem .u64 (.var 0) (.lit 281474976710656)) (.lit 281474976710656)) (.bin .rem .u64 (.var 1) (.lit 281474976710656))) (.lit 281474976710656))) (.lit 0)))]))
theorem c_refLess (a b : Int) (h : (0 ≤ a ∧ a < 18446744073709551616) ∧ 0 ≤ b ∧ b < 18446744073709551616) (w : World) : Calls Tryz.prog 101 #[.int .u64 a, .int .u64 b] w (Post w (.bool (decide ((a - b) % 281474976710656 ≥ 140737488355328)))) := by
  refine calls_tree noNum mixed (σ := ⟨fun i => match i with | 0 => a | 1 => b | _ => 0, fun _ _ _ _ => 0, fun _ => (none, 0)⟩) (fun B hB => ext_ok hB (lies_none)) noCons_ok Tryz.func101 (by kernel_rfl) (args := [.sx .u64 (.var 0), .sx .u64 (.var 1)]) (by kernel_rfl) (.cons (by simp only [VR, SE.eval]) (.cons (by simp only [VR, SE.eval]) .nil)) (t := t_refLess) (A := ⟨[], [(.cmp .geq (.var 0) (.lit 0), true), (.cmp .geq (.var 1) (.lit 0), true)]⟩) (ps := []) (fuel := 100000) (k := 100000) (by kernel_rfl) ⟨(fun q hq => by cases hq), (fun q hq => by
      simp only [List.mem_cons, List.not_mem_nil, or_false] at hq
      rcases hq with rfl | rfl
      all_goals
        simp only [SB.eval, SE.eval, cmp_geq]
        omega)⟩ (by kernel_rfl) ?_
  simp only [t_refLess, PT.Goal, LfGoal, den, den1, SE.eval, SB.eval, sub_i64, add_u64, sub_u64, rem_u64, wrap_i64, cmp_geq, cmp_geq0]
  repeat' first | apply And.intro | intro _
  all_goals try simp only [Option.some.injEq, Value.bool.injEq, cmpV, decide_eq_decide]
  all_goals first | trivial | omega
theorem f_refLess {σ : Val} {R : List Nat} (hR : RngOK σ R) : FnOK Tryz.prog σ 101 (k_refLess R) :=
  fn2 (p := fun a b => (0 ≤ a ∧ a < 18446744073709551616) ∧ 0 ≤ b ∧ b < 18446744073709551616) (X := fun a b => .bool (decide ((a - b) % 281474976710656 ≥ 140737488355328))) (fun a b h w => c_refLess a b h w) (fun x y hx => by
    rw [Bool.and_eq_true] at hx
    exact ⟨rngE_sound hR hx.1, rngE_sound hR hx.2⟩) (fun x y hx => by
    simp only [den, den1, SE.eval, SB.eval, sub_u64, mask48]
    all_goals first | rfl | (simp only [Option.some.injEq, Value.bool.injEq, cmpV, decide_eq_decide]; omega))
def t_refIn : PT := (.leaf [.done (.sb (.cmp .leq (.bin .rem .u64 (.bin .sub .u64 (.bin .add .u64 (.var 1) (.lit 281474976710656)) (.bin .rem .u64 (.var 0) (.lit 281474976710656))) (.lit 281474976710656)) (.bin .rem .u64 (.bin .sub .u64 (.bin .add .u64 (.var 2) (.lit 281474976710656)) (.bin .rem .u64 (.var 0) (.lit 281474976710656))) (.lit 281474976710656))))])
theorem c_refIn (a b c : Int) (h : (0 ≤ a ∧ a < 18446744073709551616) ∧ (0 ≤ b ∧ b < 18446744073709551616) ∧ 0 ≤ c ∧ c < 18446744073709551616) (w : World) : Calls Tryz.prog 99 #[.int .u64 a, .int .u64 b, .int .u64 c] w (Post w (.bool (decide ((b - a) % 281474976710656 ≤ (c - a) % 281474976710656)))) := by
  refine calls_tree noNum mixed (σ := ⟨fun i => match i with | 0 => a | 1 => b | 2 => c | _ => 0, fun _ _ _ _ => 0, fun _ => (none, 0)⟩) (fun B hB => ext_ok hB (lies_none)) noCons_ok Tryz.func99 (by kernel_rfl) (args := [.sx .u64 (.var 0), .sx .u64 (.var 1), .sx .u64 (.var 2)]) (by kernel_rfl) (.cons (by simp only [VR, SE.eval]) (.cons (by simp only [VR, SE.eval]) (.cons (by simp only [VR, SE.eval]) .nil))) (t := t_refIn) (A := ⟨[], [(.cmp .geq (.var 0) (.lit 0), true), (.cmp .geq (.var 1) (.lit 0), true), (.cmp .geq (.var 2) (.lit 0), true)]⟩) (ps := []) (fuel := 100000) (k := 100000) (by kernel_rfl) ⟨(fun q hq => by cases hq), (fun q hq => by
      simp only [List.mem_cons, List.not_mem_nil, or_false] at hq
      rcases hq with rfl | rfl | rfl
      all_goals
        simp only [SB.eval, SE.eval, cmp_geq]
        omega)⟩ (by kernel_rfl) ?_
  simp only [t_refIn, PT.Goal, LfGoal, den, den1, SE.eval, SB.eval, add_u64, sub_u64, rem_u64]
  repeat' first | apply And.intro | intro _
  all_goals try simp only [Option.some.injEq, Value.bool.injEq, cmpV, decide_eq_decide]
  all_goals first | trivial | omega
theorem f_refIn {σ : Val} {R : List Nat} (hR : RngOK σ R) : FnOK Tryz.prog σ 99 (k_refIn R) :=
  fn3 (p := fun a b c => (0 ≤ a ∧ a < 18446744073709551616) ∧ (0 ≤ b ∧ b < 18446744073709551616) ∧ 0 ≤ c ∧ c < 18446744073709551616) (X := fun a b c => .bool (decide ((b - a) % 281474976710656 ≤ (c - a) % 281474976710656))) (fun a b c h w => c_refIn a b c h w) (fun x y z hx => by
    simp only [Bool.and_eq_true] at hx
    exact ⟨rngE_sound hR hx.1, rngE_sound hR hx.2.1, rngE_sound hR hx.2.2⟩) (fun x y z hx => by
    simp only [den, den1, SE.eval, SB.eval, sub_u64, mask48]
    all_goals first | rfl | (simp only [Option.some.injEq, Value.bool.injEq, cmpV, decide_eq_decide]; omega))
def t_seqLong : PT := (.split (.cmp .geq (.wrap .i64 (.bin .and .u64 (.bin .sub .u64 (.wrap .u64 (.var 0)) (.var 1)) (.lit 16777215))) (.lit 8388608)) (.leaf [.done (.sx .u64 (.bin .and .u64 (.bin .add .u64 (.var 1) (.wrap .u64 (.bin .sub .i64 (.wrap .i64 (.bin .and .u64 (.bin .sub .u64 (.wrap .u64 (.var 0)) (.var 1)) (.lit 16777215))) (.lit 16777216)))) (.lit 281474976710655)))]) (.leaf [.done (.sx .u64 (.bin .and .u64 (.bin .add .u64 (.var 1) (.wrap .u64 (.wrap .i64 (.bin .and .u64 (.bin .sub .u64 (.wrap .u64 (.var 0)) (.var 1)) (.lit 16777215))))) (.lit 281474976710655)))]))
theorem c_seqLong (a b : Int) (h : (0 ≤ a ∧ a < 4294967296) ∧ 0 ≤ b ∧ b < 18446744073709551616) (w : World) : Calls Tryz.prog 102 #[.int .u32 a, .int .u64 b] w (Post w (.int .u64 ((b + ((a - b + 8388608) % 16777216 - 8388608)) % 281474976710656))) := by
  refine calls_tree noNum mixed (σ := ⟨fun i => match i with | 0 => a | 1 => b | _ => 0, fun _ _ _ _ => 0, fun _ => (none, 0)⟩) (fun B hB => ext_ok hB (lies_none)) noCons_ok Tryz.func102 (by kernel_rfl) (args := [.sx .u32 (.var 0), .sx .u64 (.var 1)]) (by kernel_rfl) (.cons (by simp only [VR, SE.eval]) (.cons (by simp only [VR, SE.eval]) .nil)) (t := t_seqLong) (A := ⟨[], [(.cmp .geq (.var 0) (.lit 0), true), (.cmp .geq (.var 1) (.lit 0), true)]⟩) (ps := []) (fuel := 100000) (k := 100000) (by kernel_rfl) ⟨(fun q hq => by cases hq), (fun q hq => by
      simp only [List.mem_cons, List.not_mem_nil, or_false] at hq
      rcases hq with rfl | rfl
      all_goals
        simp only [SB.eval, SE.eval, cmp_geq]
        omega)⟩ (by kernel_rfl) ?_
  simp only [t_seqLong, PT.Goal, LfGoal, den, den1, SE.eval, SB.eval, sub_i64, add_u64, sub_u64, mask48, mask24, wrap_i64, wrap_u64, cmp_geq, cmp_geq0]
  repeat' first | apply And.intro | intro _
  all_goals try simp only [Option.some.injEq, Value.int.injEq, true_and]
  all_goals first | trivial | omega
theorem f_seqLong {σ : Val} {R : List Nat} (hR : RngOK σ R) : FnOK Tryz.prog σ 102 (k_seqLong R) :=
  fn2 (p := fun a b => (0 ≤ a ∧ a < 4294967296) ∧ 0 ≤ b ∧ b < 18446744073709551616) (X := fun a b => .int .u64 ((b + ((a - b + 8388608) % 16777216 - 8388608)) % 281474976710656)) (fun a b h w => c_seqLong a b h w) (fun x y hx => by
    rw [Bool.and_eq_true] at hx
    exact ⟨rng32_sound hx.1, rngE_sound hR hx.2⟩) (fun x y hx => by
    simp only [den, den1, SE.eval, add_u64, sub_u64, mask48, mask24, wrap_u64]
    all_goals first | rfl | (simp only [Option.some.injEq, Value.int.injEq, true_and]; omega))
end Go.Proofs.YtohonlojnflejaaGreatDoor
