/- PaceFull: of every size, tick, rate and wait the call says true, and leaves all that was as it was. -/
import Derived.Test.YtohonlojnflejaaGreatDoorBegun18
import Derived.Test.YtohonlojnflejaaGreatDoorCon2
import Derived.Test.YtohonlojnflejaaGreatDoorMirArr
import Derived.Test.YtohonlojnflejaaGreatDoorMirRng
namespace Go.Proofs.YtohonlojnflejaaGreatDoor
namespace PaceFull
open Go.Mir Go.RowKit
set_option maxRecDepth 100000
def bv (i : Nat) : MV := .sb (.cmp .neq (.var i) (.lit 0))
def iv (i : Nat) : MV := .sx .i64 (.var i)
def uv (i : Nat) : MV := .sx .u64 (.var i)
def dsc : Nat → Option (List CK) := fun _ => none
def S1 : Shape := ⟨5, [(0, iv 0), (1, iv 1), (2, uv 2), (3, iv 3)], .one, []⟩
def S2 : Shape := ⟨10, [(2, uv 2), (10, .ptr .one 0), (11, uv 4), (12, iv 5)], (.z .one), [(.one, .cells [uv 6, uv 7, uv 8, uv 2, .int .i64 0])]⟩
def args : List MV := [iv 0, iv 1, uv 2, iv 3]
def fs (R : List Nat) : Cons := ((((noCons.put 22 gTrue).put 109 (k_fixAdd R)).put 108 (k_fixSub R)).put 104 (k_fixMul R))
theorem clip (d : Int) : 0 ≤ mmV true 0 (mmV false d 1125899906842624) ∧ mmV true 0 (mmV false d 1125899906842624) ≤ 1125899906842624 := by
  rw [mmV_max, mmV_min]; constructor <;> split <;> (try split) <;> omega
theorem at_law {x c D : Int} (hx : 1 ≤ x ∧ x ≤ 1000000000) (hc : 64000000 ≤ c ∧ c ≤ 100000000000000) (hD : 0 ≤ D ∧ D ≤ 1125899906842624) : 1 ≤ c / x + 1 + D ∧ c / x + 1 + D ≤ 2000000000000000 ∧ c ≤ x * (c / x + 1 + D) := by
  have q := quo_le (x := c) (y := x) (by omega) (by omega)
  have e1 := Int.mul_ediv_add_emod c x
  have e2 := Int.emod_lt_of_pos c (by omega : 0 < x)
  have e3 := Int.mul_nonneg (by omega : 0 ≤ x) hD.1
  have e4 : x * (c / x + 1 + D) = x * (c / x) + x + x * D := by rw [Int.mul_add, Int.mul_add, Int.mul_one]
  rw [e4]
  refine ⟨by omega, by omega, by omega⟩
theorem prod_rng {x t : Int} (hx : 1 ≤ x ∧ x ≤ 1000000000) (ht : 0 ≤ t ∧ t < 100000) : 0 ≤ x * t ∧ x * t ≤ 100000000000000 :=
  ⟨Int.mul_nonneg (by omega) ht.1, Int.le_trans (Int.mul_le_mul hx.2 (by omega : t ≤ 100000) ht.1 (by decide)) (by decide)⟩
theorem cap_rng {s t x c : Int} (hs : 1 ≤ s ∧ s ≤ 1400) (ht : 0 ≤ t ∧ t < 100000) (hx : 1 ≤ x ∧ x ≤ 1000000000) (hc : c = mmV true (64000000 * s) (satMul x t)) : 64000000 ≤ c ∧ c ≤ 100000000000000 := by
  have := prod_rng hx ht
  have h : satMul x t = x * t := by unfold satMul; rw [if_pos (by omega)]
  rw [hc, mmV_max, h]
  generalize x * t = p at *
  split <;> omega
noncomputable def bd : Code := bodyOf Tryz.f10
noncomputable def Sst : Shape := ⟨0, params (keepOf Tryz.f10) 0 args, .one, []⟩
noncomputable def n0 : Nd := ⟨bd, [], Sst⟩
noncomputable def n1 : Nd := ⟨(codeAt [1, 1, 1, 1] bd []).1, (codeAt [1, 1, 1, 1] bd []).2, S1⟩
noncomputable def n2 : Nd := ⟨(codeAt [1, 1, 1, 1, 1, 1, 1, 1, 1] bd []).1, (codeAt [1, 1, 1, 1, 1, 1, 1, 1, 1] bd []).2, S2⟩
noncomputable def nds : List Nd := [n0, n1, n2]
noncomputable def run (R : List Nat) (c : Code) (fr : List Fr) (sh : Shape) (B : Asm) : Option (List Su) :=
  sumAt Tryz.prog Tryz.f10 (nds.map (·.sh)) isTrueV (ext dsc B).asm (flagL [] [5, 10]) (runOf Tryz.prog (ext dsc B) (fs R) [] 100000) 100000 c fr sh
def t0 : PT := (.leaf [.at 1 [(3, (.var 3)), (2, (.bin .add .u64 (.lit 1) (.bin .rem .u64 (.var 2) (.lit 1000000000)))), (1, (.bin .rem .i64 (.bin .add .i64 (.bin .rem .i64 (.var 1) (.lit 100000)) (.lit 100000)) (.lit 100000))), (0, (.bin .add .i64 (.lit 1) (.bin .rem .i64 (.bin .add .i64 (.bin .rem .i64 (.var 0) (.lit 1400)) (.lit 1400)) (.lit 1400))))]])
theorem r0 : t0.runs (run [1040, 1041, 1042, 1043, 2] n0.c n0.fr n0.sh) (Asm.none) = t0.leaves nds := by kernel_rfl
def t1 : PT := (.split (.cmp .lss (.var 0) (.lit 1)) .contra (.split (.cmp .gtr (.var 0) (.lit 1400)) .contra (.split (.cmp .lss (.var 1) (.lit 0)) .contra (.split (.cmp .gtr (.var 1) (.lit 1000000)) .contra (.split (.cmp .eql (.var 2) (.lit 0)) .contra (.leaf [.at 2 [(5, (.bin .add .i64 (.bin .add .i64 (.wrap .i64 (.bin .quo .u64 (.mm true (.bin .mul .u64 (.lit 64000000) (.wrap .u64 (.var 0))) (.app 40 (.var 2) (.wrap .u64 (.var 1)) (.lit 0))) (.var 2))) (.lit 1)) (.mm true (.lit 0) (.mm false (.var 3) (.lit 1125899906842624))))), (4, (.mm true (.bin .mul .u64 (.lit 64000000) (.wrap .u64 (.var 0))) (.app 40 (.var 2) (.wrap .u64 (.var 1)) (.lit 0)))), (8, (.mm false (.lit 0) (.mm true (.bin .mul .u64 (.lit 64000000) (.wrap .u64 (.var 0))) (.app 40 (.var 2) (.wrap .u64 (.var 1)) (.lit 0))))), (7, (.wrap .u64 (.var 1))), (6, (.wrap .u64 (.var 0))), (2, (.var 2))]]))))))
theorem r1 : t1.runs (run [1040, 1041, 1042, 1043, 2] n1.c n1.fr n1.sh) (Asm.none) = t1.leaves nds := by kernel_rfl
def t2 : PT := (.split (.cmp .leq (.var 5) (.lit 0)) .contra (.split (.cmp .geq (.wrap .i64 (.mm false (.bin .quo .u64 (.var 4) (.lit 64000000)) (.lit 65535))) (.lit 0)) (.split (.cmp .leq (.wrap .i64 (.mm false (.bin .quo .u64 (.var 4) (.lit 64000000)) (.lit 65535))) (.lit 65535)) (.split (.cmp .geq (.var 4) (.bin .mul .u64 (.lit 64000000) (.wrap .u64 (.wrap .i64 (.mm false (.bin .quo .u64 (.var 4) (.lit 64000000)) (.lit 65535)))))) (.split (.cmp .lss (.bin .quo .u64 (.var 4) (.lit 64000000)) (.lit 65535)) (.split (.cmp .leq (.var 5) (.var 5)) (.split (.cmp .geq (.bin .add .i64 (.wrap .i64 (.mm false (.bin .quo .u64 (.var 4) (.lit 64000000)) (.lit 65535))) (.lit 1)) (.lit 0)) (.split (.cmp .leq (.bin .add .i64 (.wrap .i64 (.mm false (.bin .quo .u64 (.var 4) (.lit 64000000)) (.lit 65535))) (.lit 1)) (.lit 65535)) (.split (.cmp .geq (.var 4) (.bin .mul .u64 (.lit 64000000) (.wrap .u64 (.bin .add .i64 (.wrap .i64 (.mm false (.bin .quo .u64 (.var 4) (.lit 64000000)) (.lit 65535))) (.lit 1))))) .contra (.split (.cmp .eql (.wrap .i64 (.mm false (.bin .quo .u64 (.var 4) (.lit 64000000)) (.lit 65535))) (.lit 0)) .contra (.split (.cmp .geq (.bin .sub .u64 (.var 4) (.bin .mul .u64 (.lit 64000000) (.wrap .u64 (.wrap .i64 (.mm false (.bin .quo .u64 (.var 4) (.lit 64000000)) (.lit 65535)))))) (.bin .mul .u64 (.lit 64000000) (.wrap .u64 (.wrap .i64 (.mm false (.bin .quo .u64 (.var 4) (.lit 64000000)) (.lit 65535)))))) .contra (.leaf [])))) .contra) .contra) .contra) (.split (.cmp .leq (.var 5) (.var 5)) (.split (.cmp .eql (.wrap .i64 (.mm false (.bin .quo .u64 (.var 4) (.lit 64000000)) (.lit 65535))) (.lit 0)) .contra (.split (.cmp .geq (.bin .sub .u64 (.var 4) (.bin .mul .u64 (.lit 64000000) (.wrap .u64 (.wrap .i64 (.mm false (.bin .quo .u64 (.var 4) (.lit 64000000)) (.lit 65535)))))) (.bin .mul .u64 (.lit 64000000) (.wrap .u64 (.wrap .i64 (.mm false (.bin .quo .u64 (.var 4) (.lit 64000000)) (.lit 65535)))))) (.split (.cmp .geq (.bin .quo .u64 (.var 4) (.lit 64000000)) (.lit 131070)) (.leaf []) .contra) (.leaf []))) .contra)) .contra) .contra) .contra))
theorem r2 : t2.runs (run [1040, 1041, 1042, 1043, 2, 4, 6, 7, 8] n2.c n2.fr n2.sh) (⟨[(.mm true (.bin .mul .u64 (.lit 64000000) (.var 6)) (.app 40 (.var 2) (.var 7) (.lit 0)), .var 4), (.mm false (.var 5) (.lit 4611686018427387904), .var 5), (.mm false (.app 41 (.var 8) (.app 40 (.var 2) (.bin .sub .u64 (.wrap .u64 (.var 5)) (.lit 0)) (.lit 0)) (.lit 0)) (.var 4), .var 4)], []⟩) = t2.leaves nds := by kernel_rfl
def stdApp : Nat → Int → Int → Int → Int := satApp
def Wf (σ : Val) : Prop := (Lit.int .i64 (σ.v 0)).wf = true ∧ (Lit.int .i64 (σ.v 1)).wf = true ∧ (Lit.int .u64 (σ.v 2)).wf = true ∧ (Lit.int .i64 (σ.v 3)).wf = true
/-- What holds at each place; how far it is to the end. -/
def I : Nat → Val → Prop
  | 0, σ => Wf σ
  | 1, σ => (1 ≤ σ.v 0 ∧ σ.v 0 ≤ 1400) ∧ (0 ≤ σ.v 1 ∧ σ.v 1 < 100000) ∧ (1 ≤ σ.v 2 ∧ σ.v 2 ≤ 1000000000) ∧ (-9223372036854775808 ≤ σ.v 3 ∧ σ.v 3 < 9223372036854775808)
  | 2, σ => (1 ≤ σ.v 6 ∧ σ.v 6 ≤ 1400) ∧ (0 ≤ σ.v 7 ∧ σ.v 7 < 100000) ∧ (1 ≤ σ.v 2 ∧ σ.v 2 ≤ 1000000000) ∧ (1 ≤ σ.v 5 ∧ σ.v 5 ≤ 2000000000000000) ∧ σ.v 8 = 0 ∧ σ.v 4 ≤ σ.v 2 * σ.v 5 ∧ σ.v 4 = mmV true (64000000 * σ.v 6) (satMul (σ.v 2) (σ.v 7))
  | _, _ => False
def mu : Nat → Val → Int
  | 0, _ => 2
  | 1, _ => 1
  | 2, _ => 0
  | _, _ => 0
theorem g0 (σ : Val) (h : I 0 σ) : t0.Goal σ (fun k' σ' => I k' σ' ∧ 0 ≤ mu k' σ' ∧ mu k' σ' < mu 0 σ) (fun _ => False) := by
  simp only [I, Wf, lit_u64, lit_i64] at h
  obtain ⟨_, _⟩ := h
  simp only [t0, PT.Goal, LfGoal, I, mu, Val.sub, assocE, SE.eval, add_i64, rem_i64, add_u64, rem_u64, mmV_max]
  repeat' first | apply And.intro | intro _
  all_goals first | trivial | omega
set_option maxHeartbeats 4000000 in
theorem g1 (σ : Val) (hs : SatOK σ) (h : I 1 σ) : t1.Goal σ (fun k' σ' => I k' σ' ∧ 0 ≤ mu k' σ' ∧ mu k' σ' < mu 1 σ) (fun _ => False) := by
  obtain ⟨a1, a2, a3, a4⟩ : _ ∧ _ ∧ _ ∧ _ := h
  refine ⟨fun h0 => ?_, fun h0 => ?_⟩
  · simp (disch := omega) only [SE.eval, SB.eval] at h0; all_goals (try simp only [cmp_lss] at h0); all_goals omega
  · simp (disch := omega) only [SE.eval, SB.eval] at h0; all_goals (try simp only [cmp_lss0] at h0)
    refine ⟨fun h1 => ?_, fun h1 => ?_⟩
    · simp (disch := omega) only [SE.eval, SB.eval] at h1; all_goals (try simp only [cmp_gtr] at h1); all_goals omega
    · simp (disch := omega) only [SE.eval, SB.eval] at h1; all_goals (try simp only [cmp_gtr0] at h1)
      refine ⟨fun h2 => ?_, fun h2 => ?_⟩
      · simp (disch := omega) only [SE.eval, SB.eval] at h2; all_goals (try simp only [cmp_lss] at h2); all_goals omega
      · simp (disch := omega) only [SE.eval, SB.eval] at h2; all_goals (try simp only [cmp_lss0] at h2)
        refine ⟨fun h3 => ?_, fun h3 => ?_⟩
        · simp (disch := omega) only [SE.eval, SB.eval] at h3; all_goals (try simp only [cmp_gtr] at h3); all_goals omega
        · simp (disch := omega) only [SE.eval, SB.eval] at h3; all_goals (try simp only [cmp_gtr0] at h3)
          refine ⟨fun h4 => ?_, fun h4 => ?_⟩
          · simp (disch := omega) only [SE.eval, SB.eval] at h4; all_goals (try simp only [cmp_eql] at h4); all_goals omega
          · simp (disch := omega) only [SE.eval, SB.eval] at h4; all_goals (try simp only [cmp_eql0] at h4)
            have c12 := cap_rng (c := mmV true (64000000 * σ.v 0) (satMul (σ.v 2) (σ.v 1))) a1 a2 a3 rfl
            have D := clip (σ.v 3)
            have z := at_law a3 (c := mmV true (64000000 * σ.v 0) (satMul (σ.v 2) (σ.v 1))) c12 D
            have q := quo_le (x := mmV true (64000000 * σ.v 0) (satMul (σ.v 2) (σ.v 1))) (y := σ.v 2) (by omega) (by omega)
            simp (disch := omega) only [PT.Goal, LfGoal, I, mu, Val.sub, assocE, SE.eval, appV, hs.mul, wrap_u64r, mul_u64r, quo_u64r, wrap_i64r, add_i64r, min_l]
            repeat' apply And.intro
            all_goals first | trivial | omega | exact z.2.2
theorem asm2 {σ : Val} (hs : SatOK σ) (h : I 2 σ) : AsmOK σ (⟨[(.mm true (.bin .mul .u64 (.lit 64000000) (.var 6)) (.app 40 (.var 2) (.var 7) (.lit 0)), .var 4), (.mm false (.var 5) (.lit 4611686018427387904), .var 5), (.mm false (.app 41 (.var 8) (.app 40 (.var 2) (.bin .sub .u64 (.wrap .u64 (.var 5)) (.lit 0)) (.lit 0)) (.lit 0)) (.var 4), .var 4)], []⟩) := by
  obtain ⟨a1, a2, a3, a4, a5, a6, a7⟩ : _ ∧ _ ∧ _ ∧ _ ∧ _ ∧ _ ∧ _ := h
  obtain ⟨b1, b2⟩ := cap_rng a1 a2 a3 a7
  refine ⟨fun q hq => ?_, fun q hq => by cases hq⟩
  simp only [List.mem_cons, List.not_mem_nil, or_false] at hq
  rcases hq with rfl | rfl | rfl
  · simp (disch := omega) only [SE.eval, appV, hs.mul, mul_u64r]
    exact a7.symm
  · simp (disch := omega) only [SE.eval, min_l]
  · have hp := Int.mul_nonneg (by omega : 0 ≤ σ.v 2) (by omega : 0 ≤ σ.v 5)
    have e : σ.v 4 ≤ satAdd (σ.v 8) (satMul (σ.v 2) (σ.v 5)) := by
      rw [a5]; unfold satAdd satMul; generalize σ.v 2 * σ.v 5 = p at *; split <;> split <;> omega
    simp (disch := omega) only [SE.eval, appV, hs.mul, hs.add, wrap_u64r, sub_u64r, Int.sub_zero, min_r]
set_option maxHeartbeats 4000000 in
theorem g2 (σ : Val) (h : I 2 σ) : t2.Goal σ (fun k' σ' => I k' σ' ∧ 0 ≤ mu k' σ' ∧ mu k' σ' < mu 2 σ) (fun _ => False) := by
  obtain ⟨a1, a2, a3, a4, a5, a6, a7⟩ : _ ∧ _ ∧ _ ∧ _ ∧ _ ∧ _ ∧ _ := h
  obtain ⟨b1, b2⟩ := cap_rng a1 a2 a3 a7
  refine ⟨fun h0 => ?_, fun h0 => ?_⟩
  · simp (disch := omega) only [SE.eval, SB.eval] at h0; all_goals (try simp only [cmp_leq] at h0); all_goals omega
  · simp (disch := omega) only [SE.eval, SB.eval] at h0; all_goals (try simp only [cmp_leq0] at h0)
    refine ⟨fun h1 => ?_, fun h1 => ?_⟩
    · simp (disch := omega) only [SE.eval, SB.eval, quo_u64r] at h1; all_goals (try simp only [wrap_i64, mmV_min, cmp_geq] at h1)
      refine ⟨fun h2 => ?_, fun h2 => ?_⟩
      · simp (disch := omega) only [SE.eval, SB.eval, quo_u64r] at h2; all_goals (try simp only [wrap_i64, mmV_min, cmp_leq] at h2)
        refine ⟨fun h3 => ?_, fun h3 => ?_⟩
        · simp (disch := omega) only [SE.eval, SB.eval, quo_u64r] at h3; all_goals (try simp only [mul_u64, wrap_i64, wrap_u64, mmV_min, cmp_geq] at h3)
          refine ⟨fun h4 => ?_, fun h4 => ?_⟩
          · simp (disch := omega) only [SE.eval, SB.eval, quo_u64r] at h4; all_goals (try simp only [cmp_lss] at h4)
            refine ⟨fun h5 => ?_, fun h5 => ?_⟩
            · simp (disch := omega) only [SE.eval, SB.eval] at h5; all_goals (try simp only [cmp_leq] at h5)
              refine ⟨fun h6 => ?_, fun h6 => ?_⟩
              · simp (disch := omega) only [SE.eval, SB.eval, add_i64r, quo_u64r, min_l, wrap_i64r] at h6; all_goals (try simp only [cmp_geq] at h6)
                refine ⟨fun h7 => ?_, fun h7 => ?_⟩
                · simp (disch := omega) only [SE.eval, SB.eval, add_i64r, quo_u64r, min_l, wrap_i64r] at h7; all_goals (try simp only [cmp_leq] at h7)
                  refine ⟨fun h8 => ?_, fun h8 => ?_⟩
                  · simp (disch := omega) only [SE.eval, SB.eval, add_i64r, mul_u64r, quo_u64r, min_l, wrap_i64r, wrap_u64r] at h8; all_goals (try simp only [cmp_geq] at h8); all_goals omega
                  · simp (disch := omega) only [SE.eval, SB.eval, add_i64r, mul_u64r, quo_u64r, min_l, wrap_i64r, wrap_u64r] at h8; all_goals (try simp only [cmp_geq0] at h8)
                    refine ⟨fun h9 => ?_, fun h9 => ?_⟩
                    · simp (disch := omega) only [SE.eval, SB.eval, quo_u64r, min_l, wrap_i64r] at h9; all_goals (try simp only [cmp_eql] at h9); all_goals omega
                    · simp (disch := omega) only [SE.eval, SB.eval, quo_u64r, min_l, wrap_i64r] at h9; all_goals (try simp only [cmp_eql0] at h9)
                      refine ⟨fun h10 => ?_, fun h10 => ?_⟩
                      · simp (disch := omega) only [SE.eval, SB.eval, sub_u64r, mul_u64r, quo_u64r, min_l, wrap_i64r, wrap_u64r] at h10; all_goals (try simp only [cmp_geq] at h10); all_goals omega
                      · simp (disch := omega) only [SE.eval, SB.eval, sub_u64r, mul_u64r, quo_u64r, min_l, wrap_i64r, wrap_u64r] at h10; all_goals (try simp only [cmp_geq0] at h10)
                        exact True.intro
                · simp (disch := omega) only [SE.eval, SB.eval, add_i64r, quo_u64r, min_l, wrap_i64r] at h7; all_goals (try simp only [cmp_leq0] at h7); all_goals omega
              · simp (disch := omega) only [SE.eval, SB.eval, add_i64r, quo_u64r, min_l, wrap_i64r] at h6; all_goals (try simp only [cmp_geq0] at h6); all_goals omega
            · simp (disch := omega) only [SE.eval, SB.eval] at h5; all_goals (try simp only [cmp_leq0] at h5); all_goals omega
          · simp (disch := omega) only [SE.eval, SB.eval, quo_u64r] at h4; all_goals (try simp only [cmp_lss0] at h4)
            refine ⟨fun h5 => ?_, fun h5 => ?_⟩
            · simp (disch := omega) only [SE.eval, SB.eval] at h5; all_goals (try simp only [cmp_leq] at h5)
              refine ⟨fun h6 => ?_, fun h6 => ?_⟩
              · simp (disch := omega) only [SE.eval, SB.eval, quo_u64r, min_r, wrap_i64r] at h6; all_goals (try simp only [cmp_eql] at h6); all_goals omega
              · simp (disch := omega) only [SE.eval, SB.eval, quo_u64r, min_r, wrap_i64r] at h6; all_goals (try simp only [cmp_eql0] at h6)
                refine ⟨fun h7 => ?_, fun h7 => ?_⟩
                · simp (disch := omega) only [SE.eval, SB.eval, sub_u64r, mul_u64r, quo_u64r, min_r, wrap_i64r, wrap_u64r] at h7; all_goals (try simp only [cmp_geq] at h7)
                  refine ⟨fun h8 => ?_, fun h8 => ?_⟩
                  · simp (disch := omega) only [SE.eval, SB.eval, quo_u64r] at h8; all_goals (try simp only [cmp_geq] at h8)
                    exact True.intro
                  · simp (disch := omega) only [SE.eval, SB.eval, quo_u64r] at h8; all_goals (try simp only [cmp_geq0] at h8); all_goals omega
                · simp (disch := omega) only [SE.eval, SB.eval, sub_u64r, mul_u64r, quo_u64r, min_r, wrap_i64r, wrap_u64r] at h7; all_goals (try simp only [cmp_geq0] at h7)
                  exact True.intro
            · simp (disch := omega) only [SE.eval, SB.eval] at h5; all_goals (try simp only [cmp_leq0] at h5); all_goals omega
        · simp (disch := omega) only [SE.eval, SB.eval, quo_u64r] at h3; all_goals (try simp only [mul_u64, wrap_i64, wrap_u64, mmV_min, cmp_geq0] at h3); all_goals omega
      · simp (disch := omega) only [SE.eval, SB.eval, quo_u64r] at h2; all_goals (try simp only [wrap_i64, mmV_min, cmp_leq0] at h2); all_goals omega
    · simp (disch := omega) only [SE.eval, SB.eval, quo_u64r] at h1; all_goals (try simp only [wrap_i64, mmV_min, cmp_geq0] at h1); all_goals omega
theorem R0 {σ : Val} (hs : SatOK σ) (h : I 0 σ) : RngOK σ [1040, 1041, 1042, 1043, 2] := by
  refine rng_sat hs (L := [2]) (by decide) (fun i hi => ?_)
  simp only [I, Wf, lit_u64, lit_i64] at h
  simp only [List.mem_cons, List.not_mem_nil, or_false] at hi
  rcases hi with rfl <;> omega
theorem R1 {σ : Val} (hs : SatOK σ) (h : I 1 σ) : RngOK σ [1040, 1041, 1042, 1043, 2] := by
  refine rng_sat hs (L := [2]) (by decide) (fun i hi => ?_)
  simp only [I] at h
  simp only [List.mem_cons, List.not_mem_nil, or_false] at hi
  rcases hi with rfl <;> omega
theorem R2 {σ : Val} (hs : SatOK σ) (h : I 2 σ) : RngOK σ [1040, 1041, 1042, 1043, 2, 4, 6, 7, 8] := by
  refine rng_sat hs (L := [2, 4, 6, 7, 8]) (by decide) (fun i hi => ?_)
  obtain ⟨a1, a2, a3, a4, a5, a6, a7⟩ : _ ∧ _ ∧ _ ∧ _ ∧ _ ∧ _ ∧ _ := h
  obtain ⟨b1, b2⟩ := cap_rng a1 a2 a3 a7
  simp only [List.mem_cons, List.not_mem_nil, or_false] at hi
  rcases hi with rfl | rfl | rfl | rfl | rfl <;> omega
theorem goes {w0 : World} : ∀ (d k : Nat) (σ : Val), I k σ → SatOK σ → LiesOK ⟨w0.heap.size, w0, σ⟩ dsc → (mu k σ).toNat = d → ∀ nd, nds[k]? = some nd → Goal Tryz.prog Tryz.f10 w0 (.bool true) nd.c nd.fr nd.sh σ := by
  intro d
  induction d using Nat.strongRecOn with
  | _ d ih =>
    intro k σ hI hs hl hd nd hnd
    have next : ∀ (k' : Nat) (τ : List (Nat × SE)), (I k' (σ.sub τ) ∧ 0 ≤ mu k' (σ.sub τ) ∧ mu k' (σ.sub τ) < mu k σ) → ∀ nd, nds[k']? = some nd → Goal Tryz.prog Tryz.f10 w0 (.bool true) nd.c nd.fr nd.sh (σ.sub τ) :=
      fun k' τ h nd hnd => ih _ (by omega) k' (σ.sub τ) h.1 (hs.sub' τ) (hl.sub τ) rfl nd hnd
    match k, hI, hnd, hd, next with
    | 0, hI, hnd, _, next =>
      cases hnd
      have hR := (R0 hs hI)
      exact pt_node noNum mixed (fun B hB => ext_ok hB hl) ((((noCons_ok.put (begun18.fn σ)).put (f_fixAdd hR hs)).put (f_fixSub hR hs)).put (f_fixMul hR hs)) (nodes := nds) r0 (Asm.none_ok σ) (by kernel_rfl) (by kernel_rfl) good_true next (fun _ h => h.elim) (g0 σ hI)
    | 1, hI, hnd, _, next =>
      cases hnd
      have hR := (R1 hs hI)
      exact pt_node noNum mixed (fun B hB => ext_ok hB hl) ((((noCons_ok.put (begun18.fn σ)).put (f_fixAdd hR hs)).put (f_fixSub hR hs)).put (f_fixMul hR hs)) (nodes := nds) r1 (Asm.none_ok σ) (by kernel_rfl) (by kernel_rfl) good_true next (fun _ h => h.elim) (g1 σ hs hI)
    | 2, hI, hnd, _, next =>
      cases hnd
      have hR := (R2 hs hI)
      exact pt_node noNum mixed (fun B hB => ext_ok hB hl) ((((noCons_ok.put (begun18.fn σ)).put (f_fixAdd hR hs)).put (f_fixSub hR hs)).put (f_fixMul hR hs)) (nodes := nds) r2 (asm2 hs hI) (by kernel_rfl) (by kernel_rfl) good_true next (fun _ h => h.elim) (g2 σ hI)
theorem walk {w0 : World} {xs : Array Value} {σ : Val} (hl : LiesOK ⟨w0.heap.size, w0, σ⟩ dsc) (hw : Wf σ) (hs : SatOK σ) (hxs : VRs ⟨fun _ => none, σ⟩ args xs.toList) : Calls Tryz.prog 10 xs w0 (Post w0 (.bool true)) :=
  calls_of_goal (c := bd) Tryz.func10 (by kernel_rfl) (args := args) (Nat.le_of_ble_eq_true (by kernel_rfl)) hxs (goes _ 0 σ hw hs hl rfl n0 rfl)
end PaceFull
end Go.Proofs.YtohonlojnflejaaGreatDoor
