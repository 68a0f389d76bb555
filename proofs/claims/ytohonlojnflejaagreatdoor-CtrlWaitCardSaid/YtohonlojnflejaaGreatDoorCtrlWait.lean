/- CtrlWait: of every size and length the call says true, and leaves all that was as it was. -/
import Derived.Test.YtohonlojnflejaaGreatDoorBegun18
import Derived.Test.YtohonlojnflejaaGreatDoorRefMulDiv
import Derived.Test.YtohonlojnflejaaGreatDoorMirRng
namespace Go.Proofs.YtohonlojnflejaaGreatDoor
namespace CtrlWait
open Go.Mir Go.RowKit
set_option maxRecDepth 100000
def bv (i : Nat) : MV := .sb (.cmp .neq (.var i) (.lit 0))
def iv (i : Nat) : MV := .sx .i64 (.var i)
def uv (i : Nat) : MV := .sx .u64 (.var i)
def dsc : Nat → Option (List CK) := fun _ => none
def S1 : Shape := ⟨5, [(0, iv 0), (1, iv 1)], .one, []⟩
def args : List MV := [iv 0, iv 1]
def fs (R : List Nat) : Cons := (((((noCons.put 22 gTrue).put 109 (k_fixAdd R)).put 108 (k_fixSub R)).put 104 (k_fixMul R)).put 49 (k_refMulDiv R))
theorem add_s {x y : Int} (h : x + y < 18446744073709551616) : satAdd x y = x + y := if_pos h
theorem wait_law {s n : Int} (hs : 1 ≤ s ∧ s ≤ 1400) (hn : 1 ≤ n ∧ n ≤ 1400) : ∃ W, satMulDiv 64000000 n (64 * s) = W ∧ 64 * (s * W) ≤ 64000000 * n ∧ 64000000 * n < 64 * (s * W) + 64 * s ∧ 0 ≤ W ∧ W ≤ 1400000000 ∧ (0 ≤ s * s ∧ s * s ≤ 1960000) ∧ satMul (64 * s) 10000 = 640000 * s ∧ satMul (64 * s) (W + 1) = 64 * (s * W) + 64 * s ∧ (0 ≤ W - 1 - 64 * s → satMul (64 * s) (W - 1 - 64 * s) = 64 * (s * W) - 64 * s - 4096 * (s * s)) ∧ satMul (64 * s) (W + 1 - (W - 1 - 64 * s)) = 4096 * (s * s) + 128 * s := by
  have h0 := Int.mul_ediv_add_emod (64000000 * n) (64 * s)
  have h1 := Int.emod_lt_of_pos (64000000 * n) (by omega : 0 < 64 * s)
  have h2 := Int.emod_nonneg (64000000 * n) (by omega : 64 * s ≠ 0)
  have h3 : 0 ≤ 64000000 * n / (64 * s) := Int.ediv_nonneg (by omega) (by omega)
  have h4 : 64000000 * n / (64 * s) ≤ 1400000000 := Int.ediv_le_of_le_mul (by omega) (by omega)
  have h5 : satMulDiv 64000000 n (64 * s) = 64000000 * n / (64 * s) := if_neg (by omega)
  generalize 64000000 * n / (64 * s) = W at *
  have e : 64 * s * W = 64 * (s * W) := Int.mul_assoc ..
  have hss : 0 ≤ s * s := Int.mul_nonneg (by omega) (by omega)
  have hss2 : s * s ≤ 1400 * 1400 := Int.mul_le_mul hs.2 hs.2 (by omega) (by decide)
  refine ⟨W, h5, by omega, by omega, h3, h4, ⟨hss, by omega⟩, ?_, ?_, fun hp => ?_, ?_⟩
  · unfold satMul; rw [if_pos (by omega)]; omega
  · have e1 : 64 * s * (W + 1) = 64 * (s * W) + 64 * s := by rw [Int.mul_add, Int.mul_one, e]
    unfold satMul; rw [e1, if_pos (by omega)]
  · have e1 : 64 * s * (W - 1 - 64 * s) = 64 * (s * W) - 64 * s - 4096 * (s * s) := by grind
    unfold satMul; rw [e1, if_pos (by omega)]
  · have e1 : 64 * s * (W + 1 - (W - 1 - 64 * s)) = 4096 * (s * s) + 128 * s := by grind
    unfold satMul; rw [e1, if_pos (by omega)]
noncomputable def bd : Code := bodyOf Tryz.f13
noncomputable def Sst : Shape := ⟨0, params (keepOf Tryz.f13) 0 args, .one, []⟩
noncomputable def n0 : Nd := ⟨bd, [], Sst⟩
noncomputable def n1 : Nd := ⟨(codeAt [1, 1, 1, 1] bd []).1, (codeAt [1, 1, 1, 1] bd []).2, S1⟩
noncomputable def nds : List Nd := [n0, n1]
noncomputable def run (R : List Nat) (c : Code) (fr : List Fr) (sh : Shape) (B : Asm) : Option (List Su) :=
  sumAt Tryz.prog Tryz.f13 (nds.map (·.sh)) isTrueV (ext dsc B).asm (flagL [] [5]) (runOf Tryz.prog (ext dsc B) (fs R) [] 100000) 100000 c fr sh
def t0 : PT := (.leaf [.at 1 [(1, (.bin .add .i64 (.lit 1) (.bin .rem .i64 (.bin .add .i64 (.bin .rem .i64 (.var 1) (.lit 1400)) (.lit 1400)) (.lit 1400)))), (0, (.bin .add .i64 (.lit 1) (.bin .rem .i64 (.bin .add .i64 (.bin .rem .i64 (.var 0) (.lit 1400)) (.lit 1400)) (.lit 1400))))]])
theorem r0 : t0.runs (run [1040, 1041, 1042, 1043, 1045, 1046] n0.c n0.fr n0.sh) (Asm.none) = t0.leaves nds := by kernel_rfl
def t1 : PT := (.split (.cmp .lss (.var 0) (.lit 1)) .contra (.split (.cmp .gtr (.var 0) (.lit 1400)) .contra (.split (.cmp .neq (.bin .mul .u64 (.lit 64) (.wrap .u64 (.var 0))) (.lit 0)) (.split (.cmp .geq (.var 1) (.lit 0)) (.split (.cmp .leq (.var 1) (.lit 65535)) (.split (.cmp .geq (.mm false (.lit 0) (.mm true (.lit 89600000000) (.app 40 (.bin .mul .u64 (.lit 64) (.wrap .u64 (.var 0))) (.lit 10000) (.lit 0)))) (.bin .mul .u64 (.lit 64000000) (.wrap .u64 (.var 1)))) .contra (.split (.cmp .leq (.mm false (.bin .sub .i64 (.bin .sub .i64 (.wrap .i64 (.app 43 (.lit 64000000) (.wrap .u64 (.var 1)) (.bin .mul .u64 (.lit 64) (.wrap .u64 (.var 0))))) (.lit 1)) (.bin .mul .i64 (.lit 64) (.var 0))) (.lit 4611686018427387904)) (.lit 0)) (.split (.cmp .leq (.mm false (.bin .add .i64 (.wrap .i64 (.app 43 (.lit 64000000) (.wrap .u64 (.var 1)) (.bin .mul .u64 (.lit 64) (.wrap .u64 (.var 0))))) (.lit 1)) (.lit 4611686018427387904)) (.lit 0)) .contra (.split (.cmp .geq (.mm false (.app 41 (.mm false (.lit 0) (.mm true (.lit 89600000000) (.app 40 (.bin .mul .u64 (.lit 64) (.wrap .u64 (.var 0))) (.lit 10000) (.lit 0)))) (.app 40 (.bin .mul .u64 (.lit 64) (.wrap .u64 (.var 0))) (.bin .sub .u64 (.wrap .u64 (.mm false (.bin .add .i64 (.wrap .i64 (.app 43 (.lit 64000000) (.wrap .u64 (.var 1)) (.bin .mul .u64 (.lit 64) (.wrap .u64 (.var 0))))) (.lit 1)) (.lit 4611686018427387904))) (.lit 0)) (.lit 0)) (.lit 0)) (.mm true (.lit 89600000000) (.app 40 (.bin .mul .u64 (.lit 64) (.wrap .u64 (.var 0))) (.lit 10000) (.lit 0)))) (.bin .mul .u64 (.lit 64000000) (.wrap .u64 (.var 1)))) (.split (.cmp .geq (.bin .sub .u64 (.mm false (.app 41 (.mm false (.lit 0) (.mm true (.lit 89600000000) (.app 40 (.bin .mul .u64 (.lit 64) (.wrap .u64 (.var 0))) (.lit 10000) (.lit 0)))) (.app 40 (.bin .mul .u64 (.lit 64) (.wrap .u64 (.var 0))) (.bin .sub .u64 (.wrap .u64 (.mm false (.bin .add .i64 (.wrap .i64 (.app 43 (.lit 64000000) (.wrap .u64 (.var 1)) (.bin .mul .u64 (.lit 64) (.wrap .u64 (.var 0))))) (.lit 1)) (.lit 4611686018427387904))) (.lit 0)) (.lit 0)) (.lit 0)) (.mm true (.lit 89600000000) (.app 40 (.bin .mul .u64 (.lit 64) (.wrap .u64 (.var 0))) (.lit 10000) (.lit 0)))) (.bin .mul .u64 (.lit 64000000) (.wrap .u64 (.var 1)))) (.bin .mul .u64 (.lit 64000000) (.wrap .u64 (.var 1)))) .contra (.leaf [])) .contra)) (.split (.cmp .geq (.mm false (.app 41 (.mm false (.lit 0) (.mm true (.lit 89600000000) (.app 40 (.bin .mul .u64 (.lit 64) (.wrap .u64 (.var 0))) (.lit 10000) (.lit 0)))) (.app 40 (.bin .mul .u64 (.lit 64) (.wrap .u64 (.var 0))) (.bin .sub .u64 (.wrap .u64 (.mm false (.bin .sub .i64 (.bin .sub .i64 (.wrap .i64 (.app 43 (.lit 64000000) (.wrap .u64 (.var 1)) (.bin .mul .u64 (.lit 64) (.wrap .u64 (.var 0))))) (.lit 1)) (.bin .mul .i64 (.lit 64) (.var 0))) (.lit 4611686018427387904))) (.lit 0)) (.lit 0)) (.lit 0)) (.mm true (.lit 89600000000) (.app 40 (.bin .mul .u64 (.lit 64) (.wrap .u64 (.var 0))) (.lit 10000) (.lit 0)))) (.bin .mul .u64 (.lit 64000000) (.wrap .u64 (.var 1)))) .contra (.split (.cmp .leq (.mm false (.bin .add .i64 (.wrap .i64 (.app 43 (.lit 64000000) (.wrap .u64 (.var 1)) (.bin .mul .u64 (.lit 64) (.wrap .u64 (.var 0))))) (.lit 1)) (.lit 4611686018427387904)) (.mm false (.bin .sub .i64 (.bin .sub .i64 (.wrap .i64 (.app 43 (.lit 64000000) (.wrap .u64 (.var 1)) (.bin .mul .u64 (.lit 64) (.wrap .u64 (.var 0))))) (.lit 1)) (.bin .mul .i64 (.lit 64) (.var 0))) (.lit 4611686018427387904))) .contra (.split (.cmp .geq (.mm false (.app 41 (.mm false (.app 41 (.mm false (.lit 0) (.mm true (.lit 89600000000) (.app 40 (.bin .mul .u64 (.lit 64) (.wrap .u64 (.var 0))) (.lit 10000) (.lit 0)))) (.app 40 (.bin .mul .u64 (.lit 64) (.wrap .u64 (.var 0))) (.bin .sub .u64 (.wrap .u64 (.mm false (.bin .sub .i64 (.bin .sub .i64 (.wrap .i64 (.app 43 (.lit 64000000) (.wrap .u64 (.var 1)) (.bin .mul .u64 (.lit 64) (.wrap .u64 (.var 0))))) (.lit 1)) (.bin .mul .i64 (.lit 64) (.var 0))) (.lit 4611686018427387904))) (.lit 0)) (.lit 0)) (.lit 0)) (.mm true (.lit 89600000000) (.app 40 (.bin .mul .u64 (.lit 64) (.wrap .u64 (.var 0))) (.lit 10000) (.lit 0)))) (.app 40 (.bin .mul .u64 (.lit 64) (.wrap .u64 (.var 0))) (.bin .sub .u64 (.wrap .u64 (.mm false (.bin .add .i64 (.wrap .i64 (.app 43 (.lit 64000000) (.wrap .u64 (.var 1)) (.bin .mul .u64 (.lit 64) (.wrap .u64 (.var 0))))) (.lit 1)) (.lit 4611686018427387904))) (.wrap .u64 (.mm false (.bin .sub .i64 (.bin .sub .i64 (.wrap .i64 (.app 43 (.lit 64000000) (.wrap .u64 (.var 1)) (.bin .mul .u64 (.lit 64) (.wrap .u64 (.var 0))))) (.lit 1)) (.bin .mul .i64 (.lit 64) (.var 0))) (.lit 4611686018427387904)))) (.lit 0)) (.lit 0)) (.mm true (.lit 89600000000) (.app 40 (.bin .mul .u64 (.lit 64) (.wrap .u64 (.var 0))) (.lit 10000) (.lit 0)))) (.bin .mul .u64 (.lit 64000000) (.wrap .u64 (.var 1)))) (.split (.cmp .geq (.bin .sub .u64 (.mm false (.app 41 (.mm false (.app 41 (.mm false (.lit 0) (.mm true (.lit 89600000000) (.app 40 (.bin .mul .u64 (.lit 64) (.wrap .u64 (.var 0))) (.lit 10000) (.lit 0)))) (.app 40 (.bin .mul .u64 (.lit 64) (.wrap .u64 (.var 0))) (.bin .sub .u64 (.wrap .u64 (.mm false (.bin .sub .i64 (.bin .sub .i64 (.wrap .i64 (.app 43 (.lit 64000000) (.wrap .u64 (.var 1)) (.bin .mul .u64 (.lit 64) (.wrap .u64 (.var 0))))) (.lit 1)) (.bin .mul .i64 (.lit 64) (.var 0))) (.lit 4611686018427387904))) (.lit 0)) (.lit 0)) (.lit 0)) (.mm true (.lit 89600000000) (.app 40 (.bin .mul .u64 (.lit 64) (.wrap .u64 (.var 0))) (.lit 10000) (.lit 0)))) (.app 40 (.bin .mul .u64 (.lit 64) (.wrap .u64 (.var 0))) (.bin .sub .u64 (.wrap .u64 (.mm false (.bin .add .i64 (.wrap .i64 (.app 43 (.lit 64000000) (.wrap .u64 (.var 1)) (.bin .mul .u64 (.lit 64) (.wrap .u64 (.var 0))))) (.lit 1)) (.lit 4611686018427387904))) (.wrap .u64 (.mm false (.bin .sub .i64 (.bin .sub .i64 (.wrap .i64 (.app 43 (.lit 64000000) (.wrap .u64 (.var 1)) (.bin .mul .u64 (.lit 64) (.wrap .u64 (.var 0))))) (.lit 1)) (.bin .mul .i64 (.lit 64) (.var 0))) (.lit 4611686018427387904)))) (.lit 0)) (.lit 0)) (.mm true (.lit 89600000000) (.app 40 (.bin .mul .u64 (.lit 64) (.wrap .u64 (.var 0))) (.lit 10000) (.lit 0)))) (.bin .mul .u64 (.lit 64000000) (.wrap .u64 (.var 1)))) (.bin .mul .u64 (.lit 64000000) (.wrap .u64 (.var 1)))) .contra (.leaf [])) .contra))))) .contra) .contra) .contra)))
theorem r1 : t1.runs (run [1040, 1041, 1042, 1043, 1045, 1046] n1.c n1.fr n1.sh) (Asm.none) = t1.leaves nds := by kernel_rfl
def stdApp : Nat → Int → Int → Int → Int := satApp
def Wf (σ : Val) : Prop := (Lit.int .i64 (σ.v 0)).wf = true ∧ (Lit.int .i64 (σ.v 1)).wf = true
/-- What holds at each place; how far it is to the end. -/
def I : Nat → Val → Prop
  | 0, σ => Wf σ
  | 1, σ => (1 ≤ σ.v 0 ∧ σ.v 0 ≤ 1400) ∧ (1 ≤ σ.v 1 ∧ σ.v 1 ≤ 1400)
  | _, _ => False
def mu : Nat → Val → Int
  | 0, _ => 2
  | 1, _ => 1
  | _, _ => 0
theorem g0 (σ : Val) (h : I 0 σ) : t0.Goal σ (fun k' σ' => I k' σ' ∧ 0 ≤ mu k' σ' ∧ mu k' σ' < mu 0 σ) (fun _ => False) := by
  simp only [I, Wf, lit_i64] at h
  obtain ⟨_, _⟩ := h
  simp only [t0, PT.Goal, LfGoal, I, mu, Val.sub, assocE, SE.eval, add_i64, rem_i64]
  repeat' first | apply And.intro | intro _
  all_goals first | trivial | omega
set_option maxHeartbeats 4000000 in
theorem g1 (σ : Val) (hs : SatOK σ) (h : I 1 σ) : t1.Goal σ (fun k' σ' => I k' σ' ∧ 0 ≤ mu k' σ' ∧ mu k' σ' < mu 1 σ) (fun _ => False) := by
  obtain ⟨a1, a2⟩ : _ ∧ _ := h
  obtain ⟨W, hW, w1, w2, w3, w4, w5, e0, e1, e2, e3⟩ := wait_law a1 a2
  refine ⟨fun h0 => ?_, fun h0 => ?_⟩
  · simp (disch := omega) only [SE.eval, SB.eval] at h0; all_goals (try simp only [cmp_lss] at h0); all_goals (try split at h0); all_goals first | omega | (have hb : σ.v 1 = 1400 := by omega) <;> omega
  · simp (disch := omega) only [SE.eval, SB.eval] at h0; all_goals (try simp only [cmp_lss0] at h0)
    refine ⟨fun h1 => ?_, fun h1 => ?_⟩
    · simp (disch := omega) only [SE.eval, SB.eval] at h1; all_goals (try simp only [cmp_gtr] at h1); all_goals (try split at h1); all_goals first | omega | (have hb : σ.v 1 = 1400 := by omega) <;> omega
    · simp (disch := omega) only [SE.eval, SB.eval] at h1; all_goals (try simp only [cmp_gtr0] at h1)
      refine ⟨fun h2 => ?_, fun h2 => ?_⟩
      · simp (disch := omega) only [SE.eval, SB.eval, mul_u64r, wrap_u64r] at h2; all_goals (try simp only [cmp_neq] at h2)
        refine ⟨fun h3 => ?_, fun h3 => ?_⟩
        · simp (disch := omega) only [SE.eval, SB.eval] at h3; all_goals (try simp only [cmp_geq] at h3)
          refine ⟨fun h4 => ?_, fun h4 => ?_⟩
          · simp (disch := omega) only [SE.eval, SB.eval] at h4; all_goals (try simp only [cmp_leq] at h4)
            refine ⟨fun h5 => ?_, fun h5 => ?_⟩
            · simp (disch := omega) only [SE.eval, SB.eval, appV, mul_u64r, max_l, min_l, wrap_u64r, hs.mul, e0] at h5; all_goals (try simp only [cmp_geq] at h5); all_goals (try split at h5); all_goals first | omega | (have hb : σ.v 1 = 1400 := by omega) <;> omega
            · simp (disch := omega) only [SE.eval, SB.eval, appV, mul_u64r, max_l, min_l, wrap_u64r, hs.mul, e0] at h5; all_goals (try simp only [cmp_geq0] at h5)
              refine ⟨fun h6 => ?_, fun h6 => ?_⟩
              · simp (disch := omega) only [SE.eval, SB.eval, appV, sub_i64r, mul_i64r, mul_u64r, min_l, wrap_i64r, wrap_u64r, hs.muldiv, hW] at h6; all_goals (try simp only [cmp_leq] at h6)
                refine ⟨fun h7 => ?_, fun h7 => ?_⟩
                · simp (disch := omega) only [SE.eval, SB.eval, appV, add_i64r, mul_u64r, min_l, wrap_i64r, wrap_u64r, hs.muldiv, hW] at h7; all_goals (try simp only [cmp_leq] at h7); all_goals (try split at h7); all_goals first | omega | (have hb : σ.v 1 = 1400 := by omega) <;> omega
                · simp (disch := omega) only [SE.eval, SB.eval, appV, add_i64r, mul_u64r, min_l, wrap_i64r, wrap_u64r, hs.muldiv, hW] at h7; all_goals (try simp only [cmp_leq0] at h7)
                  refine ⟨fun h8 => ?_, fun h8 => ?_⟩
                  · clear h8
                    refine ⟨fun h9 => ?_, fun h9 => ?_⟩
                    · simp (disch := omega) only [SE.eval, SB.eval, appV, add_i64r, sub_u64r, mul_u64r, max_l, min_l, wrap_i64r, wrap_u64r, hs.mul, hs.add, hs.muldiv, hW, e0, e1, add_s, Int.sub_zero, Int.zero_add] at h9; all_goals (try simp only [sub_u64, mmV_min, cmp_geq] at h9); all_goals (try split at h9); all_goals first | omega | (have hb : σ.v 1 = 1400 := by omega) <;> omega
                    · clear h9
                      exact True.intro
                  · simp (disch := omega) only [SE.eval, SB.eval, appV, add_i64r, sub_u64r, mul_u64r, max_l, min_l, wrap_i64r, wrap_u64r, hs.mul, hs.add, hs.muldiv, hW, e0, e1, add_s, Int.sub_zero, Int.zero_add] at h8; all_goals (try simp only [mmV_min, cmp_geq0] at h8); all_goals (try split at h8); all_goals first | omega | (have hb : σ.v 1 = 1400 := by omega) <;> omega
              · simp (disch := omega) only [SE.eval, SB.eval, appV, sub_i64r, mul_i64r, mul_u64r, min_l, wrap_i64r, wrap_u64r, hs.muldiv, hW] at h6; all_goals (try simp only [cmp_leq0] at h6)
                refine ⟨fun h7 => ?_, fun h7 => ?_⟩
                · simp (disch := omega) only [SE.eval, SB.eval, appV, sub_i64r, mul_i64r, sub_u64r, mul_u64r, max_l, min_l, wrap_i64r, wrap_u64r, hs.mul, hs.add, hs.muldiv, hW, e0, e2, add_s, Int.sub_zero, Int.zero_add] at h7; all_goals (try simp only [cmp_geq] at h7); all_goals (try split at h7); all_goals first | omega | (have hb : σ.v 1 = 1400 := by omega) <;> omega
                · clear h7
                  refine ⟨fun h8 => ?_, fun h8 => ?_⟩
                  · simp (disch := omega) only [SE.eval, SB.eval, appV, add_i64r, sub_i64r, mul_i64r, mul_u64r, min_l, wrap_i64r, wrap_u64r, hs.muldiv, hW] at h8; all_goals (try simp only [cmp_leq] at h8); all_goals (try split at h8); all_goals first | omega | (have hb : σ.v 1 = 1400 := by omega) <;> omega
                  · simp (disch := omega) only [SE.eval, SB.eval, appV, add_i64r, sub_i64r, mul_i64r, mul_u64r, min_l, wrap_i64r, wrap_u64r, hs.muldiv, hW] at h8; all_goals (try simp only [cmp_leq0] at h8)
                    refine ⟨fun h9 => ?_, fun h9 => ?_⟩
                    · clear h9
                      refine ⟨fun h10 => ?_, fun h10 => ?_⟩
                      · simp (disch := omega) only [SE.eval, SB.eval, appV, add_i64r, sub_i64r, mul_i64r, sub_u64r, mul_u64r, max_l, min_l, wrap_i64r, wrap_u64r, hs.mul, hs.add, hs.muldiv, hW, e0, e2, e3, add_s, Int.sub_zero, Int.zero_add] at h10; all_goals (try simp only [sub_u64, mmV_min, cmp_geq] at h10); all_goals (try split at h10); all_goals first | omega | (have hb : σ.v 1 = 1400 := by omega) <;> omega
                      · clear h10
                        exact True.intro
                    · simp (disch := omega) only [SE.eval, SB.eval, appV, add_i64r, sub_i64r, mul_i64r, sub_u64r, mul_u64r, max_l, min_l, wrap_i64r, wrap_u64r, hs.mul, hs.add, hs.muldiv, hW, e0, e2, e3, add_s, Int.sub_zero, Int.zero_add] at h9; all_goals (try simp only [mmV_min, cmp_geq0] at h9); all_goals (try split at h9); all_goals first | omega | (have hb : σ.v 1 = 1400 := by omega) <;> omega
          · simp (disch := omega) only [SE.eval, SB.eval] at h4; all_goals (try simp only [cmp_leq0] at h4); all_goals (try split at h4); all_goals first | omega | (have hb : σ.v 1 = 1400 := by omega) <;> omega
        · simp (disch := omega) only [SE.eval, SB.eval] at h3; all_goals (try simp only [cmp_geq0] at h3); all_goals (try split at h3); all_goals first | omega | (have hb : σ.v 1 = 1400 := by omega) <;> omega
      · simp (disch := omega) only [SE.eval, SB.eval, mul_u64r, wrap_u64r] at h2; all_goals (try simp only [cmp_neq0] at h2); all_goals (try split at h2); all_goals first | omega | (have hb : σ.v 1 = 1400 := by omega) <;> omega
theorem R0 {σ : Val} (hs : SatOK σ) (_h : I 0 σ) : RngOK σ [1040, 1041, 1042, 1043, 1045, 1046] := by
  refine rng_sat hs (L := []) (by decide) (fun i hi => ?_)
  cases hi
theorem R1 {σ : Val} (hs : SatOK σ) (_h : I 1 σ) : RngOK σ [1040, 1041, 1042, 1043, 1045, 1046] := by
  refine rng_sat hs (L := []) (by decide) (fun i hi => ?_)
  cases hi
theorem goes {w0 : World} : ∀ (d k : Nat) (σ : Val), I k σ → SatOK σ → LiesOK ⟨w0.heap.size, w0, σ⟩ dsc → (mu k σ).toNat = d → ∀ nd, nds[k]? = some nd → Goal Tryz.prog Tryz.f13 w0 (.bool true) nd.c nd.fr nd.sh σ := by
  intro d
  induction d using Nat.strongRecOn with
  | _ d ih =>
    intro k σ hI hs hl hd nd hnd
    have next : ∀ (k' : Nat) (τ : List (Nat × SE)), (I k' (σ.sub τ) ∧ 0 ≤ mu k' (σ.sub τ) ∧ mu k' (σ.sub τ) < mu k σ) → ∀ nd, nds[k']? = some nd → Goal Tryz.prog Tryz.f13 w0 (.bool true) nd.c nd.fr nd.sh (σ.sub τ) :=
      fun k' τ h nd hnd => ih _ (by omega) k' (σ.sub τ) h.1 (hs.sub' τ) (hl.sub τ) rfl nd hnd
    match k, hI, hnd, hd, next with
    | 0, hI, hnd, _, next =>
      cases hnd
      have hR := (R0 hs hI)
      exact pt_node noNum mixed (fun B hB => ext_ok hB hl) (((((noCons_ok.put (begun18.fn σ)).put (f_fixAdd hR hs)).put (f_fixSub hR hs)).put (f_fixMul hR hs)).put (f_refMulDiv hR hs)) (nodes := nds) r0 (Asm.none_ok σ) (by kernel_rfl) (by kernel_rfl) good_true next (fun _ h => h.elim) (g0 σ hI)
    | 1, hI, hnd, _, next =>
      cases hnd
      have hR := (R1 hs hI)
      exact pt_node noNum mixed (fun B hB => ext_ok hB hl) (((((noCons_ok.put (begun18.fn σ)).put (f_fixAdd hR hs)).put (f_fixSub hR hs)).put (f_fixMul hR hs)).put (f_refMulDiv hR hs)) (nodes := nds) r1 (Asm.none_ok σ) (by kernel_rfl) (by kernel_rfl) good_true next (fun _ h => h.elim) (g1 σ hs hI)
theorem walk {w0 : World} {xs : Array Value} {σ : Val} (hl : LiesOK ⟨w0.heap.size, w0, σ⟩ dsc) (hw : Wf σ) (hs : SatOK σ) (hxs : VRs ⟨fun _ => none, σ⟩ args xs.toList) : Calls Tryz.prog 13 xs w0 (Post w0 (.bool true)) :=
  calls_of_goal (c := bd) Tryz.func13 (by kernel_rfl) (args := args) (Nat.le_of_ble_eq_true (by kernel_rfl)) hxs (goes _ 0 σ hw hs hl rfl n0 rfl)
end CtrlWait
end Go.Proofs.YtohonlojnflejaaGreatDoor
