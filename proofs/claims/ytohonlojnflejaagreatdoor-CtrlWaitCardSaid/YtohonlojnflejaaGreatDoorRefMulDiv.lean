/- RefMulDiv: the contract of the product, divided, bit by bit. -/
import Derived.Test.YtohonlojnflejaaGreatDoorCon3
import Derived.Test.YtohonlojnflejaaGreatDoorMirArr
import Derived.Test.YtohonlojnflejaaGreatDoorMirMd
namespace Go.Proofs.YtohonlojnflejaaGreatDoor
namespace RefMulDiv
open Go.Mir Go.RowKit
set_option maxRecDepth 100000
def bv (i : Nat) : MV := .sb (.cmp .neq (.var i) (.lit 0))
def iv (i : Nat) : MV := .sx .i64 (.var i)
def uv (i : Nat) : MV := .sx .u64 (.var i)
def dsc : Nat → Option (List CK) := fun _ => none
def S1 : Shape := ⟨7, [(2, uv 2), (8, uv 4), (9, uv 5), (10, uv 6), (11, iv 7)], .one, []⟩
def args : List MV := [uv 0, uv 1, uv 2]
def fs (R : List Nat) : Cons := (noCons.put 106 (k_refWide R))
noncomputable def bd : Code := bodyOf Tryz.f49
noncomputable def Sst : Shape := ⟨0, params (keepOf Tryz.f49) 0 args, .one, []⟩
noncomputable def n0 : Nd := ⟨bd, [], Sst⟩
noncomputable def n1 : Nd := ⟨(codeAt [1, 1, 1, 1, 1, 0, 1, 0] bd []).1, (codeAt [1, 1, 1, 1, 1, 0, 1, 0] bd []).2, S1⟩
noncomputable def nds : List Nd := [n0, n1]
noncomputable def run (R : List Nat) (c : Code) (fr : List Fr) (sh : Shape) (B : Asm) : Option (List Su) :=
  sumAt Tryz.prog Tryz.f49 (nds.map (·.sh)) noGood (ext dsc B).asm (flagL [7] []) (runOf Tryz.prog (ext dsc B) (fs R) [] 100000) 100000 c fr sh
def t0 : PT := (.split (.cmp .eql (.var 2) (.lit 0)) (.leaf [.done (.int .u64 18446744073709551615)]) (.split (.cmp .geq (.app 45 (.var 0) (.var 1) (.lit 0)) (.var 2)) (.leaf [.done (.int .u64 18446744073709551615)]) (.leaf [.at 1 [(7, (.lit 63)), (6, (.lit 0)), (5, (.app 45 (.var 0) (.var 1) (.lit 0))), (4, (.app 46 (.var 0) (.var 1) (.lit 0))), (2, (.var 2))]])))
theorem r0 : t0.runs (run [1040, 1041, 1042, 1043, 1045, 1046, 0, 1, 2] n0.c n0.fr n0.sh) (Asm.none) = t0.leaves nds := by kernel_rfl
def t1 : PT := (.split (.cmp .geq (.var 7) (.lit 0)) (.split (.cmp .geq (.var 5) (.lit 9223372036854775808)) (.leaf [.at 1 [(7, (.bin .sub .i64 (.var 7) (.lit 1))), (6, (.bin .add .u64 (.bin .mul .u64 (.var 6) (.lit 2)) (.lit 1))), (5, (.bin .sub .u64 (.bin .add .u64 (.bin .mul .u64 (.var 5) (.lit 2)) (.bin .rem .u64 (.bin .shr .u64 (.var 4) (.wrap .u64 (.var 7))) (.lit 2))) (.var 2))), (4, (.var 4)), (2, (.var 2))]]) (.split (.cmp .geq (.bin .add .u64 (.bin .mul .u64 (.var 5) (.lit 2)) (.bin .rem .u64 (.bin .shr .u64 (.var 4) (.wrap .u64 (.var 7))) (.lit 2))) (.var 2)) (.leaf [.at 1 [(7, (.bin .sub .i64 (.var 7) (.lit 1))), (6, (.bin .add .u64 (.bin .mul .u64 (.var 6) (.lit 2)) (.lit 1))), (5, (.bin .sub .u64 (.bin .add .u64 (.bin .mul .u64 (.var 5) (.lit 2)) (.bin .rem .u64 (.bin .shr .u64 (.var 4) (.wrap .u64 (.var 7))) (.lit 2))) (.var 2))), (4, (.var 4)), (2, (.var 2))]]) (.leaf [.at 1 [(7, (.bin .sub .i64 (.var 7) (.lit 1))), (6, (.bin .mul .u64 (.var 6) (.lit 2))), (5, (.bin .add .u64 (.bin .mul .u64 (.var 5) (.lit 2)) (.bin .rem .u64 (.bin .shr .u64 (.var 4) (.wrap .u64 (.var 7))) (.lit 2)))), (4, (.var 4)), (2, (.var 2))]]))) (.leaf [.done (.sx .u64 (.var 6))]))
theorem r1 : t1.runs (run [1040, 1041, 1042, 1043, 1045, 1046] n1.c n1.fr n1.sh) (Asm.none) = t1.leaves nds := by kernel_rfl
def stdApp : Nat → Int → Int → Int → Int := satApp
def Wf (σ : Val) : Prop := (0 ≤ σ.v 0 ∧ σ.v 0 < 18446744073709551616) ∧ (0 ≤ σ.v 1 ∧ σ.v 1 < 18446744073709551616) ∧ (0 ≤ σ.v 2 ∧ σ.v 2 < 18446744073709551616)
def Xf (σ : Val) : Value := .int .u64 (satMulDiv (σ.v 0) (σ.v 1) (σ.v 2))
/-- What holds at each place; how far it is to the end. -/
def I : Nat → Val → Prop
  | 0, σ => Wf σ
  | 1, σ => (0 ≤ σ.v 0 ∧ σ.v 0 < 18446744073709551616) ∧ (0 ≤ σ.v 1 ∧ σ.v 1 < 18446744073709551616) ∧ (1 ≤ σ.v 2 ∧ σ.v 2 < 18446744073709551616) ∧ σ.v 0 * σ.v 1 / 18446744073709551616 < σ.v 2 ∧ σ.v 4 = σ.v 0 * σ.v 1 % 18446744073709551616 ∧ (-1 ≤ σ.v 7 ∧ σ.v 7 ≤ 63) ∧ σ.v 6 = σ.v 0 * σ.v 1 / ((2 ^ (σ.v 7 + 1).toNat : Nat) : Int) / σ.v 2 ∧ σ.v 5 = σ.v 0 * σ.v 1 / ((2 ^ (σ.v 7 + 1).toNat : Nat) : Int) % σ.v 2
  | _, _ => False
def mu : Nat → Val → Int
  | 0, _ => 100
  | 1, σ => σ.v 7 + 1
  | _, _ => 0
set_option maxHeartbeats 4000000 in
theorem g0 (σ : Val) (hs : SatOK σ) (h : I 0 σ) : t0.Goal σ (fun k' σ' => I k' σ' ∧ Xf σ' = Xf σ ∧ 0 ≤ mu k' σ' ∧ mu k' σ' < mu 0 σ) (fun v => den σ v = some (Xf σ)) := by
  simp only [I, Wf] at h
  obtain ⟨a1, a2, a3⟩ := h
  have hT := Int.mul_nonneg a1.1 a2.1
  refine ⟨fun h0 => ?_, fun h0 => ?_⟩
  · simp (disch := omega) only [SE.eval, SB.eval] at h0; all_goals (try simp only [cmp_eql] at h0)
    simp only [PT.Goal, LfGoal, den, den1, Xf]
    first | (exact ⟨by rw [show satMulDiv (σ.v 0) (σ.v 1) (σ.v 2) = 18446744073709551615 from if_pos (by omega)], trivial⟩) | (have q := md_start hT h1; refine ⟨⟨⟨a1, a2, ⟨by omega, a3.2⟩, h1, by first | trivial | rfl, by omega, q.1, q.2⟩, by first | trivial | rfl, by omega, by omega⟩, trivial⟩)
  · simp (disch := omega) only [SE.eval, SB.eval] at h0; all_goals (try simp only [cmp_eql0] at h0)
    refine ⟨fun h1 => ?_, fun h1 => ?_⟩
    · simp (disch := omega) only [SE.eval, SB.eval, appV, hs.hi] at h1; all_goals (try simp only [cmp_geq] at h1)
      simp only [PT.Goal, LfGoal, den, den1, Xf]
      first | (exact ⟨by rw [show satMulDiv (σ.v 0) (σ.v 1) (σ.v 2) = 18446744073709551615 from if_pos (by omega)], trivial⟩) | (have q := md_start hT h1; refine ⟨⟨⟨a1, a2, ⟨by omega, a3.2⟩, h1, by first | trivial | rfl, by omega, q.1, q.2⟩, by first | trivial | rfl, by omega, by omega⟩, trivial⟩)
    · simp (disch := omega) only [SE.eval, SB.eval, appV, hs.hi] at h1; all_goals (try simp only [cmp_geq0] at h1)
      simp only [PT.Goal, LfGoal, I, mu, Xf, Val.sub, assocE, SE.eval, appV, hs.hi, hs.lo]
      first | (exact ⟨by rw [show satMulDiv (σ.v 0) (σ.v 1) (σ.v 2) = 18446744073709551615 from if_pos (by omega)], trivial⟩) | (have q := md_start hT h1; refine ⟨⟨⟨a1, a2, ⟨by omega, a3.2⟩, h1, by first | trivial | rfl, by omega, q.1, q.2⟩, by first | trivial | rfl, by omega, by omega⟩, trivial⟩)
set_option maxHeartbeats 4000000 in
theorem g1 (σ : Val) (h : I 1 σ) : t1.Goal σ (fun k' σ' => I k' σ' ∧ Xf σ' = Xf σ ∧ 0 ≤ mu k' σ' ∧ mu k' σ' < mu 1 σ) (fun v => den σ v = some (Xf σ)) := by
  obtain ⟨a1, a2, a3, a4, a5, a6, a7, a8⟩ : _ ∧ _ ∧ _ ∧ _ ∧ _ ∧ _ ∧ _ ∧ _ := h
  have hT := Int.mul_nonneg a1.1 a2.1
  refine ⟨fun h0 => ?_, fun h0 => ?_⟩
  · simp (disch := omega) only [SE.eval, SB.eval] at h0; all_goals (try simp only [cmp_geq] at h0)
    refine ⟨fun h1 => ?_, fun h1 => ?_⟩
    · simp (disch := omega) only [SE.eval, SB.eval] at h1; all_goals (try simp only [cmp_geq] at h1)
      simp only [PT.Goal, LfGoal, I, mu, Xf, Val.sub, assocE, SE.eval]
      first | (exact ⟨by rw [md_end a6.1 h0 a3.1 a4 a7], trivial⟩) | skip
      all_goals obtain ⟨S, hS, s0, z1, z2, r0, r1, q0, nb⟩ := md_leaf hT a3.1 a4 a5 h0 a6.2 a7 a8
      all_goals simp (disch := omega) only [wrap_u64r, sub_i64r, rem_u64r, hS]
      all_goals simp only [hS] at *
      all_goals simp only [mul_u64, add_u64, sub_u64]
      all_goals by_cases hlt : 2 * σ.v 5 + S % 2 < σ.v 2
      all_goals first | (exfalso; omega) | (have z := z1 hlt; rw [z.1] at nb; refine ⟨⟨⟨a1, a2, a3, a4, a5, by omega, ?_, ?_⟩, by first | trivial | rfl, by omega, by omega⟩, trivial⟩ <;> first | (rw [z.1]; omega) | (rw [z.2]; omega)) | (have z := z2 (by omega); rw [z.1] at nb; refine ⟨⟨⟨a1, a2, a3, a4, a5, by omega, ?_, ?_⟩, by first | trivial | rfl, by omega, by omega⟩, trivial⟩ <;> first | (rw [z.1]; omega) | (rw [z.2]; omega))
    · simp (disch := omega) only [SE.eval, SB.eval] at h1; all_goals (try simp only [cmp_geq0] at h1)
      refine ⟨fun h2 => ?_, fun h2 => ?_⟩
      · simp (disch := omega) only [SE.eval, SB.eval, wrap_u64r] at h2; all_goals (try simp only [add_u64, mul_u64, rem_u64, cmp_geq] at h2)
        simp only [PT.Goal, LfGoal, I, mu, Xf, Val.sub, assocE, SE.eval]
        first | (exact ⟨by rw [md_end a6.1 h0 a3.1 a4 a7], trivial⟩) | skip
        all_goals obtain ⟨S, hS, s0, z1, z2, r0, r1, q0, nb⟩ := md_leaf hT a3.1 a4 a5 h0 a6.2 a7 a8
        all_goals simp (disch := omega) only [wrap_u64r, sub_i64r, rem_u64r, hS]
        all_goals simp only [hS] at *
        all_goals simp only [mul_u64, add_u64, sub_u64]
        all_goals by_cases hlt : 2 * σ.v 5 + S % 2 < σ.v 2
        all_goals first | (exfalso; omega) | (have z := z1 hlt; rw [z.1] at nb; refine ⟨⟨⟨a1, a2, a3, a4, a5, by omega, ?_, ?_⟩, by first | trivial | rfl, by omega, by omega⟩, trivial⟩ <;> first | (rw [z.1]; omega) | (rw [z.2]; omega)) | (have z := z2 (by omega); rw [z.1] at nb; refine ⟨⟨⟨a1, a2, a3, a4, a5, by omega, ?_, ?_⟩, by first | trivial | rfl, by omega, by omega⟩, trivial⟩ <;> first | (rw [z.1]; omega) | (rw [z.2]; omega))
      · simp (disch := omega) only [SE.eval, SB.eval, wrap_u64r] at h2; all_goals (try simp only [add_u64, mul_u64, rem_u64, cmp_geq0] at h2)
        simp only [PT.Goal, LfGoal, I, mu, Xf, Val.sub, assocE, SE.eval]
        first | (exact ⟨by rw [md_end a6.1 h0 a3.1 a4 a7], trivial⟩) | skip
        all_goals obtain ⟨S, hS, s0, z1, z2, r0, r1, q0, nb⟩ := md_leaf hT a3.1 a4 a5 h0 a6.2 a7 a8
        all_goals simp (disch := omega) only [wrap_u64r, sub_i64r, rem_u64r, hS]
        all_goals simp only [hS] at *
        all_goals simp only [mul_u64, add_u64]
        all_goals by_cases hlt : 2 * σ.v 5 + S % 2 < σ.v 2
        all_goals first | (exfalso; omega) | (have z := z1 hlt; rw [z.1] at nb; refine ⟨⟨⟨a1, a2, a3, a4, a5, by omega, ?_, ?_⟩, by first | trivial | rfl, by omega, by omega⟩, trivial⟩ <;> first | (rw [z.1]; omega) | (rw [z.2]; omega)) | (have z := z2 (by omega); rw [z.1] at nb; refine ⟨⟨⟨a1, a2, a3, a4, a5, by omega, ?_, ?_⟩, by first | trivial | rfl, by omega, by omega⟩, trivial⟩ <;> first | (rw [z.1]; omega) | (rw [z.2]; omega))
  · simp (disch := omega) only [SE.eval, SB.eval] at h0; all_goals (try simp only [cmp_geq0] at h0)
    simp only [PT.Goal, LfGoal, den, den1, Xf, SE.eval]
    first | (exact ⟨by rw [md_end a6.1 h0 a3.1 a4 a7], trivial⟩) | skip
    all_goals obtain ⟨S, hS, s0, z1, z2, r0, r1, q0, nb⟩ := md_leaf hT a3.1 a4 a5 h0 a6.2 a7 a8
    all_goals simp (disch := omega) only [wrap_u64r, sub_i64r, rem_u64r, hS]
    all_goals simp only [hS] at *
    all_goals simp only [mul_u64, add_u64, sub_u64]
    all_goals by_cases hlt : 2 * σ.v 5 + S % 2 < σ.v 2
    all_goals first | (exfalso; omega) | (have z := z1 hlt; rw [z.1] at nb; refine ⟨⟨⟨a1, a2, a3, a4, a5, by omega, ?_, ?_⟩, by first | trivial | rfl, by omega, by omega⟩, trivial⟩ <;> first | (rw [z.1]; omega) | (rw [z.2]; omega)) | (have z := z2 (by omega); rw [z.1] at nb; refine ⟨⟨⟨a1, a2, a3, a4, a5, by omega, ?_, ?_⟩, by first | trivial | rfl, by omega, by omega⟩, trivial⟩ <;> first | (rw [z.1]; omega) | (rw [z.2]; omega))
theorem R0 {σ : Val} (hs : SatOK σ) (h : I 0 σ) : RngOK σ [1040, 1041, 1042, 1043, 1045, 1046, 0, 1, 2] := by
  refine rng_sat hs (L := [0, 1, 2]) (by decide) (fun i hi => ?_)
  simp only [I, Wf] at h
  simp only [List.mem_cons, List.not_mem_nil, or_false] at hi
  rcases hi with rfl | rfl | rfl <;> omega
theorem R1 {σ : Val} (hs : SatOK σ) (_h : I 1 σ) : RngOK σ [1040, 1041, 1042, 1043, 1045, 1046] := by
  refine rng_sat hs (L := []) (by decide) (fun i hi => ?_)
  cases hi
theorem goes {w0 : World} {X : Value} : ∀ (d k : Nat) (σ : Val), I k σ → Xf σ = X → SatOK σ → LiesOK ⟨w0.heap.size, w0, σ⟩ dsc → (mu k σ).toNat = d → ∀ nd, nds[k]? = some nd → Goal Tryz.prog Tryz.f49 w0 X nd.c nd.fr nd.sh σ := by
  intro d
  induction d using Nat.strongRecOn with
  | _ d ih =>
    intro k σ hI hX hs hl hd nd hnd
    have next : ∀ (k' : Nat) (τ : List (Nat × SE)), (I k' (σ.sub τ) ∧ Xf (σ.sub τ) = Xf σ ∧ 0 ≤ mu k' (σ.sub τ) ∧ mu k' (σ.sub τ) < mu k σ) → ∀ nd, nds[k']? = some nd → Goal Tryz.prog Tryz.f49 w0 X nd.c nd.fr nd.sh (σ.sub τ) :=
      fun k' τ h nd hnd => ih _ (by omega) k' (σ.sub τ) h.1 (h.2.1.trans hX) (hs.sub' τ) (hl.sub τ) rfl nd hnd
    match k, hI, hnd, hd, next with
    | 0, hI, hnd, _, next =>
      cases hnd
      have hR := (R0 hs hI)
      exact pt_node noNum mixed (fun B hB => ext_ok hB hl) (noCons_ok.put (f_refWide hR hs)) (nodes := nds) r0 (Asm.none_ok σ) (by kernel_rfl) (by kernel_rfl) (fun v h => by cases h) next (fun v hv ρ x hρ hx => by subst hρ; exact (den_eq hv hx).trans hX) (g0 σ hs hI)
    | 1, hI, hnd, _, next =>
      cases hnd
      have hR := (R1 hs hI)
      exact pt_node noNum mixed (fun B hB => ext_ok hB hl) (noCons_ok.put (f_refWide hR hs)) (nodes := nds) r1 (Asm.none_ok σ) (by kernel_rfl) (by kernel_rfl) (fun v h => by cases h) next (fun v hv ρ x hρ hx => by subst hρ; exact (den_eq hv hx).trans hX) (g1 σ hI)
theorem con {a b c : Int} (h : (0 ≤ a ∧ a < 18446744073709551616) ∧ (0 ≤ b ∧ b < 18446744073709551616) ∧ (0 ≤ c ∧ c < 18446744073709551616)) (w : World) : Calls Tryz.prog 49 #[.int .u64 a, .int .u64 b, .int .u64 c] w (Post w (.int .u64 (satMulDiv a b c))) :=
  calls_of_goal (c := bd) Tryz.func49 (by kernel_rfl) (args := args) (Nat.le_of_ble_eq_true (by kernel_rfl)) (σ := ⟨fun i => match i with | 0 => a | 1 => b | 2 => c | _ => 0, satApp, fun _ => (none, 0)⟩)
    (.cons (VR_sx rfl) (.cons (VR_sx rfl) (.cons (VR_sx rfl) .nil))) (goes _ 0 ⟨fun i => match i with | 0 => a | 1 => b | 2 => c | _ => 0, satApp, fun _ => (none, 0)⟩ h rfl ⟨fun _ _ _ => rfl, fun _ _ _ => rfl, fun _ _ _ => rfl, fun _ _ _ => rfl, fun _ _ _ => rfl, fun _ _ _ => rfl⟩ lies_none rfl n0 rfl)
end RefMulDiv
section
open Go.Mir Go.RowKit
theorem f_refMulDiv {σ : Val} {R : List Nat} (hR : RngOK σ R) (hs : SatOK σ) : FnOK Tryz.prog σ 49 (k_refMulDiv R) :=
  fn3 (p := fun a b c => (0 ≤ a ∧ a < 18446744073709551616) ∧ (0 ≤ b ∧ b < 18446744073709551616) ∧ (0 ≤ c ∧ c < 18446744073709551616)) (X := fun a b c => .int .u64 (satMulDiv a b c)) (fun _ _ _ h w => RefMulDiv.con h w) (fun x y z hx => by
    simp only [Bool.and_eq_true] at hx
    exact ⟨rngE_sound hR hx.1, rngE_sound hR hx.2.1, rngE_sound hR hx.2.2⟩) (fun x y z _ => by
    simp only [den, den1, SE.eval, appV]
    rw [hs.muldiv])
end
namespace RefMulDiv
end RefMulDiv
end Go.Proofs.YtohonlojnflejaaGreatDoor
