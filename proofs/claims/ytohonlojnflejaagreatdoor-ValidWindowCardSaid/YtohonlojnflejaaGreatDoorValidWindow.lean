/- ValidWindow: of every view and width the call says true, and leaves all that was as it was. -/
import Derived.Test.YtohonlojnflejaaGreatDoorBegun18
import Derived.Test.YtohonlojnflejaaGreatDoorCon1
import Derived.Test.YtohonlojnflejaaGreatDoorMirArr
import Derived.Test.YtohonlojnflejaaGreatDoorMirRng
namespace Go.Proofs.YtohonlojnflejaaGreatDoor
namespace ValidWindow
open Go.Mir Go.RowKit
set_option maxRecDepth 100000
def bv (i : Nat) : MV := .sb (.cmp .neq (.var i) (.lit 0))
def iv (i : Nat) : MV := .sx .i64 (.var i)
def uv (i : Nat) : MV := .sx .u64 (.var i)
def dsc : Nat → Option (List CK) := fun _ => none
def S1 : Shape := ⟨7, [(2, .ptr .one 0)], (.z .one), [(.one, .cells [.int .i64 5, uv 1, uv 2, uv 1, uv 4, uv 5, iv 7, iv 7])]⟩
def args : List MV := [.agg [iv 0, uv 1, uv 2, uv 3, uv 4, uv 5, iv 6, iv 7], iv 8]
def fs (R : List Nat) : Cons := (((((((noCons.put 22 gTrue).put 26 (k_refSeq R)).put 27 (k_refStep R)).put 84 (k_seqLess R)).put 101 (k_refLess R)).put 99 (k_refIn R)).put 102 (k_seqLong R))
noncomputable def bd : Code := bodyOf Tryz.f6
noncomputable def Sst : Shape := ⟨0, params (keepOf Tryz.f6) 0 args, .one, []⟩
noncomputable def n0 : Nd := ⟨bd, [], Sst⟩
noncomputable def n1 : Nd := ⟨(codeAt [1, 1, 1, 1, 1, 1] bd []).1, (codeAt [1, 1, 1, 1, 1, 1] bd []).2, S1⟩
noncomputable def nds : List Nd := [n0, n1]
noncomputable def run (R : List Nat) (c : Code) (fr : List Fr) (sh : Shape) (B : Asm) : Option (List Su) :=
  sumAt Tryz.prog Tryz.f6 (nds.map (·.sh)) isTrueV (ext dsc B).asm (flagL [] [7]) (runOf Tryz.prog (ext dsc B) (fs R) [117, 80] 100000) 100000 c fr sh
def t0 : PT := (.leaf [.at 1 [(7, (.bin .add .i64 (.lit 32) (.bin .rem .i64 (.bin .add .i64 (.bin .rem .i64 (.var 8) (.lit 969)) (.lit 969)) (.lit 969)))), (5, (.bin .and .u64 (.bin .add .u64 (.bin .and .u64 (.var 2) (.lit 281474976710655)) (.wrap .u64 (.lit (-5000)))) (.lit 281474976710655))), (4, (.bin .and .u64 (.bin .add .u64 (.bin .and .u64 (.var 1) (.lit 281474976710655)) (.wrap .u64 (.lit (-5000)))) (.lit 281474976710655))), (2, (.bin .and .u64 (.var 2) (.lit 281474976710655))), (1, (.bin .and .u64 (.var 1) (.lit 281474976710655)))]])
theorem r0 : t0.runs (run [1, 2, 3, 4, 5] n0.c n0.fr n0.sh) (Asm.none) = t0.leaves nds := by kernel_rfl
def t1 : PT := (.split (.cmp .geq (.bin .and .u64 (.bin .sub .u64 (.bin .and .u64 (.bin .add .u64 (.var 2) (.wrap .u64 (.bin .sub .i64 (.lit 1) (.bin .quo .i64 (.mm false (.mm true (.var 7) (.lit 32)) (.lit 1000)) (.lit 4))))) (.lit 281474976710655)) (.var 5)) (.lit 281474976710655)) (.lit 140737488355328)) .contra (.split (.cmp .geq (.bin .and .u64 (.bin .sub .u64 (.bin .and .u64 (.bin .add .u64 (.var 1) (.wrap .u64 (.bin .sub .i64 (.lit 1) (.mm false (.mm true (.var 7) (.lit 32)) (.lit 1000))))) (.lit 281474976710655)) (.var 4)) (.lit 281474976710655)) (.lit 140737488355328)) .contra (.split (.not (.cmp .leq (.bin .and .u64 (.bin .sub .u64 (.bin .and .u64 (.bin .add .u64 (.var 2) (.wrap .u64 (.bin .sub .i64 (.bin .sub .i64 (.lit 1) (.bin .quo .i64 (.var 7) (.lit 4))) (.lit 1)))) (.lit 281474976710655)) (.bin .and .u64 (.bin .and .u64 (.bin .add .u64 (.var 2) (.wrap .u64 (.bin .sub .i64 (.lit 1) (.bin .quo .i64 (.mm false (.mm true (.var 7) (.lit 32)) (.lit 1000)) (.lit 4))))) (.lit 281474976710655)) (.lit 281474976710655))) (.lit 281474976710655)) (.bin .and .u64 (.bin .sub .u64 (.bin .and .u64 (.bin .add .u64 (.var 2) (.wrap .u64 (.bin .quo .i64 (.bin .mul .i64 (.lit 3) (.mm false (.mm true (.var 7) (.lit 32)) (.lit 1000))) (.lit 4)))) (.lit 281474976710655)) (.bin .and .u64 (.bin .and .u64 (.bin .add .u64 (.var 2) (.wrap .u64 (.bin .sub .i64 (.lit 1) (.bin .quo .i64 (.mm false (.mm true (.var 7) (.lit 32)) (.lit 1000)) (.lit 4))))) (.lit 281474976710655)) (.lit 281474976710655))) (.lit 281474976710655)))) (.split (.cmp .eql (.bin .sub .i64 (.bin .sub .i64 (.lit 1) (.bin .quo .i64 (.var 7) (.lit 4))) (.lit 1)) (.bin .sub .i64 (.lit 1) (.bin .quo .i64 (.var 7) (.lit 4)))) .contra (.split (.not (.beq (.lit false) (.cmp .eql (.bin .sub .i64 (.bin .sub .i64 (.lit 1) (.bin .quo .i64 (.var 7) (.lit 4))) (.lit 1)) (.bin .quo .i64 (.bin .mul .i64 (.lit 3) (.var 7)) (.lit 4))))) .contra (.split (.not (.cmp .leq (.bin .and .u64 (.bin .sub .u64 (.bin .and .u64 (.bin .add .u64 (.var 2) (.wrap .u64 (.bin .sub .i64 (.lit 1) (.bin .quo .i64 (.var 7) (.lit 4))))) (.lit 281474976710655)) (.bin .and .u64 (.bin .and .u64 (.bin .add .u64 (.var 2) (.wrap .u64 (.bin .sub .i64 (.lit 1) (.bin .quo .i64 (.mm false (.mm true (.var 7) (.lit 32)) (.lit 1000)) (.lit 4))))) (.lit 281474976710655)) (.lit 281474976710655))) (.lit 281474976710655)) (.bin .and .u64 (.bin .sub .u64 (.bin .and .u64 (.bin .add .u64 (.var 2) (.wrap .u64 (.bin .quo .i64 (.bin .mul .i64 (.lit 3) (.mm false (.mm true (.var 7) (.lit 32)) (.lit 1000))) (.lit 4)))) (.lit 281474976710655)) (.bin .and .u64 (.bin .and .u64 (.bin .add .u64 (.var 2) (.wrap .u64 (.bin .sub .i64 (.lit 1) (.bin .quo .i64 (.mm false (.mm true (.var 7) (.lit 32)) (.lit 1000)) (.lit 4))))) (.lit 281474976710655)) (.lit 281474976710655))) (.lit 281474976710655)))) .contra (.split (.cmp .leq (.bin .and .u64 (.bin .sub .u64 (.bin .and .u64 (.bin .add .u64 (.var 2) (.wrap .u64 (.bin .sub .i64 (.lit 1) (.bin .quo .i64 (.var 7) (.lit 4))))) (.lit 281474976710655)) (.bin .and .u64 (.bin .and .u64 (.bin .add .u64 (.var 2) (.wrap .u64 (.bin .sub .i64 (.lit 1) (.bin .quo .i64 (.mm false (.mm true (.var 7) (.lit 32)) (.lit 1000)) (.lit 4))))) (.lit 281474976710655)) (.lit 281474976710655))) (.lit 281474976710655)) (.bin .and .u64 (.bin .sub .u64 (.bin .and .u64 (.bin .add .u64 (.var 2) (.wrap .u64 (.bin .quo .i64 (.bin .mul .i64 (.lit 3) (.mm false (.mm true (.var 7) (.lit 32)) (.lit 1000))) (.lit 4)))) (.lit 281474976710655)) (.bin .and .u64 (.bin .and .u64 (.bin .add .u64 (.var 2) (.wrap .u64 (.bin .sub .i64 (.lit 1) (.bin .quo .i64 (.mm false (.mm true (.var 7) (.lit 32)) (.lit 1000)) (.lit 4))))) (.lit 281474976710655)) (.lit 281474976710655))) (.lit 281474976710655))) (.split (.cmp .eql (.bin .sub .i64 (.lit 1) (.bin .quo .i64 (.var 7) (.lit 4))) (.bin .sub .i64 (.lit 1) (.bin .quo .i64 (.var 7) (.lit 4)))) (.split (.not (.cmp .leq (.bin .and .u64 (.bin .sub .u64 (.bin .and .u64 (.bin .add .u64 (.var 2) (.wrap .u64 (.bin .quo .i64 (.bin .mul .i64 (.lit 3) (.var 7)) (.lit 4)))) (.lit 281474976710655)) (.bin .and .u64 (.bin .and .u64 (.bin .add .u64 (.var 2) (.wrap .u64 (.bin .sub .i64 (.lit 1) (.bin .quo .i64 (.mm false (.mm true (.var 7) (.lit 32)) (.lit 1000)) (.lit 4))))) (.lit 281474976710655)) (.lit 281474976710655))) (.lit 281474976710655)) (.bin .and .u64 (.bin .sub .u64 (.bin .and .u64 (.bin .add .u64 (.var 2) (.wrap .u64 (.bin .quo .i64 (.bin .mul .i64 (.lit 3) (.mm false (.mm true (.var 7) (.lit 32)) (.lit 1000))) (.lit 4)))) (.lit 281474976710655)) (.bin .and .u64 (.bin .and .u64 (.bin .add .u64 (.var 2) (.wrap .u64 (.bin .sub .i64 (.lit 1) (.bin .quo .i64 (.mm false (.mm true (.var 7) (.lit 32)) (.lit 1000)) (.lit 4))))) (.lit 281474976710655)) (.lit 281474976710655))) (.lit 281474976710655)))) .contra (.split (.cmp .leq (.bin .and .u64 (.bin .sub .u64 (.bin .and .u64 (.bin .add .u64 (.var 2) (.wrap .u64 (.bin .quo .i64 (.bin .mul .i64 (.lit 3) (.var 7)) (.lit 4)))) (.lit 281474976710655)) (.bin .and .u64 (.bin .and .u64 (.bin .add .u64 (.var 2) (.wrap .u64 (.bin .sub .i64 (.lit 1) (.bin .quo .i64 (.mm false (.mm true (.var 7) (.lit 32)) (.lit 1000)) (.lit 4))))) (.lit 281474976710655)) (.lit 281474976710655))) (.lit 281474976710655)) (.bin .and .u64 (.bin .sub .u64 (.bin .and .u64 (.bin .add .u64 (.var 2) (.wrap .u64 (.bin .quo .i64 (.bin .mul .i64 (.lit 3) (.mm false (.mm true (.var 7) (.lit 32)) (.lit 1000))) (.lit 4)))) (.lit 281474976710655)) (.bin .and .u64 (.bin .and .u64 (.bin .add .u64 (.var 2) (.wrap .u64 (.bin .sub .i64 (.lit 1) (.bin .quo .i64 (.mm false (.mm true (.var 7) (.lit 32)) (.lit 1000)) (.lit 4))))) (.lit 281474976710655)) (.lit 281474976710655))) (.lit 281474976710655))) (.split (.cmp .eql (.bin .quo .i64 (.bin .mul .i64 (.lit 3) (.var 7)) (.lit 4)) (.bin .sub .i64 (.lit 1) (.bin .quo .i64 (.var 7) (.lit 4)))) .contra (.split (.not (.beq (.lit true) (.cmp .eql (.bin .quo .i64 (.bin .mul .i64 (.lit 3) (.var 7)) (.lit 4)) (.bin .quo .i64 (.bin .mul .i64 (.lit 3) (.var 7)) (.lit 4))))) .contra (.split (.not (.cmp .leq (.bin .and .u64 (.bin .sub .u64 (.bin .and .u64 (.bin .add .u64 (.var 2) (.wrap .u64 (.bin .add .i64 (.bin .quo .i64 (.bin .mul .i64 (.lit 3) (.var 7)) (.lit 4)) (.lit 1)))) (.lit 281474976710655)) (.bin .and .u64 (.bin .and .u64 (.bin .add .u64 (.var 2) (.wrap .u64 (.bin .sub .i64 (.lit 1) (.bin .quo .i64 (.mm false (.mm true (.var 7) (.lit 32)) (.lit 1000)) (.lit 4))))) (.lit 281474976710655)) (.lit 281474976710655))) (.lit 281474976710655)) (.bin .and .u64 (.bin .sub .u64 (.bin .and .u64 (.bin .add .u64 (.var 2) (.wrap .u64 (.bin .quo .i64 (.bin .mul .i64 (.lit 3) (.mm false (.mm true (.var 7) (.lit 32)) (.lit 1000))) (.lit 4)))) (.lit 281474976710655)) (.bin .and .u64 (.bin .and .u64 (.bin .add .u64 (.var 2) (.wrap .u64 (.bin .sub .i64 (.lit 1) (.bin .quo .i64 (.mm false (.mm true (.var 7) (.lit 32)) (.lit 1000)) (.lit 4))))) (.lit 281474976710655)) (.lit 281474976710655))) (.lit 281474976710655)))) (.split (.cmp .eql (.bin .add .i64 (.bin .quo .i64 (.bin .mul .i64 (.lit 3) (.var 7)) (.lit 4)) (.lit 1)) (.bin .sub .i64 (.lit 1) (.bin .quo .i64 (.var 7) (.lit 4)))) .contra (.split (.not (.beq (.lit false) (.cmp .eql (.bin .add .i64 (.bin .quo .i64 (.bin .mul .i64 (.lit 3) (.var 7)) (.lit 4)) (.lit 1)) (.bin .quo .i64 (.bin .mul .i64 (.lit 3) (.var 7)) (.lit 4))))) .contra (.split (.cmp .leq (.bin .and .u64 (.bin .sub .u64 (.var 2) (.bin .and .u64 (.bin .and .u64 (.bin .add .u64 (.var 2) (.wrap .u64 (.bin .sub .i64 (.lit 1) (.bin .quo .i64 (.mm false (.mm true (.var 7) (.lit 32)) (.lit 1000)) (.lit 4))))) (.lit 281474976710655)) (.lit 281474976710655))) (.lit 281474976710655)) (.bin .and .u64 (.bin .sub .u64 (.bin .and .u64 (.bin .add .u64 (.var 2) (.wrap .u64 (.bin .quo .i64 (.bin .mul .i64 (.lit 3) (.mm false (.mm true (.var 7) (.lit 32)) (.lit 1000))) (.lit 4)))) (.lit 281474976710655)) (.bin .and .u64 (.bin .and .u64 (.bin .add .u64 (.var 2) (.wrap .u64 (.bin .sub .i64 (.lit 1) (.bin .quo .i64 (.mm false (.mm true (.var 7) (.lit 32)) (.lit 1000)) (.lit 4))))) (.lit 281474976710655)) (.lit 281474976710655))) (.lit 281474976710655))) (.split (.not (.cmp .leq (.bin .and .u64 (.bin .sub .u64 (.bin .and .u64 (.bin .add .u64 (.var 1) (.wrap .u64 (.bin .sub .i64 (.lit 0) (.var 7)))) (.lit 281474976710655)) (.bin .and .u64 (.bin .and .u64 (.bin .add .u64 (.var 1) (.wrap .u64 (.bin .sub .i64 (.lit 1) (.mm false (.mm true (.var 7) (.lit 32)) (.lit 1000))))) (.lit 281474976710655)) (.lit 281474976710655))) (.lit 281474976710655)) (.bin .and .u64 (.bin .sub .u64 (.bin .and .u64 (.var 1) (.lit 281474976710655)) (.bin .and .u64 (.bin .and .u64 (.bin .add .u64 (.var 1) (.wrap .u64 (.bin .sub .i64 (.lit 1) (.mm false (.mm true (.var 7) (.lit 32)) (.lit 1000))))) (.lit 281474976710655)) (.lit 281474976710655))) (.lit 281474976710655)))) (.split (.cmp .eql (.bin .sub .i64 (.lit 0) (.var 7)) (.lit 0)) .contra (.split (.not (.beq (.lit false) (.cmp .eql (.bin .sub .i64 (.lit 0) (.var 7)) (.bin .sub .i64 (.lit 1) (.var 7))))) .contra (.split (.not (.cmp .leq (.bin .and .u64 (.bin .sub .u64 (.bin .and .u64 (.bin .add .u64 (.var 1) (.wrap .u64 (.bin .sub .i64 (.lit 1) (.var 7)))) (.lit 281474976710655)) (.bin .and .u64 (.bin .and .u64 (.bin .add .u64 (.var 1) (.wrap .u64 (.bin .sub .i64 (.lit 1) (.mm false (.mm true (.var 7) (.lit 32)) (.lit 1000))))) (.lit 281474976710655)) (.lit 281474976710655))) (.lit 281474976710655)) (.bin .and .u64 (.bin .sub .u64 (.bin .and .u64 (.var 1) (.lit 281474976710655)) (.bin .and .u64 (.bin .and .u64 (.bin .add .u64 (.var 1) (.wrap .u64 (.bin .sub .i64 (.lit 1) (.mm false (.mm true (.var 7) (.lit 32)) (.lit 1000))))) (.lit 281474976710655)) (.lit 281474976710655))) (.lit 281474976710655)))) .contra (.split (.cmp .leq (.bin .and .u64 (.bin .sub .u64 (.bin .and .u64 (.bin .add .u64 (.var 1) (.wrap .u64 (.bin .sub .i64 (.lit 1) (.var 7)))) (.lit 281474976710655)) (.bin .and .u64 (.bin .and .u64 (.bin .add .u64 (.var 1) (.wrap .u64 (.bin .sub .i64 (.lit 1) (.mm false (.mm true (.var 7) (.lit 32)) (.lit 1000))))) (.lit 281474976710655)) (.lit 281474976710655))) (.lit 281474976710655)) (.bin .and .u64 (.bin .sub .u64 (.bin .and .u64 (.var 1) (.lit 281474976710655)) (.bin .and .u64 (.bin .and .u64 (.bin .add .u64 (.var 1) (.wrap .u64 (.bin .sub .i64 (.lit 1) (.mm false (.mm true (.var 7) (.lit 32)) (.lit 1000))))) (.lit 281474976710655)) (.lit 281474976710655))) (.lit 281474976710655))) (.split (.cmp .eql (.bin .sub .i64 (.lit 1) (.var 7)) (.lit 0)) .contra (.split (.not (.beq (.lit true) (.cmp .eql (.bin .sub .i64 (.lit 1) (.var 7)) (.bin .sub .i64 (.lit 1) (.var 7))))) .contra (.split (.not (.cmp .leq (.bin .and .u64 (.bin .sub .u64 (.bin .and .u64 (.bin .add .u64 (.var 1) (.wrap .u64 (.lit 0))) (.lit 281474976710655)) (.bin .and .u64 (.bin .and .u64 (.bin .add .u64 (.var 1) (.wrap .u64 (.bin .sub .i64 (.lit 1) (.mm false (.mm true (.var 7) (.lit 32)) (.lit 1000))))) (.lit 281474976710655)) (.lit 281474976710655))) (.lit 281474976710655)) (.bin .and .u64 (.bin .sub .u64 (.bin .and .u64 (.var 1) (.lit 281474976710655)) (.bin .and .u64 (.bin .and .u64 (.bin .add .u64 (.var 1) (.wrap .u64 (.bin .sub .i64 (.lit 1) (.mm false (.mm true (.var 7) (.lit 32)) (.lit 1000))))) (.lit 281474976710655)) (.lit 281474976710655))) (.lit 281474976710655)))) .contra (.split (.cmp .leq (.bin .and .u64 (.bin .sub .u64 (.bin .and .u64 (.bin .add .u64 (.var 1) (.wrap .u64 (.lit 0))) (.lit 281474976710655)) (.bin .and .u64 (.bin .and .u64 (.bin .add .u64 (.var 1) (.wrap .u64 (.bin .sub .i64 (.lit 1) (.mm false (.mm true (.var 7) (.lit 32)) (.lit 1000))))) (.lit 281474976710655)) (.lit 281474976710655))) (.lit 281474976710655)) (.bin .and .u64 (.bin .sub .u64 (.bin .and .u64 (.var 1) (.lit 281474976710655)) (.bin .and .u64 (.bin .and .u64 (.bin .add .u64 (.var 1) (.wrap .u64 (.bin .sub .i64 (.lit 1) (.mm false (.mm true (.var 7) (.lit 32)) (.lit 1000))))) (.lit 281474976710655)) (.lit 281474976710655))) (.lit 281474976710655))) (.split (.not (.cmp .leq (.bin .and .u64 (.bin .sub .u64 (.bin .and .u64 (.bin .add .u64 (.var 1) (.wrap .u64 (.lit 1))) (.lit 281474976710655)) (.bin .and .u64 (.bin .and .u64 (.bin .add .u64 (.var 1) (.wrap .u64 (.bin .sub .i64 (.lit 1) (.mm false (.mm true (.var 7) (.lit 32)) (.lit 1000))))) (.lit 281474976710655)) (.lit 281474976710655))) (.lit 281474976710655)) (.bin .and .u64 (.bin .sub .u64 (.bin .and .u64 (.var 1) (.lit 281474976710655)) (.bin .and .u64 (.bin .and .u64 (.bin .add .u64 (.var 1) (.wrap .u64 (.bin .sub .i64 (.lit 1) (.mm false (.mm true (.var 7) (.lit 32)) (.lit 1000))))) (.lit 281474976710655)) (.lit 281474976710655))) (.lit 281474976710655)))) (.split (.not (.beq (.lit false) (.cmp .eql (.lit 1) (.bin .sub .i64 (.lit 1) (.var 7))))) .contra (.split (.cmp .geq (.bin .and .u64 (.bin .sub .u64 (.bin .and .u64 (.bin .add .u64 (.var 2) (.wrap .u64 (.bin .sub .i64 (.lit 1) (.bin .quo .i64 (.mm true (.lit 32) (.mm false (.var 7) (.lit 1000))) (.lit 4))))) (.lit 281474976710655)) (.var 5)) (.lit 281474976710655)) (.lit 140737488355328)) .contra (.split (.cmp .geq (.bin .and .u64 (.bin .sub .u64 (.bin .and .u64 (.bin .add .u64 (.var 1) (.wrap .u64 (.bin .sub .i64 (.lit 1) (.mm true (.lit 32) (.mm false (.var 7) (.lit 1000)))))) (.lit 281474976710655)) (.var 4)) (.lit 281474976710655)) (.lit 140737488355328)) .contra (.split (.cmp .leq (.bin .and .u64 (.bin .sub .u64 (.var 2) (.bin .and .u64 (.bin .add .u64 (.var 2) (.wrap .u64 (.lit 1))) (.lit 281474976710655))) (.lit 281474976710655)) (.bin .and .u64 (.bin .sub .u64 (.bin .and .u64 (.bin .add .u64 (.var 2) (.wrap .u64 (.bin .quo .i64 (.bin .mul .i64 (.lit 3) (.mm true (.lit 32) (.mm false (.var 7) (.lit 1000)))) (.lit 4)))) (.lit 281474976710655)) (.bin .and .u64 (.bin .add .u64 (.var 2) (.wrap .u64 (.lit 1))) (.lit 281474976710655))) (.lit 281474976710655))) .contra (.split (.cmp .leq (.bin .and .u64 (.bin .sub .u64 (.var 2) (.bin .and .u64 (.bin .and .u64 (.bin .add .u64 (.var 2) (.wrap .u64 (.bin .sub .i64 (.lit 1) (.bin .quo .i64 (.mm true (.lit 32) (.mm false (.var 7) (.lit 1000))) (.lit 4))))) (.lit 281474976710655)) (.lit 281474976710655))) (.lit 281474976710655)) (.bin .and .u64 (.bin .sub .u64 (.bin .and .u64 (.bin .add .u64 (.var 2) (.wrap .u64 (.bin .quo .i64 (.bin .mul .i64 (.lit 3) (.mm true (.lit 32) (.mm false (.var 7) (.lit 1000)))) (.lit 4)))) (.lit 281474976710655)) (.bin .and .u64 (.bin .and .u64 (.bin .add .u64 (.var 2) (.wrap .u64 (.bin .sub .i64 (.lit 1) (.bin .quo .i64 (.mm true (.lit 32) (.mm false (.var 7) (.lit 1000))) (.lit 4))))) (.lit 281474976710655)) (.lit 281474976710655))) (.lit 281474976710655))) (.leaf []) .contra))))) .contra) .contra)))) .contra)))) .contra) .contra))) .contra))) .contra)) .contra) .contra)))) .contra)))
theorem r1 : t1.runs (run [1, 2, 4, 5] n1.c n1.fr n1.sh) (Asm.none) = t1.leaves nds := by kernel_rfl
def stdApp : Nat → Int → Int → Int → Int := fun _ _ _ _ => 0
def Wf (σ : Val) : Prop := (Lit.int .i64 (σ.v 0)).wf = true ∧ (Lit.int .u64 (σ.v 1)).wf = true ∧ (Lit.int .u64 (σ.v 2)).wf = true ∧ (Lit.int .u64 (σ.v 3)).wf = true ∧ (Lit.int .u64 (σ.v 4)).wf = true ∧ (Lit.int .u64 (σ.v 5)).wf = true ∧ (Lit.int .i64 (σ.v 6)).wf = true ∧ (Lit.int .i64 (σ.v 7)).wf = true ∧ (Lit.int .i64 (σ.v 8)).wf = true
/-- What holds at each place; how far it is to the end. -/
def I : Nat → Val → Prop
  | 0, σ => Wf σ
  | 1, σ => (0 ≤ σ.v 1 ∧ σ.v 1 < 281474976710656) ∧ (0 ≤ σ.v 2 ∧ σ.v 2 < 281474976710656) ∧ σ.v 4 = (σ.v 1 - 5000) % 281474976710656 ∧ σ.v 5 = (σ.v 2 - 5000) % 281474976710656 ∧ 32 ≤ σ.v 7 ∧ σ.v 7 ≤ 1000
  | _, _ => False
def mu : Nat → Val → Int
  | 0, _ => 1
  | 1, _ => 0
  | _, _ => 0
theorem g0 (σ : Val) (h : I 0 σ) : t0.Goal σ (fun k' σ' => I k' σ' ∧ 0 ≤ mu k' σ' ∧ mu k' σ' < mu 0 σ) (fun _ => False) := by
  simp only [I, Wf, lit_u64, lit_i64] at h
  obtain ⟨_, _⟩ := h
  simp only [t0, PT.Goal, LfGoal, I, mu, Val.sub, assocE, SE.eval, add_i64, rem_i64, add_u64, mask48, wrap_u64]
  repeat' first | apply And.intro | intro _
  all_goals first | trivial | omega
set_option maxHeartbeats 4000000 in
theorem g1 (σ : Val) (h : I 1 σ) : t1.Goal σ (fun k' σ' => I k' σ' ∧ 0 ≤ mu k' σ' ∧ mu k' σ' < mu 1 σ) (fun _ => False) := by
  obtain ⟨a1, a2, a3, a4, a5, a6⟩ : _ ∧ _ ∧ _ ∧ _ ∧ _ ∧ _ := h
  refine ⟨fun h0 => ?_, fun h0 => ?_⟩
  · simp (disch := omega) only [SE.eval, SB.eval, sub_i64r, quo_i64r, and48_sub, and48_add, emod_wrap, emod_sub1, emod_sub2, emod_small, max_l, min_l, a4] at h0; all_goals (try simp only [cmp_geq] at h0); all_goals omega
  · clear h0
    refine ⟨fun h1 => ?_, fun h1 => ?_⟩
    · simp (disch := omega) only [SE.eval, SB.eval, sub_i64r, and48_sub, and48_add, emod_wrap, emod_sub1, emod_sub2, emod_small, max_l, min_l, a3] at h1; all_goals (try simp only [cmp_geq] at h1); all_goals omega
    · clear h1
      refine ⟨fun h2 => ?_, fun h2 => ?_⟩
      · clear h2
        refine ⟨fun h3 => ?_, fun h3 => ?_⟩
        · simp (disch := omega) only [SE.eval, SB.eval, sub_i64r, quo_i64r] at h3; all_goals (try simp only [cmp_eql] at h3); all_goals omega
        · clear h3
          refine ⟨fun h4 => ?_, fun h4 => ?_⟩
          · simp (disch := omega) only [SE.eval, SB.eval, sub_i64r, mul_i64r, quo_i64r] at h4; all_goals (try simp only [cmp_eql, beq_f0, Bool.not_eq_true'] at h4); all_goals omega
          · clear h4
            refine ⟨fun h5 => ?_, fun h5 => ?_⟩
            · simp (disch := omega) only [SE.eval, SB.eval, sub_i64r, mul_i64r, quo_i64r, add_u64r, sub_u64r, and48_sub, and48_add, emod_wrap, and48_plus, and48_id, emod_sub1, emod_sub2, emod_small, max_l, min_l, wrap_u64r] at h5; all_goals (try simp only [cmp_leq0, Bool.not_eq_true'] at h5); all_goals omega
            · clear h5
              refine ⟨fun h6 => ?_, fun h6 => ?_⟩
              · clear h6
                refine ⟨fun h7 => ?_, fun h7 => ?_⟩
                · clear h7
                  refine ⟨fun h8 => ?_, fun h8 => ?_⟩
                  · simp (disch := omega) only [SE.eval, SB.eval, sub_i64r, mul_i64r, quo_i64r, add_u64r, and48_sub, and48_add, emod_wrap, and48_plus, and48_id, emod_sub1, emod_sub2, emod_small, max_l, min_l, wrap_u64r] at h8; all_goals (try simp only [cmp_leq0, Bool.not_eq_true'] at h8); all_goals omega
                  · clear h8
                    refine ⟨fun h9 => ?_, fun h9 => ?_⟩
                    · clear h9
                      refine ⟨fun h10 => ?_, fun h10 => ?_⟩
                      · simp (disch := omega) only [SE.eval, SB.eval, sub_i64r, mul_i64r, quo_i64r] at h10; all_goals (try simp only [cmp_eql] at h10); all_goals omega
                      · clear h10
                        refine ⟨fun h11 => ?_, fun h11 => ?_⟩
                        · simp (disch := omega) only [SE.eval, SB.eval, mul_i64r, quo_i64r] at h11; all_goals (try simp only [cmp_eql0, beq_t0, Bool.not_eq_true'] at h11); all_goals omega
                        · clear h11
                          refine ⟨fun h12 => ?_, fun h12 => ?_⟩
                          · clear h12
                            refine ⟨fun h13 => ?_, fun h13 => ?_⟩
                            · simp (disch := omega) only [SE.eval, SB.eval, add_i64r, sub_i64r, mul_i64r, quo_i64r] at h13; all_goals (try simp only [cmp_eql] at h13); all_goals omega
                            · clear h13
                              refine ⟨fun h14 => ?_, fun h14 => ?_⟩
                              · simp (disch := omega) only [SE.eval, SB.eval, add_i64r, mul_i64r, quo_i64r] at h14; all_goals (try simp only [cmp_eql, beq_f0, Bool.not_eq_true'] at h14); all_goals omega
                              · clear h14
                                refine ⟨fun h15 => ?_, fun h15 => ?_⟩
                                · clear h15
                                  refine ⟨fun h16 => ?_, fun h16 => ?_⟩
                                  · clear h16
                                    refine ⟨fun h17 => ?_, fun h17 => ?_⟩
                                    · simp (disch := omega) only [SE.eval, SB.eval, sub_i64r] at h17; all_goals (try simp only [cmp_eql] at h17); all_goals omega
                                    · clear h17
                                      refine ⟨fun h18 => ?_, fun h18 => ?_⟩
                                      · simp (disch := omega) only [SE.eval, SB.eval, sub_i64r] at h18; all_goals (try simp only [cmp_eql, beq_f0, Bool.not_eq_true'] at h18); all_goals omega
                                      · clear h18
                                        refine ⟨fun h19 => ?_, fun h19 => ?_⟩
                                        · simp (disch := omega) only [SE.eval, SB.eval, sub_i64r, sub_u64r, and48_sub, and48_add, emod_wrap, and48_id, emod_sub2, emod_small, max_l, min_l] at h19; all_goals (try simp only [cmp_leq0, Bool.not_eq_true'] at h19); all_goals omega
                                        · clear h19
                                          refine ⟨fun h20 => ?_, fun h20 => ?_⟩
                                          · clear h20
                                            refine ⟨fun h21 => ?_, fun h21 => ?_⟩
                                            · simp (disch := omega) only [SE.eval, SB.eval, sub_i64r] at h21; all_goals (try simp only [cmp_eql] at h21); all_goals omega
                                            · clear h21
                                              refine ⟨fun h22 => ?_, fun h22 => ?_⟩
                                              · simp (disch := omega) only [SE.eval, SB.eval, sub_i64r] at h22; all_goals (try simp only [cmp_eql0, beq_t0, Bool.not_eq_true'] at h22); all_goals omega
                                              · clear h22
                                                refine ⟨fun h23 => ?_, fun h23 => ?_⟩
                                                · simp (disch := omega) only [SE.eval, SB.eval, sub_i64r, add_u64r, and48_sub, and48_add, emod_wrap, and48_id, emod_sub2, emod_small, max_l, min_l, wrap_u64r] at h23; all_goals (try simp only [cmp_leq0, Bool.not_eq_true'] at h23); all_goals omega
                                                · clear h23
                                                  refine ⟨fun h24 => ?_, fun h24 => ?_⟩
                                                  · clear h24
                                                    refine ⟨fun h25 => ?_, fun h25 => ?_⟩
                                                    · clear h25
                                                      refine ⟨fun h26 => ?_, fun h26 => ?_⟩
                                                      · simp (disch := omega) only [SE.eval, SB.eval, sub_i64r] at h26; all_goals (try simp only [cmp_eql, beq_f0, Bool.not_eq_true'] at h26); all_goals omega
                                                      · clear h26
                                                        refine ⟨fun h27 => ?_, fun h27 => ?_⟩
                                                        · simp (disch := omega) only [SE.eval, SB.eval, sub_i64r, quo_i64r, and48_sub, and48_add, emod_wrap, emod_sub1, emod_sub2, emod_small, max_r, min_l, a4] at h27; all_goals (try simp only [cmp_geq] at h27); all_goals omega
                                                        · clear h27
                                                          refine ⟨fun h28 => ?_, fun h28 => ?_⟩
                                                          · simp (disch := omega) only [SE.eval, SB.eval, sub_i64r, and48_sub, and48_add, emod_wrap, emod_sub1, emod_sub2, emod_small, max_r, min_l, a3] at h28; all_goals (try simp only [cmp_geq] at h28); all_goals omega
                                                          · clear h28
                                                            refine ⟨fun h29 => ?_, fun h29 => ?_⟩
                                                            · simp (disch := omega) only [SE.eval, SB.eval, mul_i64r, quo_i64r, add_u64r, and48_sub, and48_plus, emod_sub1, emod_sub2, emod_small, emod_neg, max_r, min_l, wrap_u64r] at h29; all_goals (try simp only [cmp_leq] at h29); all_goals omega
                                                            · clear h29
                                                              refine ⟨fun h30 => ?_, fun h30 => ?_⟩
                                                              · clear h30
                                                                exact True.intro
                                                              · simp (disch := omega) only [SE.eval, SB.eval, sub_i64r, mul_i64r, quo_i64r, add_u64r, and48_sub, and48_add, emod_wrap, and48_plus, and48_id, emod_sub1, emod_sub2, emod_small, max_r, min_l, wrap_u64r] at h30; all_goals (try simp only [cmp_leq0] at h30); all_goals omega
                                                    · simp (disch := omega) only [SE.eval, SB.eval, sub_i64r, add_u64r, and48_sub, and48_add, emod_wrap, and48_plus, and48_id, emod_sub1, emod_sub2, emod_small, max_l, min_l, wrap_u64r] at h25; all_goals (try simp only [cmp_leq, Bool.not_eq_false'] at h25); all_goals omega
                                                  · simp (disch := omega) only [SE.eval, SB.eval, sub_i64r, add_u64r, and48_sub, and48_add, emod_wrap, and48_id, emod_sub2, emod_small, max_l, min_l, wrap_u64r] at h24; all_goals (try simp only [cmp_leq0] at h24); all_goals omega
                                          · simp (disch := omega) only [SE.eval, SB.eval, sub_i64r, sub_u64r, and48_sub, and48_add, emod_wrap, and48_id, emod_sub2, emod_small, max_l, min_l] at h20; all_goals (try simp only [cmp_leq0] at h20); all_goals omega
                                  · simp (disch := omega) only [SE.eval, SB.eval, sub_i64r, and48_sub, and48_add, emod_wrap, and48_id, emod_sub1, emod_sub2, emod_small, emod_neg, max_l, min_l] at h16; all_goals (try simp only [cmp_leq, Bool.not_eq_false'] at h16); all_goals omega
                                · simp (disch := omega) only [SE.eval, SB.eval, sub_i64r, mul_i64r, quo_i64r, add_u64r, and48_sub, and48_add, emod_wrap, and48_plus, and48_id, emod_sub1, emod_sub2, emod_small, max_l, min_l, wrap_u64r] at h15; all_goals (try simp only [cmp_leq0] at h15); all_goals omega
                          · simp (disch := omega) only [SE.eval, SB.eval, add_i64r, sub_i64r, mul_i64r, quo_i64r, add_u64r, and48_sub, and48_add, emod_wrap, and48_plus, and48_id, emod_sub1, emod_sub2, emod_small, max_l, min_l, wrap_u64r] at h12; all_goals (try simp only [cmp_leq, Bool.not_eq_false'] at h12); all_goals omega
                    · simp (disch := omega) only [SE.eval, SB.eval, sub_i64r, mul_i64r, quo_i64r, add_u64r, and48_sub, and48_add, emod_wrap, and48_plus, and48_id, emod_sub1, emod_sub2, emod_small, max_l, min_l, wrap_u64r] at h9; all_goals (try simp only [cmp_leq0] at h9); all_goals omega
                · simp (disch := omega) only [SE.eval, SB.eval, sub_i64r, quo_i64r] at h7; all_goals (try simp only [cmp_eql0] at h7); all_goals omega
              · simp (disch := omega) only [SE.eval, SB.eval, sub_i64r, mul_i64r, quo_i64r, add_u64r, sub_u64r, and48_sub, and48_add, emod_wrap, and48_plus, and48_id, emod_sub1, emod_sub2, emod_small, max_l, min_l, wrap_u64r] at h6; all_goals (try simp only [cmp_leq0] at h6); all_goals omega
      · simp (disch := omega) only [SE.eval, SB.eval, sub_i64r, mul_i64r, quo_i64r, add_u64r, and48_sub, and48_add, emod_wrap, and48_plus, and48_id, emod_sub1, emod_sub2, emod_small, emod_neg, max_l, min_l, wrap_u64r] at h2; all_goals (try simp only [cmp_leq, Bool.not_eq_false'] at h2); all_goals omega
theorem R0 {σ : Val} (h : I 0 σ) : RngOK σ [1, 2, 3, 4, 5] := by
  refine rng_vars (L := [1, 2, 3, 4, 5]) (by decide) (fun i hi => ?_)
  simp only [I, Wf, lit_u64, lit_i64] at h
  simp only [List.mem_cons, List.not_mem_nil, or_false] at hi
  rcases hi with rfl | rfl | rfl | rfl | rfl <;> omega
theorem R1 {σ : Val} (h : I 1 σ) : RngOK σ [1, 2, 4, 5] := by
  refine rng_vars (L := [1, 2, 4, 5]) (by decide) (fun i hi => ?_)
  simp only [I] at h
  simp only [List.mem_cons, List.not_mem_nil, or_false] at hi
  rcases hi with rfl | rfl | rfl | rfl <;> omega
theorem goes {w0 : World} : ∀ (d k : Nat) (σ : Val), I k σ → LiesOK ⟨w0.heap.size, w0, σ⟩ dsc → (mu k σ).toNat = d → ∀ nd, nds[k]? = some nd → Goal Tryz.prog Tryz.f6 w0 (.bool true) nd.c nd.fr nd.sh σ := by
  intro d
  induction d using Nat.strongRecOn with
  | _ d ih =>
    intro k σ hI hl hd nd hnd
    have next : ∀ (k' : Nat) (τ : List (Nat × SE)), (I k' (σ.sub τ) ∧ 0 ≤ mu k' (σ.sub τ) ∧ mu k' (σ.sub τ) < mu k σ) → ∀ nd, nds[k']? = some nd → Goal Tryz.prog Tryz.f6 w0 (.bool true) nd.c nd.fr nd.sh (σ.sub τ) :=
      fun k' τ h nd hnd => ih _ (by omega) k' (σ.sub τ) h.1 (hl.sub τ) rfl nd hnd
    match k, hI, hnd, hd, next with
    | 0, hI, hnd, _, next =>
      cases hnd
      have hR := (R0 hI)
      exact pt_node noNum mixed (fun B hB => ext_ok hB hl) (((((((noCons_ok.put (begun18.fn σ)).put (f_refSeq hR)).put (f_refStep hR)).put (f_seqLess hR)).put (f_refLess hR)).put (f_refIn hR)).put (f_seqLong hR)) (nodes := nds) r0 (Asm.none_ok σ) (by kernel_rfl) (by kernel_rfl) good_true next (fun _ h => h.elim) (g0 σ hI)
    | 1, hI, hnd, _, next =>
      cases hnd
      have hR := (R1 hI)
      exact pt_node noNum mixed (fun B hB => ext_ok hB hl) (((((((noCons_ok.put (begun18.fn σ)).put (f_refSeq hR)).put (f_refStep hR)).put (f_seqLess hR)).put (f_refLess hR)).put (f_refIn hR)).put (f_seqLong hR)) (nodes := nds) r1 (Asm.none_ok σ) (by kernel_rfl) (by kernel_rfl) good_true next (fun _ h => h.elim) (g1 σ hI)
theorem walk {w0 : World} {xs : Array Value} {σ : Val} (hl : LiesOK ⟨w0.heap.size, w0, σ⟩ dsc) (hw : Wf σ) (hxs : VRs ⟨fun _ => none, σ⟩ args xs.toList) : Calls Tryz.prog 6 xs w0 (Post w0 (.bool true)) :=
  calls_of_goal (c := bd) Tryz.func6 (by kernel_rfl) (args := args) (Nat.le_of_ble_eq_true (by kernel_rfl)) hxs (goes _ 0 σ hw hl rfl n0 rfl)
end ValidWindow
end Go.Proofs.YtohonlojnflejaaGreatDoor
