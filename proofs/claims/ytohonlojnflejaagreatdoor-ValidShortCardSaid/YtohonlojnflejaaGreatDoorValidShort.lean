/- ValidShort: of every view, type and distances the call says true, and leaves all that was as it was. -/
import Derived.Test.YtohonlojnflejaaGreatDoorBegun18
import Derived.Test.YtohonlojnflejaaGreatDoorCon1
import Derived.Test.YtohonlojnflejaaGreatDoorMirArr
import Derived.Test.YtohonlojnflejaaGreatDoorMirRng
namespace Go.Proofs.YtohonlojnflejaaGreatDoor
namespace ValidShort
open Go.Mir Go.RowKit
set_option maxRecDepth 100000
def bv (i : Nat) : MV := .sb (.cmp .neq (.var i) (.lit 0))
def iv (i : Nat) : MV := .sx .i64 (.var i)
def uv (i : Nat) : MV := .sx .u64 (.var i)
def dsc : Nat → Option (List CK) := fun _ => none
def S1 : Shape := ⟨6, [(1, iv 8), (2, iv 9), (3, iv 10), (4, .ptr .one 0)], (.o .one), [(.one, .cells [.int .i64 5, uv 1, uv 2, uv 3, uv 4, uv 5, iv 6, iv 7])]⟩
def args : List MV := [.agg [iv 0, uv 1, uv 2, uv 3, uv 4, uv 5, iv 6, iv 7], iv 8, iv 9, iv 10]
def fs (R : List Nat) : Cons := (((((((noCons.put 22 gTrue).put 26 (k_refSeq R)).put 27 (k_refStep R)).put 84 (k_seqLess R)).put 101 (k_refLess R)).put 99 (k_refIn R)).put 102 (k_seqLong R))
theorem small5 (d : Int) : ∃ e, binV .rem .i64 d 100000 = e ∧ -100000 < e ∧ e < 100000 := ⟨_, rfl, by rw [rem_i64]; split <;> omega, by rw [rem_i64]; split <;> omega⟩
theorem long_short (x d : Int) (hx : 0 ≤ x ∧ x < 281474976710656) :
    binV .and .u64 (binV .add .u64 x (binV .sub .u64 (binV .and .u64 (binV .add .u64 (binV .sub .u64 (IntKind.u64.wrap (IntKind.u32.wrap (binV .rem .u64 (binV .and .u64 (binV .add .u64 x (IntKind.u64.wrap (binV .rem .i64 d 100000))) 281474976710655) 16777216))) x) 8388608) 16777215) 8388608)) 281474976710655 =
    binV .and .u64 (binV .add .u64 x (IntKind.u64.wrap (binV .rem .i64 d 100000))) 281474976710655 := by
  obtain ⟨_, _⟩ := hx
  obtain ⟨e, he, e1, e2⟩ := small5 d
  rw [he, and48_addw]
  rw [rem_u64r (by omega), wrap_u32r (by omega) (by omega), wrap_u64r (by omega) (by omega)]
  simp only [mask48, mask24, add_u64, sub_u64]
  omega
noncomputable def bd : Code := bodyOf Tryz.f7
noncomputable def Sst : Shape := ⟨0, params (keepOf Tryz.f7) 0 args, .one, []⟩
noncomputable def n0 : Nd := ⟨bd, [], Sst⟩
noncomputable def n1 : Nd := ⟨(codeAt [1, 1, 1, 1, 1] bd []).1, (codeAt [1, 1, 1, 1, 1] bd []).2, S1⟩
noncomputable def nds : List Nd := [n0, n1]
noncomputable def run (R : List Nat) (c : Code) (fr : List Fr) (sh : Shape) (B : Asm) : Option (List Su) :=
  sumAt Tryz.prog Tryz.f7 (nds.map (·.sh)) isTrueV (ext dsc B).asm (flagL [] [6]) (runOf Tryz.prog (ext dsc B) (fs R) [117, 80] 100000) 100000 c fr sh
def t0 : PT := (.leaf [.at 1 [(7, (.var 7)), (6, (.var 6)), (5, (.bin .and .u64 (.var 5) (.lit 281474976710655))), (4, (.bin .and .u64 (.var 4) (.lit 281474976710655))), (3, (.bin .and .u64 (.var 3) (.lit 281474976710655))), (2, (.bin .and .u64 (.var 2) (.lit 281474976710655))), (1, (.bin .and .u64 (.var 1) (.lit 281474976710655))), (10, (.var 10)), (9, (.var 9)), (8, (.var 8))]])
theorem r0 : t0.runs (run [1, 2, 3, 4, 5] n0.c n0.fr n0.sh) (Asm.none) = t0.leaves nds := by kernel_rfl
def t1 : PT := (.split (.cmp .eql (.bin .rem .i64 (.bin .add .i64 (.bin .rem .i64 (.var 8) (.lit 3)) (.lit 3)) (.lit 3)) (.lit 0)) (.split (.cmp .eql (.bin .and .u64 (.bin .add .u64 (.var 2) (.wrap .u64 (.bin .rem .i64 (.var 9) (.lit 100000)))) (.lit 281474976710655)) (.bin .and .u64 (.bin .add .u64 (.var 2) (.wrap .u64 (.bin .rem .i64 (.var 9) (.lit 100000)))) (.lit 281474976710655))) (.split (.cmp .geq (.bin .and .u64 (.bin .sub .u64 (.bin .and .u64 (.bin .add .u64 (.var 2) (.wrap .u64 (.bin .sub .i64 (.lit 1) (.bin .quo .i64 (.mm false (.mm true (.var 7) (.lit 32)) (.lit 1000)) (.lit 4))))) (.lit 281474976710655)) (.var 5)) (.lit 281474976710655)) (.lit 140737488355328)) (.split (.cmp .geq (.bin .and .u64 (.bin .sub .u64 (.bin .and .u64 (.bin .add .u64 (.var 1) (.wrap .u64 (.bin .sub .i64 (.lit 1) (.mm false (.mm true (.var 6) (.lit 32)) (.lit 1000))))) (.lit 281474976710655)) (.var 4)) (.lit 281474976710655)) (.lit 140737488355328)) (.split (.cmp .leq (.bin .and .u64 (.bin .sub .u64 (.bin .and .u64 (.bin .add .u64 (.var 2) (.wrap .u64 (.bin .rem .i64 (.var 9) (.lit 100000)))) (.lit 281474976710655)) (.bin .and .u64 (.var 5) (.lit 281474976710655))) (.lit 281474976710655)) (.bin .and .u64 (.bin .sub .u64 (.bin .and .u64 (.bin .add .u64 (.var 2) (.wrap .u64 (.bin .quo .i64 (.bin .mul .i64 (.lit 3) (.mm false (.mm true (.var 7) (.lit 32)) (.lit 1000))) (.lit 4)))) (.lit 281474976710655)) (.bin .and .u64 (.var 5) (.lit 281474976710655))) (.lit 281474976710655))) (.leaf []) (.leaf [])) (.split (.cmp .leq (.bin .and .u64 (.bin .sub .u64 (.bin .and .u64 (.bin .add .u64 (.var 2) (.wrap .u64 (.bin .rem .i64 (.var 9) (.lit 100000)))) (.lit 281474976710655)) (.bin .and .u64 (.var 5) (.lit 281474976710655))) (.lit 281474976710655)) (.bin .and .u64 (.bin .sub .u64 (.bin .and .u64 (.bin .add .u64 (.var 2) (.wrap .u64 (.bin .quo .i64 (.bin .mul .i64 (.lit 3) (.mm false (.mm true (.var 7) (.lit 32)) (.lit 1000))) (.lit 4)))) (.lit 281474976710655)) (.bin .and .u64 (.var 5) (.lit 281474976710655))) (.lit 281474976710655))) (.leaf []) (.leaf []))) (.split (.cmp .geq (.bin .and .u64 (.bin .sub .u64 (.bin .and .u64 (.bin .add .u64 (.var 1) (.wrap .u64 (.bin .sub .i64 (.lit 1) (.mm false (.mm true (.var 6) (.lit 32)) (.lit 1000))))) (.lit 281474976710655)) (.var 4)) (.lit 281474976710655)) (.lit 140737488355328)) (.split (.cmp .leq (.bin .and .u64 (.bin .sub .u64 (.bin .and .u64 (.bin .add .u64 (.var 2) (.wrap .u64 (.bin .rem .i64 (.var 9) (.lit 100000)))) (.lit 281474976710655)) (.bin .and .u64 (.bin .and .u64 (.bin .add .u64 (.var 2) (.wrap .u64 (.bin .sub .i64 (.lit 1) (.bin .quo .i64 (.mm false (.mm true (.var 7) (.lit 32)) (.lit 1000)) (.lit 4))))) (.lit 281474976710655)) (.lit 281474976710655))) (.lit 281474976710655)) (.bin .and .u64 (.bin .sub .u64 (.bin .and .u64 (.bin .add .u64 (.var 2) (.wrap .u64 (.bin .quo .i64 (.bin .mul .i64 (.lit 3) (.mm false (.mm true (.var 7) (.lit 32)) (.lit 1000))) (.lit 4)))) (.lit 281474976710655)) (.bin .and .u64 (.bin .and .u64 (.bin .add .u64 (.var 2) (.wrap .u64 (.bin .sub .i64 (.lit 1) (.bin .quo .i64 (.mm false (.mm true (.var 7) (.lit 32)) (.lit 1000)) (.lit 4))))) (.lit 281474976710655)) (.lit 281474976710655))) (.lit 281474976710655))) (.leaf []) (.leaf [])) (.split (.cmp .leq (.bin .and .u64 (.bin .sub .u64 (.bin .and .u64 (.bin .add .u64 (.var 2) (.wrap .u64 (.bin .rem .i64 (.var 9) (.lit 100000)))) (.lit 281474976710655)) (.bin .and .u64 (.bin .and .u64 (.bin .add .u64 (.var 2) (.wrap .u64 (.bin .sub .i64 (.lit 1) (.bin .quo .i64 (.mm false (.mm true (.var 7) (.lit 32)) (.lit 1000)) (.lit 4))))) (.lit 281474976710655)) (.lit 281474976710655))) (.lit 281474976710655)) (.bin .and .u64 (.bin .sub .u64 (.bin .and .u64 (.bin .add .u64 (.var 2) (.wrap .u64 (.bin .quo .i64 (.bin .mul .i64 (.lit 3) (.mm false (.mm true (.var 7) (.lit 32)) (.lit 1000))) (.lit 4)))) (.lit 281474976710655)) (.bin .and .u64 (.bin .and .u64 (.bin .add .u64 (.var 2) (.wrap .u64 (.bin .sub .i64 (.lit 1) (.bin .quo .i64 (.mm false (.mm true (.var 7) (.lit 32)) (.lit 1000)) (.lit 4))))) (.lit 281474976710655)) (.lit 281474976710655))) (.lit 281474976710655))) (.leaf []) (.leaf [])))) .contra) (.split (.cmp .eql (.bin .rem .i64 (.bin .add .i64 (.bin .rem .i64 (.var 8) (.lit 3)) (.lit 3)) (.lit 3)) (.lit 1)) (.split (.cmp .eql (.bin .and .u64 (.bin .add .u64 (.var 2) (.wrap .u64 (.bin .rem .i64 (.var 9) (.lit 100000)))) (.lit 281474976710655)) (.bin .and .u64 (.bin .add .u64 (.var 2) (.wrap .u64 (.bin .rem .i64 (.var 9) (.lit 100000)))) (.lit 281474976710655))) (.split (.cmp .eql (.bin .and .u64 (.bin .add .u64 (.var 1) (.wrap .u64 (.bin .rem .i64 (.var 10) (.lit 100000)))) (.lit 281474976710655)) (.bin .and .u64 (.bin .add .u64 (.var 1) (.wrap .u64 (.bin .rem .i64 (.var 10) (.lit 100000)))) (.lit 281474976710655))) (.split (.cmp .geq (.bin .and .u64 (.bin .sub .u64 (.bin .and .u64 (.bin .add .u64 (.var 2) (.wrap .u64 (.bin .sub .i64 (.lit 1) (.bin .quo .i64 (.mm false (.mm true (.var 7) (.lit 32)) (.lit 1000)) (.lit 4))))) (.lit 281474976710655)) (.var 5)) (.lit 281474976710655)) (.lit 140737488355328)) (.split (.cmp .geq (.bin .and .u64 (.bin .sub .u64 (.bin .and .u64 (.bin .add .u64 (.var 1) (.wrap .u64 (.bin .sub .i64 (.lit 1) (.mm false (.mm true (.var 6) (.lit 32)) (.lit 1000))))) (.lit 281474976710655)) (.var 4)) (.lit 281474976710655)) (.lit 140737488355328)) (.split (.cmp .leq (.bin .and .u64 (.bin .sub .u64 (.bin .and .u64 (.bin .add .u64 (.var 2) (.wrap .u64 (.bin .rem .i64 (.var 9) (.lit 100000)))) (.lit 281474976710655)) (.bin .and .u64 (.var 5) (.lit 281474976710655))) (.lit 281474976710655)) (.bin .and .u64 (.bin .sub .u64 (.bin .and .u64 (.bin .add .u64 (.var 2) (.wrap .u64 (.bin .quo .i64 (.bin .mul .i64 (.lit 3) (.mm false (.mm true (.var 7) (.lit 32)) (.lit 1000))) (.lit 4)))) (.lit 281474976710655)) (.bin .and .u64 (.var 5) (.lit 281474976710655))) (.lit 281474976710655))) (.split (.cmp .leq (.bin .and .u64 (.bin .sub .u64 (.bin .and .u64 (.bin .add .u64 (.var 1) (.wrap .u64 (.bin .rem .i64 (.var 10) (.lit 100000)))) (.lit 281474976710655)) (.bin .and .u64 (.var 4) (.lit 281474976710655))) (.lit 281474976710655)) (.bin .and .u64 (.bin .sub .u64 (.bin .and .u64 (.var 1) (.lit 281474976710655)) (.bin .and .u64 (.var 4) (.lit 281474976710655))) (.lit 281474976710655))) (.leaf []) (.leaf [])) (.leaf [])) (.split (.cmp .leq (.bin .and .u64 (.bin .sub .u64 (.bin .and .u64 (.bin .add .u64 (.var 2) (.wrap .u64 (.bin .rem .i64 (.var 9) (.lit 100000)))) (.lit 281474976710655)) (.bin .and .u64 (.var 5) (.lit 281474976710655))) (.lit 281474976710655)) (.bin .and .u64 (.bin .sub .u64 (.bin .and .u64 (.bin .add .u64 (.var 2) (.wrap .u64 (.bin .quo .i64 (.bin .mul .i64 (.lit 3) (.mm false (.mm true (.var 7) (.lit 32)) (.lit 1000))) (.lit 4)))) (.lit 281474976710655)) (.bin .and .u64 (.var 5) (.lit 281474976710655))) (.lit 281474976710655))) (.split (.cmp .leq (.bin .and .u64 (.bin .sub .u64 (.bin .and .u64 (.bin .add .u64 (.var 1) (.wrap .u64 (.bin .rem .i64 (.var 10) (.lit 100000)))) (.lit 281474976710655)) (.bin .and .u64 (.bin .and .u64 (.bin .add .u64 (.var 1) (.wrap .u64 (.bin .sub .i64 (.lit 1) (.mm false (.mm true (.var 6) (.lit 32)) (.lit 1000))))) (.lit 281474976710655)) (.lit 281474976710655))) (.lit 281474976710655)) (.bin .and .u64 (.bin .sub .u64 (.bin .and .u64 (.var 1) (.lit 281474976710655)) (.bin .and .u64 (.bin .and .u64 (.bin .add .u64 (.var 1) (.wrap .u64 (.bin .sub .i64 (.lit 1) (.mm false (.mm true (.var 6) (.lit 32)) (.lit 1000))))) (.lit 281474976710655)) (.lit 281474976710655))) (.lit 281474976710655))) (.leaf []) (.leaf [])) (.leaf []))) (.split (.cmp .geq (.bin .and .u64 (.bin .sub .u64 (.bin .and .u64 (.bin .add .u64 (.var 1) (.wrap .u64 (.bin .sub .i64 (.lit 1) (.mm false (.mm true (.var 6) (.lit 32)) (.lit 1000))))) (.lit 281474976710655)) (.var 4)) (.lit 281474976710655)) (.lit 140737488355328)) (.split (.cmp .leq (.bin .and .u64 (.bin .sub .u64 (.bin .and .u64 (.bin .add .u64 (.var 2) (.wrap .u64 (.bin .rem .i64 (.var 9) (.lit 100000)))) (.lit 281474976710655)) (.bin .and .u64 (.bin .and .u64 (.bin .add .u64 (.var 2) (.wrap .u64 (.bin .sub .i64 (.lit 1) (.bin .quo .i64 (.mm false (.mm true (.var 7) (.lit 32)) (.lit 1000)) (.lit 4))))) (.lit 281474976710655)) (.lit 281474976710655))) (.lit 281474976710655)) (.bin .and .u64 (.bin .sub .u64 (.bin .and .u64 (.bin .add .u64 (.var 2) (.wrap .u64 (.bin .quo .i64 (.bin .mul .i64 (.lit 3) (.mm false (.mm true (.var 7) (.lit 32)) (.lit 1000))) (.lit 4)))) (.lit 281474976710655)) (.bin .and .u64 (.bin .and .u64 (.bin .add .u64 (.var 2) (.wrap .u64 (.bin .sub .i64 (.lit 1) (.bin .quo .i64 (.mm false (.mm true (.var 7) (.lit 32)) (.lit 1000)) (.lit 4))))) (.lit 281474976710655)) (.lit 281474976710655))) (.lit 281474976710655))) (.split (.cmp .leq (.bin .and .u64 (.bin .sub .u64 (.bin .and .u64 (.bin .add .u64 (.var 1) (.wrap .u64 (.bin .rem .i64 (.var 10) (.lit 100000)))) (.lit 281474976710655)) (.bin .and .u64 (.var 4) (.lit 281474976710655))) (.lit 281474976710655)) (.bin .and .u64 (.bin .sub .u64 (.bin .and .u64 (.var 1) (.lit 281474976710655)) (.bin .and .u64 (.var 4) (.lit 281474976710655))) (.lit 281474976710655))) (.leaf []) (.leaf [])) (.leaf [])) (.split (.cmp .leq (.bin .and .u64 (.bin .sub .u64 (.bin .and .u64 (.bin .add .u64 (.var 2) (.wrap .u64 (.bin .rem .i64 (.var 9) (.lit 100000)))) (.lit 281474976710655)) (.bin .and .u64 (.bin .and .u64 (.bin .add .u64 (.var 2) (.wrap .u64 (.bin .sub .i64 (.lit 1) (.bin .quo .i64 (.mm false (.mm true (.var 7) (.lit 32)) (.lit 1000)) (.lit 4))))) (.lit 281474976710655)) (.lit 281474976710655))) (.lit 281474976710655)) (.bin .and .u64 (.bin .sub .u64 (.bin .and .u64 (.bin .add .u64 (.var 2) (.wrap .u64 (.bin .quo .i64 (.bin .mul .i64 (.lit 3) (.mm false (.mm true (.var 7) (.lit 32)) (.lit 1000))) (.lit 4)))) (.lit 281474976710655)) (.bin .and .u64 (.bin .and .u64 (.bin .add .u64 (.var 2) (.wrap .u64 (.bin .sub .i64 (.lit 1) (.bin .quo .i64 (.mm false (.mm true (.var 7) (.lit 32)) (.lit 1000)) (.lit 4))))) (.lit 281474976710655)) (.lit 281474976710655))) (.lit 281474976710655))) (.split (.cmp .leq (.bin .and .u64 (.bin .sub .u64 (.bin .and .u64 (.bin .add .u64 (.var 1) (.wrap .u64 (.bin .rem .i64 (.var 10) (.lit 100000)))) (.lit 281474976710655)) (.bin .and .u64 (.bin .and .u64 (.bin .add .u64 (.var 1) (.wrap .u64 (.bin .sub .i64 (.lit 1) (.mm false (.mm true (.var 6) (.lit 32)) (.lit 1000))))) (.lit 281474976710655)) (.lit 281474976710655))) (.lit 281474976710655)) (.bin .and .u64 (.bin .sub .u64 (.bin .and .u64 (.var 1) (.lit 281474976710655)) (.bin .and .u64 (.bin .and .u64 (.bin .add .u64 (.var 1) (.wrap .u64 (.bin .sub .i64 (.lit 1) (.mm false (.mm true (.var 6) (.lit 32)) (.lit 1000))))) (.lit 281474976710655)) (.lit 281474976710655))) (.lit 281474976710655))) (.leaf []) (.leaf [])) (.leaf [])))) .contra) .contra) (.split (.cmp .eql (.bin .rem .i64 (.bin .add .i64 (.bin .rem .i64 (.var 8) (.lit 3)) (.lit 3)) (.lit 3)) (.lit 2)) (.split (.cmp .eql (.bin .and .u64 (.bin .add .u64 (.var 2) (.wrap .u64 (.bin .rem .i64 (.var 9) (.lit 100000)))) (.lit 281474976710655)) (.bin .and .u64 (.bin .add .u64 (.var 2) (.wrap .u64 (.bin .rem .i64 (.var 9) (.lit 100000)))) (.lit 281474976710655))) (.split (.cmp .eql (.bin .and .u64 (.bin .add .u64 (.var 1) (.wrap .u64 (.bin .rem .i64 (.var 10) (.lit 100000)))) (.lit 281474976710655)) (.bin .and .u64 (.bin .add .u64 (.var 1) (.wrap .u64 (.bin .rem .i64 (.var 10) (.lit 100000)))) (.lit 281474976710655))) (.split (.cmp .geq (.bin .and .u64 (.bin .sub .u64 (.bin .and .u64 (.bin .add .u64 (.var 2) (.wrap .u64 (.bin .sub .i64 (.lit 1) (.bin .quo .i64 (.mm false (.mm true (.var 7) (.lit 32)) (.lit 1000)) (.lit 4))))) (.lit 281474976710655)) (.var 5)) (.lit 281474976710655)) (.lit 140737488355328)) (.split (.cmp .geq (.bin .and .u64 (.bin .sub .u64 (.bin .and .u64 (.bin .add .u64 (.var 1) (.wrap .u64 (.bin .sub .i64 (.lit 1) (.mm false (.mm true (.var 6) (.lit 32)) (.lit 1000))))) (.lit 281474976710655)) (.var 4)) (.lit 281474976710655)) (.lit 140737488355328)) (.split (.cmp .leq (.bin .and .u64 (.bin .sub .u64 (.bin .and .u64 (.bin .add .u64 (.var 2) (.wrap .u64 (.bin .rem .i64 (.var 9) (.lit 100000)))) (.lit 281474976710655)) (.bin .and .u64 (.var 5) (.lit 281474976710655))) (.lit 281474976710655)) (.bin .and .u64 (.bin .sub .u64 (.bin .and .u64 (.bin .add .u64 (.var 2) (.wrap .u64 (.bin .quo .i64 (.bin .mul .i64 (.lit 3) (.mm false (.mm true (.var 7) (.lit 32)) (.lit 1000))) (.lit 4)))) (.lit 281474976710655)) (.bin .and .u64 (.var 5) (.lit 281474976710655))) (.lit 281474976710655))) (.split (.cmp .leq (.bin .and .u64 (.bin .sub .u64 (.bin .and .u64 (.bin .add .u64 (.var 1) (.wrap .u64 (.bin .rem .i64 (.var 10) (.lit 100000)))) (.lit 281474976710655)) (.bin .and .u64 (.var 4) (.lit 281474976710655))) (.lit 281474976710655)) (.bin .and .u64 (.bin .sub .u64 (.bin .and .u64 (.var 1) (.lit 281474976710655)) (.bin .and .u64 (.var 4) (.lit 281474976710655))) (.lit 281474976710655))) (.leaf []) (.leaf [])) (.leaf [])) (.split (.cmp .leq (.bin .and .u64 (.bin .sub .u64 (.bin .and .u64 (.bin .add .u64 (.var 2) (.wrap .u64 (.bin .rem .i64 (.var 9) (.lit 100000)))) (.lit 281474976710655)) (.bin .and .u64 (.var 5) (.lit 281474976710655))) (.lit 281474976710655)) (.bin .and .u64 (.bin .sub .u64 (.bin .and .u64 (.bin .add .u64 (.var 2) (.wrap .u64 (.bin .quo .i64 (.bin .mul .i64 (.lit 3) (.mm false (.mm true (.var 7) (.lit 32)) (.lit 1000))) (.lit 4)))) (.lit 281474976710655)) (.bin .and .u64 (.var 5) (.lit 281474976710655))) (.lit 281474976710655))) (.split (.cmp .leq (.bin .and .u64 (.bin .sub .u64 (.bin .and .u64 (.bin .add .u64 (.var 1) (.wrap .u64 (.bin .rem .i64 (.var 10) (.lit 100000)))) (.lit 281474976710655)) (.bin .and .u64 (.bin .and .u64 (.bin .add .u64 (.var 1) (.wrap .u64 (.bin .sub .i64 (.lit 1) (.mm false (.mm true (.var 6) (.lit 32)) (.lit 1000))))) (.lit 281474976710655)) (.lit 281474976710655))) (.lit 281474976710655)) (.bin .and .u64 (.bin .sub .u64 (.bin .and .u64 (.var 1) (.lit 281474976710655)) (.bin .and .u64 (.bin .and .u64 (.bin .add .u64 (.var 1) (.wrap .u64 (.bin .sub .i64 (.lit 1) (.mm false (.mm true (.var 6) (.lit 32)) (.lit 1000))))) (.lit 281474976710655)) (.lit 281474976710655))) (.lit 281474976710655))) (.leaf []) (.leaf [])) (.leaf []))) (.split (.cmp .geq (.bin .and .u64 (.bin .sub .u64 (.bin .and .u64 (.bin .add .u64 (.var 1) (.wrap .u64 (.bin .sub .i64 (.lit 1) (.mm false (.mm true (.var 6) (.lit 32)) (.lit 1000))))) (.lit 281474976710655)) (.var 4)) (.lit 281474976710655)) (.lit 140737488355328)) (.split (.cmp .leq (.bin .and .u64 (.bin .sub .u64 (.bin .and .u64 (.bin .add .u64 (.var 2) (.wrap .u64 (.bin .rem .i64 (.var 9) (.lit 100000)))) (.lit 281474976710655)) (.bin .and .u64 (.bin .and .u64 (.bin .add .u64 (.var 2) (.wrap .u64 (.bin .sub .i64 (.lit 1) (.bin .quo .i64 (.mm false (.mm true (.var 7) (.lit 32)) (.lit 1000)) (.lit 4))))) (.lit 281474976710655)) (.lit 281474976710655))) (.lit 281474976710655)) (.bin .and .u64 (.bin .sub .u64 (.bin .and .u64 (.bin .add .u64 (.var 2) (.wrap .u64 (.bin .quo .i64 (.bin .mul .i64 (.lit 3) (.mm false (.mm true (.var 7) (.lit 32)) (.lit 1000))) (.lit 4)))) (.lit 281474976710655)) (.bin .and .u64 (.bin .and .u64 (.bin .add .u64 (.var 2) (.wrap .u64 (.bin .sub .i64 (.lit 1) (.bin .quo .i64 (.mm false (.mm true (.var 7) (.lit 32)) (.lit 1000)) (.lit 4))))) (.lit 281474976710655)) (.lit 281474976710655))) (.lit 281474976710655))) (.split (.cmp .leq (.bin .and .u64 (.bin .sub .u64 (.bin .and .u64 (.bin .add .u64 (.var 1) (.wrap .u64 (.bin .rem .i64 (.var 10) (.lit 100000)))) (.lit 281474976710655)) (.bin .and .u64 (.var 4) (.lit 281474976710655))) (.lit 281474976710655)) (.bin .and .u64 (.bin .sub .u64 (.bin .and .u64 (.var 1) (.lit 281474976710655)) (.bin .and .u64 (.var 4) (.lit 281474976710655))) (.lit 281474976710655))) (.leaf []) (.leaf [])) (.leaf [])) (.split (.cmp .leq (.bin .and .u64 (.bin .sub .u64 (.bin .and .u64 (.bin .add .u64 (.var 2) (.wrap .u64 (.bin .rem .i64 (.var 9) (.lit 100000)))) (.lit 281474976710655)) (.bin .and .u64 (.bin .and .u64 (.bin .add .u64 (.var 2) (.wrap .u64 (.bin .sub .i64 (.lit 1) (.bin .quo .i64 (.mm false (.mm true (.var 7) (.lit 32)) (.lit 1000)) (.lit 4))))) (.lit 281474976710655)) (.lit 281474976710655))) (.lit 281474976710655)) (.bin .and .u64 (.bin .sub .u64 (.bin .and .u64 (.bin .add .u64 (.var 2) (.wrap .u64 (.bin .quo .i64 (.bin .mul .i64 (.lit 3) (.mm false (.mm true (.var 7) (.lit 32)) (.lit 1000))) (.lit 4)))) (.lit 281474976710655)) (.bin .and .u64 (.bin .and .u64 (.bin .add .u64 (.var 2) (.wrap .u64 (.bin .sub .i64 (.lit 1) (.bin .quo .i64 (.mm false (.mm true (.var 7) (.lit 32)) (.lit 1000)) (.lit 4))))) (.lit 281474976710655)) (.lit 281474976710655))) (.lit 281474976710655))) (.split (.cmp .leq (.bin .and .u64 (.bin .sub .u64 (.bin .and .u64 (.bin .add .u64 (.var 1) (.wrap .u64 (.bin .rem .i64 (.var 10) (.lit 100000)))) (.lit 281474976710655)) (.bin .and .u64 (.bin .and .u64 (.bin .add .u64 (.var 1) (.wrap .u64 (.bin .sub .i64 (.lit 1) (.mm false (.mm true (.var 6) (.lit 32)) (.lit 1000))))) (.lit 281474976710655)) (.lit 281474976710655))) (.lit 281474976710655)) (.bin .and .u64 (.bin .sub .u64 (.bin .and .u64 (.var 1) (.lit 281474976710655)) (.bin .and .u64 (.bin .and .u64 (.bin .add .u64 (.var 1) (.wrap .u64 (.bin .sub .i64 (.lit 1) (.mm false (.mm true (.var 6) (.lit 32)) (.lit 1000))))) (.lit 281474976710655)) (.lit 281474976710655))) (.lit 281474976710655))) (.leaf []) (.leaf [])) (.leaf [])))) .contra) .contra) .contra)))
theorem r1 : t1.runs (run [1, 2, 3, 4, 5] n1.c n1.fr n1.sh) (⟨[((.bin .and .u64 (.bin .add .u64 (.var 2) (.bin .sub .u64 (.bin .and .u64 (.bin .add .u64 (.bin .sub .u64 (.wrap .u64 (.wrap .u32 (.bin .rem .u64 (.bin .and .u64 (.bin .add .u64 (.var 2) (.wrap .u64 (.bin .rem .i64 (.var 9) (.lit 100000)))) (.lit 281474976710655)) (.lit 16777216)))) (.var 2)) (.lit 8388608)) (.lit 16777215)) (.lit 8388608))) (.lit 281474976710655)), (.bin .and .u64 (.bin .add .u64 (.var 2) (.wrap .u64 (.bin .rem .i64 (.var 9) (.lit 100000)))) (.lit 281474976710655))), ((.bin .and .u64 (.bin .add .u64 (.var 1) (.bin .sub .u64 (.bin .and .u64 (.bin .add .u64 (.bin .sub .u64 (.wrap .u64 (.wrap .u32 (.bin .rem .u64 (.bin .and .u64 (.bin .add .u64 (.var 1) (.wrap .u64 (.bin .rem .i64 (.var 10) (.lit 100000)))) (.lit 281474976710655)) (.lit 16777216)))) (.var 1)) (.lit 8388608)) (.lit 16777215)) (.lit 8388608))) (.lit 281474976710655)), (.bin .and .u64 (.bin .add .u64 (.var 1) (.wrap .u64 (.bin .rem .i64 (.var 10) (.lit 100000)))) (.lit 281474976710655)))], []⟩) = t1.leaves nds := by kernel_rfl
def stdApp : Nat → Int → Int → Int → Int := fun _ _ _ _ => 0
def Wf (σ : Val) : Prop := (Lit.int .i64 (σ.v 0)).wf = true ∧ (Lit.int .u64 (σ.v 1)).wf = true ∧ (Lit.int .u64 (σ.v 2)).wf = true ∧ (Lit.int .u64 (σ.v 3)).wf = true ∧ (Lit.int .u64 (σ.v 4)).wf = true ∧ (Lit.int .u64 (σ.v 5)).wf = true ∧ (Lit.int .i64 (σ.v 6)).wf = true ∧ (Lit.int .i64 (σ.v 7)).wf = true ∧ (Lit.int .i64 (σ.v 8)).wf = true ∧ (Lit.int .i64 (σ.v 9)).wf = true ∧ (Lit.int .i64 (σ.v 10)).wf = true
/-- What holds at each place; how far it is to the end. -/
def I : Nat → Val → Prop
  | 0, σ => Wf σ
  | 1, σ => (0 ≤ σ.v 1 ∧ σ.v 1 < 281474976710656) ∧ (0 ≤ σ.v 2 ∧ σ.v 2 < 281474976710656) ∧ (0 ≤ σ.v 3 ∧ σ.v 3 < 281474976710656) ∧ (0 ≤ σ.v 4 ∧ σ.v 4 < 281474976710656) ∧ (0 ≤ σ.v 5 ∧ σ.v 5 < 281474976710656)
  | _, _ => False
def mu : Nat → Val → Int
  | 0, _ => 1
  | 1, _ => 0
  | _, _ => 0
theorem g0 (σ : Val) (h : I 0 σ) : t0.Goal σ (fun k' σ' => I k' σ' ∧ 0 ≤ mu k' σ' ∧ mu k' σ' < mu 0 σ) (fun _ => False) := by
  simp only [I, Wf, lit_u64, lit_i64] at h
  obtain ⟨_, _⟩ := h
  simp only [t0, PT.Goal, LfGoal, I, mu, Val.sub, assocE, SE.eval, mask48]
  repeat' first | apply And.intro | intro _
  all_goals first | trivial | omega
set_option maxHeartbeats 4000000 in
theorem g1 (σ : Val) (h : I 1 σ) : t1.Goal σ (fun k' σ' => I k' σ' ∧ 0 ≤ mu k' σ' ∧ mu k' σ' < mu 1 σ) (fun _ => False) := by
  obtain ⟨a1, a2, a3, a4, a5⟩ : _ ∧ _ ∧ _ ∧ _ ∧ _ := h
  obtain ⟨m, hm, m1, m2⟩ := clamp (σ.v 7)
  obtain ⟨n, hn, n1, n2⟩ := clamp (σ.v 6)
  obtain ⟨d, hd, d1, d2⟩ := small5 (σ.v 9)
  obtain ⟨e, he, e1, e2⟩ := small5 (σ.v 10)
  refine ⟨fun h0 => ?_, fun h0 => ?_⟩
  · simp (disch := omega) only [SE.eval, SB.eval] at h0; all_goals (try simp only [add_i64, rem_i64, cmp_eql] at h0)
    refine ⟨fun h1 => ?_, fun h1 => ?_⟩
    · clear h1
      refine ⟨fun h2 => ?_, fun h2 => ?_⟩
      · clear h2
        refine ⟨fun h3 => ?_, fun h3 => ?_⟩
        · clear h3
          refine ⟨fun h4 => ?_, fun h4 => ?_⟩
          · clear h4
            exact True.intro
          · clear h4
            exact True.intro
        · clear h3
          refine ⟨fun h4 => ?_, fun h4 => ?_⟩
          · clear h4
            exact True.intro
          · clear h4
            exact True.intro
      · clear h2
        refine ⟨fun h3 => ?_, fun h3 => ?_⟩
        · clear h3
          refine ⟨fun h4 => ?_, fun h4 => ?_⟩
          · clear h4
            exact True.intro
          · clear h4
            exact True.intro
        · clear h3
          refine ⟨fun h4 => ?_, fun h4 => ?_⟩
          · clear h4
            exact True.intro
          · clear h4
            exact True.intro
    · simp (disch := omega) only [SE.eval, SB.eval, and48_add, emod_wrap, hd] at h1; all_goals (try simp only [cmp_eql0] at h1); all_goals omega
  · simp (disch := omega) only [SE.eval, SB.eval] at h0; all_goals (try simp only [add_i64, rem_i64, cmp_eql0] at h0)
    refine ⟨fun h1 => ?_, fun h1 => ?_⟩
    · simp (disch := omega) only [SE.eval, SB.eval] at h1; all_goals (try simp only [add_i64, rem_i64, cmp_eql] at h1)
      refine ⟨fun h2 => ?_, fun h2 => ?_⟩
      · clear h2
        refine ⟨fun h3 => ?_, fun h3 => ?_⟩
        · clear h3
          refine ⟨fun h4 => ?_, fun h4 => ?_⟩
          · clear h4
            refine ⟨fun h5 => ?_, fun h5 => ?_⟩
            · clear h5
              refine ⟨fun h6 => ?_, fun h6 => ?_⟩
              · clear h6
                refine ⟨fun h7 => ?_, fun h7 => ?_⟩
                · clear h7
                  exact True.intro
                · clear h7
                  exact True.intro
              · clear h6
                exact True.intro
            · clear h5
              refine ⟨fun h6 => ?_, fun h6 => ?_⟩
              · clear h6
                refine ⟨fun h7 => ?_, fun h7 => ?_⟩
                · clear h7
                  exact True.intro
                · clear h7
                  exact True.intro
              · clear h6
                exact True.intro
          · clear h4
            refine ⟨fun h5 => ?_, fun h5 => ?_⟩
            · clear h5
              refine ⟨fun h6 => ?_, fun h6 => ?_⟩
              · clear h6
                refine ⟨fun h7 => ?_, fun h7 => ?_⟩
                · clear h7
                  exact True.intro
                · clear h7
                  exact True.intro
              · clear h6
                exact True.intro
            · clear h5
              refine ⟨fun h6 => ?_, fun h6 => ?_⟩
              · clear h6
                refine ⟨fun h7 => ?_, fun h7 => ?_⟩
                · clear h7
                  exact True.intro
                · clear h7
                  exact True.intro
              · clear h6
                exact True.intro
        · simp (disch := omega) only [SE.eval, SB.eval, and48_add, emod_wrap, he] at h3; all_goals (try simp only [cmp_eql0] at h3); all_goals omega
      · simp (disch := omega) only [SE.eval, SB.eval, and48_add, emod_wrap, hd] at h2; all_goals (try simp only [cmp_eql0] at h2); all_goals omega
    · simp (disch := omega) only [SE.eval, SB.eval] at h1; all_goals (try simp only [add_i64, rem_i64, cmp_eql0] at h1)
      refine ⟨fun h2 => ?_, fun h2 => ?_⟩
      · simp (disch := omega) only [SE.eval, SB.eval] at h2; all_goals (try simp only [add_i64, rem_i64, cmp_eql] at h2)
        refine ⟨fun h3 => ?_, fun h3 => ?_⟩
        · clear h3
          refine ⟨fun h4 => ?_, fun h4 => ?_⟩
          · clear h4
            refine ⟨fun h5 => ?_, fun h5 => ?_⟩
            · clear h5
              refine ⟨fun h6 => ?_, fun h6 => ?_⟩
              · clear h6
                refine ⟨fun h7 => ?_, fun h7 => ?_⟩
                · clear h7
                  refine ⟨fun h8 => ?_, fun h8 => ?_⟩
                  · clear h8
                    exact True.intro
                  · clear h8
                    exact True.intro
                · clear h7
                  exact True.intro
              · clear h6
                refine ⟨fun h7 => ?_, fun h7 => ?_⟩
                · clear h7
                  refine ⟨fun h8 => ?_, fun h8 => ?_⟩
                  · clear h8
                    exact True.intro
                  · clear h8
                    exact True.intro
                · clear h7
                  exact True.intro
            · clear h5
              refine ⟨fun h6 => ?_, fun h6 => ?_⟩
              · clear h6
                refine ⟨fun h7 => ?_, fun h7 => ?_⟩
                · clear h7
                  refine ⟨fun h8 => ?_, fun h8 => ?_⟩
                  · clear h8
                    exact True.intro
                  · clear h8
                    exact True.intro
                · clear h7
                  exact True.intro
              · clear h6
                refine ⟨fun h7 => ?_, fun h7 => ?_⟩
                · clear h7
                  refine ⟨fun h8 => ?_, fun h8 => ?_⟩
                  · clear h8
                    exact True.intro
                  · clear h8
                    exact True.intro
                · clear h7
                  exact True.intro
          · simp (disch := omega) only [SE.eval, SB.eval, and48_add, emod_wrap, he] at h4; all_goals (try simp only [cmp_eql0] at h4); all_goals omega
        · simp (disch := omega) only [SE.eval, SB.eval, and48_add, emod_wrap, hd] at h3; all_goals (try simp only [cmp_eql0] at h3); all_goals omega
      · simp (disch := omega) only [SE.eval, SB.eval] at h2; all_goals (try simp only [add_i64, rem_i64, cmp_eql0] at h2); all_goals omega
theorem R0 {σ : Val} (h : I 0 σ) : RngOK σ [1, 2, 3, 4, 5] := by
  refine rng_vars (L := [1, 2, 3, 4, 5]) (by decide) (fun i hi => ?_)
  simp only [I, Wf, lit_u64, lit_i64] at h
  simp only [List.mem_cons, List.not_mem_nil, or_false] at hi
  rcases hi with rfl | rfl | rfl | rfl | rfl <;> omega
theorem R1 {σ : Val} (h : I 1 σ) : RngOK σ [1, 2, 3, 4, 5] := by
  refine rng_vars (L := [1, 2, 3, 4, 5]) (by decide) (fun i hi => ?_)
  simp only [I] at h
  simp only [List.mem_cons, List.not_mem_nil, or_false] at hi
  rcases hi with rfl | rfl | rfl | rfl | rfl <;> omega
theorem goes {w0 : World} : ∀ (d k : Nat) (σ : Val), I k σ → LiesOK ⟨w0.heap.size, w0, σ⟩ dsc → (mu k σ).toNat = d → ∀ nd, nds[k]? = some nd → Goal Tryz.prog Tryz.f7 w0 (.bool true) nd.c nd.fr nd.sh σ := by
  intro d
  induction d using Nat.strongRecOn with
  | _ d ih =>
    intro k σ hI hl hd nd hnd
    have next : ∀ (k' : Nat) (τ : List (Nat × SE)), (I k' (σ.sub τ) ∧ 0 ≤ mu k' (σ.sub τ) ∧ mu k' (σ.sub τ) < mu k σ) → ∀ nd, nds[k']? = some nd → Goal Tryz.prog Tryz.f7 w0 (.bool true) nd.c nd.fr nd.sh (σ.sub τ) :=
      fun k' τ h nd hnd => ih _ (by omega) k' (σ.sub τ) h.1 (hl.sub τ) rfl nd hnd
    match k, hI, hnd, hd, next with
    | 0, hI, hnd, _, next =>
      cases hnd
      have hR := (R0 hI)
      exact pt_node noNum mixed (fun B hB => ext_ok hB hl) (((((((noCons_ok.put (begun18.fn σ)).put (f_refSeq hR)).put (f_refStep hR)).put (f_seqLess hR)).put (f_refLess hR)).put (f_refIn hR)).put (f_seqLong hR)) (nodes := nds) r0 (Asm.none_ok σ) (by kernel_rfl) (by kernel_rfl) good_true next (fun _ h => h.elim) (g0 σ hI)
    | 1, hI, hnd, _, next =>
      cases hnd
      have hR := (R1 hI)
      exact pt_node noNum mixed (fun B hB => ext_ok hB hl) (((((((noCons_ok.put (begun18.fn σ)).put (f_refSeq hR)).put (f_refStep hR)).put (f_seqLess hR)).put (f_refLess hR)).put (f_refIn hR)).put (f_seqLong hR)) (nodes := nds) r1 ⟨(fun q hq => by
        obtain ⟨a1, a2, a3, a4, a5⟩ : _ ∧ _ ∧ _ ∧ _ ∧ _ := hI
        simp only [List.mem_cons, List.not_mem_nil, or_false] at hq
        rcases hq with rfl | rfl
        · exact long_short _ _ a2
        · exact long_short _ _ a1), (fun q hq => by cases hq)⟩ (by kernel_rfl) (by kernel_rfl) good_true next (fun _ h => h.elim) (g1 σ hI)
theorem walk {w0 : World} {xs : Array Value} {σ : Val} (hl : LiesOK ⟨w0.heap.size, w0, σ⟩ dsc) (hw : Wf σ) (hxs : VRs ⟨fun _ => none, σ⟩ args xs.toList) : Calls Tryz.prog 7 xs w0 (Post w0 (.bool true)) :=
  calls_of_goal (c := bd) Tryz.func7 (by kernel_rfl) (args := args) (Nat.le_of_ble_eq_true (by kernel_rfl)) hxs (goes _ 0 σ hw hl rfl n0 rfl)
end ValidShort
end Go.Proofs.YtohonlojnflejaaGreatDoor
