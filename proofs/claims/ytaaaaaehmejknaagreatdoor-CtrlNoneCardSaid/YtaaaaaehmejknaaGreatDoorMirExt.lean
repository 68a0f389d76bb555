/- The mirror: two functions of Go's library without a body; facts of a program by one run. -/
import Derived.Test.YtaaaaaehmejknaaGreatDoorMirTop
import Derived.Laws.Externs
import Derived.Lib.Bytealg
import Derived.KernelRfl
namespace Go.Mir
open Go.RowKit

theorem noNum_of {P : Program} (h : P.funcs.all (fun fn => !(fn.name == "runtime.NumGoroutine")) = true) : NoNum P := fun f fn hf => by
  have := Array.all_eq_true_iff_forall_mem.1 h fn (Array.mem_of_getElem? hf)
  simpa using this

def add64M : List MV → Option MV
  | [.int .u64 x, .int .u64 y, .int .u64 c] =>
    match decide (0 ≤ x) && (decide (0 ≤ y) && (decide (0 ≤ c) && decide (c ≤ 1))) with
    | true => some (.tuple [.int .u64 ((x + y + c) % 18446744073709551616), .int .u64 ((x + y + c) / 18446744073709551616)])
    | false => none
  | _ => none

def indexM : List MV → Option MV
  | [.str s, .int .u8 c] => some (.int .i64 (Lib.indexByte s c.toNat.toUInt8))
  | _ => none

def extOf (fA fI : FuncId) : Ext := fun f =>
  match Nat.beq f fA with
  | true => some add64M
  | false => match Nat.beq f fI with
    | true => some indexM
    | false => none

theorem extOf_ok {P : Program} {fA fI : FuncId} {fnA fnI : Func} (hA : P.funcs[fA]? = some fnA) (hAn : (fnA.name == "runtime.NumGoroutine") = false) (hAb : fnA.body.isNone = true) (hAx : Extern.findNext fnA = none) (hAe : Extern.find fnA = some add64Entry)
    (hI : P.funcs[fI]? = some fnI) (hIn : (fnI.name == "runtime.NumGoroutine") = false) (hIb : fnI.body.isNone = true) (hIx : Extern.findNext fnI = none) (hIe : Extern.find fnI = some Extern.BytealgIndexByte.indexByte) : ExtOK P (extOf fA fI) := by
  intro f g args v fn hf hg hfn _ ρ xs w hxs
  unfold extOf at hf
  split at hf
  · rename_i hb
    have hb := Nat.eq_of_beq_eq_true hb
    subst hb
    cases hf
    unfold add64M at hg
    split at hg
    case h_2 => cases hg
    rename_i x y c
    split at hg
    case h_2 => cases hg
    rename_i hc
    cases hg
    simp only [Bool.and_eq_true, decide_eq_true_eq] at hc
    obtain ⟨x1, t1, e1, h1, r1⟩ := hxs.cons_inv
    obtain ⟨x2, t2, e2, h2, r2⟩ := r1.cons_inv
    obtain ⟨x3, t3, e3, h3, r3⟩ := r2.cons_inv
    have e4 := r3.nil_inv
    simp only [VR] at h1 h2 h3
    subst e4 e3 e2 h1 h2 h3
    have : xs = #[.int .u64 x, .int .u64 y, .int .u64 c] := by apply Array.ext'; exact e1
    subst this
    refine ⟨_, by rw [run_callFunc_extern hA hAn hAb hAx hAe, run_add64 x y c hc.1 hc.2.1 hc.2.2.1 hc.2.2.2]; rfl, ?_⟩
    simp only [VR]
    exact ⟨_, rfl, .cons (by simp only [VR]) (.cons (by simp only [VR]) .nil)⟩
  · split at hf
    case h_2 => cases hf
    rename_i hb
    have hb := Nat.eq_of_beq_eq_true hb
    subst hb
    cases hf
    unfold indexM at hg
    split at hg
    case h_2 => cases hg
    rename_i s c
    cases hg
    obtain ⟨x1, t1, e1, h1, r1⟩ := hxs.cons_inv
    obtain ⟨x2, t2, e2, h2, r2⟩ := r1.cons_inv
    have e4 := r2.nil_inv
    simp only [VR] at h1 h2
    subst e4 e2 h1 h2
    have : xs = #[.string ⟨s.toArray⟩, .int .u8 c] := by apply Array.ext'; exact e1
    subst this
    exact ⟨_, by rw [run_callFunc_extern hI hIn hIb hIx hIe, Lib.run_indexByteString]; rfl, by simp only [VR]⟩

end Go.Mir
