/- The mirror: two functions of Go's library without a body; facts of a program by one run. -/
import Derived.Test.YtohonlojnflejaaGreatDoorMirTop
import Derived.Laws.Externs
import Derived.Lib.Bytealg
import Derived.KernelRfl
namespace Go.Mir
open Go.RowKit

theorem noNum_of {P : Program} (h : P.funcs.all (fun fn => !(fn.name == "runtime.NumGoroutine")) = true) : NoNum P := fun f fn hf => by
  have := Array.all_eq_true_iff_forall_mem.1 h fn (Array.mem_of_getElem? hf)
  simpa using this

theorem idxB_eq (c : UInt8) : ∀ l : List UInt8, idxB l c = Lib.indexByte l c
  | [] => rfl
  | b :: l => by simp only [idxB, Lib.indexByte, idxB_eq c l]

def isU64 : IntKind → Bool
  | .u64 => true
  | _ => false

/-- The sum, and what goes over (30). -/
def add64M (A : Asm) : List MV → Option MV
  | [a, b, c] => match seOf a, seOf b, c with
    | some (ka, x), some (kb, y), .int .u64 c => match isU64 ka && (isU64 kb && (geq0 A x && (geq0 A y && (decide (0 ≤ c) && decide (c ≤ 1))))) with
      | true => match x, y with
        | .lit x, .lit y => some (.tuple [.int .u64 ((x + y + c) % 18446744073709551616), .int .u64 ((x + y + c) / 18446744073709551616)])
        | x, y => some (.tuple [known A (.sx .u64 (.app 31 x y (.lit c))), known A (.sx .u64 (.app 30 x y (.lit c)))])
      | false => none
    | _, _, _ => none
  | _ => none

def indexM : List MV → Option MV
  | [.str s, .int .u8 c] => some (.int .i64 (Lib.indexByte s c.toNat.toUInt8))
  | [a, b] => match ssOf a, seOf b with
    | some e, some (.u8, c) => some (.sx .i64 (.app 26 e c (.lit 0)))
    | _, _ => none
  | _ => none

def extFn (fA fI : FuncId) (A : Asm) : FuncId → Option (List MV → Option MV) := fun f =>
  match Nat.beq f fA with
  | true => some (add64M A)
  | false => match Nat.beq f fI with
    | true => some indexM
    | false => none
def extOf (fA fI : FuncId) (D : Nat → Option (List CK)) (A : Asm) : Ext := ⟨extFn fA fI A, D, A⟩

theorem Asm.none_ok (σ : Val) : AsmOK σ Asm.none := ⟨(fun p (h : p ∈ []) => by cases h), (fun p (h : p ∈ []) => by cases h)⟩

/-- The slices that came in lie where the unknown says. -/
structure LiesOK (C : Ctx) (D : Nat → Option (List CK)) : Prop where
  arr : ∀ a d, D a = some d → ArrOK C a d
  lies : ∀ a, 0 < (C.σ.arr a).2 → ∃ ad, (C.σ.arr a).1 = some ad ∧ ad.spot = none

theorem extOf_ok {P : Program} {fA fI : FuncId} {fnA fnI : Func} (hA : P.funcs[fA]? = some fnA) (hAn : (fnA.name == "runtime.NumGoroutine") = false) (hAb : fnA.body.isNone = true) (hAx : Extern.findNext fnA = none) (hAe : Extern.find fnA = some add64Entry)
    (hI : P.funcs[fI]? = some fnI) (hIn : (fnI.name == "runtime.NumGoroutine") = false) (hIb : fnI.body.isNone = true) (hIx : Extern.findNext fnI = none) (hIe : Extern.find fnI = some Extern.BytealgIndexByte.indexByte) {C : Ctx} {A : Asm} (hA' : AsmOK C.σ A) {D : Nat → Option (List CK)} (hD : LiesOK C D) : ExtOK P C (extOf fA fI D A) := by
  refine ⟨?_, hA', hD.arr, hD.lies⟩
  intro f g args v fn hf hg hfn _ ρ xs w hσ hxs
  have hA2 : AsmOK ρ.σ A := by rw [hσ]; exact hA'
  simp only [extOf] at hf
  unfold extFn at hf
  split at hf
  · rename_i hb
    have hb := Nat.eq_of_beq_eq_true hb
    subst hb
    cases hf
    unfold add64M at hg
    split at hg
    case h_2 => cases hg
    rename_i a b c0
    split at hg
    case h_2 => cases hg
    rename_i ka x kb y c hsa hsb
    split at hg
    case h_2 => cases hg
    rename_i hc
    simp only [Bool.and_eq_true, decide_eq_true_eq] at hc
    obtain ⟨hka, hkb, hx0, hy0, hc0, hc1⟩ := hc
    have hka : ka = .u64 := by cases ka <;> first | rfl | cases hka
    have hkb : kb = .u64 := by cases kb <;> first | rfl | cases hkb
    subst hka hkb
    have hx0 := geq0_sound hA2 hx0
    have hy0 := geq0_sound hA2 hy0
    obtain ⟨x1, t1, e1, h1, r1⟩ := hxs.cons_inv
    obtain ⟨x2, t2, e2, h2, r2⟩ := r1.cons_inv
    obtain ⟨x3, t3, e3, h3, r3⟩ := r2.cons_inv
    have e4 := r3.nil_inv
    have h1 := seOf_sound hsa h1
    have h2 := seOf_sound hsb h2
    simp only [VR] at h3
    subst e4 e3 e2 h1 h2 h3
    have : xs = #[.int .u64 (x.eval ρ.σ), .int .u64 (y.eval ρ.σ), .int .u64 c] := by apply Array.ext'; exact e1
    subst this
    refine ⟨_, by rw [run_callFunc_extern hA hAn hAb hAx hAe, run_add64 _ _ c hx0 hy0 hc0 hc1]; rfl, ?_⟩
    split at hg
    · cases hg
      simp only [VR]
      exact ⟨_, rfl, .cons (by simp only [VR, SE.eval]) (.cons (by simp only [VR, SE.eval]) .nil)⟩
    · cases hg
      simp only [VR]
      exact ⟨_, rfl, .cons (known_sound hA2 (by simp only [VR, SE.eval, appV])) (.cons (known_sound hA2 (by simp only [VR, SE.eval, appV])) .nil)⟩
  · split at hf
    case h_2 => cases hf
    rename_i hb
    have hb := Nat.eq_of_beq_eq_true hb
    subst hb
    cases hf
    have key : ∀ {s : List UInt8} {c : Int} {k : IntKind}, k = .u8 → xs = #[.string ⟨s.toArray⟩, .int k c] → ∃ x, (callFunc f xs).run P w = .ok (.value x) w ∧ x = .int .i64 (Lib.indexByte s c.toNat.toUInt8) := by
      rintro s c k rfl rfl
      exact ⟨_, by rw [run_callFunc_extern hI hIn hIb hIx hIe, Lib.run_indexByteString]; rfl, rfl⟩
    unfold indexM at hg
    split at hg
    · rename_i s c
      cases hg
      obtain ⟨x1, t1, e1, h1, r1⟩ := hxs.cons_inv
      obtain ⟨x2, t2, e2, h2, r2⟩ := r1.cons_inv
      have e4 := r2.nil_inv
      simp only [VR] at h1 h2
      subst e4 e2 h1 h2
      obtain ⟨x, k1, k2⟩ := key (s := s) (c := c) rfl (by apply Array.ext'; exact e1)
      exact ⟨x, k1, by simp only [VR]; exact k2⟩
    · rename_i a b _
      split at hg
      case h_2 => cases hg
      rename_i e c hsa hsb
      cases hg
      obtain ⟨x1, t1, e1, h1, r1⟩ := hxs.cons_inv
      obtain ⟨x2, t2, e2, h2, r2⟩ := r1.cons_inv
      have e4 := r2.nil_inv
      have h1 := ssOf_sound hsa h1
      have h2 := seOf_sound hsb h2
      subst e4 e2 h1 h2
      obtain ⟨x, k1, k2⟩ := key (s := dec (e.eval ρ.σ)) (c := c.eval ρ.σ) rfl (by apply Array.ext'; exact e1)
      exact ⟨x, k1, by simp only [VR, SE.eval, appV, idxB_eq]; exact k2⟩
    · cases hg

end Go.Mir
