/- The seat's program: what the mirror asks of it. -/
import Derived.Test.YtohonlojnflejaaGreatDoorMirNode
import Derived.Test.YtohonlojnflejaaGreatDoorMirTree
import Derived.Test.YtohonlojnflejaaGreatDoorRows
namespace Go.Proofs.YtohonlojnflejaaGreatDoor
open Go.Mir
theorem mixed : Tryz.prog.follows .mixedOrders = true := by kernel_rfl
theorem noNum : NoNum Tryz.prog := noNum_of (by kernel_rfl)
noncomputable def ext (D : Nat → Option (List CK)) (A : Asm) : Ext := extOf 147 165 D A
theorem ext_ok {C : Ctx} {D : Nat → Option (List CK)} {A : Asm} (h : AsmOK C.σ A) (hD : LiesOK C D) : ExtOK Tryz.prog C (ext D A) :=
  extOf_ok Tryz.func147 (by kernel_rfl) (by kernel_rfl) (by kernel_rfl) (by kernel_rfl) Tryz.func165 (by kernel_rfl) (by kernel_rfl) (by kernel_rfl) (by kernel_rfl) h hD
/-- Nothing came in, nothing is taken of the unknown. -/
def noD : Nat → Option (List CK) := fun _ => none
def val0 : Val := ⟨fun _ => 0, fun _ _ _ _ => 0, fun _ => (none, 0)⟩
theorem ext_none (w : World) : ExtOK Tryz.prog ⟨w.heap.size, w, val0⟩ (ext noD Asm.none) :=
  ext_ok (Asm.none_ok _) ⟨(fun _ _ h => by cases h), fun _ h => absurd h (by simp [val0])⟩
end Go.Proofs.YtohonlojnflejaaGreatDoor
