/- The seat's program: what the mirror asks of it. -/
import Derived.Test.YtaaaaaehmejknaaGreatDoorMirExt
import Derived.Test.YtaaaaaehmejknaaGreatDoorRows
namespace Go.Proofs.YtaaaaaehmejknaaGreatDoor
open Go.Mir
theorem mixed : Tryz.prog.follows .mixedOrders = true := by kernel_rfl
theorem noNum : NoNum Tryz.prog := noNum_of (by kernel_rfl)
noncomputable def ext : Ext := extOf 99 126
theorem ext_ok : ExtOK Tryz.prog ext :=
  extOf_ok Tryz.func99 (by kernel_rfl) (by kernel_rfl) (by kernel_rfl) (by kernel_rfl) Tryz.func126 (by kernel_rfl) (by kernel_rfl) (by kernel_rfl) (by kernel_rfl)
end Go.Proofs.YtaaaaaehmejknaaGreatDoor
