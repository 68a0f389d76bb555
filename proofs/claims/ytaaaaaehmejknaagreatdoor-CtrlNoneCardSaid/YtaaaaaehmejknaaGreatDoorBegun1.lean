/- The opening call of the laws of the low layers says true, and leaves all that was as it was. -/
import Derived.Test.YtaaaaaehmejknaaGreatDoorBase
namespace Go.Proofs.YtaaaaaehmejknaaGreatDoor
open Go.Mir
set_option maxRecDepth 100000
theorem begun1 : SaysTrue Tryz.prog 145 :=
  saysTrue_of noNum mixed ext_ok (ps := [196, 84]) (known := []) (fun _ h => by cases h) (fuel := 100000) (by kernel_rfl)
end Go.Proofs.YtaaaaaehmejknaaGreatDoor
