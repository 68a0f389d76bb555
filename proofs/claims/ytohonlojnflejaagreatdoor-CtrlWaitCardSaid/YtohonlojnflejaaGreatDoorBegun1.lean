/- The opening call of the laws of the low layers says true, and leaves all that was as it was. -/
import Derived.Test.YtohonlojnflejaaGreatDoorBase
namespace Go.Proofs.YtohonlojnflejaaGreatDoor
open Go.Mir
set_option maxRecDepth 100000
theorem begun1 : SaysTrue Tryz.prog 131 :=
  saysTrue_of noNum mixed ext_none (ps := [196, 117, 26, 27]) (fs := noCons) noCons_ok (fuel := 100000) (by kernel_rfl)
end Go.Proofs.YtohonlojnflejaaGreatDoor
