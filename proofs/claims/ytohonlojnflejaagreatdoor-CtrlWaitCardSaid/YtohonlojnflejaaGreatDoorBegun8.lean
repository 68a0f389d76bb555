/- The opening call of the laws of the middle layers says true, and leaves all that was as it was. -/
import Derived.Test.YtohonlojnflejaaGreatDoorBegun1
namespace Go.Proofs.YtohonlojnflejaaGreatDoor
open Go.Mir
set_option maxRecDepth 100000
theorem begun8 : SaysTrue Tryz.prog 15 :=
  saysTrue_of noNum mixed ext_none (ps := [196, 117, 26, 27]) (fs := (noCons.put 131 gTrue)) (noCons_ok.put (begun1.fn _)) (fuel := 100000) (by kernel_rfl)
end Go.Proofs.YtohonlojnflejaaGreatDoor
