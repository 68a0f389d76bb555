/- The opening call of the laws of these layers says true, and leaves all that was as it was. -/
import Derived.Test.YtohonlojnflejaaGreatDoorBegun8
namespace Go.Proofs.YtohonlojnflejaaGreatDoor
open Go.Mir
set_option maxRecDepth 100000
theorem begun18 : SaysTrue Tryz.prog 22 :=
  saysTrue_of noNum mixed ext_none (ps := [196, 117, 26, 27]) (fs := ((noCons.put 131 gTrue).put 15 gTrue)) ((noCons_ok.put (begun1.fn _)).put (begun8.fn _)) (fuel := 100000) (by kernel_rfl)
end Go.Proofs.YtohonlojnflejaaGreatDoor
