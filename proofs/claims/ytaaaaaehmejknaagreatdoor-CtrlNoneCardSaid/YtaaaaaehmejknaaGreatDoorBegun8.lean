/- The opening call of the laws of the middle layers says true, and leaves all that was as it was. -/
import Derived.Test.YtaaaaaehmejknaaGreatDoorBegun1
namespace Go.Proofs.YtaaaaaehmejknaaGreatDoor
open Go.Mir
set_option maxRecDepth 100000
theorem begun8 : SaysTrue Tryz.prog 86 :=
  saysTrue_of noNum mixed ext_ok (ps := [196, 84]) (known := [145]) (fun f h => by
    simp only [List.mem_cons, List.not_mem_nil, or_false] at h
    rcases h with rfl
    · exact begun1) (fuel := 100000) (by kernel_rfl)
end Go.Proofs.YtaaaaaehmejknaaGreatDoor
