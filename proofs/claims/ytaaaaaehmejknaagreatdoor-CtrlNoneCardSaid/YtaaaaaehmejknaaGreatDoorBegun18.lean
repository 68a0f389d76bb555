/- The opening call of the laws of these layers says true, and leaves all that was as it was. -/
import Derived.Test.YtaaaaaehmejknaaGreatDoorBegun8
namespace Go.Proofs.YtaaaaaehmejknaaGreatDoor
open Go.Mir
set_option maxRecDepth 100000
theorem begun18 : SaysTrue Tryz.prog 13 :=
  saysTrue_of noNum mixed ext_ok (ps := [196, 84]) (known := [145, 86]) (fun f h => by
    simp only [List.mem_cons, List.not_mem_nil, or_false] at h
    rcases h with rfl | rfl
    · exact begun1
    · exact begun8) (fuel := 100000) (by kernel_rfl)
end Go.Proofs.YtaaaaaehmejknaaGreatDoor
