import Derived.Test.YtnhamnljhgmheaaGreatDoorEvFT
namespace Go.Proofs.YtnhamnljhgmheaaGreatDoor
open Go.Ev
theorem r1 : isS (callF FT1 1000000 2000 13 a1 (hOf 1000000000 la1) (kM v1 la1 ln1 1000000000000)) = true := by kernel_rfl
end Go.Proofs.YtnhamnljhgmheaaGreatDoor
