import Derived.Test.YtnhamnljhgmheaaGreatDoorEvFT
namespace Go.Proofs.YtnhamnljhgmheaaGreatDoor
open Go.Ev
theorem run : isS (callF FT6 1000000 2000 3 [] h0 kT) = true := by kernel_rfl
end Go.Proofs.YtnhamnljhgmheaaGreatDoor
