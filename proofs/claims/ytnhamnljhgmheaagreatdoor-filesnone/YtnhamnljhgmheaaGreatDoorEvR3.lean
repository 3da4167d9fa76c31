import Derived.Test.YtnhamnljhgmheaaGreatDoorEvFT
namespace Go.Proofs.YtnhamnljhgmheaaGreatDoor
open Go.Ev
theorem r3 : isS (callF FT3 1000000 2000 5 a3 (hOf 400000 la3) (kM v3 la3 ln3 500000)) = true := by kernel_rfl
end Go.Proofs.YtnhamnljhgmheaaGreatDoor
