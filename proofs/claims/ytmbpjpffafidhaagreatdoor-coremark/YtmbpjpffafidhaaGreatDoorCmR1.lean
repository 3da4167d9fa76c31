import Derived.Test.YtmbpjpffafidhaaGreatDoorCmFT
namespace Go.Proofs.YtmbpjpffafidhaaGreatDoor
open Go.Ev
set_option maxRecDepth 100000
theorem r62 : isS (callF FT3 1000000 2000 10 a62 (hOf 65536 la62) (kM v62 la62 ln62 1000000000000)) = true := by kernel_rfl
end Go.Proofs.YtmbpjpffafidhaaGreatDoor
