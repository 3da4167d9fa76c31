import Derived.Test.YtlnffaalhedfmaaGreatDoorEvFT
namespace Go.Proofs.YtlnffaalhedfmaaGreatDoor
open Go.Ev
theorem r3 : isS (callF FT3 1000000 2000 11 a3 (hOf 400000 la3) (kM v3 la3 ln3 500000)) = true := by kernel_rfl
end Go.Proofs.YtlnffaalhedfmaaGreatDoor
