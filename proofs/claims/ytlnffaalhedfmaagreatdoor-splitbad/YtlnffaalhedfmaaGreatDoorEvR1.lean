import Derived.Test.YtlnffaalhedfmaaGreatDoorEvFT
namespace Go.Proofs.YtlnffaalhedfmaaGreatDoor
open Go.Ev
theorem r1 : isS (callF FT1 1000000 2000 27 a1 (hOf 1000000000 la1) (kM v1 la1 ln1 1000000000000)) = true := by kernel_rfl
end Go.Proofs.YtlnffaalhedfmaaGreatDoor
