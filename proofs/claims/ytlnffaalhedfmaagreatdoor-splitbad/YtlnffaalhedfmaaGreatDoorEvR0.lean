import Derived.Test.YtlnffaalhedfmaaGreatDoorEvFT
namespace Go.Proofs.YtlnffaalhedfmaaGreatDoor
open Go.Ev
theorem r0 : isS (callF FT0 1000000 2000 11 a0 (hOf 200000 la0) (kM v0 la0 ln0 300000)) = true := by kernel_rfl
end Go.Proofs.YtlnffaalhedfmaaGreatDoor
