import Derived.Test.YtlnffaalhedfmaaGreatDoorEvFT
namespace Go.Proofs.YtlnffaalhedfmaaGreatDoor
open Go.Ev
theorem r4 : isS (callF FT4 1000000 2000 24 a4 (hOf 1000000000 la4) (kM v4 la4 ln4 1000000000000)) = true := by kernel_rfl
end Go.Proofs.YtlnffaalhedfmaaGreatDoor
