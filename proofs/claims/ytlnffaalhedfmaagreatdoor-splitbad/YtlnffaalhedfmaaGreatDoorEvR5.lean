import Derived.Test.YtlnffaalhedfmaaGreatDoorEvFT
namespace Go.Proofs.YtlnffaalhedfmaaGreatDoor
open Go.Ev
theorem r5 : isS (callF FT5 1000000 2000 8 a5 (hOf 1000 la5) (kM v5 la5 ln5 1000000000000)) = true := by kernel_rfl
end Go.Proofs.YtlnffaalhedfmaaGreatDoor
