import Derived.Test.YtlnffaalhedfmaaGreatDoorEvFT
namespace Go.Proofs.YtlnffaalhedfmaaGreatDoor
open Go.Ev
theorem r2 : isS (callF FT2 1000000 2000 26 a2 (hOf 1000000000 la2) (kM v2 la2 ln2 1000000000000)) = true := by kernel_rfl
end Go.Proofs.YtlnffaalhedfmaaGreatDoor
