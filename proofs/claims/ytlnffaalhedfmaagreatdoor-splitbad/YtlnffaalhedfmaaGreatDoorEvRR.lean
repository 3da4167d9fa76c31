import Derived.Test.YtlnffaalhedfmaaGreatDoorEvFT
namespace Go.Proofs.YtlnffaalhedfmaaGreatDoor
open Go.Ev
theorem run : isS (callF FT6 1000000 2000 8 [] h0 kT) = true := by kernel_rfl
end Go.Proofs.YtlnffaalhedfmaaGreatDoor
