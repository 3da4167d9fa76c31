import Derived.Test.YtlnffaalhedfmaaGreatDoorEvFT
namespace Go.Proofs.YtlnffaalhedfmaaGreatDoor
open Go.Ev
set_option maxRecDepth 100000
theorem r63 : isS (callF FT2 1000000 2000 10 a63 (hOf 262144 la63) (kM v63 la63 ln63 1000000000000)) = true := by kernel_rfl
theorem r64 : isS (callF FT2 1000000 2000 10 a64 (hOf 262144 la64) (kM v64 la64 ln64 1000000000000)) = true := by kernel_rfl
theorem r65 : isS (callF FT2 1000000 2000 10 a65 (hOf 262144 la65) (kM v65 la65 ln65 1000000000000)) = true := by kernel_rfl
theorem r66 : isS (callF FT2 1000000 2000 10 a66 (hOf 262144 la66) (kM v66 la66 ln66 1000000000000)) = true := by kernel_rfl
theorem r67 : isS (callF FT2 1000000 2000 10 a67 (hOf 262144 la67) (kM v67 la67 ln67 1000000000000)) = true := by kernel_rfl
theorem r68 : isS (callF FT2 1000000 2000 10 a68 (hOf 262144 la68) (kM v68 la68 ln68 1000000000000)) = true := by kernel_rfl
end Go.Proofs.YtlnffaalhedfmaaGreatDoor
