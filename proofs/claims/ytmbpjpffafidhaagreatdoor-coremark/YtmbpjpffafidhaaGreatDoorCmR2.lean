import Derived.Test.YtmbpjpffafidhaaGreatDoorCmFT
namespace Go.Proofs.YtmbpjpffafidhaaGreatDoor
open Go.Ev
set_option maxRecDepth 100000
theorem r63 : isS (callF FT2 1000000 2000 16 a63 (hOf 262144 la63) (kM v63 la63 ln63 1000000000000)) = true := by kernel_rfl
theorem r64 : isS (callF FT2 1000000 2000 16 a64 (hOf 262144 la64) (kM v64 la64 ln64 1000000000000)) = true := by kernel_rfl
theorem r65 : isS (callF FT2 1000000 2000 16 a65 (hOf 262144 la65) (kM v65 la65 ln65 1000000000000)) = true := by kernel_rfl
theorem r66 : isS (callF FT2 1000000 2000 16 a66 (hOf 262144 la66) (kM v66 la66 ln66 1000000000000)) = true := by kernel_rfl
theorem r67 : isS (callF FT2 1000000 2000 16 a67 (hOf 262144 la67) (kM v67 la67 ln67 1000000000000)) = true := by kernel_rfl
theorem r68 : isS (callF FT2 1000000 2000 16 a68 (hOf 262144 la68) (kM v68 la68 ln68 1000000000000)) = true := by kernel_rfl
theorem r69 : isS (callF FT2 1000000 2000 16 a69 (hOf 262144 la69) (kM v69 la69 ln69 1000000000000)) = true := by kernel_rfl
theorem r70 : isS (callF FT2 1000000 2000 16 a70 (hOf 262144 la70) (kM v70 la70 ln70 1000000000000)) = true := by kernel_rfl
theorem r71 : isS (callF FT2 1000000 2000 16 a71 (hOf 262144 la71) (kM v71 la71 ln71 1000000000000)) = true := by kernel_rfl
theorem r72 : isS (callF FT2 1000000 2000 16 a72 (hOf 262144 la72) (kM v72 la72 ln72 1000000000000)) = true := by kernel_rfl
theorem r73 : isS (callF FT2 1000000 2000 16 a73 (hOf 262144 la73) (kM v73 la73 ln73 1000000000000)) = true := by kernel_rfl
theorem r74 : isS (callF FT2 1000000 2000 16 a74 (hOf 262144 la74) (kM v74 la74 ln74 1000000000000)) = true := by kernel_rfl
end Go.Proofs.YtmbpjpffafidhaaGreatDoor
