import Derived.Test.YtlnffaalhedfmaaGreatDoorWlFT
namespace Go.Proofs.YtlnffaalhedfmaaGreatDoor
open Go.Ev
set_option maxRecDepth 100000
theorem r67 : isS (callF FT3 1000000 2000 8 a67 (hOf 65536 la67) (kM v67 la67 ln67 1000000000000)) = true := by kernel_rfl
theorem r68 : isS (callF FT1 1000000 2000 29 a68 (hOf 1048576 la68) (kM v68 la68 ln68 1000000000000)) = true := by kernel_rfl
theorem r69 : isS (callF FT2 1000000 2000 9 a69 (hOf 262144 la69) (kM v69 la69 ln69 262167)) = true := by kernel_rfl
theorem r70 : isS (callF FT1 1000000 2000 29 a70 (hOf 1048576 la70) (kM v70 la70 ln70 1000000000000)) = true := by kernel_rfl
theorem r71 : isS (callF FT2 1000000 2000 9 a71 (hOf 262144 la71) (kM v71 la71 ln71 262167)) = true := by kernel_rfl
theorem r72 : isS (callF FT1 1000000 2000 29 a72 (hOf 1048576 la72) (kM v72 la72 ln72 1000000000000)) = true := by kernel_rfl
theorem r73 : isS (callF FT2 1000000 2000 9 a73 (hOf 262144 la73) (kM v73 la73 ln73 262167)) = true := by kernel_rfl
theorem r74 : isS (callF FT1 1000000 2000 29 a74 (hOf 1048576 la74) (kM v74 la74 ln74 1000000000000)) = true := by kernel_rfl
theorem r75 : isS (callF FT2 1000000 2000 9 a75 (hOf 262144 la75) (kM v75 la75 ln75 262167)) = true := by kernel_rfl
theorem r76 : isS (callF FT1 1000000 2000 29 a76 (hOf 1048576 la76) (kM v76 la76 ln76 1000000000000)) = true := by kernel_rfl
theorem r77 : isS (callF FT2 1000000 2000 9 a77 (hOf 262144 la77) (kM v77 la77 ln77 262167)) = true := by kernel_rfl
theorem r78 : isS (callF FT1 1000000 2000 29 a78 (hOf 1048576 la78) (kM v78 la78 ln78 1000000000000)) = true := by kernel_rfl
theorem r79 : isS (callF FT2 1000000 2000 9 a79 (hOf 262144 la79) (kM v79 la79 ln79 262167)) = true := by kernel_rfl
theorem r80 : isS (callF FT2 1000000 2000 9 a80 (hOf 262144 la80) (kM v80 la80 ln80 1000000000000)) = true := by kernel_rfl
theorem r81 : isS (callF FT2 1000000 2000 9 a81 (hOf 262144 la81) (kM v81 la81 ln81 1000000000000)) = true := by kernel_rfl
theorem r82 : isS (callF FT2 1000000 2000 9 a82 (hOf 262144 la82) (kM v82 la82 ln82 1000000000000)) = true := by kernel_rfl
theorem r83 : isS (callF FT2 1000000 2000 9 a83 (hOf 262144 la83) (kM v83 la83 ln83 1000000000000)) = true := by kernel_rfl
end Go.Proofs.YtlnffaalhedfmaaGreatDoor
