import Derived.Test.YtlnffaalhedfmaaGreatDoorClY
namespace Go.Proofs.YtlnffaalhedfmaaGreatDoor
open Go.Ev
set_option maxRecDepth 100000
theorem cc38x36 : CC 38 36 := fun x y d => by kernel_rfl
theorem cc38x37 : CC 38 37 := fun x y d => by kernel_rfl
theorem cc38x38 : CC 38 38 := fun x y d => by kernel_rfl
theorem cc38x39 : CC 38 39 := fun x y d => by kernel_rfl
end Go.Proofs.YtlnffaalhedfmaaGreatDoor
