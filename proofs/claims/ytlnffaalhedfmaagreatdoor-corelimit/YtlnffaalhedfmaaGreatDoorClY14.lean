import Derived.Test.YtlnffaalhedfmaaGreatDoorClY
namespace Go.Proofs.YtlnffaalhedfmaaGreatDoor
open Go.Ev
set_option maxRecDepth 100000
theorem cc43x36 : CC 43 36 := fun x y d => by kernel_rfl
theorem cc43x37 : CC 43 37 := fun x y d => by kernel_rfl
theorem cc43x38 : CC 43 38 := fun x y d => by kernel_rfl
theorem cc43x39 : CC 43 39 := fun x y d => by kernel_rfl
end Go.Proofs.YtlnffaalhedfmaaGreatDoor
