import Derived.Test.YtlnffaalhedfmaaGreatDoorClY
namespace Go.Proofs.YtlnffaalhedfmaaGreatDoor
open Go.Ev
set_option maxRecDepth 100000
theorem cc40x36 : CC 40 36 := fun x y d => by kernel_rfl
theorem cc40x37 : CC 40 37 := fun x y d => by kernel_rfl
theorem cc40x38 : CC 40 38 := fun x y d => by kernel_rfl
theorem cc40x39 : CC 40 39 := fun x y d => by kernel_rfl
end Go.Proofs.YtlnffaalhedfmaaGreatDoor
