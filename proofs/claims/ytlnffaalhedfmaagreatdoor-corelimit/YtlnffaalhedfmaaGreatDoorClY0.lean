import Derived.Test.YtlnffaalhedfmaaGreatDoorClY
namespace Go.Proofs.YtlnffaalhedfmaaGreatDoor
open Go.Ev
set_option maxRecDepth 100000
theorem cc36x36 : CC 36 36 := fun x y d => by kernel_rfl
theorem cc36x37 : CC 36 37 := fun x y d => by kernel_rfl
theorem cc36x38 : CC 36 38 := fun x y d => by kernel_rfl
theorem cc36x39 : CC 36 39 := fun x y d => by kernel_rfl
end Go.Proofs.YtlnffaalhedfmaaGreatDoor
