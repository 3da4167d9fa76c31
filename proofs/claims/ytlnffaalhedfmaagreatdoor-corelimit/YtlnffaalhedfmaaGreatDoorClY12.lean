import Derived.Test.YtlnffaalhedfmaaGreatDoorClY
namespace Go.Proofs.YtlnffaalhedfmaaGreatDoor
open Go.Ev
set_option maxRecDepth 100000
theorem cc42x36 : CC 42 36 := fun x y d => by kernel_rfl
theorem cc42x37 : CC 42 37 := fun x y d => by kernel_rfl
theorem cc42x38 : CC 42 38 := fun x y d => by kernel_rfl
theorem cc42x39 : CC 42 39 := fun x y d => by kernel_rfl
end Go.Proofs.YtlnffaalhedfmaaGreatDoor
