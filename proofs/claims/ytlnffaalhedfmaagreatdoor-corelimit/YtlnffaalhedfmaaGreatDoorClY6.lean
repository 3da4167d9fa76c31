import Derived.Test.YtlnffaalhedfmaaGreatDoorClY
namespace Go.Proofs.YtlnffaalhedfmaaGreatDoor
open Go.Ev
set_option maxRecDepth 100000
theorem cc39x36 : CC 39 36 := fun x y d => by kernel_rfl
theorem cc39x37 : CC 39 37 := fun x y d => by kernel_rfl
theorem cc39x38 : CC 39 38 := fun x y d => by kernel_rfl
theorem cc39x39 : CC 39 39 := fun x y d => by kernel_rfl
end Go.Proofs.YtlnffaalhedfmaaGreatDoor
