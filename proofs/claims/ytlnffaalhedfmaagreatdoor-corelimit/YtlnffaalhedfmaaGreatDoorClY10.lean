import Derived.Test.YtlnffaalhedfmaaGreatDoorClY
namespace Go.Proofs.YtlnffaalhedfmaaGreatDoor
open Go.Ev
set_option maxRecDepth 100000
theorem cc41x36 : CC 41 36 := fun x y d => by kernel_rfl
theorem cc41x37 : CC 41 37 := fun x y d => by kernel_rfl
theorem cc41x38 : CC 41 38 := fun x y d => by kernel_rfl
theorem cc41x39 : CC 41 39 := fun x y d => by kernel_rfl
end Go.Proofs.YtlnffaalhedfmaaGreatDoor
