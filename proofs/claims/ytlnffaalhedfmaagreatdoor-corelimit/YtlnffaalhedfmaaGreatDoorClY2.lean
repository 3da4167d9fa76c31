import Derived.Test.YtlnffaalhedfmaaGreatDoorClY
namespace Go.Proofs.YtlnffaalhedfmaaGreatDoor
open Go.Ev
set_option maxRecDepth 100000
theorem cc37x36 : CC 37 36 := fun x y d => by kernel_rfl
theorem cc37x37 : CC 37 37 := fun x y d => by kernel_rfl
theorem cc37x38 : CC 37 38 := fun x y d => by kernel_rfl
theorem cc37x39 : CC 37 39 := fun x y d => by kernel_rfl
end Go.Proofs.YtlnffaalhedfmaaGreatDoor
