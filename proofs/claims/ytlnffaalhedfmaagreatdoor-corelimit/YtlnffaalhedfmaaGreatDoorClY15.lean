import Derived.Test.YtlnffaalhedfmaaGreatDoorClY
namespace Go.Proofs.YtlnffaalhedfmaaGreatDoor
open Go.Ev
set_option maxRecDepth 100000
theorem cc43x40 : CC 43 40 := fun x y d => by kernel_rfl
theorem cc43x41 : CC 43 41 := fun x y d => by kernel_rfl
theorem cc43x42 : CC 43 42 := fun x y d => by kernel_rfl
theorem cc43x43 : CC 43 43 := fun x y d => by kernel_rfl
end Go.Proofs.YtlnffaalhedfmaaGreatDoor
