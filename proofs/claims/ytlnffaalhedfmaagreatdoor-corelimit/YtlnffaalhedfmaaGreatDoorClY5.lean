import Derived.Test.YtlnffaalhedfmaaGreatDoorClY
namespace Go.Proofs.YtlnffaalhedfmaaGreatDoor
open Go.Ev
set_option maxRecDepth 100000
theorem cc38x40 : CC 38 40 := fun x y d => by kernel_rfl
theorem cc38x41 : CC 38 41 := fun x y d => by kernel_rfl
theorem cc38x42 : CC 38 42 := fun x y d => by kernel_rfl
theorem cc38x43 : CC 38 43 := fun x y d => by kernel_rfl
end Go.Proofs.YtlnffaalhedfmaaGreatDoor
