import Derived.Test.YtlnffaalhedfmaaGreatDoorClY
namespace Go.Proofs.YtlnffaalhedfmaaGreatDoor
open Go.Ev
set_option maxRecDepth 100000
theorem cc39x40 : CC 39 40 := fun x y d => by kernel_rfl
theorem cc39x41 : CC 39 41 := fun x y d => by kernel_rfl
theorem cc39x42 : CC 39 42 := fun x y d => by kernel_rfl
theorem cc39x43 : CC 39 43 := fun x y d => by kernel_rfl
end Go.Proofs.YtlnffaalhedfmaaGreatDoor
