import Derived.Test.YtlnffaalhedfmaaGreatDoorClY
namespace Go.Proofs.YtlnffaalhedfmaaGreatDoor
open Go.Ev
set_option maxRecDepth 100000
theorem cc41x40 : CC 41 40 := fun x y d => by kernel_rfl
theorem cc41x41 : CC 41 41 := fun x y d => by kernel_rfl
theorem cc41x42 : CC 41 42 := fun x y d => by kernel_rfl
theorem cc41x43 : CC 41 43 := fun x y d => by kernel_rfl
end Go.Proofs.YtlnffaalhedfmaaGreatDoor
