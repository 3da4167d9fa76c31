import Derived.Test.YtlnffaalhedfmaaGreatDoorClY
namespace Go.Proofs.YtlnffaalhedfmaaGreatDoor
open Go.Ev
set_option maxRecDepth 100000
theorem cc40x40 : CC 40 40 := fun x y d => by kernel_rfl
theorem cc40x41 : CC 40 41 := fun x y d => by kernel_rfl
theorem cc40x42 : CC 40 42 := fun x y d => by kernel_rfl
theorem cc40x43 : CC 40 43 := fun x y d => by kernel_rfl
end Go.Proofs.YtlnffaalhedfmaaGreatDoor
