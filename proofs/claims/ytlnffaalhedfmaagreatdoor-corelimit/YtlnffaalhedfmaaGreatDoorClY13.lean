import Derived.Test.YtlnffaalhedfmaaGreatDoorClY
namespace Go.Proofs.YtlnffaalhedfmaaGreatDoor
open Go.Ev
set_option maxRecDepth 100000
theorem cc42x40 : CC 42 40 := fun x y d => by kernel_rfl
theorem cc42x41 : CC 42 41 := fun x y d => by kernel_rfl
theorem cc42x42 : CC 42 42 := fun x y d => by kernel_rfl
theorem cc42x43 : CC 42 43 := fun x y d => by kernel_rfl
end Go.Proofs.YtlnffaalhedfmaaGreatDoor
