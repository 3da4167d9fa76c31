import Derived.Test.YtlnffaalhedfmaaGreatDoorClY
namespace Go.Proofs.YtlnffaalhedfmaaGreatDoor
open Go.Ev
set_option maxRecDepth 100000
theorem cc36x40 : CC 36 40 := fun x y d => by kernel_rfl
theorem cc36x41 : CC 36 41 := fun x y d => by kernel_rfl
theorem cc36x42 : CC 36 42 := fun x y d => by kernel_rfl
theorem cc36x43 : CC 36 43 := fun x y d => by kernel_rfl
end Go.Proofs.YtlnffaalhedfmaaGreatDoor
