import Derived.Test.YtlnffaalhedfmaaGreatDoorClY
namespace Go.Proofs.YtlnffaalhedfmaaGreatDoor
open Go.Ev
set_option maxRecDepth 100000
theorem cc37x40 : CC 37 40 := fun x y d => by kernel_rfl
theorem cc37x41 : CC 37 41 := fun x y d => by kernel_rfl
theorem cc37x42 : CC 37 42 := fun x y d => by kernel_rfl
theorem cc37x43 : CC 37 43 := fun x y d => by kernel_rfl
end Go.Proofs.YtlnffaalhedfmaaGreatDoor
