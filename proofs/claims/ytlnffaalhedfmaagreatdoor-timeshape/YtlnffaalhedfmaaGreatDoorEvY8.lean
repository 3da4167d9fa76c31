import Derived.Test.YtlnffaalhedfmaaGreatDoorEvY
namespace Go.Proofs.YtlnffaalhedfmaaGreatDoor
open Go.Ev
set_option maxRecDepth 100000
theorem tc6510 : TC 6 5 1 0 := fun x y z w d => by kernel_rfl
theorem tc6511 : TC 6 5 1 1 := fun x y z w d => by kernel_rfl
theorem tc6512 : TC 6 5 1 2 := fun x y z w d => by kernel_rfl
theorem tc6513 : TC 6 5 1 3 := fun x y z w d => by kernel_rfl
theorem tc6514 : TC 6 5 1 4 := fun x y z w d => by kernel_rfl
theorem tc6520 : TC 6 5 2 0 := fun x y z w d => by kernel_rfl
theorem tc6521 : TC 6 5 2 1 := fun x y z w d => by kernel_rfl
theorem tc6522 : TC 6 5 2 2 := fun x y z w d => by kernel_rfl
theorem tc6523 : TC 6 5 2 3 := fun x y z w d => by kernel_rfl
theorem tc6524 : TC 6 5 2 4 := fun x y z w d => by kernel_rfl
theorem tc6530 : TC 6 5 3 0 := fun x y z w d => by kernel_rfl
theorem tc6531 : TC 6 5 3 1 := fun x y z w d => by kernel_rfl
theorem tc6532 : TC 6 5 3 2 := fun x y z w d => by kernel_rfl
theorem tc6533 : TC 6 5 3 3 := fun x y z w d => by kernel_rfl
theorem tc6534 : TC 6 5 3 4 := fun x y z w d => by kernel_rfl
theorem tc6540 : TC 6 5 4 0 := fun x y z w d => by kernel_rfl
theorem tc6541 : TC 6 5 4 1 := fun x y z w d => by kernel_rfl
theorem tc6542 : TC 6 5 4 2 := fun x y z w d => by kernel_rfl
theorem tc6543 : TC 6 5 4 3 := fun x y z w d => by kernel_rfl
theorem tc6544 : TC 6 5 4 4 := fun x y z w d => by kernel_rfl
theorem tc6550 : TC 6 5 5 0 := fun x y z w d => by kernel_rfl
theorem tc6551 : TC 6 5 5 1 := fun x y z w d => by kernel_rfl
theorem tc6552 : TC 6 5 5 2 := fun x y z w d => by kernel_rfl
theorem tc6553 : TC 6 5 5 3 := fun x y z w d => by kernel_rfl
theorem tc6554 : TC 6 5 5 4 := fun x y z w d => by kernel_rfl
end Go.Proofs.YtlnffaalhedfmaaGreatDoor
