import Derived.Test.YtlnffaalhedfmaaGreatDoorEvY
namespace Go.Proofs.YtlnffaalhedfmaaGreatDoor
open Go.Ev
set_option maxRecDepth 100000
theorem tc5433 : TC 5 4 3 3 := fun x y z w d => by kernel_rfl
theorem tc5440 : TC 5 4 4 0 := fun x y z w d => by kernel_rfl
theorem tc5441 : TC 5 4 4 1 := fun x y z w d => by kernel_rfl
theorem tc5442 : TC 5 4 4 2 := fun x y z w d => by kernel_rfl
theorem tc5443 : TC 5 4 4 3 := fun x y z w d => by kernel_rfl
theorem tc5510 : TC 5 5 1 0 := fun x y z w d => by kernel_rfl
theorem tc5511 : TC 5 5 1 1 := fun x y z w d => by kernel_rfl
theorem tc5512 : TC 5 5 1 2 := fun x y z w d => by kernel_rfl
theorem tc5513 : TC 5 5 1 3 := fun x y z w d => by kernel_rfl
theorem tc5514 : TC 5 5 1 4 := fun x y z w d => by kernel_rfl
theorem tc5520 : TC 5 5 2 0 := fun x y z w d => by kernel_rfl
theorem tc5521 : TC 5 5 2 1 := fun x y z w d => by kernel_rfl
theorem tc5522 : TC 5 5 2 2 := fun x y z w d => by kernel_rfl
theorem tc5523 : TC 5 5 2 3 := fun x y z w d => by kernel_rfl
theorem tc5524 : TC 5 5 2 4 := fun x y z w d => by kernel_rfl
theorem tc5530 : TC 5 5 3 0 := fun x y z w d => by kernel_rfl
theorem tc5531 : TC 5 5 3 1 := fun x y z w d => by kernel_rfl
theorem tc5532 : TC 5 5 3 2 := fun x y z w d => by kernel_rfl
theorem tc5533 : TC 5 5 3 3 := fun x y z w d => by kernel_rfl
theorem tc5534 : TC 5 5 3 4 := fun x y z w d => by kernel_rfl
theorem tc5540 : TC 5 5 4 0 := fun x y z w d => by kernel_rfl
theorem tc5541 : TC 5 5 4 1 := fun x y z w d => by kernel_rfl
theorem tc5542 : TC 5 5 4 2 := fun x y z w d => by kernel_rfl
theorem tc5543 : TC 5 5 4 3 := fun x y z w d => by kernel_rfl
theorem tc5544 : TC 5 5 4 4 := fun x y z w d => by kernel_rfl
end Go.Proofs.YtlnffaalhedfmaaGreatDoor
