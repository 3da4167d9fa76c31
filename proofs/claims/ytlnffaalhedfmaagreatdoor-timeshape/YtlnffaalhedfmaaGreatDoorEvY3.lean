import Derived.Test.YtlnffaalhedfmaaGreatDoorEvY
namespace Go.Proofs.YtlnffaalhedfmaaGreatDoor
open Go.Ev
set_option maxRecDepth 100000
theorem tc4510 : TC 4 5 1 0 := fun x y z w d => by kernel_rfl
theorem tc4511 : TC 4 5 1 1 := fun x y z w d => by kernel_rfl
theorem tc4512 : TC 4 5 1 2 := fun x y z w d => by kernel_rfl
theorem tc4513 : TC 4 5 1 3 := fun x y z w d => by kernel_rfl
theorem tc4514 : TC 4 5 1 4 := fun x y z w d => by kernel_rfl
theorem tc4520 : TC 4 5 2 0 := fun x y z w d => by kernel_rfl
theorem tc4521 : TC 4 5 2 1 := fun x y z w d => by kernel_rfl
theorem tc4522 : TC 4 5 2 2 := fun x y z w d => by kernel_rfl
theorem tc4523 : TC 4 5 2 3 := fun x y z w d => by kernel_rfl
theorem tc4524 : TC 4 5 2 4 := fun x y z w d => by kernel_rfl
theorem tc4530 : TC 4 5 3 0 := fun x y z w d => by kernel_rfl
theorem tc4531 : TC 4 5 3 1 := fun x y z w d => by kernel_rfl
theorem tc4532 : TC 4 5 3 2 := fun x y z w d => by kernel_rfl
theorem tc4533 : TC 4 5 3 3 := fun x y z w d => by kernel_rfl
theorem tc4534 : TC 4 5 3 4 := fun x y z w d => by kernel_rfl
theorem tc5110 : TC 5 1 1 0 := fun x y z w d => by kernel_rfl
theorem tc5120 : TC 5 1 2 0 := fun x y z w d => by kernel_rfl
theorem tc5130 : TC 5 1 3 0 := fun x y z w d => by kernel_rfl
theorem tc5140 : TC 5 1 4 0 := fun x y z w d => by kernel_rfl
theorem tc5210 : TC 5 2 1 0 := fun x y z w d => by kernel_rfl
theorem tc5211 : TC 5 2 1 1 := fun x y z w d => by kernel_rfl
theorem tc5220 : TC 5 2 2 0 := fun x y z w d => by kernel_rfl
theorem tc5221 : TC 5 2 2 1 := fun x y z w d => by kernel_rfl
theorem tc5230 : TC 5 2 3 0 := fun x y z w d => by kernel_rfl
theorem tc5231 : TC 5 2 3 1 := fun x y z w d => by kernel_rfl
end Go.Proofs.YtlnffaalhedfmaaGreatDoor
