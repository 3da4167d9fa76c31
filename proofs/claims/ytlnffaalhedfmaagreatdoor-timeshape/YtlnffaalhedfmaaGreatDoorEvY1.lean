import Derived.Test.YtlnffaalhedfmaaGreatDoorEvY
namespace Go.Proofs.YtlnffaalhedfmaaGreatDoor
open Go.Ev
set_option maxRecDepth 100000
theorem tc3321 : TC 3 3 2 1 := fun x y z w d => by kernel_rfl
theorem tc3322 : TC 3 3 2 2 := fun x y z w d => by kernel_rfl
theorem tc3410 : TC 3 4 1 0 := fun x y z w d => by kernel_rfl
theorem tc3411 : TC 3 4 1 1 := fun x y z w d => by kernel_rfl
theorem tc3412 : TC 3 4 1 2 := fun x y z w d => by kernel_rfl
theorem tc3413 : TC 3 4 1 3 := fun x y z w d => by kernel_rfl
theorem tc3420 : TC 3 4 2 0 := fun x y z w d => by kernel_rfl
theorem tc3421 : TC 3 4 2 1 := fun x y z w d => by kernel_rfl
theorem tc3422 : TC 3 4 2 2 := fun x y z w d => by kernel_rfl
theorem tc3423 : TC 3 4 2 3 := fun x y z w d => by kernel_rfl
theorem tc3510 : TC 3 5 1 0 := fun x y z w d => by kernel_rfl
theorem tc3511 : TC 3 5 1 1 := fun x y z w d => by kernel_rfl
theorem tc3512 : TC 3 5 1 2 := fun x y z w d => by kernel_rfl
theorem tc3513 : TC 3 5 1 3 := fun x y z w d => by kernel_rfl
theorem tc3514 : TC 3 5 1 4 := fun x y z w d => by kernel_rfl
theorem tc3520 : TC 3 5 2 0 := fun x y z w d => by kernel_rfl
theorem tc3521 : TC 3 5 2 1 := fun x y z w d => by kernel_rfl
theorem tc3522 : TC 3 5 2 2 := fun x y z w d => by kernel_rfl
theorem tc3523 : TC 3 5 2 3 := fun x y z w d => by kernel_rfl
theorem tc3524 : TC 3 5 2 4 := fun x y z w d => by kernel_rfl
theorem tc4110 : TC 4 1 1 0 := fun x y z w d => by kernel_rfl
theorem tc4120 : TC 4 1 2 0 := fun x y z w d => by kernel_rfl
theorem tc4130 : TC 4 1 3 0 := fun x y z w d => by kernel_rfl
theorem tc4210 : TC 4 2 1 0 := fun x y z w d => by kernel_rfl
theorem tc4211 : TC 4 2 1 1 := fun x y z w d => by kernel_rfl
end Go.Proofs.YtlnffaalhedfmaaGreatDoor
