import Derived.Test.YtlnffaalhedfmaaGreatDoorEvY
namespace Go.Proofs.YtlnffaalhedfmaaGreatDoor
open Go.Ev
set_option maxRecDepth 100000
theorem tc6341 : TC 6 3 4 1 := fun x y z w d => by kernel_rfl
theorem tc6342 : TC 6 3 4 2 := fun x y z w d => by kernel_rfl
theorem tc6350 : TC 6 3 5 0 := fun x y z w d => by kernel_rfl
theorem tc6351 : TC 6 3 5 1 := fun x y z w d => by kernel_rfl
theorem tc6352 : TC 6 3 5 2 := fun x y z w d => by kernel_rfl
theorem tc6410 : TC 6 4 1 0 := fun x y z w d => by kernel_rfl
theorem tc6411 : TC 6 4 1 1 := fun x y z w d => by kernel_rfl
theorem tc6412 : TC 6 4 1 2 := fun x y z w d => by kernel_rfl
theorem tc6413 : TC 6 4 1 3 := fun x y z w d => by kernel_rfl
theorem tc6420 : TC 6 4 2 0 := fun x y z w d => by kernel_rfl
theorem tc6421 : TC 6 4 2 1 := fun x y z w d => by kernel_rfl
theorem tc6422 : TC 6 4 2 2 := fun x y z w d => by kernel_rfl
theorem tc6423 : TC 6 4 2 3 := fun x y z w d => by kernel_rfl
theorem tc6430 : TC 6 4 3 0 := fun x y z w d => by kernel_rfl
theorem tc6431 : TC 6 4 3 1 := fun x y z w d => by kernel_rfl
theorem tc6432 : TC 6 4 3 2 := fun x y z w d => by kernel_rfl
theorem tc6433 : TC 6 4 3 3 := fun x y z w d => by kernel_rfl
theorem tc6440 : TC 6 4 4 0 := fun x y z w d => by kernel_rfl
theorem tc6441 : TC 6 4 4 1 := fun x y z w d => by kernel_rfl
theorem tc6442 : TC 6 4 4 2 := fun x y z w d => by kernel_rfl
theorem tc6443 : TC 6 4 4 3 := fun x y z w d => by kernel_rfl
theorem tc6450 : TC 6 4 5 0 := fun x y z w d => by kernel_rfl
theorem tc6451 : TC 6 4 5 1 := fun x y z w d => by kernel_rfl
theorem tc6452 : TC 6 4 5 2 := fun x y z w d => by kernel_rfl
theorem tc6453 : TC 6 4 5 3 := fun x y z w d => by kernel_rfl
end Go.Proofs.YtlnffaalhedfmaaGreatDoor
