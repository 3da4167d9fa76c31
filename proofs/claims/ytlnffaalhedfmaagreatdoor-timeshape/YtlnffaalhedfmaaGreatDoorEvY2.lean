import Derived.Test.YtlnffaalhedfmaaGreatDoorEvY
namespace Go.Proofs.YtlnffaalhedfmaaGreatDoor
open Go.Ev
set_option maxRecDepth 100000
theorem tc4220 : TC 4 2 2 0 := fun x y z w d => by kernel_rfl
theorem tc4221 : TC 4 2 2 1 := fun x y z w d => by kernel_rfl
theorem tc4230 : TC 4 2 3 0 := fun x y z w d => by kernel_rfl
theorem tc4231 : TC 4 2 3 1 := fun x y z w d => by kernel_rfl
theorem tc4310 : TC 4 3 1 0 := fun x y z w d => by kernel_rfl
theorem tc4311 : TC 4 3 1 1 := fun x y z w d => by kernel_rfl
theorem tc4312 : TC 4 3 1 2 := fun x y z w d => by kernel_rfl
theorem tc4320 : TC 4 3 2 0 := fun x y z w d => by kernel_rfl
theorem tc4321 : TC 4 3 2 1 := fun x y z w d => by kernel_rfl
theorem tc4322 : TC 4 3 2 2 := fun x y z w d => by kernel_rfl
theorem tc4330 : TC 4 3 3 0 := fun x y z w d => by kernel_rfl
theorem tc4331 : TC 4 3 3 1 := fun x y z w d => by kernel_rfl
theorem tc4332 : TC 4 3 3 2 := fun x y z w d => by kernel_rfl
theorem tc4410 : TC 4 4 1 0 := fun x y z w d => by kernel_rfl
theorem tc4411 : TC 4 4 1 1 := fun x y z w d => by kernel_rfl
theorem tc4412 : TC 4 4 1 2 := fun x y z w d => by kernel_rfl
theorem tc4413 : TC 4 4 1 3 := fun x y z w d => by kernel_rfl
theorem tc4420 : TC 4 4 2 0 := fun x y z w d => by kernel_rfl
theorem tc4421 : TC 4 4 2 1 := fun x y z w d => by kernel_rfl
theorem tc4422 : TC 4 4 2 2 := fun x y z w d => by kernel_rfl
theorem tc4423 : TC 4 4 2 3 := fun x y z w d => by kernel_rfl
theorem tc4430 : TC 4 4 3 0 := fun x y z w d => by kernel_rfl
theorem tc4431 : TC 4 4 3 1 := fun x y z w d => by kernel_rfl
theorem tc4432 : TC 4 4 3 2 := fun x y z w d => by kernel_rfl
theorem tc4433 : TC 4 4 3 3 := fun x y z w d => by kernel_rfl
end Go.Proofs.YtlnffaalhedfmaaGreatDoor
