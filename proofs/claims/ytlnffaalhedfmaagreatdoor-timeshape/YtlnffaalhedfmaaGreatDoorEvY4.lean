import Derived.Test.YtlnffaalhedfmaaGreatDoorEvY
namespace Go.Proofs.YtlnffaalhedfmaaGreatDoor
open Go.Ev
set_option maxRecDepth 100000
theorem tc5240 : TC 5 2 4 0 := fun x y z w d => by kernel_rfl
theorem tc5241 : TC 5 2 4 1 := fun x y z w d => by kernel_rfl
theorem tc5310 : TC 5 3 1 0 := fun x y z w d => by kernel_rfl
theorem tc5311 : TC 5 3 1 1 := fun x y z w d => by kernel_rfl
theorem tc5312 : TC 5 3 1 2 := fun x y z w d => by kernel_rfl
theorem tc5320 : TC 5 3 2 0 := fun x y z w d => by kernel_rfl
theorem tc5321 : TC 5 3 2 1 := fun x y z w d => by kernel_rfl
theorem tc5322 : TC 5 3 2 2 := fun x y z w d => by kernel_rfl
theorem tc5330 : TC 5 3 3 0 := fun x y z w d => by kernel_rfl
theorem tc5331 : TC 5 3 3 1 := fun x y z w d => by kernel_rfl
theorem tc5332 : TC 5 3 3 2 := fun x y z w d => by kernel_rfl
theorem tc5340 : TC 5 3 4 0 := fun x y z w d => by kernel_rfl
theorem tc5341 : TC 5 3 4 1 := fun x y z w d => by kernel_rfl
theorem tc5342 : TC 5 3 4 2 := fun x y z w d => by kernel_rfl
theorem tc5410 : TC 5 4 1 0 := fun x y z w d => by kernel_rfl
theorem tc5411 : TC 5 4 1 1 := fun x y z w d => by kernel_rfl
theorem tc5412 : TC 5 4 1 2 := fun x y z w d => by kernel_rfl
theorem tc5413 : TC 5 4 1 3 := fun x y z w d => by kernel_rfl
theorem tc5420 : TC 5 4 2 0 := fun x y z w d => by kernel_rfl
theorem tc5421 : TC 5 4 2 1 := fun x y z w d => by kernel_rfl
theorem tc5422 : TC 5 4 2 2 := fun x y z w d => by kernel_rfl
theorem tc5423 : TC 5 4 2 3 := fun x y z w d => by kernel_rfl
theorem tc5430 : TC 5 4 3 0 := fun x y z w d => by kernel_rfl
theorem tc5431 : TC 5 4 3 1 := fun x y z w d => by kernel_rfl
theorem tc5432 : TC 5 4 3 2 := fun x y z w d => by kernel_rfl
end Go.Proofs.YtlnffaalhedfmaaGreatDoor
