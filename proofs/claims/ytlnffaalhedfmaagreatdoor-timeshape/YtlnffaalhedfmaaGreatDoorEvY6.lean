import Derived.Test.YtlnffaalhedfmaaGreatDoorEvY
namespace Go.Proofs.YtlnffaalhedfmaaGreatDoor
open Go.Ev
set_option maxRecDepth 100000
theorem tc6110 : TC 6 1 1 0 := fun x y z w d => by kernel_rfl
theorem tc6120 : TC 6 1 2 0 := fun x y z w d => by kernel_rfl
theorem tc6130 : TC 6 1 3 0 := fun x y z w d => by kernel_rfl
theorem tc6140 : TC 6 1 4 0 := fun x y z w d => by kernel_rfl
theorem tc6150 : TC 6 1 5 0 := fun x y z w d => by kernel_rfl
theorem tc6210 : TC 6 2 1 0 := fun x y z w d => by kernel_rfl
theorem tc6211 : TC 6 2 1 1 := fun x y z w d => by kernel_rfl
theorem tc6220 : TC 6 2 2 0 := fun x y z w d => by kernel_rfl
theorem tc6221 : TC 6 2 2 1 := fun x y z w d => by kernel_rfl
theorem tc6230 : TC 6 2 3 0 := fun x y z w d => by kernel_rfl
theorem tc6231 : TC 6 2 3 1 := fun x y z w d => by kernel_rfl
theorem tc6240 : TC 6 2 4 0 := fun x y z w d => by kernel_rfl
theorem tc6241 : TC 6 2 4 1 := fun x y z w d => by kernel_rfl
theorem tc6250 : TC 6 2 5 0 := fun x y z w d => by kernel_rfl
theorem tc6251 : TC 6 2 5 1 := fun x y z w d => by kernel_rfl
theorem tc6310 : TC 6 3 1 0 := fun x y z w d => by kernel_rfl
theorem tc6311 : TC 6 3 1 1 := fun x y z w d => by kernel_rfl
theorem tc6312 : TC 6 3 1 2 := fun x y z w d => by kernel_rfl
theorem tc6320 : TC 6 3 2 0 := fun x y z w d => by kernel_rfl
theorem tc6321 : TC 6 3 2 1 := fun x y z w d => by kernel_rfl
theorem tc6322 : TC 6 3 2 2 := fun x y z w d => by kernel_rfl
theorem tc6330 : TC 6 3 3 0 := fun x y z w d => by kernel_rfl
theorem tc6331 : TC 6 3 3 1 := fun x y z w d => by kernel_rfl
theorem tc6332 : TC 6 3 3 2 := fun x y z w d => by kernel_rfl
theorem tc6340 : TC 6 3 4 0 := fun x y z w d => by kernel_rfl
end Go.Proofs.YtlnffaalhedfmaaGreatDoor
