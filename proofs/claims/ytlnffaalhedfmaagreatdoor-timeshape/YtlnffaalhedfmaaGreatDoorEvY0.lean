import Derived.Test.YtlnffaalhedfmaaGreatDoorEvY
namespace Go.Proofs.YtlnffaalhedfmaaGreatDoor
open Go.Ev
set_option maxRecDepth 100000
theorem tc2110 : TC 2 1 1 0 := fun x y z w d => by kernel_rfl
theorem tc2210 : TC 2 2 1 0 := fun x y z w d => by kernel_rfl
theorem tc2211 : TC 2 2 1 1 := fun x y z w d => by kernel_rfl
theorem tc2310 : TC 2 3 1 0 := fun x y z w d => by kernel_rfl
theorem tc2311 : TC 2 3 1 1 := fun x y z w d => by kernel_rfl
theorem tc2312 : TC 2 3 1 2 := fun x y z w d => by kernel_rfl
theorem tc2410 : TC 2 4 1 0 := fun x y z w d => by kernel_rfl
theorem tc2411 : TC 2 4 1 1 := fun x y z w d => by kernel_rfl
theorem tc2412 : TC 2 4 1 2 := fun x y z w d => by kernel_rfl
theorem tc2413 : TC 2 4 1 3 := fun x y z w d => by kernel_rfl
theorem tc2510 : TC 2 5 1 0 := fun x y z w d => by kernel_rfl
theorem tc2511 : TC 2 5 1 1 := fun x y z w d => by kernel_rfl
theorem tc2512 : TC 2 5 1 2 := fun x y z w d => by kernel_rfl
theorem tc2513 : TC 2 5 1 3 := fun x y z w d => by kernel_rfl
theorem tc2514 : TC 2 5 1 4 := fun x y z w d => by kernel_rfl
theorem tc3110 : TC 3 1 1 0 := fun x y z w d => by kernel_rfl
theorem tc3120 : TC 3 1 2 0 := fun x y z w d => by kernel_rfl
theorem tc3210 : TC 3 2 1 0 := fun x y z w d => by kernel_rfl
theorem tc3211 : TC 3 2 1 1 := fun x y z w d => by kernel_rfl
theorem tc3220 : TC 3 2 2 0 := fun x y z w d => by kernel_rfl
theorem tc3221 : TC 3 2 2 1 := fun x y z w d => by kernel_rfl
theorem tc3310 : TC 3 3 1 0 := fun x y z w d => by kernel_rfl
theorem tc3311 : TC 3 3 1 1 := fun x y z w d => by kernel_rfl
theorem tc3312 : TC 3 3 1 2 := fun x y z w d => by kernel_rfl
theorem tc3320 : TC 3 3 2 0 := fun x y z w d => by kernel_rfl
end Go.Proofs.YtlnffaalhedfmaaGreatDoor
