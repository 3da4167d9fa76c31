import Derived.Test.YtlnffaalhedfmaaGreatDoorEvRR
import Derived.Test.YtlnffaalhedfmaaGreatDoorEvR0
import Derived.Test.YtlnffaalhedfmaaGreatDoorEvR1
import Derived.Test.YtlnffaalhedfmaaGreatDoorEvR2
import Derived.Test.YtlnffaalhedfmaaGreatDoorEvR3
import Derived.Test.YtlnffaalhedfmaaGreatDoorEvR4
import Derived.Test.YtlnffaalhedfmaaGreatDoorEvR5
namespace Go.Proofs.YtlnffaalhedfmaaGreatDoor
open Go.Ev
set_option maxRecDepth 100000
theorem ftAll0 : TrAll (FGood Tryz.prog T) FT0 id := ftAllp fg26 fg27 fg11 fg24 fg8 fg18
theorem pk0 : PrimOK Tryz.prog 11 p0 := primM_ok tok mix ftAll0 r0 (by kernel_rfl)
theorem qk11x0 : PrimOK Tryz.prog 11 q11x0 := orF_ok pk0 (codeP_ok tok mix ftAll0 _ _ _)
theorem ftAll1 : TrAll (FGood Tryz.prog T) FT1 id := ftAllp fg26 fg27 ⟨Tryz.call11, qk11x0⟩ fg24 fg8 fg18
theorem pk1 : PrimOK Tryz.prog 27 p1 := primQ_ok tok mix ftAll1 r1 (by kernel_rfl) (by kernel_rfl)
theorem qk27x1 : PrimOK Tryz.prog 27 q27x1 := orF_ok pk1 (codeP_ok tok mix ftAll1 _ _ _)
theorem ftAll2 : TrAll (FGood Tryz.prog T) FT2 id := ftAllp fg26 ⟨Tryz.call27, qk27x1⟩ ⟨Tryz.call11, qk11x0⟩ fg24 fg8 fg18
theorem pk2 : PrimOK Tryz.prog 26 p2 := primQ_ok tok mix ftAll2 r2 (by kernel_rfl) (by kernel_rfl)
theorem qk26x2 : PrimOK Tryz.prog 26 q26x2 := orF_ok pk2 (codeP_ok tok mix ftAll2 _ _ _)
theorem ftAll3 : TrAll (FGood Tryz.prog T) FT3 id := ftAllp ⟨Tryz.call26, qk26x2⟩ ⟨Tryz.call27, qk27x1⟩ ⟨Tryz.call11, qk11x0⟩ fg24 fg8 fg18
theorem pk3 : PrimOK Tryz.prog 11 p3 := primM_ok tok mix ftAll3 r3 (by kernel_rfl)
theorem qk11x3 : PrimOK Tryz.prog 11 q11x3 := orF_ok pk3 qk11x0
theorem ftAll4 : TrAll (FGood Tryz.prog T) FT4 id := ftAllp ⟨Tryz.call26, qk26x2⟩ ⟨Tryz.call27, qk27x1⟩ ⟨Tryz.call11, qk11x3⟩ fg24 fg8 fg18
theorem pk4 : PrimOK Tryz.prog 24 p4 := primQ_ok tok mix ftAll4 r4 (by kernel_rfl) (by kernel_rfl)
theorem qk24x4 : PrimOK Tryz.prog 24 q24x4 := orF_ok pk4 (codeP_ok tok mix ftAll4 _ _ _)
theorem ftAll5 : TrAll (FGood Tryz.prog T) FT5 id := ftAllp ⟨Tryz.call26, qk26x2⟩ ⟨Tryz.call27, qk27x1⟩ ⟨Tryz.call11, qk11x3⟩ ⟨Tryz.call24, qk24x4⟩ fg8 fg18
theorem pk5 : PrimOK Tryz.prog 8 p5 := primQ_ok tok mix ftAll5 r5 (by kernel_rfl) (by kernel_rfl)
theorem qk8x5 : PrimOK Tryz.prog 8 q8x5 := orF_ok pk5 (codeP_ok tok mix ftAll5 _ _ _)
theorem ftAll6 : TrAll (FGood Tryz.prog T) FT6 id := ftAllp ⟨Tryz.call26, qk26x2⟩ ⟨Tryz.call27, qk27x1⟩ ⟨Tryz.call11, qk11x3⟩ ⟨Tryz.call24, qk24x4⟩ ⟨Tryz.call8, qk8x5⟩ fg18
theorem ftAllLast : TrAll (FGood Tryz.prog T) FT6 id := ftAll6
end Go.Proofs.YtlnffaalhedfmaaGreatDoor
