import Derived.Test.YtnhamnljhgmheaaGreatDoorEvRR
import Derived.Test.YtnhamnljhgmheaaGreatDoorEvR0
import Derived.Test.YtnhamnljhgmheaaGreatDoorEvR1
import Derived.Test.YtnhamnljhgmheaaGreatDoorEvR2
import Derived.Test.YtnhamnljhgmheaaGreatDoorEvR3
import Derived.Test.YtnhamnljhgmheaaGreatDoorEvR4
import Derived.Test.YtnhamnljhgmheaaGreatDoorEvR5
namespace Go.Proofs.YtnhamnljhgmheaaGreatDoor
open Go.Ev
set_option maxRecDepth 100000
theorem ftAll0 : TrAll (FGood Tryz.prog T) FT0 id := ftAllp fg14 fg13 fg5 fg40 fg12
theorem pk0 : PrimOK Tryz.prog 5 p0 := primM_ok tok mix ftAll0 r0 (by kernel_rfl)
theorem qk5x0 : PrimOK Tryz.prog 5 q5x0 := orF_ok pk0 (codeP_ok tok mix ftAll0 _ _ _)
theorem ftAll1 : TrAll (FGood Tryz.prog T) FT1 id := ftAllp fg14 fg13 ⟨Tryz.call5, qk5x0⟩ fg40 fg12
theorem pk1 : PrimOK Tryz.prog 13 p1 := primQ_ok tok mix ftAll1 r1 (by kernel_rfl) (by kernel_rfl)
theorem qk13x1 : PrimOK Tryz.prog 13 q13x1 := orF_ok pk1 (codeP_ok tok mix ftAll1 _ _ _)
theorem ftAll2 : TrAll (FGood Tryz.prog T) FT2 id := ftAllp fg14 ⟨Tryz.call13, qk13x1⟩ ⟨Tryz.call5, qk5x0⟩ fg40 fg12
theorem pk2 : PrimOK Tryz.prog 14 p2 := primQ_ok tok mix ftAll2 r2 (by kernel_rfl) (by kernel_rfl)
theorem qk14x2 : PrimOK Tryz.prog 14 q14x2 := orF_ok pk2 (codeP_ok tok mix ftAll2 _ _ _)
theorem ftAll3 : TrAll (FGood Tryz.prog T) FT3 id := ftAllp ⟨Tryz.call14, qk14x2⟩ ⟨Tryz.call13, qk13x1⟩ ⟨Tryz.call5, qk5x0⟩ fg40 fg12
theorem pk3 : PrimOK Tryz.prog 5 p3 := primM_ok tok mix ftAll3 r3 (by kernel_rfl)
theorem qk5x3 : PrimOK Tryz.prog 5 q5x3 := orF_ok pk3 qk5x0
theorem ftAll4 : TrAll (FGood Tryz.prog T) FT4 id := ftAllp ⟨Tryz.call14, qk14x2⟩ ⟨Tryz.call13, qk13x1⟩ ⟨Tryz.call5, qk5x3⟩ fg40 fg12
theorem pk4 : PrimOK Tryz.prog 40 p4 := primQ_ok tok mix ftAll4 r4 (by kernel_rfl) (by kernel_rfl)
theorem qk40x4 : PrimOK Tryz.prog 40 q40x4 := orF_ok pk4 (codeP_ok tok mix ftAll4 _ _ _)
theorem ftAll5 : TrAll (FGood Tryz.prog T) FT5 id := ftAllp ⟨Tryz.call14, qk14x2⟩ ⟨Tryz.call13, qk13x1⟩ ⟨Tryz.call5, qk5x3⟩ ⟨Tryz.call40, qk40x4⟩ fg12
theorem pk5 : PrimOK Tryz.prog 12 p5 := primQ_ok tok mix ftAll5 r5 (by kernel_rfl) (by kernel_rfl)
theorem qk12x5 : PrimOK Tryz.prog 12 q12x5 := orF_ok pk5 (codeP_ok tok mix ftAll5 _ _ _)
theorem ftAll6 : TrAll (FGood Tryz.prog T) FT6 id := ftAllp ⟨Tryz.call14, qk14x2⟩ ⟨Tryz.call13, qk13x1⟩ ⟨Tryz.call5, qk5x3⟩ ⟨Tryz.call40, qk40x4⟩ ⟨Tryz.call12, qk12x5⟩
theorem ftAllLast : TrAll (FGood Tryz.prog T) FT6 id := ftAll6
end Go.Proofs.YtnhamnljhgmheaaGreatDoor
