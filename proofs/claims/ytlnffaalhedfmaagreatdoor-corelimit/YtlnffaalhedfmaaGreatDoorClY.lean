/- CoreLimit: the code parted where its numbers have been brought down to a few. -/
import Derived.Test.YtlnffaalhedfmaaGreatDoorClFT
import Derived.Test.YtlnffaalhedfmaaGreatDoorClL7
namespace Go.Proofs.YtlnffaalhedfmaaGreatDoor
open Go.Ev
set_option maxRecDepth 100000
def clL : List BC := (spine 3 c4).1
def clX : BC := .seq (.post (.reg []) [0, 1] [4, 0]) (seqR (spine 3 c4).2)
noncomputable def clCk : CallK := callF FTl 1000000 1999
def clP (n m : Int) (d : Nat → Int) : List V := [.i .i64 m, .i .i64 (d 0), .i .i64 (d 1), .i .i64 (d 2), .i .i64 n, .i .i64 (d 3), .i .i64 (d 4), .i .i64 (d 5)]
/-- The run of a case. -/
def CC (n m : Int) : Prop := ∀ (x y : Int) (d : Nat → Int), isS (execF clCk 1000000 (nest clL .skip) [.i .i64 x, .i .i64 y] h0 (fun env h => execF clCk 1000000 clX (clP n m d ++ env) h noN noE kT) noE noR) = true
end Go.Proofs.YtlnffaalhedfmaaGreatDoor
