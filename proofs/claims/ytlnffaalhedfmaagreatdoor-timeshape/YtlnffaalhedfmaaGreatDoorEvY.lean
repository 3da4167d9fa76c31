/- TimeShape: the code parted where its numbers have been brought down to a few. -/
import Derived.Test.YtlnffaalhedfmaaGreatDoorEvFT
import Derived.Test.YtlnffaalhedfmaaGreatDoorEvL7
namespace Go.Proofs.YtlnffaalhedfmaaGreatDoor
open Go.Ev
set_option maxRecDepth 100000
def tsL : List BC := (spine 3 c5).1
def tsX : BC := .seq (.post (.reg []) [0, 1, 2, 3] [14, 10, 3, 0]) (seqR (seqR (spine 3 c5).2))
noncomputable def tsCk : CallK := callF FTl 1000000 1999
def tsP (n m a b : Int) (d : Nat → Int) : List V := [.i .i64 b, .i .i64 (d 0), .i .i64 (d 1), .i .i64 a, .i .i64 (d 2), .i .i64 (d 3), .i .i64 (d 4), .i .i64 (d 5), .i .i64 (d 6), .i .i64 (d 7), .i .i64 m, .i .i64 (d 8), .i .i64 (d 9), .i .i64 (d 10), .i .i64 n, .i .i64 (d 11), .i .i64 (d 12), .i .i64 (d 13)]
/-- The run of a case. -/
def TC (n m a b : Int) : Prop := ∀ (x y z w : Int) (d : Nat → Int), isS (execF tsCk 1000000 (nest tsL .skip) [.i .i64 x, .i .i64 y, .i .i64 z, .i .i64 w] h0 (fun env h => execF tsCk 1000000 tsX (tsP n m a b d ++ env) h noN noE kT) noE noR) = true
end Go.Proofs.YtlnffaalhedfmaaGreatDoor
