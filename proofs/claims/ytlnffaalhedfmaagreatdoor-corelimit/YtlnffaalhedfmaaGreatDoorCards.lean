/-
  DERIVED. GIVEN WITH THE SEED: THE CARDS: each row of YtlnffaalhedfmaaGreatDoorRows.lean that lists a variable, with what it lists TIED to the program's text (the seventh form; the later family's looks); each row that meets fmt, with fmt's text TOLD by the authors' own Lean function (tested against real Go, not proved from fmt's source: count such statements apart). THE CARD IS WHAT COUNTS. Prove the row's statement (the work); the ties are given (YtlnffaalhedfmaaGreatDoorTie.lean); close each card by the builder's one call (the guide's Derived/Test/ToyasCard.lean, 'card_holds'). Laid BY PROGRAM, IN A SANDBOX (cutbox-door.mjs). By AI agents, Wed Nov 11 2026. No macro, syntax, notation, axiom, sorry.
-/
import Derived.Test.YtlnffaalhedfmaaGreatDoorRows
import GoSem.ClaimSeven
namespace Go.Proofs.YtlnffaalhedfmaaGreatDoor
namespace Rows

/-- THE TIED CARD OF 'victuallerlaw7.WordsLimit'. -/
def wordsLimitCard : Claim7 := { stood := { row := wordsLimitRow, standIns := [], harness := (true, "ddc2490f9b861b5ba453c0cc51ed63a5c66e93b0bc943f581c06aeeca66c6246"), looks := true }, kinds := [], alts := [], laidByText := true, laidKinds := [.data, .data, .data, .data, .sentinel, .sentinel, .pinned], laidTests := true, laidLooks := .later }
def WordsLimitCardSaid : Prop := Claim7.holds Tryz.pinned (.plain (OpenSpec.ofChange wordsLimitSpec)) wordsLimitCard

/-- THE TIED CARD OF 'victuallerlaw7.CoreLimit'. -/
def coreLimitCard : Claim7 := { stood := { row := coreLimitRow, standIns := [], harness := (true, "ddc2490f9b861b5ba453c0cc51ed63a5c66e93b0bc943f581c06aeeca66c6246"), looks := true }, kinds := [], alts := [], laidByText := true, laidKinds := [.data, .data, .data, .data, .sentinel, .sentinel, .pinned], laidTests := true, laidLooks := .later }
def CoreLimitCardSaid : Prop := Claim7.holds Tryz.pinned (.plain (OpenSpec.ofChange coreLimitSpec)) coreLimitCard

/-- THE TIED CARD OF 'victuallerlaw7.TimeShape'. -/
def timeShapeCard : Claim7 := { stood := { row := timeShapeRow, standIns := [], harness := (true, "ddc2490f9b861b5ba453c0cc51ed63a5c66e93b0bc943f581c06aeeca66c6246"), looks := true }, kinds := [], alts := [], laidByText := true, laidKinds := [.data, .data, .data, .data, .sentinel, .sentinel, .pinned], laidTests := true, laidLooks := .later }
def TimeShapeCardSaid : Prop := Claim7.holds Tryz.pinned (.plain (OpenSpec.ofChange timeShapeSpec)) timeShapeCard

/-- THE TIED CARD OF 'victuallerlaw7.SplitBad'. -/
def splitBadCard : Claim7 := { stood := { row := splitBadRow, standIns := [], harness := (true, "ddc2490f9b861b5ba453c0cc51ed63a5c66e93b0bc943f581c06aeeca66c6246"), looks := true }, kinds := [], alts := [], laidByText := true, laidKinds := [.data, .data, .data, .data, .sentinel, .sentinel, .pinned], laidTests := true, laidLooks := .later }
def SplitBadCardSaid : Prop := Claim7.holds Tryz.pinned (.plain (OpenSpec.ofChange splitBadSpec)) splitBadCard

/-- THE TIED CARD OF 'victuallerlaw7.TreeOwn'. -/
def treeOwnCard : Claim7 := { stood := { row := treeOwnRow, standIns := [], harness := (true, "ddc2490f9b861b5ba453c0cc51ed63a5c66e93b0bc943f581c06aeeca66c6246"), looks := true }, kinds := [], alts := [], laidByText := true, laidKinds := [.data, .data, .data, .data, .sentinel, .sentinel, .pinned], laidTests := true, laidLooks := .later }
def TreeOwnCardSaid : Prop := Claim7.holds Tryz.pinned (.plain (OpenSpec.ofChange treeOwnSpec)) treeOwnCard

/-- THE SECOND FORM's CARD OF 'victuallerlaw7.WordsLimit'. -/
def wordsLimitUptoCard : Claim7 := { stood := { row := wordsLimitUptoRow, standIns := [], harness := (true, "ddc2490f9b861b5ba453c0cc51ed63a5c66e93b0bc943f581c06aeeca66c6246"), looks := true }, kinds := [], alts := [], laidByText := true, laidKinds := [.data, .data, .data, .data, .sentinel, .sentinel, .pinned], laidTests := true, laidLooks := .later }
def WordsLimitUptoCardSaid : Prop := Claim7.holds Tryz.pinned (.plain (OpenSpec.upto wordsLimitSpec)) wordsLimitUptoCard

/-- THE SECOND FORM's CARD OF 'victuallerlaw7.CoreLimit'. -/
def coreLimitUptoCard : Claim7 := { stood := { row := coreLimitUptoRow, standIns := [], harness := (true, "ddc2490f9b861b5ba453c0cc51ed63a5c66e93b0bc943f581c06aeeca66c6246"), looks := true }, kinds := [], alts := [], laidByText := true, laidKinds := [.data, .data, .data, .data, .sentinel, .sentinel, .pinned], laidTests := true, laidLooks := .later }
def CoreLimitUptoCardSaid : Prop := Claim7.holds Tryz.pinned (.plain (OpenSpec.upto coreLimitSpec)) coreLimitUptoCard

/-- THE SECOND FORM's CARD OF 'victuallerlaw7.TimeShape'. -/
def timeShapeUptoCard : Claim7 := { stood := { row := timeShapeUptoRow, standIns := [], harness := (true, "ddc2490f9b861b5ba453c0cc51ed63a5c66e93b0bc943f581c06aeeca66c6246"), looks := true }, kinds := [], alts := [], laidByText := true, laidKinds := [.data, .data, .data, .data, .sentinel, .sentinel, .pinned], laidTests := true, laidLooks := .later }
def TimeShapeUptoCardSaid : Prop := Claim7.holds Tryz.pinned (.plain (OpenSpec.upto timeShapeSpec)) timeShapeUptoCard

/-- THE SECOND FORM's CARD OF 'victuallerlaw7.SplitBad'. -/
def splitBadUptoCard : Claim7 := { stood := { row := splitBadUptoRow, standIns := [], harness := (true, "ddc2490f9b861b5ba453c0cc51ed63a5c66e93b0bc943f581c06aeeca66c6246"), looks := true }, kinds := [], alts := [], laidByText := true, laidKinds := [.data, .data, .data, .data, .sentinel, .sentinel, .pinned], laidTests := true, laidLooks := .later }
def SplitBadUptoCardSaid : Prop := Claim7.holds Tryz.pinned (.plain (OpenSpec.upto splitBadSpec)) splitBadUptoCard

/-- THE SECOND FORM's CARD OF 'victuallerlaw7.TreeOwn'. -/
def treeOwnUptoCard : Claim7 := { stood := { row := treeOwnUptoRow, standIns := [], harness := (true, "ddc2490f9b861b5ba453c0cc51ed63a5c66e93b0bc943f581c06aeeca66c6246"), looks := true }, kinds := [], alts := [], laidByText := true, laidKinds := [.data, .data, .data, .data, .sentinel, .sentinel, .pinned], laidTests := true, laidLooks := .later }
def TreeOwnUptoCardSaid : Prop := Claim7.holds Tryz.pinned (.plain (OpenSpec.upto treeOwnSpec)) treeOwnUptoCard
end Rows
end Go.Proofs.YtlnffaalhedfmaaGreatDoor
