/-
  DERIVED. GIVEN WITH THE SEED: THE CARDS: each row of YtmbpjpffafidhaaGreatDoorRows.lean that lists a variable, with what it lists TIED to the program's text (the seventh form; the later family's looks); each row that meets fmt, with fmt's text TOLD by the authors' own Lean function (tested against real Go, not proved from fmt's source: count such statements apart). THE CARD IS WHAT COUNTS. Prove the row's statement (the work); the ties are given (YtmbpjpffafidhaaGreatDoorTie.lean); close each card by the builder's one call (the guide's Derived/Test/ToyasCard.lean, 'card_holds'). Laid BY PROGRAM, IN A SANDBOX (cutbox-door.mjs). By AI agents, Wed Nov 11 2026. No macro, syntax, notation, axiom, sorry.
-/
import Derived.Test.YtmbpjpffafidhaaGreatDoorRows
import GoSem.ClaimSeven
namespace Go.Proofs.YtmbpjpffafidhaaGreatDoor
namespace Rows

/-- THE TIED CARD OF 'victuallerlaw7.WordsAll'. -/
def wordsAllCard : Claim7 := { stood := { row := wordsAllRow, standIns := [], harness := (true, "fd52e6359a6987fcfda76ddeda0ae4ed58ed360a3852fb6ba6532d54adb42df8"), looks := true }, kinds := [], alts := [], laidByText := true, laidKinds := [.data, .data, .data, .data, .sentinel, .sentinel, .pinned], laidTests := true, laidLooks := .later }
def WordsAllCardSaid : Prop := Claim7.holds Tryz.pinned (.plain (OpenSpec.ofChange wordsAllSpec)) wordsAllCard

/-- THE TIED CARD OF 'victuallerlaw7.WordsBlank'. -/
def wordsBlankCard : Claim7 := { stood := { row := wordsBlankRow, standIns := [], harness := (true, "fd52e6359a6987fcfda76ddeda0ae4ed58ed360a3852fb6ba6532d54adb42df8"), looks := true }, kinds := [], alts := [], laidByText := true, laidKinds := [.data, .data, .data, .data, .sentinel, .sentinel, .pinned], laidTests := true, laidLooks := .later }
def WordsBlankCardSaid : Prop := Claim7.holds Tryz.pinned (.plain (OpenSpec.ofChange wordsBlankSpec)) wordsBlankCard

/-- THE TIED CARD OF 'victuallerlaw7.SplitRange'. -/
def splitRangeCard : Claim7 := { stood := { row := splitRangeRow, standIns := [], harness := (true, "fd52e6359a6987fcfda76ddeda0ae4ed58ed360a3852fb6ba6532d54adb42df8"), looks := true }, kinds := [], alts := [], laidByText := true, laidKinds := [.data, .data, .data, .data, .sentinel, .sentinel, .pinned], laidTests := true, laidLooks := .later }
def SplitRangeCardSaid : Prop := Claim7.holds Tryz.pinned (.plain (OpenSpec.ofChange splitRangeSpec)) splitRangeCard

/-- THE TIED CARD OF 'victuallerlaw7.TreeProduct'. -/
def treeProductCard : Claim7 := { stood := { row := treeProductRow, standIns := [], harness := (true, "fd52e6359a6987fcfda76ddeda0ae4ed58ed360a3852fb6ba6532d54adb42df8"), looks := true }, kinds := [], alts := [], laidByText := true, laidKinds := [.data, .data, .data, .data, .sentinel, .sentinel, .pinned], laidTests := true, laidLooks := .later }
def TreeProductCardSaid : Prop := Claim7.holds Tryz.pinned (.plain (OpenSpec.ofChange treeProductSpec)) treeProductCard

/-- THE TIED CARD OF 'victuallerlaw7.TreeLaid'. -/
def treeLaidCard : Claim7 := { stood := { row := treeLaidRow, standIns := [], harness := (true, "fd52e6359a6987fcfda76ddeda0ae4ed58ed360a3852fb6ba6532d54adb42df8"), looks := true }, kinds := [], alts := [], laidByText := true, laidKinds := [.data, .data, .data, .data, .sentinel, .sentinel, .pinned], laidTests := true, laidLooks := .later }
def TreeLaidCardSaid : Prop := Claim7.holds Tryz.pinned (.plain (OpenSpec.ofChange treeLaidSpec)) treeLaidCard

/-- THE TIED CARD OF 'victuallerlaw7.StochProb'. -/
def stochProbCard : Claim7 := { stood := { row := stochProbRow, standIns := [], harness := (true, "fd52e6359a6987fcfda76ddeda0ae4ed58ed360a3852fb6ba6532d54adb42df8"), looks := true }, kinds := [], alts := [], laidByText := true, laidKinds := [.data, .data, .data, .data, .sentinel, .sentinel, .pinned], laidTests := true, laidLooks := .later }
def StochProbCardSaid : Prop := Claim7.holds Tryz.pinned (.plain (OpenSpec.ofChange stochProbSpec)) stochProbCard

/-- THE TIED CARD OF 'victuallerlaw7.CoreMark'. -/
def coreMarkCard : Claim7 := { stood := { row := coreMarkRow, standIns := [], harness := (true, "fd52e6359a6987fcfda76ddeda0ae4ed58ed360a3852fb6ba6532d54adb42df8"), looks := true }, kinds := [], alts := [], laidByText := true, laidKinds := [.data, .data, .data, .data, .sentinel, .sentinel, .pinned], laidTests := true, laidLooks := .later }
def CoreMarkCardSaid : Prop := Claim7.holds Tryz.pinned (.plain (OpenSpec.ofChange coreMarkSpec)) coreMarkCard

/-- THE SECOND FORM's CARD OF 'victuallerlaw7.WordsAll'. -/
def wordsAllUptoCard : Claim7 := { stood := { row := wordsAllUptoRow, standIns := [], harness := (true, "fd52e6359a6987fcfda76ddeda0ae4ed58ed360a3852fb6ba6532d54adb42df8"), looks := true }, kinds := [], alts := [], laidByText := true, laidKinds := [.data, .data, .data, .data, .sentinel, .sentinel, .pinned], laidTests := true, laidLooks := .later }
def WordsAllUptoCardSaid : Prop := Claim7.holds Tryz.pinned (.plain (OpenSpec.upto wordsAllSpec)) wordsAllUptoCard

/-- THE SECOND FORM's CARD OF 'victuallerlaw7.WordsBlank'. -/
def wordsBlankUptoCard : Claim7 := { stood := { row := wordsBlankUptoRow, standIns := [], harness := (true, "fd52e6359a6987fcfda76ddeda0ae4ed58ed360a3852fb6ba6532d54adb42df8"), looks := true }, kinds := [], alts := [], laidByText := true, laidKinds := [.data, .data, .data, .data, .sentinel, .sentinel, .pinned], laidTests := true, laidLooks := .later }
def WordsBlankUptoCardSaid : Prop := Claim7.holds Tryz.pinned (.plain (OpenSpec.upto wordsBlankSpec)) wordsBlankUptoCard

/-- THE SECOND FORM's CARD OF 'victuallerlaw7.SplitRange'. -/
def splitRangeUptoCard : Claim7 := { stood := { row := splitRangeUptoRow, standIns := [], harness := (true, "fd52e6359a6987fcfda76ddeda0ae4ed58ed360a3852fb6ba6532d54adb42df8"), looks := true }, kinds := [], alts := [], laidByText := true, laidKinds := [.data, .data, .data, .data, .sentinel, .sentinel, .pinned], laidTests := true, laidLooks := .later }
def SplitRangeUptoCardSaid : Prop := Claim7.holds Tryz.pinned (.plain (OpenSpec.upto splitRangeSpec)) splitRangeUptoCard

/-- THE SECOND FORM's CARD OF 'victuallerlaw7.TreeProduct'. -/
def treeProductUptoCard : Claim7 := { stood := { row := treeProductUptoRow, standIns := [], harness := (true, "fd52e6359a6987fcfda76ddeda0ae4ed58ed360a3852fb6ba6532d54adb42df8"), looks := true }, kinds := [], alts := [], laidByText := true, laidKinds := [.data, .data, .data, .data, .sentinel, .sentinel, .pinned], laidTests := true, laidLooks := .later }
def TreeProductUptoCardSaid : Prop := Claim7.holds Tryz.pinned (.plain (OpenSpec.upto treeProductSpec)) treeProductUptoCard

/-- THE SECOND FORM's CARD OF 'victuallerlaw7.TreeLaid'. -/
def treeLaidUptoCard : Claim7 := { stood := { row := treeLaidUptoRow, standIns := [], harness := (true, "fd52e6359a6987fcfda76ddeda0ae4ed58ed360a3852fb6ba6532d54adb42df8"), looks := true }, kinds := [], alts := [], laidByText := true, laidKinds := [.data, .data, .data, .data, .sentinel, .sentinel, .pinned], laidTests := true, laidLooks := .later }
def TreeLaidUptoCardSaid : Prop := Claim7.holds Tryz.pinned (.plain (OpenSpec.upto treeLaidSpec)) treeLaidUptoCard

/-- THE SECOND FORM's CARD OF 'victuallerlaw7.StochProb'. -/
def stochProbUptoCard : Claim7 := { stood := { row := stochProbUptoRow, standIns := [], harness := (true, "fd52e6359a6987fcfda76ddeda0ae4ed58ed360a3852fb6ba6532d54adb42df8"), looks := true }, kinds := [], alts := [], laidByText := true, laidKinds := [.data, .data, .data, .data, .sentinel, .sentinel, .pinned], laidTests := true, laidLooks := .later }
def StochProbUptoCardSaid : Prop := Claim7.holds Tryz.pinned (.plain (OpenSpec.upto stochProbSpec)) stochProbUptoCard

/-- THE SECOND FORM's CARD OF 'victuallerlaw7.CoreMark'. -/
def coreMarkUptoCard : Claim7 := { stood := { row := coreMarkUptoRow, standIns := [], harness := (true, "fd52e6359a6987fcfda76ddeda0ae4ed58ed360a3852fb6ba6532d54adb42df8"), looks := true }, kinds := [], alts := [], laidByText := true, laidKinds := [.data, .data, .data, .data, .sentinel, .sentinel, .pinned], laidTests := true, laidLooks := .later }
def CoreMarkUptoCardSaid : Prop := Claim7.holds Tryz.pinned (.plain (OpenSpec.upto coreMarkSpec)) coreMarkUptoCard
end Rows
end Go.Proofs.YtmbpjpffafidhaaGreatDoor
