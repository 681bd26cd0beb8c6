/-
  DERIVED. GIVEN WITH THE SEED: THE CARDS: each row of YtappaokjlnpbnaaDoorRows.lean that lists a variable, with what it lists TIED to the program's text (the seventh form; the later family's looks); each row that meets fmt, with fmt's text TOLD by the authors' own Lean function (tested against real Go, not proved from fmt's source: count such statements apart). THE CARD IS WHAT COUNTS. Prove the row's statement (the work); the ties are given (YtappaokjlnpbnaaDoorTie.lean); close each card by the builder's one call (the guide's Derived/Test/ToyasCard.lean, 'card_holds'). Laid BY PROGRAM, IN A SANDBOX (cutbox-door.mjs). By AI agents, Wed Nov 11 2026. No macro, syntax, notation, axiom, sorry.
-/
import Derived.Test.YtappaokjlnpbnaaDoorRows
import GoSem.ClaimSeven
namespace Go.Proofs.YtappaokjlnpbnaaDoor
namespace Rows

/-- THE TIED CARD OF 'cartouchelaw05.LatticesTurns'. -/
def latticesTurnsCard : Claim7 := { stood := { row := latticesTurnsRow, standIns := [], harness := (true, "198308090d534daf7412ed880fbe8691d4f3e7947243d5d0fdef5875396683c6"), looks := false }, kinds := [], alts := [], laidByText := true, laidKinds := [.data], laidTests := true, laidLooks := .later }
def LatticesTurnsCardSaid : Prop := Claim7.holds Tryd.pinned (.plain (OpenSpec.ofChange latticesTurnsSpec)) latticesTurnsCard

/-- THE TIED CARD OF 'cartouchelaw05.LatticesOf'. -/
def latticesOfCard : Claim7 := { stood := { row := latticesOfRow, standIns := [], harness := (true, "198308090d534daf7412ed880fbe8691d4f3e7947243d5d0fdef5875396683c6"), looks := false }, kinds := [], alts := [], laidByText := true, laidKinds := [.data], laidTests := true, laidLooks := .later }
def LatticesOfCardSaid : Prop := Claim7.holds Tryd.pinned (.plain (OpenSpec.ofChange latticesOfSpec)) latticesOfCard

/-- THE TIED CARD OF 'cartouchelaw05.LatticesNone'. -/
def latticesNoneCard : Claim7 := { stood := { row := latticesNoneRow, standIns := [], harness := (true, "198308090d534daf7412ed880fbe8691d4f3e7947243d5d0fdef5875396683c6"), looks := false }, kinds := [], alts := [], laidByText := true, laidKinds := [.data], laidTests := true, laidLooks := .later }
def LatticesNoneCardSaid : Prop := Claim7.holds Tryd.pinned (.plain (OpenSpec.ofChange latticesNoneSpec)) latticesNoneCard

/-- THE TIED CARD OF 'cartouchelaw05.LatticesBelow'. -/
def latticesBelowCard : Claim7 := { stood := { row := latticesBelowRow, standIns := [], harness := (true, "198308090d534daf7412ed880fbe8691d4f3e7947243d5d0fdef5875396683c6"), looks := false }, kinds := [], alts := [], laidByText := true, laidKinds := [.data], laidTests := true, laidLooks := .later }
def LatticesBelowCardSaid : Prop := Claim7.holds Tryd.pinned (.plain (OpenSpec.ofChange latticesBelowSpec)) latticesBelowCard

/-- THE TIED CARD OF 'cartouchelaw05.LatticesBounds'. -/
def latticesBoundsCard : Claim7 := { stood := { row := latticesBoundsRow, standIns := [], harness := (true, "198308090d534daf7412ed880fbe8691d4f3e7947243d5d0fdef5875396683c6"), looks := false }, kinds := [], alts := [], laidByText := true, laidKinds := [.data], laidTests := true, laidLooks := .later }
def LatticesBoundsCardSaid : Prop := Claim7.holds Tryd.pinned (.plain (OpenSpec.ofChange latticesBoundsSpec)) latticesBoundsCard

/-- THE TIED CARD OF 'cartouchelaw10.BoundsTwo'. -/
def boundsTwoCard : Claim7 := { stood := { row := boundsTwoRow, standIns := [], harness := (true, "198308090d534daf7412ed880fbe8691d4f3e7947243d5d0fdef5875396683c6"), looks := false }, kinds := [], alts := [], laidByText := true, laidKinds := [.data], laidTests := true, laidLooks := .later }
def BoundsTwoCardSaid : Prop := Claim7.holds Tryd.pinned (.plain (OpenSpec.ofChange boundsTwoSpec)) boundsTwoCard

/-- THE TIED CARD OF 'cartouchelaw10.BoundsNone'. -/
def boundsNoneCard : Claim7 := { stood := { row := boundsNoneRow, standIns := [], harness := (true, "198308090d534daf7412ed880fbe8691d4f3e7947243d5d0fdef5875396683c6"), looks := false }, kinds := [], alts := [], laidByText := true, laidKinds := [.data], laidTests := true, laidLooks := .later }
def BoundsNoneCardSaid : Prop := Claim7.holds Tryd.pinned (.plain (OpenSpec.ofChange boundsNoneSpec)) boundsNoneCard

/-- THE TIED CARD OF 'cartouchelaw10.BoundsBetween'. -/
def boundsBetweenCard : Claim7 := { stood := { row := boundsBetweenRow, standIns := [], harness := (true, "198308090d534daf7412ed880fbe8691d4f3e7947243d5d0fdef5875396683c6"), looks := false }, kinds := [], alts := [], laidByText := true, laidKinds := [.data], laidTests := true, laidLooks := .later }
def BoundsBetweenCardSaid : Prop := Claim7.holds Tryd.pinned (.plain (OpenSpec.ofChange boundsBetweenSpec)) boundsBetweenCard

/-- THE TIED CARD OF 'cartouchelaw10.BoundsMore'. -/
def boundsMoreCard : Claim7 := { stood := { row := boundsMoreRow, standIns := [], harness := (true, "198308090d534daf7412ed880fbe8691d4f3e7947243d5d0fdef5875396683c6"), looks := false }, kinds := [], alts := [], laidByText := true, laidKinds := [.data], laidTests := true, laidLooks := .later }
def BoundsMoreCardSaid : Prop := Claim7.holds Tryd.pinned (.plain (OpenSpec.ofChange boundsMoreSpec)) boundsMoreCard

/-- THE TIED CARD OF 'cartouchelaw10.BoundsOrder'. -/
def boundsOrderCard : Claim7 := { stood := { row := boundsOrderRow, standIns := [], harness := (true, "198308090d534daf7412ed880fbe8691d4f3e7947243d5d0fdef5875396683c6"), looks := false }, kinds := [], alts := [], laidByText := true, laidKinds := [.data], laidTests := true, laidLooks := .later }
def BoundsOrderCardSaid : Prop := Claim7.holds Tryd.pinned (.plain (OpenSpec.ofChange boundsOrderSpec)) boundsOrderCard

/-- THE TIED CARD OF 'cartouchelaw10.BoundsGiven'. -/
def boundsGivenCard : Claim7 := { stood := { row := boundsGivenRow, standIns := [], harness := (true, "198308090d534daf7412ed880fbe8691d4f3e7947243d5d0fdef5875396683c6"), looks := false }, kinds := [], alts := [], laidByText := true, laidKinds := [.data], laidTests := true, laidLooks := .later }
def BoundsGivenCardSaid : Prop := Claim7.holds Tryd.pinned (.plain (OpenSpec.ofChange boundsGivenSpec)) boundsGivenCard

/-- THE TIED CARD OF 'cartouchelaw11.ReachesBelow'. -/
def reachesBelowCard : Claim7 := { stood := { row := reachesBelowRow, standIns := [], harness := (true, "198308090d534daf7412ed880fbe8691d4f3e7947243d5d0fdef5875396683c6"), looks := false }, kinds := [], alts := [], laidByText := true, laidKinds := [.data], laidTests := true, laidLooks := .later }
def ReachesBelowCardSaid : Prop := Claim7.holds Tryd.pinned (.plain (OpenSpec.ofChange reachesBelowSpec)) reachesBelowCard

/-- THE SECOND FORM's CARD OF 'cartouchelaw05.LatticesTurns'. -/
def latticesTurnsUptoCard : Claim7 := { stood := { row := latticesTurnsUptoRow, standIns := [], harness := (true, "198308090d534daf7412ed880fbe8691d4f3e7947243d5d0fdef5875396683c6"), looks := false }, kinds := [], alts := [], laidByText := true, laidKinds := [.data], laidTests := true, laidLooks := .later }
def LatticesTurnsUptoCardSaid : Prop := Claim7.holds Tryd.pinned (.plain (OpenSpec.upto latticesTurnsSpec)) latticesTurnsUptoCard

/-- THE SECOND FORM's CARD OF 'cartouchelaw05.LatticesOf'. -/
def latticesOfUptoCard : Claim7 := { stood := { row := latticesOfUptoRow, standIns := [], harness := (true, "198308090d534daf7412ed880fbe8691d4f3e7947243d5d0fdef5875396683c6"), looks := false }, kinds := [], alts := [], laidByText := true, laidKinds := [.data], laidTests := true, laidLooks := .later }
def LatticesOfUptoCardSaid : Prop := Claim7.holds Tryd.pinned (.plain (OpenSpec.upto latticesOfSpec)) latticesOfUptoCard

/-- THE SECOND FORM's CARD OF 'cartouchelaw05.LatticesNone'. -/
def latticesNoneUptoCard : Claim7 := { stood := { row := latticesNoneUptoRow, standIns := [], harness := (true, "198308090d534daf7412ed880fbe8691d4f3e7947243d5d0fdef5875396683c6"), looks := false }, kinds := [], alts := [], laidByText := true, laidKinds := [.data], laidTests := true, laidLooks := .later }
def LatticesNoneUptoCardSaid : Prop := Claim7.holds Tryd.pinned (.plain (OpenSpec.upto latticesNoneSpec)) latticesNoneUptoCard

/-- THE SECOND FORM's CARD OF 'cartouchelaw05.LatticesBelow'. -/
def latticesBelowUptoCard : Claim7 := { stood := { row := latticesBelowUptoRow, standIns := [], harness := (true, "198308090d534daf7412ed880fbe8691d4f3e7947243d5d0fdef5875396683c6"), looks := false }, kinds := [], alts := [], laidByText := true, laidKinds := [.data], laidTests := true, laidLooks := .later }
def LatticesBelowUptoCardSaid : Prop := Claim7.holds Tryd.pinned (.plain (OpenSpec.upto latticesBelowSpec)) latticesBelowUptoCard

/-- THE SECOND FORM's CARD OF 'cartouchelaw05.LatticesBounds'. -/
def latticesBoundsUptoCard : Claim7 := { stood := { row := latticesBoundsUptoRow, standIns := [], harness := (true, "198308090d534daf7412ed880fbe8691d4f3e7947243d5d0fdef5875396683c6"), looks := false }, kinds := [], alts := [], laidByText := true, laidKinds := [.data], laidTests := true, laidLooks := .later }
def LatticesBoundsUptoCardSaid : Prop := Claim7.holds Tryd.pinned (.plain (OpenSpec.upto latticesBoundsSpec)) latticesBoundsUptoCard

/-- THE SECOND FORM's CARD OF 'cartouchelaw10.BoundsTwo'. -/
def boundsTwoUptoCard : Claim7 := { stood := { row := boundsTwoUptoRow, standIns := [], harness := (true, "198308090d534daf7412ed880fbe8691d4f3e7947243d5d0fdef5875396683c6"), looks := false }, kinds := [], alts := [], laidByText := true, laidKinds := [.data], laidTests := true, laidLooks := .later }
def BoundsTwoUptoCardSaid : Prop := Claim7.holds Tryd.pinned (.plain (OpenSpec.upto boundsTwoSpec)) boundsTwoUptoCard

/-- THE SECOND FORM's CARD OF 'cartouchelaw10.BoundsNone'. -/
def boundsNoneUptoCard : Claim7 := { stood := { row := boundsNoneUptoRow, standIns := [], harness := (true, "198308090d534daf7412ed880fbe8691d4f3e7947243d5d0fdef5875396683c6"), looks := false }, kinds := [], alts := [], laidByText := true, laidKinds := [.data], laidTests := true, laidLooks := .later }
def BoundsNoneUptoCardSaid : Prop := Claim7.holds Tryd.pinned (.plain (OpenSpec.upto boundsNoneSpec)) boundsNoneUptoCard

/-- THE SECOND FORM's CARD OF 'cartouchelaw10.BoundsBetween'. -/
def boundsBetweenUptoCard : Claim7 := { stood := { row := boundsBetweenUptoRow, standIns := [], harness := (true, "198308090d534daf7412ed880fbe8691d4f3e7947243d5d0fdef5875396683c6"), looks := false }, kinds := [], alts := [], laidByText := true, laidKinds := [.data], laidTests := true, laidLooks := .later }
def BoundsBetweenUptoCardSaid : Prop := Claim7.holds Tryd.pinned (.plain (OpenSpec.upto boundsBetweenSpec)) boundsBetweenUptoCard

/-- THE SECOND FORM's CARD OF 'cartouchelaw10.BoundsMore'. -/
def boundsMoreUptoCard : Claim7 := { stood := { row := boundsMoreUptoRow, standIns := [], harness := (true, "198308090d534daf7412ed880fbe8691d4f3e7947243d5d0fdef5875396683c6"), looks := false }, kinds := [], alts := [], laidByText := true, laidKinds := [.data], laidTests := true, laidLooks := .later }
def BoundsMoreUptoCardSaid : Prop := Claim7.holds Tryd.pinned (.plain (OpenSpec.upto boundsMoreSpec)) boundsMoreUptoCard

/-- THE SECOND FORM's CARD OF 'cartouchelaw10.BoundsOrder'. -/
def boundsOrderUptoCard : Claim7 := { stood := { row := boundsOrderUptoRow, standIns := [], harness := (true, "198308090d534daf7412ed880fbe8691d4f3e7947243d5d0fdef5875396683c6"), looks := false }, kinds := [], alts := [], laidByText := true, laidKinds := [.data], laidTests := true, laidLooks := .later }
def BoundsOrderUptoCardSaid : Prop := Claim7.holds Tryd.pinned (.plain (OpenSpec.upto boundsOrderSpec)) boundsOrderUptoCard

/-- THE SECOND FORM's CARD OF 'cartouchelaw10.BoundsGiven'. -/
def boundsGivenUptoCard : Claim7 := { stood := { row := boundsGivenUptoRow, standIns := [], harness := (true, "198308090d534daf7412ed880fbe8691d4f3e7947243d5d0fdef5875396683c6"), looks := false }, kinds := [], alts := [], laidByText := true, laidKinds := [.data], laidTests := true, laidLooks := .later }
def BoundsGivenUptoCardSaid : Prop := Claim7.holds Tryd.pinned (.plain (OpenSpec.upto boundsGivenSpec)) boundsGivenUptoCard

/-- THE SECOND FORM's CARD OF 'cartouchelaw11.ReachesBelow'. -/
def reachesBelowUptoCard : Claim7 := { stood := { row := reachesBelowUptoRow, standIns := [], harness := (true, "198308090d534daf7412ed880fbe8691d4f3e7947243d5d0fdef5875396683c6"), looks := false }, kinds := [], alts := [], laidByText := true, laidKinds := [.data], laidTests := true, laidLooks := .later }
def ReachesBelowUptoCardSaid : Prop := Claim7.holds Tryd.pinned (.plain (OpenSpec.upto reachesBelowSpec)) reachesBelowUptoCard
end Rows
end Go.Proofs.YtappaokjlnpbnaaDoor
