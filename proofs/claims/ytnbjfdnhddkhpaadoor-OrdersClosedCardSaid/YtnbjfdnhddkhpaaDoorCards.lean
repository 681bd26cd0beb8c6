/-
  DERIVED. GIVEN WITH THE SEED: THE CARDS: each row of YtnbjfdnhddkhpaaDoorRows.lean that lists a variable, with what it lists TIED to the program's text (the seventh form; the later family's looks); each row that meets fmt, with fmt's text TOLD by the authors' own Lean function (tested against real Go, not proved from fmt's source: count such statements apart). THE CARD IS WHAT COUNTS. Prove the row's statement (the work); the ties are given (YtnbjfdnhddkhpaaDoorTie.lean); close each card by the builder's one call (the guide's Derived/Test/ToyasCard.lean, 'card_holds'). Laid BY PROGRAM, IN A SANDBOX (cutbox-door.mjs). By AI agents, Wed Nov 11 2026. No macro, syntax, notation, axiom, sorry.
-/
import Derived.Test.YtnbjfdnhddkhpaaDoorRows
import GoSem.ClaimSeven
namespace Go.Proofs.YtnbjfdnhddkhpaaDoor
namespace Rows

/-- THE TIED CARD OF 'cartouchelaw04.OrdersOf'. -/
def ordersOfCard : Claim7 := { stood := { row := ordersOfRow, standIns := [], harness := (true, "6d83f858f0776faf48cb2abd960f61602da0e058c3373d95605c206cb2e13d01"), looks := false }, kinds := [], alts := [], laidByText := true, laidKinds := [.data], laidTests := true, laidLooks := .later }
def OrdersOfCardSaid : Prop := Claim7.holds Tryd.pinned (.plain (OpenSpec.ofChange ordersOfSpec)) ordersOfCard

/-- THE TIED CARD OF 'cartouchelaw04.OrdersLeast'. -/
def ordersLeastCard : Claim7 := { stood := { row := ordersLeastRow, standIns := [], harness := (true, "6d83f858f0776faf48cb2abd960f61602da0e058c3373d95605c206cb2e13d01"), looks := false }, kinds := [], alts := [], laidByText := true, laidKinds := [.data], laidTests := true, laidLooks := .later }
def OrdersLeastCardSaid : Prop := Claim7.holds Tryd.pinned (.plain (OpenSpec.ofChange ordersLeastSpec)) ordersLeastCard

/-- THE TIED CARD OF 'cartouchelaw04.OrdersClosed'. -/
def ordersClosedCard : Claim7 := { stood := { row := ordersClosedRow, standIns := [], harness := (true, "6d83f858f0776faf48cb2abd960f61602da0e058c3373d95605c206cb2e13d01"), looks := false }, kinds := [], alts := [], laidByText := true, laidKinds := [.data], laidTests := true, laidLooks := .later }
def OrdersClosedCardSaid : Prop := Claim7.holds Tryd.pinned (.plain (OpenSpec.ofChange ordersClosedSpec)) ordersClosedCard

/-- THE TIED CARD OF 'cartouchelaw04.OrdersTurned'. -/
def ordersTurnedCard : Claim7 := { stood := { row := ordersTurnedRow, standIns := [], harness := (true, "6d83f858f0776faf48cb2abd960f61602da0e058c3373d95605c206cb2e13d01"), looks := false }, kinds := [], alts := [], laidByText := true, laidKinds := [.data], laidTests := true, laidLooks := .later }
def OrdersTurnedCardSaid : Prop := Claim7.holds Tryd.pinned (.plain (OpenSpec.ofChange ordersTurnedSpec)) ordersTurnedCard

/-- THE SECOND FORM's CARD OF 'cartouchelaw04.OrdersOf'. -/
def ordersOfUptoCard : Claim7 := { stood := { row := ordersOfUptoRow, standIns := [], harness := (true, "6d83f858f0776faf48cb2abd960f61602da0e058c3373d95605c206cb2e13d01"), looks := false }, kinds := [], alts := [], laidByText := true, laidKinds := [.data], laidTests := true, laidLooks := .later }
def OrdersOfUptoCardSaid : Prop := Claim7.holds Tryd.pinned (.plain (OpenSpec.upto ordersOfSpec)) ordersOfUptoCard

/-- THE SECOND FORM's CARD OF 'cartouchelaw04.OrdersLeast'. -/
def ordersLeastUptoCard : Claim7 := { stood := { row := ordersLeastUptoRow, standIns := [], harness := (true, "6d83f858f0776faf48cb2abd960f61602da0e058c3373d95605c206cb2e13d01"), looks := false }, kinds := [], alts := [], laidByText := true, laidKinds := [.data], laidTests := true, laidLooks := .later }
def OrdersLeastUptoCardSaid : Prop := Claim7.holds Tryd.pinned (.plain (OpenSpec.upto ordersLeastSpec)) ordersLeastUptoCard

/-- THE SECOND FORM's CARD OF 'cartouchelaw04.OrdersClosed'. -/
def ordersClosedUptoCard : Claim7 := { stood := { row := ordersClosedUptoRow, standIns := [], harness := (true, "6d83f858f0776faf48cb2abd960f61602da0e058c3373d95605c206cb2e13d01"), looks := false }, kinds := [], alts := [], laidByText := true, laidKinds := [.data], laidTests := true, laidLooks := .later }
def OrdersClosedUptoCardSaid : Prop := Claim7.holds Tryd.pinned (.plain (OpenSpec.upto ordersClosedSpec)) ordersClosedUptoCard

/-- THE SECOND FORM's CARD OF 'cartouchelaw04.OrdersTurned'. -/
def ordersTurnedUptoCard : Claim7 := { stood := { row := ordersTurnedUptoRow, standIns := [], harness := (true, "6d83f858f0776faf48cb2abd960f61602da0e058c3373d95605c206cb2e13d01"), looks := false }, kinds := [], alts := [], laidByText := true, laidKinds := [.data], laidTests := true, laidLooks := .later }
def OrdersTurnedUptoCardSaid : Prop := Claim7.holds Tryd.pinned (.plain (OpenSpec.upto ordersTurnedSpec)) ordersTurnedUptoCard
end Rows
end Go.Proofs.YtnbjfdnhddkhpaaDoor
