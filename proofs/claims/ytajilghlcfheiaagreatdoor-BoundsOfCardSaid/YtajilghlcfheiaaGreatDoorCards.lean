/-
  DERIVED. GIVEN WITH THE SEED: THE CARDS: each row of YtajilghlcfheiaaGreatDoorRows.lean that lists a variable, with what it lists TIED to the program's text (the seventh form; the later family's looks); each row that meets fmt, with fmt's text TOLD by the authors' own Lean function (tested against real Go, not proved from fmt's source: count such statements apart). THE CARD IS WHAT COUNTS. Prove the row's statement (the work); the ties are given (YtajilghlcfheiaaGreatDoorTie.lean); close each card by the builder's one call (the guide's Derived/Test/ToyasCard.lean, 'card_holds'). Laid BY PROGRAM, IN A SANDBOX (cutbox-door.mjs). By AI agents, Wed Nov 11 2026. No macro, syntax, notation, axiom, sorry.
-/
import Derived.Test.YtajilghlcfheiaaGreatDoorRows
import GoSem.ClaimSeven
namespace Go.Proofs.YtajilghlcfheiaaGreatDoor
namespace Rows

/-- THE TIED CARD OF 'cartouchelaw10.BoundsOf'. -/
def boundsOfCard : Claim7 := { stood := { row := boundsOfRow, standIns := [], harness := (true, "c89afb0af0d93db2b48c8aa63c938c91d1bfb22b720c51933efced43962713a1"), looks := false }, kinds := [], alts := [], laidByText := true, laidKinds := [.data, .data, .data], laidTests := true, laidLooks := .later }
def BoundsOfCardSaid : Prop := Claim7.holds Tryz.pinned (.plain (OpenSpec.ofChange boundsOfSpec)) boundsOfCard

/-- THE TIED CARD OF 'cartouchelaw01.NumsPut'. -/
def numsPutCard : Claim7 := { stood := { row := numsPutRow, standIns := [], harness := (true, "c89afb0af0d93db2b48c8aa63c938c91d1bfb22b720c51933efced43962713a1"), looks := false }, kinds := [], alts := [], laidByText := true, laidKinds := [.data, .data, .data], laidTests := true, laidLooks := .later }
def NumsPutCardSaid : Prop := Claim7.holds Tryz.pinned (.plain (OpenSpec.ofChange numsPutSpec)) numsPutCard

/-- THE TIED CARD OF 'cartouchelaw04.OrdersClose'. -/
def ordersCloseCard : Claim7 := { stood := { row := ordersCloseRow, standIns := [], harness := (true, "c89afb0af0d93db2b48c8aa63c938c91d1bfb22b720c51933efced43962713a1"), looks := false }, kinds := [], alts := [], laidByText := true, laidKinds := [.data, .data, .data], laidTests := true, laidLooks := .later }
def OrdersCloseCardSaid : Prop := Claim7.holds Tryz.pinned (.plain (OpenSpec.ofChange ordersCloseSpec)) ordersCloseCard

/-- THE TIED CARD OF 'cartouchelaw11.ReachesOf'. -/
def reachesOfCard : Claim7 := { stood := { row := reachesOfRow, standIns := [], harness := (true, "c89afb0af0d93db2b48c8aa63c938c91d1bfb22b720c51933efced43962713a1"), looks := false }, kinds := [], alts := [], laidByText := true, laidKinds := [.data, .data, .data], laidTests := true, laidLooks := .later }
def ReachesOfCardSaid : Prop := Claim7.holds Tryz.pinned (.plain (OpenSpec.ofChange reachesOfSpec)) reachesOfCard

/-- THE SECOND FORM's CARD OF 'cartouchelaw10.BoundsOf'. -/
def boundsOfUptoCard : Claim7 := { stood := { row := boundsOfUptoRow, standIns := [], harness := (true, "c89afb0af0d93db2b48c8aa63c938c91d1bfb22b720c51933efced43962713a1"), looks := false }, kinds := [], alts := [], laidByText := true, laidKinds := [.data, .data, .data], laidTests := true, laidLooks := .later }
def BoundsOfUptoCardSaid : Prop := Claim7.holds Tryz.pinned (.plain (OpenSpec.upto boundsOfSpec)) boundsOfUptoCard

/-- THE SECOND FORM's CARD OF 'cartouchelaw01.NumsPut'. -/
def numsPutUptoCard : Claim7 := { stood := { row := numsPutUptoRow, standIns := [], harness := (true, "c89afb0af0d93db2b48c8aa63c938c91d1bfb22b720c51933efced43962713a1"), looks := false }, kinds := [], alts := [], laidByText := true, laidKinds := [.data, .data, .data], laidTests := true, laidLooks := .later }
def NumsPutUptoCardSaid : Prop := Claim7.holds Tryz.pinned (.plain (OpenSpec.upto numsPutSpec)) numsPutUptoCard

/-- THE SECOND FORM's CARD OF 'cartouchelaw04.OrdersClose'. -/
def ordersCloseUptoCard : Claim7 := { stood := { row := ordersCloseUptoRow, standIns := [], harness := (true, "c89afb0af0d93db2b48c8aa63c938c91d1bfb22b720c51933efced43962713a1"), looks := false }, kinds := [], alts := [], laidByText := true, laidKinds := [.data, .data, .data], laidTests := true, laidLooks := .later }
def OrdersCloseUptoCardSaid : Prop := Claim7.holds Tryz.pinned (.plain (OpenSpec.upto ordersCloseSpec)) ordersCloseUptoCard

/-- THE SECOND FORM's CARD OF 'cartouchelaw11.ReachesOf'. -/
def reachesOfUptoCard : Claim7 := { stood := { row := reachesOfUptoRow, standIns := [], harness := (true, "c89afb0af0d93db2b48c8aa63c938c91d1bfb22b720c51933efced43962713a1"), looks := false }, kinds := [], alts := [], laidByText := true, laidKinds := [.data, .data, .data], laidTests := true, laidLooks := .later }
def ReachesOfUptoCardSaid : Prop := Claim7.holds Tryz.pinned (.plain (OpenSpec.upto reachesOfSpec)) reachesOfUptoCard
end Rows
end Go.Proofs.YtajilghlcfheiaaGreatDoor
