/-
  NARROWER THAN 'FOR EVERY INPUT', by the rows' own cells (each row's printed sentence says how): LatticesTurns: laid · LatticesOf: laid · LatticesNone: laid · LatticesBelow: laid · LatticesBounds: laid · BoundsTwo: laid · BoundsNone: laid · BoundsBetween: laid · BoundsMore: laid · BoundsOrder: laid · BoundsGiven: laid · ReachesBelow: laid.
  DERIVED. THE GIVEN ROWS OF THIS SEAT. 12 by the template 'for every input the law returns true; each argument reads behind the call as it read before'; 0 by the template 'total and deterministic' (their statements: YtappaokjlnpbnaaDoorTotals.lean).
  GIVEN WITH THE SEED: the statements are not yours to turn. If you find one false, say at which input.
  Laid BY PROGRAM, IN A SANDBOX (cutbox-rows.mjs): the forced cells as the released guide's own fill.sh prints them over the translation 7ece3529ebe7d14f… (all of the seat's roots in one cut). By AI agents, Wed Nov 11 2026. No macro, syntax, notation, axiom, sorry.
-/
import Derived.Test.YtappaokjlnpbnaaDoorChecked
import GoSem.Claim
import GoSem.ClaimJoined
import GoSem.ClaimMapViews
import Derived.JoinedTies
import Derived.KernelRfl
namespace Go.Proofs.YtappaokjlnpbnaaDoor
/- THE CELL 'sum', in the pinned program and in every row, IS THE sha256 OF THE DUMP (.gsa) THAT YtappaokjlnpbnaaDoorProg.lean LOADS. Nothing in Lean hashes anything: it is a label: what it is worth is what the hold of that sum in a sandbox is worth. -/
noncomputable def Tryd.pinned : Pinned := { name := "ytappaokjlnpbnaadoor", sum := "7ece3529ebe7d14fe31a2696c3bb6b140e64e8590e13b73763fe6556ec28038f", checked := Tryd.checked }
namespace Rows
def none {H : Type} : Left H := { results := [], args := [] }

/- WHAT THE LISTED PACKAGE-LEVEL VARIABLES READ AS WHEN THE CALL BEGINS. Each datum BY PROGRAM (the guide's laid-datum.mjs) off the statement by which the dump's own 'gosem.cut.vars' lays the variable. In a bare row this is a premise. The card (YtappaokjlnpbnaaDoorCards.lean) ties it to the program's text. -/
def laid_math_bits_deBruijn64tab {H : Type} : DataW H := .agg [.lit (.int .u8 0), .lit (.int .u8 1), .lit (.int .u8 56), .lit (.int .u8 2), .lit (.int .u8 57), .lit (.int .u8 49), .lit (.int .u8 28), .lit (.int .u8 3), .lit (.int .u8 61), .lit (.int .u8 58), .lit (.int .u8 42), .lit (.int .u8 50), .lit (.int .u8 38), .lit (.int .u8 29), .lit (.int .u8 17), .lit (.int .u8 4), .lit (.int .u8 62), .lit (.int .u8 47), .lit (.int .u8 59), .lit (.int .u8 36), .lit (.int .u8 45), .lit (.int .u8 43), .lit (.int .u8 51), .lit (.int .u8 22), .lit (.int .u8 53), .lit (.int .u8 39), .lit (.int .u8 33), .lit (.int .u8 30), .lit (.int .u8 24), .lit (.int .u8 18), .lit (.int .u8 12), .lit (.int .u8 5), .lit (.int .u8 63), .lit (.int .u8 55), .lit (.int .u8 48), .lit (.int .u8 27), .lit (.int .u8 60), .lit (.int .u8 41), .lit (.int .u8 37), .lit (.int .u8 16), .lit (.int .u8 46), .lit (.int .u8 35), .lit (.int .u8 44), .lit (.int .u8 21), .lit (.int .u8 52), .lit (.int .u8 32), .lit (.int .u8 23), .lit (.int .u8 11), .lit (.int .u8 54), .lit (.int .u8 26), .lit (.int .u8 40), .lit (.int .u8 15), .lit (.int .u8 34), .lit (.int .u8 20), .lit (.int .u8 31), .lit (.int .u8 10), .lit (.int .u8 25), .lit (.int .u8 14), .lit (.int .u8 19), .lit (.int .u8 9), .lit (.int .u8 13), .lit (.int .u8 8), .lit (.int .u8 7), .lit (.int .u8 6)]

/-- 'cartouchelaw05.LatticesTurns': WHATEVER THE INPUT: true; the input reads as it did. -/
def latticesTurnsSpec : ChangeSpec := { name := "latticesTurns", fn := fun _ => fun
  | [d1, d2] => { results := [.lit (.bool true)], args := [d1, d2] }
  | _ => none }
def latticesTurnsRow : OpenClaim := { program := "ytappaokjlnpbnaadoor", sum := "7ece3529ebe7d14fe31a2696c3bb6b140e64e8590e13b73763fe6556ec28038f", func := "cartouche/cartouchelaw05.LatticesTurns", spec := "latticesTurns", unfollowed := true, recurses := true, named := ["math/bits.deBruijn64tab"], apart := false, laid := [("math/bits.deBruijn64tab", laid_math_bits_deBruijn64tab)] }
def LatticesTurnsSaid : Prop := latticesTurnsRow.holds Tryd.pinned (OpenSpec.ofChange latticesTurnsSpec)

/-- ITS FALSE NEIGHBOUR: 'it returns false'. Refute it at one input. -/
def latticesTurnsWrong : ChangeSpec := { name := "latticesTurns", fn := fun _ => fun
  | [d1, d2] => { results := [.lit (.bool false)], args := [d1, d2] }
  | _ => none }
def LatticesTurnsWrongFalsely : Prop := latticesTurnsRow.holds Tryd.pinned (OpenSpec.ofChange latticesTurnsWrong)

/-- 'cartouchelaw05.LatticesOf': WHATEVER THE INPUT: true; the input reads as it did. -/
def latticesOfSpec : ChangeSpec := { name := "latticesOf", fn := fun _ => fun
  | [d1, d2, d3] => { results := [.lit (.bool true)], args := [d1, d2, d3] }
  | _ => none }
def latticesOfRow : OpenClaim := { program := "ytappaokjlnpbnaadoor", sum := "7ece3529ebe7d14fe31a2696c3bb6b140e64e8590e13b73763fe6556ec28038f", func := "cartouche/cartouchelaw05.LatticesOf", spec := "latticesOf", unfollowed := true, recurses := true, named := ["math/bits.deBruijn64tab"], apart := false, laid := [("math/bits.deBruijn64tab", laid_math_bits_deBruijn64tab)] }
def LatticesOfSaid : Prop := latticesOfRow.holds Tryd.pinned (OpenSpec.ofChange latticesOfSpec)

/-- ITS FALSE NEIGHBOUR: 'it returns false'. Refute it at one input. -/
def latticesOfWrong : ChangeSpec := { name := "latticesOf", fn := fun _ => fun
  | [d1, d2, d3] => { results := [.lit (.bool false)], args := [d1, d2, d3] }
  | _ => none }
def LatticesOfWrongFalsely : Prop := latticesOfRow.holds Tryd.pinned (OpenSpec.ofChange latticesOfWrong)

/-- 'cartouchelaw05.LatticesNone': WHATEVER THE INPUT: true; the input reads as it did. -/
def latticesNoneSpec : ChangeSpec := { name := "latticesNone", fn := fun _ => fun
  | [d1, d2] => { results := [.lit (.bool true)], args := [d1, d2] }
  | _ => none }
def latticesNoneRow : OpenClaim := { program := "ytappaokjlnpbnaadoor", sum := "7ece3529ebe7d14fe31a2696c3bb6b140e64e8590e13b73763fe6556ec28038f", func := "cartouche/cartouchelaw05.LatticesNone", spec := "latticesNone", unfollowed := true, recurses := true, named := ["math/bits.deBruijn64tab"], apart := false, laid := [("math/bits.deBruijn64tab", laid_math_bits_deBruijn64tab)] }
def LatticesNoneSaid : Prop := latticesNoneRow.holds Tryd.pinned (OpenSpec.ofChange latticesNoneSpec)

/-- ITS FALSE NEIGHBOUR: 'it returns false'. Refute it at one input. -/
def latticesNoneWrong : ChangeSpec := { name := "latticesNone", fn := fun _ => fun
  | [d1, d2] => { results := [.lit (.bool false)], args := [d1, d2] }
  | _ => none }
def LatticesNoneWrongFalsely : Prop := latticesNoneRow.holds Tryd.pinned (OpenSpec.ofChange latticesNoneWrong)

/-- 'cartouchelaw05.LatticesBelow': WHATEVER THE INPUT: true; the input reads as it did. -/
def latticesBelowSpec : ChangeSpec := { name := "latticesBelow", fn := fun _ => fun
  | [d1, d2] => { results := [.lit (.bool true)], args := [d1, d2] }
  | _ => none }
def latticesBelowRow : OpenClaim := { program := "ytappaokjlnpbnaadoor", sum := "7ece3529ebe7d14fe31a2696c3bb6b140e64e8590e13b73763fe6556ec28038f", func := "cartouche/cartouchelaw05.LatticesBelow", spec := "latticesBelow", unfollowed := true, recurses := true, named := ["math/bits.deBruijn64tab"], apart := false, laid := [("math/bits.deBruijn64tab", laid_math_bits_deBruijn64tab)] }
def LatticesBelowSaid : Prop := latticesBelowRow.holds Tryd.pinned (OpenSpec.ofChange latticesBelowSpec)

/-- ITS FALSE NEIGHBOUR: 'it returns false'. Refute it at one input. -/
def latticesBelowWrong : ChangeSpec := { name := "latticesBelow", fn := fun _ => fun
  | [d1, d2] => { results := [.lit (.bool false)], args := [d1, d2] }
  | _ => none }
def LatticesBelowWrongFalsely : Prop := latticesBelowRow.holds Tryd.pinned (OpenSpec.ofChange latticesBelowWrong)

/-- 'cartouchelaw05.LatticesBounds': WHATEVER THE INPUT: true; the input reads as it did. -/
def latticesBoundsSpec : ChangeSpec := { name := "latticesBounds", fn := fun _ => fun
  | [d1, d2] => { results := [.lit (.bool true)], args := [d1, d2] }
  | _ => none }
def latticesBoundsRow : OpenClaim := { program := "ytappaokjlnpbnaadoor", sum := "7ece3529ebe7d14fe31a2696c3bb6b140e64e8590e13b73763fe6556ec28038f", func := "cartouche/cartouchelaw05.LatticesBounds", spec := "latticesBounds", unfollowed := true, recurses := true, named := ["math/bits.deBruijn64tab"], apart := false, laid := [("math/bits.deBruijn64tab", laid_math_bits_deBruijn64tab)] }
def LatticesBoundsSaid : Prop := latticesBoundsRow.holds Tryd.pinned (OpenSpec.ofChange latticesBoundsSpec)

/-- ITS FALSE NEIGHBOUR: 'it returns false'. Refute it at one input. -/
def latticesBoundsWrong : ChangeSpec := { name := "latticesBounds", fn := fun _ => fun
  | [d1, d2] => { results := [.lit (.bool false)], args := [d1, d2] }
  | _ => none }
def LatticesBoundsWrongFalsely : Prop := latticesBoundsRow.holds Tryd.pinned (OpenSpec.ofChange latticesBoundsWrong)

/-- 'cartouchelaw10.BoundsTwo': WHATEVER THE INPUT: true; the input reads as it did. -/
def boundsTwoSpec : ChangeSpec := { name := "boundsTwo", fn := fun _ => fun
  | [d] => { results := [.lit (.bool true)], args := [d] }
  | _ => none }
def boundsTwoRow : OpenClaim := { program := "ytappaokjlnpbnaadoor", sum := "7ece3529ebe7d14fe31a2696c3bb6b140e64e8590e13b73763fe6556ec28038f", func := "cartouche/cartouchelaw10.BoundsTwo", spec := "boundsTwo", unfollowed := true, recurses := true, named := ["math/bits.deBruijn64tab"], apart := false, laid := [("math/bits.deBruijn64tab", laid_math_bits_deBruijn64tab)] }
def BoundsTwoSaid : Prop := boundsTwoRow.holds Tryd.pinned (OpenSpec.ofChange boundsTwoSpec)

/-- ITS FALSE NEIGHBOUR: 'it returns false'. Refute it at one input. -/
def boundsTwoWrong : ChangeSpec := { name := "boundsTwo", fn := fun _ => fun
  | [d] => { results := [.lit (.bool false)], args := [d] }
  | _ => none }
def BoundsTwoWrongFalsely : Prop := boundsTwoRow.holds Tryd.pinned (OpenSpec.ofChange boundsTwoWrong)

/-- 'cartouchelaw10.BoundsNone': WHATEVER THE INPUT: true; the input reads as it did. -/
def boundsNoneSpec : ChangeSpec := { name := "boundsNone", fn := fun _ => fun
  | [d] => { results := [.lit (.bool true)], args := [d] }
  | _ => none }
def boundsNoneRow : OpenClaim := { program := "ytappaokjlnpbnaadoor", sum := "7ece3529ebe7d14fe31a2696c3bb6b140e64e8590e13b73763fe6556ec28038f", func := "cartouche/cartouchelaw10.BoundsNone", spec := "boundsNone", unfollowed := true, recurses := true, named := ["math/bits.deBruijn64tab"], apart := false, laid := [("math/bits.deBruijn64tab", laid_math_bits_deBruijn64tab)] }
def BoundsNoneSaid : Prop := boundsNoneRow.holds Tryd.pinned (OpenSpec.ofChange boundsNoneSpec)

/-- ITS FALSE NEIGHBOUR: 'it returns false'. Refute it at one input. -/
def boundsNoneWrong : ChangeSpec := { name := "boundsNone", fn := fun _ => fun
  | [d] => { results := [.lit (.bool false)], args := [d] }
  | _ => none }
def BoundsNoneWrongFalsely : Prop := boundsNoneRow.holds Tryd.pinned (OpenSpec.ofChange boundsNoneWrong)

/-- 'cartouchelaw10.BoundsBetween': WHATEVER THE INPUT: true; the input reads as it did. -/
def boundsBetweenSpec : ChangeSpec := { name := "boundsBetween", fn := fun _ => fun
  | [d] => { results := [.lit (.bool true)], args := [d] }
  | _ => none }
def boundsBetweenRow : OpenClaim := { program := "ytappaokjlnpbnaadoor", sum := "7ece3529ebe7d14fe31a2696c3bb6b140e64e8590e13b73763fe6556ec28038f", func := "cartouche/cartouchelaw10.BoundsBetween", spec := "boundsBetween", unfollowed := true, recurses := true, named := ["math/bits.deBruijn64tab"], apart := false, laid := [("math/bits.deBruijn64tab", laid_math_bits_deBruijn64tab)] }
def BoundsBetweenSaid : Prop := boundsBetweenRow.holds Tryd.pinned (OpenSpec.ofChange boundsBetweenSpec)

/-- ITS FALSE NEIGHBOUR: 'it returns false'. Refute it at one input. -/
def boundsBetweenWrong : ChangeSpec := { name := "boundsBetween", fn := fun _ => fun
  | [d] => { results := [.lit (.bool false)], args := [d] }
  | _ => none }
def BoundsBetweenWrongFalsely : Prop := boundsBetweenRow.holds Tryd.pinned (OpenSpec.ofChange boundsBetweenWrong)

/-- 'cartouchelaw10.BoundsMore': WHATEVER THE INPUT: true; the input reads as it did. -/
def boundsMoreSpec : ChangeSpec := { name := "boundsMore", fn := fun _ => fun
  | [d1, d2] => { results := [.lit (.bool true)], args := [d1, d2] }
  | _ => none }
def boundsMoreRow : OpenClaim := { program := "ytappaokjlnpbnaadoor", sum := "7ece3529ebe7d14fe31a2696c3bb6b140e64e8590e13b73763fe6556ec28038f", func := "cartouche/cartouchelaw10.BoundsMore", spec := "boundsMore", unfollowed := true, recurses := true, named := ["math/bits.deBruijn64tab"], apart := false, laid := [("math/bits.deBruijn64tab", laid_math_bits_deBruijn64tab)] }
def BoundsMoreSaid : Prop := boundsMoreRow.holds Tryd.pinned (OpenSpec.ofChange boundsMoreSpec)

/-- ITS FALSE NEIGHBOUR: 'it returns false'. Refute it at one input. -/
def boundsMoreWrong : ChangeSpec := { name := "boundsMore", fn := fun _ => fun
  | [d1, d2] => { results := [.lit (.bool false)], args := [d1, d2] }
  | _ => none }
def BoundsMoreWrongFalsely : Prop := boundsMoreRow.holds Tryd.pinned (OpenSpec.ofChange boundsMoreWrong)

/-- 'cartouchelaw10.BoundsOrder': WHATEVER THE INPUT: true; the input reads as it did. -/
def boundsOrderSpec : ChangeSpec := { name := "boundsOrder", fn := fun _ => fun
  | [d1, d2] => { results := [.lit (.bool true)], args := [d1, d2] }
  | _ => none }
def boundsOrderRow : OpenClaim := { program := "ytappaokjlnpbnaadoor", sum := "7ece3529ebe7d14fe31a2696c3bb6b140e64e8590e13b73763fe6556ec28038f", func := "cartouche/cartouchelaw10.BoundsOrder", spec := "boundsOrder", unfollowed := true, recurses := true, named := ["math/bits.deBruijn64tab"], apart := false, laid := [("math/bits.deBruijn64tab", laid_math_bits_deBruijn64tab)] }
def BoundsOrderSaid : Prop := boundsOrderRow.holds Tryd.pinned (OpenSpec.ofChange boundsOrderSpec)

/-- ITS FALSE NEIGHBOUR: 'it returns false'. Refute it at one input. -/
def boundsOrderWrong : ChangeSpec := { name := "boundsOrder", fn := fun _ => fun
  | [d1, d2] => { results := [.lit (.bool false)], args := [d1, d2] }
  | _ => none }
def BoundsOrderWrongFalsely : Prop := boundsOrderRow.holds Tryd.pinned (OpenSpec.ofChange boundsOrderWrong)

/-- 'cartouchelaw10.BoundsGiven': WHATEVER THE INPUT: true; the input reads as it did. -/
def boundsGivenSpec : ChangeSpec := { name := "boundsGiven", fn := fun _ => fun
  | [d] => { results := [.lit (.bool true)], args := [d] }
  | _ => none }
def boundsGivenRow : OpenClaim := { program := "ytappaokjlnpbnaadoor", sum := "7ece3529ebe7d14fe31a2696c3bb6b140e64e8590e13b73763fe6556ec28038f", func := "cartouche/cartouchelaw10.BoundsGiven", spec := "boundsGiven", unfollowed := true, recurses := true, named := ["math/bits.deBruijn64tab"], apart := false, laid := [("math/bits.deBruijn64tab", laid_math_bits_deBruijn64tab)] }
def BoundsGivenSaid : Prop := boundsGivenRow.holds Tryd.pinned (OpenSpec.ofChange boundsGivenSpec)

/-- ITS FALSE NEIGHBOUR: 'it returns false'. Refute it at one input. -/
def boundsGivenWrong : ChangeSpec := { name := "boundsGiven", fn := fun _ => fun
  | [d] => { results := [.lit (.bool false)], args := [d] }
  | _ => none }
def BoundsGivenWrongFalsely : Prop := boundsGivenRow.holds Tryd.pinned (OpenSpec.ofChange boundsGivenWrong)

/-- 'cartouchelaw11.ReachesBelow': WHATEVER THE INPUT: true; the input reads as it did. -/
def reachesBelowSpec : ChangeSpec := { name := "reachesBelow", fn := fun _ => fun
  | [d] => { results := [.lit (.bool true)], args := [d] }
  | _ => none }
def reachesBelowRow : OpenClaim := { program := "ytappaokjlnpbnaadoor", sum := "7ece3529ebe7d14fe31a2696c3bb6b140e64e8590e13b73763fe6556ec28038f", func := "cartouche/cartouchelaw11.ReachesBelow", spec := "reachesBelow", unfollowed := true, recurses := true, named := ["math/bits.deBruijn64tab"], apart := false, laid := [("math/bits.deBruijn64tab", laid_math_bits_deBruijn64tab)] }
def ReachesBelowSaid : Prop := reachesBelowRow.holds Tryd.pinned (OpenSpec.ofChange reachesBelowSpec)

/-- ITS FALSE NEIGHBOUR: 'it returns false'. Refute it at one input. -/
def reachesBelowWrong : ChangeSpec := { name := "reachesBelow", fn := fun _ => fun
  | [d] => { results := [.lit (.bool false)], args := [d] }
  | _ => none }
def ReachesBelowWrongFalsely : Prop := reachesBelowRow.holds Tryd.pinned (OpenSpec.ofChange reachesBelowWrong)

/- THE SECOND FORM. 'bulk': how many values and letters a reading holds, each counted each time it is reached (what is shared counts as often as it is met; a slice's spare places count too). A statement '..UptoSaid' is the law's where the arguments, and the package variables that the reading takes, are together of bulk at most 1048576: NARROWER than '..Said'. Prove '..Said' where nothing that the law and all that it calls make is longer than what came in: it says more and counts as full. Else prove '..UptoSaid'. A law counts once. -/
mutual
def uptoBulk {H : Type} : DataW H → Nat
  | .lit (.string bytes) => bytes.length + 1
  | .lit _ => 1
  | .nil => 1
  | .ptr d => uptoBulk d + 1
  | .slice elems spare => uptoBulkAll elems + uptoBulkAll spare + 1
  | .agg parts => uptoBulkAll parts + 1
  | .iface _ d => uptoBulk d + 1
  | .map entries => uptoBulkEntries entries + 1
  | .held _ => 1
def uptoBulkAll {H : Type} : List (DataW H) → Nat
  | [] => 0
  | d :: r => uptoBulk d + uptoBulkAll r
def uptoBulkEntries {H : Type} : List (Lit × DataW H) → Nat
  | [] => 0
  | x :: r => uptoBulkEntry x + uptoBulkEntries r
def uptoBulkEntry {H : Type} : Lit × DataW H → Nat
  | (.string bytes, d) => bytes.length + uptoBulk d + 1
  | (_, d) => uptoBulk d + 1
 end
def uptoSmall : (H : Type) → List (DataW H) → Bool := fun _ ds => decide (uptoBulkAll ds ≤ 1048576)
def OpenSpec.upto (s : _root_.Go.ChangeSpec) : _root_.Go.OpenSpec := { _root_.Go.OpenSpec.ofChange s with cond := some uptoSmall }

/-- 'cartouchelaw05.LatticesTurns', WHERE WHAT IT READS IS OF BULK AT MOST 1048576: true; the input reads as it did. -/
def latticesTurnsUptoRow : OpenClaim := { program := "ytappaokjlnpbnaadoor", sum := "7ece3529ebe7d14fe31a2696c3bb6b140e64e8590e13b73763fe6556ec28038f", func := "cartouche/cartouchelaw05.LatticesTurns", spec := "latticesTurns", unfollowed := true, recurses := true, named := ["math/bits.deBruijn64tab"], apart := false, laid := [("math/bits.deBruijn64tab", laid_math_bits_deBruijn64tab)], narrowed := true }
def LatticesTurnsUptoSaid : Prop := latticesTurnsUptoRow.holds Tryd.pinned (OpenSpec.upto latticesTurnsSpec)

/-- 'cartouchelaw05.LatticesOf', WHERE WHAT IT READS IS OF BULK AT MOST 1048576: true; the input reads as it did. -/
def latticesOfUptoRow : OpenClaim := { program := "ytappaokjlnpbnaadoor", sum := "7ece3529ebe7d14fe31a2696c3bb6b140e64e8590e13b73763fe6556ec28038f", func := "cartouche/cartouchelaw05.LatticesOf", spec := "latticesOf", unfollowed := true, recurses := true, named := ["math/bits.deBruijn64tab"], apart := false, laid := [("math/bits.deBruijn64tab", laid_math_bits_deBruijn64tab)], narrowed := true }
def LatticesOfUptoSaid : Prop := latticesOfUptoRow.holds Tryd.pinned (OpenSpec.upto latticesOfSpec)

/-- 'cartouchelaw05.LatticesNone', WHERE WHAT IT READS IS OF BULK AT MOST 1048576: true; the input reads as it did. -/
def latticesNoneUptoRow : OpenClaim := { program := "ytappaokjlnpbnaadoor", sum := "7ece3529ebe7d14fe31a2696c3bb6b140e64e8590e13b73763fe6556ec28038f", func := "cartouche/cartouchelaw05.LatticesNone", spec := "latticesNone", unfollowed := true, recurses := true, named := ["math/bits.deBruijn64tab"], apart := false, laid := [("math/bits.deBruijn64tab", laid_math_bits_deBruijn64tab)], narrowed := true }
def LatticesNoneUptoSaid : Prop := latticesNoneUptoRow.holds Tryd.pinned (OpenSpec.upto latticesNoneSpec)

/-- 'cartouchelaw05.LatticesBelow', WHERE WHAT IT READS IS OF BULK AT MOST 1048576: true; the input reads as it did. -/
def latticesBelowUptoRow : OpenClaim := { program := "ytappaokjlnpbnaadoor", sum := "7ece3529ebe7d14fe31a2696c3bb6b140e64e8590e13b73763fe6556ec28038f", func := "cartouche/cartouchelaw05.LatticesBelow", spec := "latticesBelow", unfollowed := true, recurses := true, named := ["math/bits.deBruijn64tab"], apart := false, laid := [("math/bits.deBruijn64tab", laid_math_bits_deBruijn64tab)], narrowed := true }
def LatticesBelowUptoSaid : Prop := latticesBelowUptoRow.holds Tryd.pinned (OpenSpec.upto latticesBelowSpec)

/-- 'cartouchelaw05.LatticesBounds', WHERE WHAT IT READS IS OF BULK AT MOST 1048576: true; the input reads as it did. -/
def latticesBoundsUptoRow : OpenClaim := { program := "ytappaokjlnpbnaadoor", sum := "7ece3529ebe7d14fe31a2696c3bb6b140e64e8590e13b73763fe6556ec28038f", func := "cartouche/cartouchelaw05.LatticesBounds", spec := "latticesBounds", unfollowed := true, recurses := true, named := ["math/bits.deBruijn64tab"], apart := false, laid := [("math/bits.deBruijn64tab", laid_math_bits_deBruijn64tab)], narrowed := true }
def LatticesBoundsUptoSaid : Prop := latticesBoundsUptoRow.holds Tryd.pinned (OpenSpec.upto latticesBoundsSpec)

/-- 'cartouchelaw10.BoundsTwo', WHERE WHAT IT READS IS OF BULK AT MOST 1048576: true; the input reads as it did. -/
def boundsTwoUptoRow : OpenClaim := { program := "ytappaokjlnpbnaadoor", sum := "7ece3529ebe7d14fe31a2696c3bb6b140e64e8590e13b73763fe6556ec28038f", func := "cartouche/cartouchelaw10.BoundsTwo", spec := "boundsTwo", unfollowed := true, recurses := true, named := ["math/bits.deBruijn64tab"], apart := false, laid := [("math/bits.deBruijn64tab", laid_math_bits_deBruijn64tab)], narrowed := true }
def BoundsTwoUptoSaid : Prop := boundsTwoUptoRow.holds Tryd.pinned (OpenSpec.upto boundsTwoSpec)

/-- 'cartouchelaw10.BoundsNone', WHERE WHAT IT READS IS OF BULK AT MOST 1048576: true; the input reads as it did. -/
def boundsNoneUptoRow : OpenClaim := { program := "ytappaokjlnpbnaadoor", sum := "7ece3529ebe7d14fe31a2696c3bb6b140e64e8590e13b73763fe6556ec28038f", func := "cartouche/cartouchelaw10.BoundsNone", spec := "boundsNone", unfollowed := true, recurses := true, named := ["math/bits.deBruijn64tab"], apart := false, laid := [("math/bits.deBruijn64tab", laid_math_bits_deBruijn64tab)], narrowed := true }
def BoundsNoneUptoSaid : Prop := boundsNoneUptoRow.holds Tryd.pinned (OpenSpec.upto boundsNoneSpec)

/-- 'cartouchelaw10.BoundsBetween', WHERE WHAT IT READS IS OF BULK AT MOST 1048576: true; the input reads as it did. -/
def boundsBetweenUptoRow : OpenClaim := { program := "ytappaokjlnpbnaadoor", sum := "7ece3529ebe7d14fe31a2696c3bb6b140e64e8590e13b73763fe6556ec28038f", func := "cartouche/cartouchelaw10.BoundsBetween", spec := "boundsBetween", unfollowed := true, recurses := true, named := ["math/bits.deBruijn64tab"], apart := false, laid := [("math/bits.deBruijn64tab", laid_math_bits_deBruijn64tab)], narrowed := true }
def BoundsBetweenUptoSaid : Prop := boundsBetweenUptoRow.holds Tryd.pinned (OpenSpec.upto boundsBetweenSpec)

/-- 'cartouchelaw10.BoundsMore', WHERE WHAT IT READS IS OF BULK AT MOST 1048576: true; the input reads as it did. -/
def boundsMoreUptoRow : OpenClaim := { program := "ytappaokjlnpbnaadoor", sum := "7ece3529ebe7d14fe31a2696c3bb6b140e64e8590e13b73763fe6556ec28038f", func := "cartouche/cartouchelaw10.BoundsMore", spec := "boundsMore", unfollowed := true, recurses := true, named := ["math/bits.deBruijn64tab"], apart := false, laid := [("math/bits.deBruijn64tab", laid_math_bits_deBruijn64tab)], narrowed := true }
def BoundsMoreUptoSaid : Prop := boundsMoreUptoRow.holds Tryd.pinned (OpenSpec.upto boundsMoreSpec)

/-- 'cartouchelaw10.BoundsOrder', WHERE WHAT IT READS IS OF BULK AT MOST 1048576: true; the input reads as it did. -/
def boundsOrderUptoRow : OpenClaim := { program := "ytappaokjlnpbnaadoor", sum := "7ece3529ebe7d14fe31a2696c3bb6b140e64e8590e13b73763fe6556ec28038f", func := "cartouche/cartouchelaw10.BoundsOrder", spec := "boundsOrder", unfollowed := true, recurses := true, named := ["math/bits.deBruijn64tab"], apart := false, laid := [("math/bits.deBruijn64tab", laid_math_bits_deBruijn64tab)], narrowed := true }
def BoundsOrderUptoSaid : Prop := boundsOrderUptoRow.holds Tryd.pinned (OpenSpec.upto boundsOrderSpec)

/-- 'cartouchelaw10.BoundsGiven', WHERE WHAT IT READS IS OF BULK AT MOST 1048576: true; the input reads as it did. -/
def boundsGivenUptoRow : OpenClaim := { program := "ytappaokjlnpbnaadoor", sum := "7ece3529ebe7d14fe31a2696c3bb6b140e64e8590e13b73763fe6556ec28038f", func := "cartouche/cartouchelaw10.BoundsGiven", spec := "boundsGiven", unfollowed := true, recurses := true, named := ["math/bits.deBruijn64tab"], apart := false, laid := [("math/bits.deBruijn64tab", laid_math_bits_deBruijn64tab)], narrowed := true }
def BoundsGivenUptoSaid : Prop := boundsGivenUptoRow.holds Tryd.pinned (OpenSpec.upto boundsGivenSpec)

/-- 'cartouchelaw11.ReachesBelow', WHERE WHAT IT READS IS OF BULK AT MOST 1048576: true; the input reads as it did. -/
def reachesBelowUptoRow : OpenClaim := { program := "ytappaokjlnpbnaadoor", sum := "7ece3529ebe7d14fe31a2696c3bb6b140e64e8590e13b73763fe6556ec28038f", func := "cartouche/cartouchelaw11.ReachesBelow", spec := "reachesBelow", unfollowed := true, recurses := true, named := ["math/bits.deBruijn64tab"], apart := false, laid := [("math/bits.deBruijn64tab", laid_math_bits_deBruijn64tab)], narrowed := true }
def ReachesBelowUptoSaid : Prop := reachesBelowUptoRow.holds Tryd.pinned (OpenSpec.upto reachesBelowSpec)

end Rows
end Go.Proofs.YtappaokjlnpbnaaDoor
