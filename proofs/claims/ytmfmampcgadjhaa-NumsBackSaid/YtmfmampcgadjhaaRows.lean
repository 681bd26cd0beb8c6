/-
  No cell of these rows narrows 'for every input' (looked for: loops, veiled, ifaces, maps, wideKeys, modest, calm, conditions, laid).
  DERIVED. THE GIVEN ROWS OF THIS SEAT. 5 by the template 'for every input the law returns true; each argument reads behind the call as it read before'; 0 by the template 'total and deterministic' (their statements: YtmfmampcgadjhaaTotals.lean).
  GIVEN WITH THE SEED: the statements are not yours to turn. If you find one false, say at which input.
  Laid BY PROGRAM, IN A SANDBOX (cutbox-rows.mjs): the forced cells as the released guide's own fill.sh prints them over the translation 8e8ee3c122399990… (all of the seat's roots in one cut). By AI agents, Wed Nov 11 2026. No macro, syntax, notation, axiom, sorry.
-/
import Derived.Test.YtmfmampcgadjhaaChecked
import GoSem.Claim
import GoSem.ClaimJoined
import GoSem.ClaimMapViews
import Derived.JoinedTies
import Derived.KernelRfl
namespace Go.Proofs.Ytmfmampcgadjhaa
/- THE CELL 'sum', in the pinned program and in every row, IS THE sha256 OF THE DUMP (.gsa) THAT YtmfmampcgadjhaaProg.lean LOADS. Nothing in Lean hashes anything: it is a label: what it is worth is what the hold of that sum in a sandbox is worth. -/
noncomputable def Try.pinned : Pinned := { name := "ytmfmampcgadjhaa", sum := "8e8ee3c12239999067efecc0f64c51e28f7e956c94462754913cbc973aac23ea", checked := Try.checked }
namespace Rows
def none {H : Type} : Left H := { results := [], args := [] }

/-- 'cartouchelaw01.NumsGet': WHATEVER THE INPUT: true; the input reads as it did. -/
def numsGetSpec : ChangeSpec := { name := "numsGet", fn := fun _ => fun
  | [d] => { results := [.lit (.bool true)], args := [d] }
  | _ => none }
def numsGetRow : OpenClaim := { program := "ytmfmampcgadjhaa", sum := "8e8ee3c12239999067efecc0f64c51e28f7e956c94462754913cbc973aac23ea", func := "cartouche/cartouchelaw01.NumsGet", spec := "numsGet", unfollowed := true, recurses := true, apart := false }
def NumsGetSaid : Prop := numsGetRow.holds Try.pinned (OpenSpec.ofChange numsGetSpec)

/-- ITS FALSE NEIGHBOUR: 'it returns false'. Refute it at one input. -/
def numsGetWrong : ChangeSpec := { name := "numsGet", fn := fun _ => fun
  | [d] => { results := [.lit (.bool false)], args := [d] }
  | _ => none }
def NumsGetWrongFalsely : Prop := numsGetRow.holds Try.pinned (OpenSpec.ofChange numsGetWrong)

/-- 'cartouchelaw01.NumsBack': WHATEVER THE INPUT: true; the input reads as it did. -/
def numsBackSpec : ChangeSpec := { name := "numsBack", fn := fun _ => fun
  | [d1, d2, d3] => { results := [.lit (.bool true)], args := [d1, d2, d3] }
  | _ => none }
def numsBackRow : OpenClaim := { program := "ytmfmampcgadjhaa", sum := "8e8ee3c12239999067efecc0f64c51e28f7e956c94462754913cbc973aac23ea", func := "cartouche/cartouchelaw01.NumsBack", spec := "numsBack", unfollowed := true, recurses := true, apart := false }
def NumsBackSaid : Prop := numsBackRow.holds Try.pinned (OpenSpec.ofChange numsBackSpec)

/-- ITS FALSE NEIGHBOUR: 'it returns false'. Refute it at one input. -/
def numsBackWrong : ChangeSpec := { name := "numsBack", fn := fun _ => fun
  | [d1, d2, d3] => { results := [.lit (.bool false)], args := [d1, d2, d3] }
  | _ => none }
def NumsBackWrongFalsely : Prop := numsBackRow.holds Try.pinned (OpenSpec.ofChange numsBackWrong)

/-- 'cartouchelaw01.NumsAgain': WHATEVER THE INPUT: true; the input reads as it did. -/
def numsAgainSpec : ChangeSpec := { name := "numsAgain", fn := fun _ => fun
  | [d] => { results := [.lit (.bool true)], args := [d] }
  | _ => none }
def numsAgainRow : OpenClaim := { program := "ytmfmampcgadjhaa", sum := "8e8ee3c12239999067efecc0f64c51e28f7e956c94462754913cbc973aac23ea", func := "cartouche/cartouchelaw01.NumsAgain", spec := "numsAgain", unfollowed := true, recurses := true, apart := false }
def NumsAgainSaid : Prop := numsAgainRow.holds Try.pinned (OpenSpec.ofChange numsAgainSpec)

/-- ITS FALSE NEIGHBOUR: 'it returns false'. Refute it at one input. -/
def numsAgainWrong : ChangeSpec := { name := "numsAgain", fn := fun _ => fun
  | [d] => { results := [.lit (.bool false)], args := [d] }
  | _ => none }
def NumsAgainWrongFalsely : Prop := numsAgainRow.holds Try.pinned (OpenSpec.ofChange numsAgainWrong)

/-- 'cartouchelaw01.NumsShort': WHATEVER THE INPUT: true; the input reads as it did. -/
def numsShortSpec : ChangeSpec := { name := "numsShort", fn := fun _ => fun
  | [d1, d2] => { results := [.lit (.bool true)], args := [d1, d2] }
  | _ => none }
def numsShortRow : OpenClaim := { program := "ytmfmampcgadjhaa", sum := "8e8ee3c12239999067efecc0f64c51e28f7e956c94462754913cbc973aac23ea", func := "cartouche/cartouchelaw01.NumsShort", spec := "numsShort", unfollowed := true, recurses := true, apart := false }
def NumsShortSaid : Prop := numsShortRow.holds Try.pinned (OpenSpec.ofChange numsShortSpec)

/-- ITS FALSE NEIGHBOUR: 'it returns false'. Refute it at one input. -/
def numsShortWrong : ChangeSpec := { name := "numsShort", fn := fun _ => fun
  | [d1, d2] => { results := [.lit (.bool false)], args := [d1, d2] }
  | _ => none }
def NumsShortWrongFalsely : Prop := numsShortRow.holds Try.pinned (OpenSpec.ofChange numsShortWrong)

/-- 'cartouchelaw01.NumsRow': WHATEVER THE INPUT: true; the input reads as it did. -/
def numsRowSpec : ChangeSpec := { name := "numsRow", fn := fun _ => fun
  | [d] => { results := [.lit (.bool true)], args := [d] }
  | _ => none }
def numsRowRow : OpenClaim := { program := "ytmfmampcgadjhaa", sum := "8e8ee3c12239999067efecc0f64c51e28f7e956c94462754913cbc973aac23ea", func := "cartouche/cartouchelaw01.NumsRow", spec := "numsRow", unfollowed := true, recurses := true, apart := false }
def NumsRowSaid : Prop := numsRowRow.holds Try.pinned (OpenSpec.ofChange numsRowSpec)

/-- ITS FALSE NEIGHBOUR: 'it returns false'. Refute it at one input. -/
def numsRowWrong : ChangeSpec := { name := "numsRow", fn := fun _ => fun
  | [d] => { results := [.lit (.bool false)], args := [d] }
  | _ => none }
def NumsRowWrongFalsely : Prop := numsRowRow.holds Try.pinned (OpenSpec.ofChange numsRowWrong)

/- THE SECOND FORM. 'bulk': how many values and letters a reading holds, each counted each time it is reached (what is shared counts as often as it is met; a slice's spare places count too). A statement '..UptoSaid' is the law's where the arguments, and the package variables that the reading takes, are together of bulk at most 1048576: NARROWER than '..Said'. Prove '..Said' where nothing that the law and all that it calls make is longer than what came in: it says more and counts as full. Else prove '..UptoSaid'. A law counts once. -/
mutual
def uptoBulk {H : Type} : DataW H → Nat
  | .lit (.string bytes) => bytes.length + 1
  | .lit _ => 1
  | .nil => 1
  | .ptr d => uptoBulk d + 1
  | .slice elems spare => uptoBulkAll elems + uptoBulkAll spare + 1
  | .agg parts => uptoBulkAll parts + 1
  | .iface _ d => uptoBulk d + 1
  | .map entries => uptoBulkEntries entries + 1
  | .held _ => 1
def uptoBulkAll {H : Type} : List (DataW H) → Nat
  | [] => 0
  | d :: r => uptoBulk d + uptoBulkAll r
def uptoBulkEntries {H : Type} : List (Lit × DataW H) → Nat
  | [] => 0
  | x :: r => uptoBulkEntry x + uptoBulkEntries r
def uptoBulkEntry {H : Type} : Lit × DataW H → Nat
  | (.string bytes, d) => bytes.length + uptoBulk d + 1
  | (_, d) => uptoBulk d + 1
 end
def uptoSmall : (H : Type) → List (DataW H) → Bool := fun _ ds => decide (uptoBulkAll ds ≤ 1048576)
def OpenSpec.upto (s : _root_.Go.ChangeSpec) : _root_.Go.OpenSpec := { _root_.Go.OpenSpec.ofChange s with cond := some uptoSmall }

/-- 'cartouchelaw01.NumsGet', WHERE WHAT IT READS IS OF BULK AT MOST 1048576: true; the input reads as it did. -/
def numsGetUptoRow : OpenClaim := { program := "ytmfmampcgadjhaa", sum := "8e8ee3c12239999067efecc0f64c51e28f7e956c94462754913cbc973aac23ea", func := "cartouche/cartouchelaw01.NumsGet", spec := "numsGet", unfollowed := true, recurses := true, apart := false, narrowed := true }
def NumsGetUptoSaid : Prop := numsGetUptoRow.holds Try.pinned (OpenSpec.upto numsGetSpec)

/-- 'cartouchelaw01.NumsBack', WHERE WHAT IT READS IS OF BULK AT MOST 1048576: true; the input reads as it did. -/
def numsBackUptoRow : OpenClaim := { program := "ytmfmampcgadjhaa", sum := "8e8ee3c12239999067efecc0f64c51e28f7e956c94462754913cbc973aac23ea", func := "cartouche/cartouchelaw01.NumsBack", spec := "numsBack", unfollowed := true, recurses := true, apart := false, narrowed := true }
def NumsBackUptoSaid : Prop := numsBackUptoRow.holds Try.pinned (OpenSpec.upto numsBackSpec)

/-- 'cartouchelaw01.NumsAgain', WHERE WHAT IT READS IS OF BULK AT MOST 1048576: true; the input reads as it did. -/
def numsAgainUptoRow : OpenClaim := { program := "ytmfmampcgadjhaa", sum := "8e8ee3c12239999067efecc0f64c51e28f7e956c94462754913cbc973aac23ea", func := "cartouche/cartouchelaw01.NumsAgain", spec := "numsAgain", unfollowed := true, recurses := true, apart := false, narrowed := true }
def NumsAgainUptoSaid : Prop := numsAgainUptoRow.holds Try.pinned (OpenSpec.upto numsAgainSpec)

/-- 'cartouchelaw01.NumsShort', WHERE WHAT IT READS IS OF BULK AT MOST 1048576: true; the input reads as it did. -/
def numsShortUptoRow : OpenClaim := { program := "ytmfmampcgadjhaa", sum := "8e8ee3c12239999067efecc0f64c51e28f7e956c94462754913cbc973aac23ea", func := "cartouche/cartouchelaw01.NumsShort", spec := "numsShort", unfollowed := true, recurses := true, apart := false, narrowed := true }
def NumsShortUptoSaid : Prop := numsShortUptoRow.holds Try.pinned (OpenSpec.upto numsShortSpec)

/-- 'cartouchelaw01.NumsRow', WHERE WHAT IT READS IS OF BULK AT MOST 1048576: true; the input reads as it did. -/
def numsRowUptoRow : OpenClaim := { program := "ytmfmampcgadjhaa", sum := "8e8ee3c12239999067efecc0f64c51e28f7e956c94462754913cbc973aac23ea", func := "cartouche/cartouchelaw01.NumsRow", spec := "numsRow", unfollowed := true, recurses := true, apart := false, narrowed := true }
def NumsRowUptoSaid : Prop := numsRowUptoRow.holds Try.pinned (OpenSpec.upto numsRowSpec)

end Rows
end Go.Proofs.Ytmfmampcgadjhaa
