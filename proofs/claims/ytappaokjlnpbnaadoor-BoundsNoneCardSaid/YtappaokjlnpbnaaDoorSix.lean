/- What the laws on bounds share: the box of what comes in. -/
import Derived.Test.YtappaokjlnpbnaaDoorGiven
import Derived.Test.YtappaokjlnpbnaaDoorBase
import Derived.Test.YtappaokjlnpbnaaDoorGrow
namespace Go.Proofs.YtappaokjlnpbnaaDoor
open Go.RowKit Go.Proofs.YtappaokjlnpbnaaDoorW.PrintWords
set_option linter.unusedVariables false
theorem take_lst {N : Nat} {vals : List Nat} (h : N ≤ vals.length) : lst N (fun i => vals.getD i 0) = vals.take N := by
  apply List.ext_getElem
  · simp [lst]
    omega
  · intro i h1 h2
    simp [lst] at h1 h2
    simp [lst, List.getD, show i < vals.length by omega]
theorem six_on {w w' : World} {B : Nat} {a b c d e f : Value} (h : w.cell? ⟨B, 0, none⟩ = some a ∧ w.cell? ⟨B, 1, none⟩ = some b ∧ w.cell? ⟨B, 2, none⟩ = some c ∧ w.cell? ⟨B, 3, none⟩ = some d ∧ w.cell? ⟨B, 4, none⟩ = some e ∧ w.cell? ⟨B, 5, none⟩ = some f) (hb : Below w.heap.size w w') : w'.cell? ⟨B, 0, none⟩ = some a ∧ w'.cell? ⟨B, 1, none⟩ = some b ∧ w'.cell? ⟨B, 2, none⟩ = some c ∧ w'.cell? ⟨B, 3, none⟩ = some d ∧ w'.cell? ⟨B, 4, none⟩ = some e ∧ w'.cell? ⟨B, 5, none⟩ = some f :=
  ⟨cell_below h.1 hb, cell_below h.2.1 hb, cell_below h.2.2.1 hb, cell_below h.2.2.2.1 hb, cell_below h.2.2.2.2.1 hb, cell_below h.2.2.2.2.2 hb⟩
theorem fr_erase {n : Nat} {a : Act} {l : List (Nat × Value)} (h : Hid (Fr n a l)) (k : Nat) : Hid (Fr n a (l.eraseIdx k)) :=
  Lib.hid ⟨h.out.size, fun p hp => h.out.held p (List.mem_of_mem_eraseIdx hp)⟩
end Go.Proofs.YtappaokjlnpbnaaDoor
