/- A region walked over a frame that is a variable: what its slots hold stands in a list. -/
import Derived.Test.YtajilghlcfheiaaGreatDoorBookM
import Derived.Deep.RegionHeld3
import Derived.BigRegion
namespace Go.Proofs.YtajilghlcfheiaaGreatDoor.Bk
open Go.RowKit
/-- The frame has n slots, and holds what the list tells. -/
structure Fr (n : Nat) (a : Act) (l : List (Nat × Value)) : Prop where
  size : a.tmps.size = n
  held : ∀ p ∈ l, a.tmps[p.1]?.getD undef = p.2
theorem Fr.nil {n : Nat} {a : Act} (h : a.tmps.size = n) : Hid (Fr n a []) := Lib.hid ⟨h, by simp⟩
theorem Fr.cons {n : Nat} {a : Act} {l : List (Nat × Value)} (h : Hid (Fr n a l)) (j : Nat) (v : Value) (e : a.tmps[j]?.getD undef = v) : Hid (Fr n a ((j, v) :: l)) :=
  Lib.hid ⟨h.out.size, by
    intro p hp
    rcases List.mem_cons.1 hp with rfl | hp
    · exact e
    · exact h.out.held p hp⟩
theorem fr_at {n : Nat} {a : Act} {l : List (Nat × Value)} (h : Hid (Fr n a l)) (k : Nat) {j : Nat} {v : Value} (hk : l[k]? = some (j, v)) : a.tmps[j]?.getD undef = v :=
  h.out.held (j, v) (List.mem_of_getElem? hk)
theorem fr_put {n : Nat} {a : Act} {l : List (Nat × Value)} (h : Hid (Fr n a l)) (d : Nat) (v : Value) (hl : l.all (fun p => p.1 != d) = true) (hd : d < n) : Hid (Fr n (a.put (some d) v) ((d, v) :: l)) :=
  Lib.hid ⟨by have := h.out.size; simp [Act.put, this], by
    intro p hp
    rcases List.mem_cons.1 hp with rfl | hp
    · simp [Act.put, h.out.size, hd]
    · have h1 : p.1 ≠ d := by have := List.all_eq_true.1 hl p hp; simpa using this
      have h2 := h.out.held p hp
      rw [← h2]
      simp only [Act.put]
      rw [Array.getElem?_setIfInBounds_ne (Ne.symm h1)]⟩
theorem guard_at {ops : Array Oper} {o : Oper} {a : Act} {j d : Nat} {want b : Bool} (hg : o.guard = some (j, want)) (hd : (ops[j]?).bind (·.dst) = some d) (he : a.tmps[d]?.getD undef = .bool b) : Region.wanted o (yielded ops a.tmps) = (b == want) := by
  have h1 : a.tmps[d]? = some (.bool b) := by
    cases h : a.tmps[d]? with
    | none => rw [h] at he; simp [undef] at he
    | some v => rw [h] at he; exact congrArg some he
  unfold Region.wanted
  rw [hg]
  simp only
  unfold yielded
  rw [hd]
  simp only [Option.bind_some, h1]
  cases b <;> cases want <;> rfl
section
variable {P : Program} {ops : Array Oper} {Q : Exit → Act → World → Prop} {S : World → Prop} {md : Region.Mode}
theorem tk {n i d : Nat} {oi : Oper} {v : Value} {fuel : Nat} {listed : Array Bool} {a : Act} {w : World} {l : List (Nat × Value)} (hF : Hid (Fr n a l)) (hi : ops[i]? = some oi)
    (hdst : oi.dst = some d) (hs : Region.noSelect ops = true) (hf : Region.free md ops listed i = true) (hr : (Region.ready md ops listed).contains i = true)
    (hQ : ∀ c a w, Q (.panic c) (a.put (some d) v) w → Q (.panic c) a w) (hy : YieldsIf P ops S oi v a) (hS : S w)
    (hl : l.all (fun p => p.1 != d) = true) (hd : d < n)
    (h : ∀ b, a.put (some d) v = b → Hid (Fr n b ((d, v) :: l)) → wpAnyH P md ops Q S fuel (listed.setIfInBounds i true) b w) : wpAnyH P md ops Q S (fuel + 1) listed a w :=
  wpAnyH_take hi hs hf hr (by rw [hdst]; exact hQ) hy hS (by rw [hdst]; exact h _ rfl (fr_put hF d v hl hd))
theorem yi_want {oi : Oper} {v : Value} {a : Act} {j d : Nat} {want : Bool} (hg : oi.guard = some (j, want)) (hd : (ops[j]?).bind (·.dst) = some d) (he : a.tmps[d]?.getD undef = .bool want)
    (h : ∀ w, S w → (execOp a.eval oi).run P w = .ok (.value v) w) : YieldsIf P ops S oi v a :=
  Or.inl ⟨by rw [guard_at hg hd he]; simp, h⟩
theorem yi_skip {oi : Oper} {a : Act} {j d : Nat} {want : Bool} (hg : oi.guard = some (j, want)) (hd : (ops[j]?).bind (·.dst) = some d) (he : a.tmps[d]?.getD undef = .bool (!want)) : YieldsIf P ops S oi undef a :=
  Or.inr ⟨by rw [guard_at hg hd he]; cases want <;> rfl, rfl⟩
theorem guard_none {o : Oper} {a : Act} {j d : Nat} {want : Bool} (hg : o.guard = some (j, want)) (hd : (ops[j]?).bind (·.dst) = some d) (he : a.tmps[d]?.getD undef = undef) : Region.wanted o (yielded ops a.tmps) = false := by
  unfold Region.wanted
  rw [hg]
  simp only
  unfold yielded
  rw [hd]
  simp only [Option.bind_some]
  cases h : a.tmps[d]? with
  | none => simp
  | some v =>
    rw [h] at he
    simp only [Option.getD_some] at he
    rw [he]
    simp [undef]
theorem yi_skipu {oi : Oper} {a : Act} {j d : Nat} {want : Bool} (hg : oi.guard = some (j, want)) (hd : (ops[j]?).bind (·.dst) = some d) (he : a.tmps[d]?.getD undef = undef) : YieldsIf P ops S oi undef a :=
  Or.inr ⟨guard_none hg hd he, rfl⟩
theorem yi_go {oi : Oper} {v : Value} {a : Act} (hg : oi.guard = none)
    (h : ∀ w, S w → (execOp a.eval oi).run P w = .ok (.value v) w) : YieldsIf P ops S oi v a :=
  Or.inl ⟨by unfold Region.wanted; rw [hg], h⟩
theorem ex_move {oi : Oper} {a : Act} {s : Nat} {v : Value} (w : World) (hop : oi.op = .move (.tmp s)) (e : a.tmps[s]?.getD undef = v) : (execOp a.eval oi).run P w = .ok (.value v) w := by
  rw [BigFrame.run_move (.tmp s) hop]
  rw [show a.eval (.tmp s) = v from by rw [← e]; simp [Act.eval]]
theorem ex_assign {oi : Oper} {a : Act} {s : Nat} {v : Value} (w : World) (hop : oi.op = .assign (.tmp s)) (e : a.tmps[s]?.getD undef = v) : (execOp a.eval oi).run P w = .ok (.value v) w := by
  rw [BigFrame.run_assign (.tmp s) hop]
  rw [show a.eval (.tmp s) = v from by rw [← e]; simp [Act.eval]]
theorem ev_tmp {a : Act} {s : Nat} {v : Value} (e : a.tmps[s]?.getD undef = v) : a.eval (.tmp s) = v := by
  rw [← e]
  simp [Act.eval]
end
end Go.Proofs.YtajilghlcfheiaaGreatDoor.Bk
