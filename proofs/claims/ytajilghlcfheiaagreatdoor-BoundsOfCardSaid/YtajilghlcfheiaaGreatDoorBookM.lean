/- What differs between two worlds lies in some blocks; rows of cells that the call owns. -/
import Derived.Test.YtajilghlcfheiaaGreatDoorWWords
import Derived.Deep.OwnRows
import Derived.Laws.OwnMore
import Derived.OwnWalk
import Derived.WalkKit
import Derived.Lib.Hide
namespace Go.Proofs.YtajilghlcfheiaaGreatDoor
open Go.RowKit Go.Proofs.YtajilghlcfheiaaGreatDoorW.PrintWords
set_option linter.unusedVariables false
/-- what differs lies in the blocks that X tells, and in new ones. -/
structure Tch (X : Nat → Prop) (w w' : World) : Prop where
  os : w'.os = w.os
  tape : w'.tape = w.tape
  output : w'.output = w.output
  size : w.heap.size ≤ w'.heap.size
  block : ∀ k, k < w.heap.size → ¬ X k → w'.heap[k]? = w.heap[k]?
namespace Tch
variable {X Y : Nat → Prop} {w w' w2 : World}
theorem refl (X : Nat → Prop) (w : World) : Tch X w w := ⟨rfl, rfl, rfl, Nat.le_refl _, fun _ _ _ => rfl⟩
theorem trans (h : Tch X w w') (k : Tch X w' w2) : Tch X w w2 :=
  ⟨k.os.trans h.os, k.tape.trans h.tape, k.output.trans h.output, Nat.le_trans h.size k.size, fun j hj hx => (k.block j (Nat.lt_of_lt_of_le hj h.size) hx).trans (h.block j hj hx)⟩
theorem mono (h : Tch X w w') (hxy : ∀ k, k < w.heap.size → X k → Y k) : Tch Y w w' := ⟨h.os, h.tape, h.output, h.size, fun k hk hy => h.block k hk fun hx => hy (hxy k hk hx)⟩
/-- what is written lies in X, or is new since w. -/
theorem trans' (h : Tch X w w') (k : Tch Y w' w2) (hxy : ∀ k, k < w.heap.size → Y k → X k) : Tch X w w2 :=
  ⟨k.os.trans h.os, k.tape.trans h.tape, k.output.trans h.output, Nat.le_trans h.size k.size, fun j hj hx => (k.block j (Nat.lt_of_lt_of_le hj h.size) fun hy => hx (hxy j hj hy)).trans (h.block j hj hx)⟩
theorem of_below (h : Below w.heap.size w w') : Tch X w w' := ⟨h.os, h.tape, h.output, h.size, fun k hk _ => h.block k hk⟩
theorem of_grown {row : Option Nat} (h : w.grownBy w' row) (hr : ∀ k, row = some k → X k) : Tch X w w' := ⟨h.os, h.tape, h.output, h.size, fun k hk hx => h.block k hk fun e => hx (hr k e.symm)⟩
theorem below {B : Nat} (h : Tch X w w') (hB : B ≤ w.heap.size) (hX : ∀ k, X k → B ≤ k) : Below B w w' :=
  ⟨h.os, h.tape, h.output, h.size, fun k hk => h.block k (Nat.lt_of_lt_of_le hk hB) fun hx => absurd (hX k hx) (Nat.not_le.2 hk)⟩
theorem cell (h : Tch X w w') {p : Addr} {v : Value} (hc : w.cell? p = some v) (hx : ¬ X p.block) : w'.cell? p = some v := by
  have hl := World.block_lt_of_cell? w p hc
  rw [← hc]
  exact World.cell?_of_block (h.block _ hl hx)
theorem own {base : Nat} {e : TypeId} {size n : Nat} {v : Value} {xs : List Value} (h : Tch X w w') (ho : w.ownsRow base e size v n xs) (hx : ∀ k, v.ownBlock = some k → ¬ X k) : w'.ownsRow base e size v n xs := by
  refine ⟨ho.1, ?_⟩
  rcases ho.2 with h0 | ⟨g, cap, cur, rfl, hb, hg, h1, h2, h3, h4⟩
  · exact .inl h0
  · exact .inr ⟨g, cap, cur, rfl, hb, (h.block g (Array.getElem?_eq_some_iff.1 hg).1 (hx g rfl)).trans hg, h1, h2, h3, h4⟩
end Tch
/-- the block of a row, if it has one, lies from base on. -/
theorem own_at {w : World} {base : Nat} {e : TypeId} {size n : Nat} {v : Value} {xs : List Value} (h : w.ownsRow base e size v n xs) {k : Nat} (hk : v.ownBlock = some k) : base ≤ k ∧ k < w.heap.size := by
  rcases h.2 with ⟨rfl, _⟩ | ⟨g, cap, cur, rfl, hb, hg, _⟩
  · cases hk
  · have : g = k := by simpa [Value.ownBlock] using hk
    subst this
    exact ⟨hb, (Array.getElem?_eq_some_iff.1 hg).1⟩
/-- an append of one element to a row of one's own: in place, or to a new block. -/
theorem run_app1 {P : Program} (w : World) (base : Nat) (t ty e : TypeId) (i : TypeInfo) (z : Value) (size bytes : Nat) (ht : P.underlying t = some (.slice e)) (hi : P.info? e = some i) (hz : i.zero = some z)
    (hsize : i.size = size) (hby : i.bytes = bytes) (hzs : z.cells.size = size) (hsz : 0 < size) (v : Value) (n : Nat) (xs : List Value) (hown : w.ownsRow base e size v n xs)
    (a : Addr) (c : Nat) (news : List Value) (hl : news.length = size) (hnews : ∀ j u, news[j]? = some u → w.cell? (a.add j) = some u) (h1 : ∀ u ∈ news, u.oneCell' = true)
    (h63 : n + 1 ≤ maxLen) (hbytes : (n + 1) * bytes ≤ 140737488355328) (hbase : base ≤ w.heap.size) :
    ∃ v' w', (Builtin.append_ #[t, t] ty #[v, .slice (some a) 1 c]).run P w = .ok v' w' ∧ w'.ownsRow base e size v' (n + 1) (xs ++ news) ∧ ((v'.ownBlock = v.ownBlock ∧ w.grownBy w' v.ownBlock) ∨ (v'.ownBlock = some w.heap.size ∧ w.grownBy w' none)) := by
  rcases hown.2 with ⟨rfl, rfl⟩ | ⟨g, cap, cur, rfl, hbg, hg, hnc, hcm, hcs, htake⟩
  · obtain ⟨v', w', hr, ho, hgr, _, hat⟩ := run_append_own_at (P := P) w base t ty e i z size bytes ht hi hz hsize hby hzs hsz _ 0 xs hown a 1 c news (by rw [hl]; omega) hnews h1 h63 hbytes hbase
    refine ⟨v', w', hr, ho, ?_⟩
    rcases hat with hat | hat
    · exact .inl ⟨hat, hgr⟩
    · exact .inr ⟨hat, hgr⟩
  · by_cases hroom : n + 1 ≤ cap
    · obtain ⟨w', hr, ho, hgr⟩ := run_append_fits (P := P) w base t ty e i size ht hi hsize g n cap xs hown a 1 c news (by rw [hl]; omega) hnews h1 hroom
      exact ⟨_, w', hr, ho, .inl ⟨rfl, hgr⟩⟩
    · obtain ⟨v', w', hr, ho, hgr, _, hat⟩ := run_append_own_at (P := P) w base t ty e i z size bytes ht hi hz hsize hby hzs hsz _ n xs hown a 1 c news (by rw [hl]; omega) hnews h1 h63 hbytes hbase
      refine ⟨v', w', hr, ho, ?_⟩
      have holds : ∀ j u, xs[j]? = some u → w.cell? ((⟨g, 0, none⟩ : Addr).add j) = some u := hown.cells (g := g) rfl
      have hg2 := run_append_grow (P := P) w t ty e i z ht hi hz ⟨g, 0, none⟩ n cap xs (by rw [hown.1, hsize]) holds a 1 c news (by rw [hl, hsize]; omega) hnews (by omega) (by unfold maxLen at h63; omega) (by rw [hby]; exact growslice_fits (by omega) hbytes)
      rw [hr] at hg2
      injection hg2 with e1 e2
      refine .inr ⟨by rw [e1]; rfl, ?_⟩
      rw [e2]
      exact ⟨rfl, rfl, rfl, by simp, fun k hk _ => heap_alloc_old w.drew _ hk⟩
theorem wp_app1 {P : Program} {ops : Array Oper} {rest : List Oper} {o : Oper} {a : Act} {Q : Exit → Act → World → Prop} {W : World} (base : Nat) (hgd : o.guard = none) (s x : Operand) (t e : TypeId) (z u : Value) (bytes : Nat)
    (ho : o.op = .call { callee := .builtin .append, args := #[s, x], argTypes := #[t, t] }) (ht : P.underlying t = some (.slice e)) (hinfo : (P.info? e).map (fun i => (i.zero, i.size, i.bytes)) = some (some z, 1, bytes)) (hz : z.cells.size = 1)
    (v : Value) (n : Nat) (xs : List Value) (hs : a.eval s = v) (hx : a.eval x = .slice (some ⟨W.heap.size, 0, none⟩) 1 1) (HO : W.ownsRow base e 1 v n xs) (h1 : u.oneCell' = true) (hbase : base ≤ W.heap.size) (hl : (n + 1) * bytes ≤ 140737488355328) (hn : n + 1 ≤ 9223372036854775807)
    (h : ∀ v' w', w'.ownsRow base e 1 v' (n + 1) (xs ++ [u]) → ((v'.ownBlock = v.ownBlock ∧ Tch (fun k => v.ownBlock = some k) W w') ∨ (∃ b, v'.ownBlock = some b ∧ W.heap.size ≤ b ∧ Tch (fun _ => False) W w')) → wpList P ops Q rest (a.put o.dst v') w') :
    wpList P ops Q (o :: rest) a (W.alloc (.cells #[u] e)) := by
  obtain ⟨i, hi, hzz⟩ := Option.map_eq_some_iff.1 hinfo
  simp only [Prod.mk.injEq] at hzz
  obtain ⟨hz0, hz1, hz2⟩ := hzz
  have hba : Below W.heap.size W (W.alloc (.cells #[u] e)) := (Below.refl _ W).alloc (Nat.le_refl _) _
  have HO' := (Tch.of_below (X := fun _ => False) hba).own HO (fun _ _ h => h)
  have hk := heap_alloc_new W (.cells #[u] e)
  obtain ⟨v', w', hr, hown, hat⟩ := run_app1 (P := P) (W.alloc (.cells #[u] e)) base t o.type e i z 1 bytes ht hi hz0 hz1 hz2 hz (by omega) v n xs HO' ⟨W.heap.size, 0, none⟩ 1 [u] rfl
    (fun j y hy => by
      obtain rfl : j = 0 := by
        match j, hy with
        | 0, _ => rfl
      have hadd : (⟨W.heap.size, 0, none⟩ : Addr).add 0 = ⟨W.heap.size, 0, none⟩ := by simp [Addr.add]
      rw [hadd, cell_of_row _ _ _ _ _ _ hk]
      simpa using hy) (by simpa using h1) (by unfold maxLen; exact hn) hl (by have := hba.size; omega)
  refine wpList_plain hgd fun K hK => ?_
  unfold Oper.wp
  simp [execOp, ho, resolve, invoke, builtin, hs, hx, hr, Result.andThen]
  refine hK _ _ (h v' w' hown ?_)
  rcases hat with ⟨h2, h3⟩ | ⟨h2, h3⟩
  · exact .inl ⟨h2, (Tch.of_below hba).trans (Tch.of_grown h3 (fun k hk => hk))⟩
  · exact .inr ⟨_, h2, hba.size, (Tch.of_below hba).trans (Tch.of_grown h3 (fun k hk => by cases hk))⟩
theorem step_app1 {P : Program} {ops : Array Oper} {o : Oper} {a : Act} {W : World} {K' : Act → World → Prop} {Q : Exit → Act → World → Prop} {E : Prop} (base : Nat) (hgd : o.guard = none) (s x : Operand) (t e : TypeId) (z : Value) (size bytes : Nat)
    (ho : o.op = .call { callee := .builtin .append, args := #[s, x], argTypes := #[t, t] }) (ht : P.underlying t = some (.slice e)) (hinfo : (P.info? e).map (fun i => (i.zero, i.size, i.bytes)) = some (some z, size, bytes)) (hz : z.cells.size = size) (hsz : 0 < size)
    (v : Value) (n : Nat) (xs : List Value) (hs : a.eval s = v) (g c : Nat) (hx : a.eval x = .slice (some ⟨g, 0, none⟩) 1 c) (HO : W.ownsRow base e size v n xs) (news : List Value) (hnl : news.length = size) (hnews : ∀ j u, news[j]? = some u → W.cell? ⟨g, j, none⟩ = some u) (h1 : ∀ u ∈ news, u.oneCell' = true) (hbase : base ≤ W.heap.size) (hl : (n + 1) * bytes ≤ 140737488355328) (hn : n + 1 ≤ 9223372036854775807)
    (h : ∀ v' w', w'.ownsRow base e size v' (n + 1) (xs ++ news) → ((v'.ownBlock = v.ownBlock ∧ Tch (fun k => v.ownBlock = some k) W w') ∨ (∃ b, v'.ownBlock = some b ∧ W.heap.size ≤ b ∧ Tch (fun _ => False) W w')) → K' (a.put o.dst v') w') :
    if Region.wanted o (yielded ops a.tmps) = true then Oper.wp P o a W K' Q else E := by
  have hw : Region.wanted o (yielded ops a.tmps) = true := by simp [Region.wanted, hgd]
  rw [if_pos hw]
  obtain ⟨i, hi, hzz⟩ := Option.map_eq_some_iff.1 hinfo
  simp only [Prod.mk.injEq] at hzz
  obtain ⟨hz0, hz1, hz2⟩ := hzz
  obtain ⟨v', w', hr, hown, hat⟩ := run_app1 (P := P) W base t o.type e i z size bytes ht hi hz0 hz1 hz2 hz hsz v n xs HO ⟨g, 0, none⟩ c news hnl
    (fun j y hy => by
      have hadd : (⟨g, 0, none⟩ : Addr).add j = ⟨g, j, none⟩ := by unfold Addr.add; split <;> simp_all
      rw [hadd]
      exact hnews j y hy) h1 (by unfold maxLen; exact hn) hl hbase
  unfold Oper.wp
  simp [execOp, ho, resolve, invoke, builtin, hs, hx, hr, Result.andThen]
  refine h v' w' hown ?_
  rcases hat with ⟨h2, h3⟩ | ⟨h2, h3⟩
  · exact .inl ⟨h2, Tch.of_grown h3 (fun k hk => hk)⟩
  · exact .inr ⟨_, h2, Nat.le_refl _, Tch.of_grown h3 (fun k hk => by cases hk)⟩
theorem Tch.row {X : Nat → Prop} {w w' : World} {b n : Nat} {t : TypeId} {f : Nat → Value} (h : Tch X w w') (hr : w.rowIs b t n f) (hx : ¬ X b) : w'.rowIs b t n f := hr.of_block (h.block b hr.lt hx)
/-- the cells of a list of which each is as told. -/
def Rd (ok : Nat → Value → Prop) (w : World) (v : Value) (n q : Nat) : Prop := ∃ A c, v = .slice A n c ∧ (0 < n → ∃ g, A = some ⟨g, 0, none⟩ ∧ ∀ j, j < n → ∃ u, w.cell? ⟨g, j, none⟩ = some u ∧ ok q u)
theorem Rd.tch {ok : Nat → Value → Prop} {X : Nat → Prop} {w w' : World} {v : Value} {n q : Nat} (h : Rd ok w v n q) (ht : Tch X w w') (hx : ∀ k, v.ownBlock = some k → ¬ X k) : Rd ok w' v n q := by
  obtain ⟨A, c, rfl, h⟩ := h
  refine ⟨A, c, rfl, fun hn => ?_⟩
  obtain ⟨g, rfl, hc⟩ := h hn
  exact ⟨g, rfl, fun j hj => by
    obtain ⟨u, hu, ho⟩ := hc j hj
    exact ⟨u, ht.cell hu (hx g rfl), ho⟩⟩
theorem own_cell {w : World} {base : Nat} {e : TypeId} {size n g cap : Nat} {xs : List Value} (h : w.ownsRow base e size (.slice (some ⟨g, 0, none⟩) n cap) n xs) {j : Nat} {u : Value} (hu : xs[j]? = some u) : w.cell? ⟨g, j, none⟩ = some u := by
  have := h.cells (g := g) rfl j u hu
  have hadd : (⟨g, 0, none⟩ : Addr).add j = ⟨g, j, none⟩ := by unfold Addr.add; split <;> simp_all
  rw [hadd] at this
  exact this
/-- what lies in the block of a row, is read of another slice of the block. -/
theorem Rd.of_own {ok : Nat → Value → Prop} {w : World} {base : Nat} {e : TypeId} {v v' : Value} {n m q : Nat} {xs : List Value} (h : w.ownsRow base e 1 v' m xs) (hok : ∀ x ∈ xs, ok q x) (hn : n ≤ m) (A : Option Addr) (c : Nat) (hv : v = .slice A n c) (hA : 0 < n → ∃ g, A = some ⟨g, 0, none⟩) (hb : 0 < n → v'.ownBlock = v.ownBlock) : Rd ok w v n q := by
  refine ⟨A, c, hv, fun h0 => ?_⟩
  obtain ⟨g, rfl⟩ := hA h0
  have hb' := hb h0
  subst hv
  rcases h.2 with ⟨rfl, _⟩ | ⟨g', cap, cur, rfl, _⟩
  · cases hb'
  · obtain rfl : g' = g := by simpa [Value.ownBlock] using hb'
    refine ⟨g', rfl, fun j hj => ?_⟩
    have hl := h.1
    have hj2 : j < xs.length := by omega
    exact ⟨xs[j], own_cell h (List.getElem?_eq_getElem hj2), hok _ (List.getElem_mem hj2)⟩
theorem own_form {w : World} {base : Nat} {e : TypeId} {size n : Nat} {v : Value} {xs : List Value} (h : w.ownsRow base e size v n xs) : ∃ A c, v = .slice A n c ∧ (0 < n → ∃ g, A = some ⟨g, 0, none⟩) ∧ n ≤ 9223372036854775807 := by
  rcases h.2 with ⟨rfl, rfl⟩ | ⟨g, cap, cur, rfl, _, _, h5, h6, _⟩
  · exact ⟨none, 0, rfl, fun h => absurd h (Nat.lt_irrefl 0), by omega⟩
  · exact ⟨_, _, rfl, fun _ => ⟨g, rfl⟩, by unfold maxLen at h6; omega⟩
/-- a list that a Book holds: the list, what it is grown to, its length, its number. -/
structure HL where
  v : Value
  g : Value
  n : Nat
  q : Nat
def HL.cells (h : HL) : List Value := [h.v, h.g, .int .i64 (h.q : Int)]
def hcells (L : List HL) : List Value := L.flatMap HL.cells
theorem hcells_length (L : List HL) : (hcells L).length = L.length * 3 := by
  induction L with
  | nil => rfl
  | cons b L ih => simp [hcells, HL.cells] at ih ⊢; omega
theorem hcells_append (L K : List HL) : hcells (L ++ K) = hcells L ++ hcells K := by simp [hcells]
theorem hcells_get (L : List HL) : ∀ k (hk : k < L.length), (hcells L)[k * 3]? = some L[k].v ∧ (hcells L)[k * 3 + 1]? = some L[k].g ∧ (hcells L)[k * 3 + 2]? = some (.int .i64 (L[k].q : Int)) := by
  induction L with
  | nil => intro k hk; simp at hk
  | cons b L ih =>
    intro k hk
    have e : hcells (b :: L) = HL.cells b ++ hcells L := rfl
    cases k with
    | zero => simp [e, HL.cells]
    | succ k =>
      have h := ih k (by simpa using hk)
      have e3 : (HL.cells b).length = 3 := rfl
      have s : ∀ i, (hcells (b :: L))[(k + 1) * 3 + i]? = (hcells L)[k * 3 + i]? := fun i => by
        rw [e, List.getElem?_append_right (by rw [e3]; omega), e3]
        congr 1
        omega
      have s0 := s 0
      simp only [Nat.add_zero] at s0
      rw [s0, s 1, s 2]
      simpa using h
theorem hcells_set (L : List HL) : ∀ k (hk : k < L.length) (g : Value), (hcells L).set (k * 3 + 1) g = hcells (L.set k { L[k] with g := g }) := by
  induction L with
  | nil => intro k hk; simp at hk
  | cons b L ih =>
    intro k hk g
    have e : hcells (b :: L) = HL.cells b ++ hcells L := rfl
    cases k with
    | zero => simp [hcells, HL.cells]
    | succ k =>
      have h := ih k (by simpa using hk) g
      have e3 : (HL.cells b).length = 3 := rfl
      rw [e, List.set_append_right _ _ (by rw [e3]; omega), e3, show (k + 1) * 3 + 1 - 3 = k * 3 + 1 by omega, h]
      simp [hcells]
/-- the lists of one kind in a Book: field f of the Book at BB; th: the type of what is held. -/
def HeldAt (w : World) (base BB f : Nat) (th : TypeId) (vh : Value) (L : List HL) : Prop := w.cell? ⟨BB, f, none⟩ = some vh ∧ w.ownsRow base th 3 vh L.length (hcells L)
theorem HeldAt.tch {X : Nat → Prop} {w w' : World} {base BB f : Nat} {th : TypeId} {vh : Value} {L : List HL} (h : HeldAt w base BB f th vh L) (ht : Tch X w w') (h1 : ¬ X BB) (h2 : ∀ k, vh.ownBlock = some k → ¬ X k) : HeldAt w' base BB f th vh L :=
  ⟨ht.cell h.1 h1, ht.own h.2 h2⟩
theorem HeldAt.slice {w : World} {base BB f : Nat} {th : TypeId} {vh : Value} {L : List HL} (h : HeldAt w base BB f th vh L) : ∃ A cap, vh = .slice A L.length cap := by
  rcases h.2.2 with ⟨rfl, h0⟩ | ⟨g, cap, cur, rfl, _⟩
  · exact ⟨none, 0, by rw [h0]⟩
  · exact ⟨_, _, rfl⟩
/-- what one of them lies in. -/
theorem HeldAt.at_ {w : World} {base BB f : Nat} {th : TypeId} {vh : Value} {L : List HL} (h : HeldAt w base BB f th vh L) {i : Nat} (hi : i < L.length) :
    ∃ H cap, vh = .slice (some ⟨H, 0, none⟩) L.length cap ∧ w.cell? ⟨H, i * 3, none⟩ = some L[i].v ∧ w.cell? ⟨H, i * 3 + 1, none⟩ = some L[i].g ∧ w.cell? ⟨H, i * 3 + 2, none⟩ = some (.int .i64 (L[i].q : Int)) := by
  rcases h.2.2 with ⟨_, h0⟩ | ⟨g, cap, cur, rfl, _⟩
  · omega
  · have hc : ∀ j u, (hcells L)[j]? = some u → w.cell? ⟨g, j, none⟩ = some u := fun j u hu => by
      have := h.2.cells (g := g) rfl j u hu
      have hadd : (⟨g, 0, none⟩ : Addr).add j = ⟨g, j, none⟩ := by unfold Addr.add; split <;> simp_all
      rw [hadd] at this
      exact this
    obtain ⟨g0, g1, g2⟩ := hcells_get L i hi
    exact ⟨g, cap, rfl, hc _ _ g0, hc _ _ g1, hc _ _ g2⟩
theorem below_alloc (w : World) (o : Obj) : Below w.heap.size w (w.alloc o) := (Below.refl _ w).alloc (Nat.le_refl _) _
theorem three_at (w : World) (a b c : Value) (ty : TypeId) : (w.alloc (.cells #[a, b, c] ty)).cell? ⟨w.heap.size, 0, none⟩ = some a ∧ (w.alloc (.cells #[a, b, c] ty)).cell? ⟨w.heap.size, 1, none⟩ = some b ∧ (w.alloc (.cells #[a, b, c] ty)).cell? ⟨w.heap.size, 2, none⟩ = some c := by
  have k := heap_alloc_new w (.cells #[a, b, c] ty)
  refine ⟨?_, ?_, ?_⟩ <;> (rw [cell_of_row _ _ _ _ _ _ k]; rfl)
theorem below_on {a b c : World} (h : Below a.heap.size a b) (k : Below b.heap.size b c) : Below a.heap.size a c := h.trans (k.mono h.size)
def HL.core (h : HL) : Value × Nat × Nat := (h.v, h.n, h.q)
/-- the same lists, grown to whatever. -/
def Same (L L' : List HL) : Prop := L'.map HL.core = L.map HL.core
theorem Same.len {L L' : List HL} (h : Same L L') : L'.length = L.length := by
  have := congrArg List.length h
  simpa using this
theorem Same.at_ {L L' : List HL} (h : Same L L') {i : Nat} (hi : i < L.length) (hi' : i < L'.length) : L'[i].v = L[i].v ∧ L'[i].n = L[i].n ∧ L'[i].q = L[i].q := by
  have e : (L'.map HL.core)[i]'(by simpa using hi') = (L.map HL.core)[i]'(by simpa using hi) := by
    congr 1
  rw [List.getElem_map, List.getElem_map] at e
  simp only [HL.core, Prod.mk.injEq] at e
  exact e
theorem Same.set {L L' : List HL} (h : Same L L') {i : Nat} (hi : i < L'.length) (g : Value) : Same L (L'.set i { L'[i] with g := g }) := by
  unfold Same at h ⊢
  rw [List.map_set]
  have e : HL.core { L'[i] with g := g } = (L'.map HL.core)[i]'(by simpa using hi) := by rw [List.getElem_map]; rfl
  rw [e, List.set_getElem_self]
  exact h
/-- the blocks of the lists. -/
def Blk (L : List HL) (k : Nat) : Prop := ∃ h ∈ L, h.v.ownBlock = some k
end Go.Proofs.YtajilghlcfheiaaGreatDoor
