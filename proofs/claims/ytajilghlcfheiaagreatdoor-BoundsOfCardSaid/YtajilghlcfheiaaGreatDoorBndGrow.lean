/- bounds.grow. -/
import Derived.Test.YtajilghlcfheiaaGreatDoorBndRep
import Derived.ScopeJumps
import Derived.WalkMore
namespace Go.Proofs.YtajilghlcfheiaaGreatDoor.Bnd
set_option maxRecDepth 20000
open Go.RowKit Go.Proofs.YtajilghlcfheiaaGreatDoorW.PrintWords
theorem wp_scope_jumps2 {P : Program} {a : Act} {w : World} {Q : Exit → Act → World → Prop} {c rest : Code} (l : Nat) (J : Act → World → Prop) (μ : Act → World → Nat) (hf : findLabel c l = some (.seq .skip rest))
    (pass : ∀ a w, J a w → rest.wp P (Exit.jump l (fun a' w' => J a' w' ∧ μ a' w' < μ a w) Q) a w)
    (first : (∀ a w, J a w → rest.wp P (Exit.jump l J Q) a w) → c.wp P (Exit.jump l J Q) a w) : (Code.scope c).wp P Q a w := by
  refine wp_scope_jumps l J μ hf (first fun a w h => Code.wp_mono (fun e a' w' q => ?_) (pass a w h)) (fun a w h => wp_seq (wp_skip (pass a w h)))
  cases e with
  | goto l' => exact ⟨q.1, q.2.1⟩
  | _ => exact q
/-- a slot of a frame that is not written out. -/
def slotU (t : Array Value) (i : Nat) : Value := t.getD i undef
theorem frame_map (t : Array Value) : t = ((List.range t.size).map (slotU t)).toArray := by
  apply Array.ext'
  apply List.ext_getElem (by simp)
  intro i h1 h2
  simp at h1
  simp [slotU, h1]
theorem frame59 (t : Array Value) (h : t.size = 59) : t = #[slotU t 0, slotU t 1, slotU t 2, slotU t 3, slotU t 4, slotU t 5, slotU t 6, slotU t 7, slotU t 8, slotU t 9, slotU t 10, slotU t 11, slotU t 12, slotU t 13, slotU t 14, slotU t 15, slotU t 16, slotU t 17, slotU t 18, slotU t 19, slotU t 20, slotU t 21, slotU t 22, slotU t 23, slotU t 24, slotU t 25, slotU t 26, slotU t 27, slotU t 28, slotU t 29, slotU t 30, slotU t 31, slotU t 32, slotU t 33, slotU t 34, slotU t 35, slotU t 36, slotU t 37, slotU t 38, slotU t 39, slotU t 40, slotU t 41, slotU t 42, slotU t 43, slotU t 44, slotU t 45, slotU t 46, slotU t 47, slotU t 48, slotU t 49, slotU t 50, slotU t 51, slotU t 52, slotU t 53, slotU t 54, slotU t 55, slotU t 56, slotU t 57, slotU t 58] := by
  have e := frame_map t
  rw [h] at e
  exact e
def rowF (w : World) (v : Value) (i : Nat) : Nat :=
  match v with
  | .slice (some a) _ _ => (match w.cell? ⟨a.block, i, none⟩ with | some (.int _ z) => z.toNat | _ => 0)
  | _ => 0
/-- all but block B is as it was. -/
structure But (B : Nat) (w w' : World) : Prop where
  os : w'.os = w.os
  tape : w'.tape = w.tape
  output : w'.output = w.output
  size : w.heap.size ≤ w'.heap.size
  block : ∀ k, k < w.heap.size → k ≠ B → w'.heap[k]? = w.heap[k]?
theorem But.refl (B : Nat) (w : World) : But B w w := ⟨rfl, rfl, rfl, Nat.le_refl _, fun _ _ _ => rfl⟩
theorem But.on {B : Nat} {a b c : World} (h : But B a b) (k : Below b.heap.size b c) : But B a c :=
  ⟨k.os.trans h.os, k.tape.trans h.tape, k.output.trans h.output, Nat.le_trans h.size k.size, fun i hi hn => (k.block i (Nat.lt_of_lt_of_le hi h.size)).trans (h.block i hi hn)⟩
theorem But.set {B i : Nat} {a b : World} (h : But B a b) (v : Value) : But B a (b.setCell ⟨B, i, none⟩ v) :=
  ⟨h.os, h.tape, h.output, by have := h.size; simp [World.setCell]; exact this, fun k hk hn => (Below.heap_setCell _ _ _ _ hn).trans (h.block k hk hn)⟩
theorem But.below {B : Nat} {w0 w w' : World} (h : But B w w') (hb : Below w0.heap.size w0 w) (hB : w0.heap.size ≤ B) : Below w0.heap.size w0 w' :=
  ⟨h.os.trans hb.os, h.tape.trans hb.tape, h.output.trans hb.output, Nat.le_trans hb.size h.size, fun k hk => (h.block k (Nat.lt_of_lt_of_le hk hb.size) (by omega)).trans (hb.block k hk)⟩
theorem two_boxes (w : World) (a b c d : Value) (ty : TypeId) : Below w.heap.size w ((w.alloc (.cells #[a, b] ty)).alloc (.cells #[c, d] ty)) ∧ ((w.alloc (.cells #[a, b] ty)).alloc (.cells #[c, d] ty)).cell? ⟨w.heap.size + 1, 0, none⟩ = some c ∧ ((w.alloc (.cells #[a, b] ty)).alloc (.cells #[c, d] ty)).cell? ⟨w.heap.size + 1, 1, none⟩ = some d := by
  have s : (w.alloc (.cells #[a, b] ty)).heap.size = w.heap.size + 1 := by show (w.heap.push _).size = _; rw [Array.size_push]
  have k : ((w.alloc (.cells #[a, b] ty)).alloc (.cells #[c, d] ty)).heap[w.heap.size + 1]? = some (.cells #[c, d] ty (0, 0)) := by
    rw [← s]
    exact heap_alloc_new _ _
  exact ⟨(lit_below w _).alloc (by rw [s]; omega) _, by rw [cell_of_row _ _ _ _ _ _ k]; rfl, by rw [cell_of_row _ _ _ _ _ _ k]; rfl⟩
theorem cell_below {w w' : World} {b i : Nat} {v : Value} (h : w.cell? ⟨b, i, none⟩ = some v) (hb : Below w.heap.size w w') : w'.cell? ⟨b, i, none⟩ = some v := by
  have hlt : b < w.heap.size := by
    by_cases hl : b < w.heap.size
    · exact hl
    · simp [World.cell?, Array.getElem?_eq_none (by omega : w.heap.size ≤ b)] at h
  rw [← h]
  simp only [World.cell?, hb.block b hlt]
def updF (f : Nat → Nat) (i g : Nat) : Nat → Nat := fun j => if j = i then g else f j
/-- variables' values in a row. -/
def RowN (w : World) (B N : Nat) (f : Nat → Nat) : Prop := w.rowIs B 66 N (fun j => .int .u64 ((f j : Nat) : Int))
theorem RowN.set {w : World} {B N : Nat} {f : Nat → Nat} (h : RowN w B N f) (i g : Nat) : RowN (w.setCell ⟨B, i, none⟩ (.int .u64 (g : Int))) B N (updF f i g) :=
  (World.rowIs.set h i (.int .u64 (g : Int))).congr (fun j _ => by unfold updF; split <;> rfl)
theorem RowN.below {w w' : World} {B N : Nat} {f : Nat → Nat} (h : RowN w B N f) (hb : Below w.heap.size w w') : RowN w' B N f :=
  World.rowIs.of_block h (hb.block B (World.rowIs.lt h))
def lst (N : Nat) (f : Nat → Nat) : List Nat := (List.range N).map f
theorem lst_length (N : Nat) (f : Nat → Nat) : (lst N f).length = N := by simp [lst]
theorem RowN.nums {w : World} {B N : Nat} {f : Nat → Nat} (h : RowN w B N f) (hlt : ∀ i, i < N → f i < 18446744073709551616) : Nums w (some ⟨B, 0, none⟩) (lst N f) := by
  refine ⟨fun x hx => ?_, fun _ => ⟨B, 0, rfl, World.rowIs.lt h, fun j hj => ?_⟩⟩
  · obtain ⟨i, hi, rfl⟩ := List.mem_map.1 hx
    exact hlt i (List.mem_range.1 hi)
  · rw [lst_length] at hj
    rw [Nat.zero_add, World.rowIs.cell h hj]
    simp [lst]
/-- a term's value, by variables' values. -/
def tv (f : Nat → Nat) (v : Bool) (n : Nat) : Nat := if v then f n else n
theorem val_tv {N : Nat} {f : Nat → Nat} {v : Bool} {n : Nat} (h : v = true → n < N) : (valF (lst N f) v n).1 = tv f v n := by
  unfold valF tv
  cases v with
  | false => simp
  | true =>
    rw [if_neg (by simp), if_pos (by rw [lst_length]; exact h rfl)]
    simp [lst, List.getD, h rfl]
theorem val_is {N : Nat} {f : Nat → Nat} {v : Bool} {n : Nat} (h : v = true → n < N) : (valF (lst N f) v n).2 = true := by
  unfold valF
  cases v with
  | false => simp
  | true => rw [if_neg (by simp), if_pos (by rw [lst_length]; exact h rfl)]
theorem rowF_is {w : World} {B N : Nat} {f : Nat → Nat} (h : RowN w B N f) (k l : Nat) : ∀ i, i < N → rowF w (.slice (some ⟨B, 0, none⟩) k l) i = f i := by
  intro i hi
  simp only [rowF]
  rw [World.rowIs.cell h hi]
  simp
/-- what a pass of it needs. -/
structure WayL (S : SI) (N : Nat) (L : List Rea.Bd) (I : (Nat → Nat) → Prop) (μ : (Nat → Nat) → Nat) : Prop where
  lt : ∀ f, I f → ∀ i, i < N → f i < 18446744073709551616
  step : ∀ f, I f → ∀ b ∈ L, b.bv = true → S.join (f b.bn) (tv f b.av b.an) ≠ f b.bn → I (updF f b.bn (S.join (f b.bn) (tv f b.av b.an))) ∧ μ (updF f b.bn (S.join (f b.bn) (tv f b.av b.an))) < μ f
  same : ∀ f g, (∀ i, i < N → f i = g i) → μ f = μ g
/-- nothing changes any more at a bound. -/
def StillL (S : SI) (f : Nat → Nat) (b : Rea.Bd) : Prop := b.bv = true → S.join (f b.bn) (tv f b.av b.an) = f b.bn
def JgL (N : Nat) (I : (Nat → Nat) → Prop) (A2 : Option Addr) (m c2 : Nat) (B : Nat) (t : TypeId) (p : Value) (W0 w1 : World) (a : Act) (w : World) : Prop :=
  ∃ f : Nat → Nat, a.defers = [] ∧ a.tmps.size = 59 ∧ slotU a.tmps 0 = .slice A2 m c2 ∧ slotU a.tmps 1 = .func (.func 49) #[] #[] ∧ slotU a.tmps 2 = .slice (some ⟨B, 0, none⟩) N N ∧ slotU a.tmps 3 = .func (.method "Join") #[.iface t p] #[] ∧ Hid (RowN w B N f) ∧ Hid (I f) ∧ Hid (But B w1 w) ∧ Hid (Below W0.heap.size W0 w)
set_option maxRecDepth 100000 in
set_option maxHeartbeats 4000000 in
theorem growL_any (S : SI) (N : Nat) (h64 : N ≤ 64) (A2 : Option Addr) (m c2 : Nat) (L : List Rea.Bd) (hm : m = L.length) (hmm : m ≤ 256) (hok : ∀ b ∈ L, okB S N b = true) (B : Nat) (t : TypeId) (p : Value) (W0 w : World) (hS : SortC W0 t p S) (hL : Rea.Bds W0 A2 L) (hb0 : Below W0.heap.size W0 w) (hB : W0.heap.size ≤ B)
    (I : (Nat → Nat) → Prop) (μ : (Nat → Nat) → Nat) (hw : WayL S N L I μ) (f0 : Nat → Nat) (hf : RowN w B N f0) (hI : I f0) :
    Calls Tryz.prog 48 #[.slice A2 m c2, .func (.func 49) #[] #[], .slice (some ⟨B, 0, none⟩) N N, .func (.method "Join") #[.iface t p] #[]] w fun e w' => e = .returned (.slice (some ⟨B, 0, none⟩) N N) ∧ But B w w' ∧ Below W0.heap.size W0 w' ∧ ∃ f, RowN w' B N f ∧ I f ∧ ∀ b ∈ L, StillL S f b := by
  have HL := Lib.hid hL
  have HM := Lib.hid hm
  have HOK := Lib.hid hok
  have HW := Lib.hid hw
  have HF0 := Lib.hid hf
  have HI0 := Lib.hid hI
  have HB0 := Lib.hid hb0
  obtain ⟨fp, ip, cp⟩ := hS.join
  have hmeth := ip.meth
  have hcall := ip.call
  have HCP := Lib.hid cp
  have HPLT := Lib.hid hS.jlt
  clear hL hm hok hw hf hI hb0 hS ip cp
  go_enter Tryz.func48, Tryz.ntmps48
  go_wp2
  refine wp_scope_jumps2 0 (JgL N I A2 m c2 B t p W0 w) (fun a w => μ (rowF w (slotU a.tmps 2))) rfl ?pass ?first
  case first =>
    intro hpass
    have HPS := Lib.hid hpass
    clear hpass
    go_wp2_with fail
    go_step3
    rename_i hKK
    exact hKK _ _ (HPS.out _ _ ⟨f0, rfl, rfl, rfl, rfl, rfl, rfl, HF0, HI0, But.refl _ _, HB0⟩)
  case pass =>
    clear HF0 HI0 HB0
    rintro ⟨t', d'⟩ W ⟨f, rfl, hsz, s0, s1, s2, s3, HF, HI, HBU, HBL⟩
    rw [frame59 t' hsz]
    simp only at s0 s1 s2 s3
    rw [s0, s1, s2, s3]
    clear hsz s0 s1 s2 s3
    go_wp2_with fail
    go_loopw [18] (fun x wr => ∃ i : Nat, i ≤ m ∧ x = .int .i64 i ∧ Hid (∀ j (hj : j < L.length), j < i → StillL S f L[j]) ∧ Hid (Below W.heap.size W wr)) (fun x _ => m - (intOf x).toNat)
    case atStart => exact ⟨0, by omega, rfl, fun j _ h => by omega, Below.refl _ _⟩
    case round =>
      obtain ⟨i, hi, rfl, HH, HB⟩ := hrel
      by_cases him : i < m
      · have hil : i < L.length := by rw [← HM.out]; exact him
        obtain ⟨b, o, rfl, hrest⟩ := HL.out i hil
        clear hrest
        obtain ⟨d, hd⟩ : ∃ d, L[i] = d := ⟨_, rfl⟩
        have HBW := Lib.hid (HBL.out.trans (HB.out.mono HBL.out.size))
        obtain ⟨⟨c0, c1⟩, ⟨c2', c3⟩, l1, l2⟩ := bd_at (HL.out.below HBW.out) hil hd
        have hbo := HOK.out L[i] (List.getElem_mem hil)
        have HST := Lib.hid (HW.out.step f HI.out L[i] (List.getElem_mem hil))
        have HSI := Lib.hid (fun (h : StillL S f d) => (show ∀ j (hj : j < L.length), j < i + 1 → StillL S f L[j] from fun j hj hji => by
          by_cases e : j = i
          · subst e
            rw [hd]
            exact h
          · exact HH.out j hj (by omega)))
        rw [hd] at hbo HST
        obtain ⟨av, an, bv, bn⟩ := d
        simp only at c0 c1 c2' c3 l1 l2 HST
        unfold okB at hbo
        rw [Bool.and_eq_true] at hbo
        obtain ⟨ha, hbk⟩ := hbo
        simp only at ha hbk
        have hfr : av = true → an < N := fun h => by
          have := ha
          rw [h] at this
          simpa [okT] using this
        have HLTF := Lib.hid (HW.out.lt f HI.out)
        have HFW := Lib.hid (HF.out.below HB.out)
        have HVAL := Lib.hid (fun W' (h : Below wr.heap.size wr W') => value_any (some ⟨B, 0, none⟩) N N (lst N f) (lst_length N f).symm (by omega) av an l1 W' ((HFW.out.nums HLTF.out).below h))
        rw [val_tv hfr, val_is hfr] at HVAL
        have HENDS := Lib.hid (fun W' => ends1_any av bv an bn W')
        have hxlt : tv f av an < 18446744073709551616 := by
          unfold tv
          split
          · next h => exact HLTF.out _ (hfr h)
          · exact l1
        have HSN := Lib.hid (fun (h : bv = false) => HSI.out (show StillL S f ⟨av, an, bv, bn⟩ from fun h2 => by rw [h] at h2; cases h2))
        have HSY := Lib.hid (fun (h : S.join (f bn) (tv f av an) = f bn) => HSI.out (show StillL S f ⟨av, an, bv, bn⟩ from fun _ => h))
        obtain ⟨x, hx⟩ : ∃ x, x = tv f av an := ⟨_, rfl⟩
        rw [← hx] at HVAL hxlt HST HSY
        have i1 : (0 : Int) ≤ (i : Int) := by omega
        have i2 : (i : Int) < (m : Int) := by omega
        clear hx hd HSI
        have HA := Lib.hid (lit_below wr (.cells #[.bool av, .int .u64 (an : Int), .bool bv, .int .u64 (bn : Int)] 99))
        obtain ⟨z0, z1, z2, z3⟩ := four_cells wr (.bool av) (.int .u64 (an : Int)) (.bool bv) (.int .u64 (bn : Int)) 99
        go_wp2_with fail
        refine (HENDS.out _).mono ?_
        rintro e w2 ⟨rfl, hb2⟩
        have HB2 := Lib.hid (on HA.out hb2)
        clear hb2 z0 z1 z2 z3 HENDS HA
        go_wp2_with fail
        obtain ⟨wA, hwA⟩ : ∃ wA, wA = (w2.alloc (.cells #[.bool av, .int .u64 (an : Int)] 97)).alloc (.cells #[.bool bv, .int .u64 (bn : Int)] 97) := ⟨_, rfl⟩
        obtain ⟨BA, e1, e2⟩ := two_boxes w2 (.bool av) (.int .u64 (an : Int)) (.bool bv) (.int .u64 (bn : Int)) 97
        rw [← hwA] at BA e1 e2 ⊢
        have HBA := Lib.hid (on HB2.out BA)
        clear hwA BA HB2
        refine (HVAL.out _ HBA.out).mono ?_
        rintro e w4 ⟨rfl, hb4⟩
        have d0 := cell_below e1 hb4
        have d1 := cell_below e2 hb4
        have HB4 := Lib.hid (on HBA.out hb4)
        clear hb4 e1 e2 HBA HVAL
        cases bv with
        | false =>
          have HN := Lib.hid (HSN.out rfl)
          go_wp2_with fail
          go_roundw
          case rel => exact ⟨i + 1, by omega, by go_num, HN.out, HB.out.trans (HB4.out.mono HB.out.size)⟩
          case measure => simp [intOf]; omega
        | true =>
          have htn : bn < N := by
            have := hbk
            simpa [okT] using this
          have HF4 := Lib.hid (HFW.out.below HB4.out)
          have q0 := World.rowIs.cell HF4.out htn
          have hflt := HLTF.out bn htn
          have HBI := Lib.hid (HBL.out.trans (HB.out.mono HBL.out.size))
          have HBJ := Lib.hid (HBI.out.trans (HB4.out.mono HBI.out.size))
          have HC := Lib.hid (HCP.out w4 (f bn) x HBJ.out hflt hxlt)
          have j1 : (0 : Int) ≤ ((bn : Nat) : Int) := by omega
          have j2 : ((bn : Nat) : Int) < (N : Int) := by omega
          obtain ⟨g, hg⟩ : ∃ g, S.join (f bn) x = g := ⟨_, rfl⟩
          have hglt : g < 18446744073709551616 := hg ▸ HPLT.out _ _ hflt hxlt
          rw [hg] at HC HSY HST
          clear hg
          go_wp2_with fail
          refine HC.out.mono ?_
          rintro e w5 ⟨rfl, hb5⟩
          have d0' := cell_below d0 hb5
          have d1' := cell_below d1 hb5
          have HF5 := Lib.hid (HF4.out.below hb5)
          have q1 := World.rowIs.cell HF5.out htn
          have HB5 := Lib.hid (on HB4.out hb5)
          clear hb5 d0 d1 q0 HC HB4 HF4 HBI HBJ
          by_cases hgf : g = f bn
          · have HN := Lib.hid (HSY.out hgf)
            subst hgf
            go_wp2_with fail
            go_roundw
            case rel => exact ⟨i + 1, by omega, by go_num, HN.out, HB.out.trans (HB5.out.mono HB.out.size)⟩
            case measure => simp [intOf]; omega
          · have HX := Lib.hid (HST.out (by trivial) hgf)
            have dn : ((g : Int) != ((f bn : Nat) : Int)) = true := by simp; omega
            have HFZ := World.rowIs.frozen HF5.out bn
            have HF6 := Lib.hid (HF5.out.set bn g)
            have HB6 := Lib.hid (HB.out.trans (HB5.out.mono HB.out.size))
            have HU6 := Lib.hid ((HBU.out.on HB6.out).set (i := bn) (.int .u64 (g : Int)))
            have HL6 := Lib.hid ((HBL.out.trans (HB6.out.mono HBL.out.size)).setCell (p := ⟨B, bn, none⟩) hB (.int .u64 (g : Int)))
            have HM6 : μ (rowF (w5.setCell ⟨B, bn, none⟩ (.int .u64 (g : Int))) (.slice (some ⟨B, 0, none⟩) N N)) < μ (rowF W (.slice (some ⟨B, 0, none⟩) N N)) := by
              rw [HW.out.same _ _ (rowF_is HF6.out N N), HW.out.same _ _ (rowF_is HF.out N N)]
              exact HX.out.2
            have HI6 := Lib.hid HX.out.1
            clear HX
            go_wp2_with fail
            go_step3
            exact ⟨rfl, ⟨_, rfl, rfl, rfl, rfl, rfl, rfl, HF6, HI6, HU6, HL6⟩, HM6⟩
      · obtain rfl : i = m := by omega
        have HR := Lib.hid (show ∀ b ∈ L, StillL S f b from fun b hb => by
          obtain ⟨j, hj, rfl⟩ := List.getElem_of_mem hb
          exact HH.out j hj (by rw [HM.out]; exact hj))
        go_wp2_with fail
        simp only [Exit.jump]
        go_ret
        exact ⟨rfl, HBU.out.on HB.out, HBL.out.trans (HB.out.mono HBL.out.size), f, HF.out.below HB.out, HI.out, HR.out⟩
/-- what a pass of it needs. -/
structure WayH (S : SI) (N : Nat) (L : List Rea.Bd) (I : (Nat → Nat) → Prop) (μ : (Nat → Nat) → Nat) : Prop where
  lt : ∀ f, I f → ∀ i, i < N → f i < 18446744073709551616
  step : ∀ f, I f → ∀ b ∈ L, b.av = true → S.meet (f b.an) (tv f b.bv b.bn) ≠ f b.an → I (updF f b.an (S.meet (f b.an) (tv f b.bv b.bn))) ∧ μ (updF f b.an (S.meet (f b.an) (tv f b.bv b.bn))) < μ f
  same : ∀ f g, (∀ i, i < N → f i = g i) → μ f = μ g
/-- nothing changes any more at a bound. -/
def StillH (S : SI) (f : Nat → Nat) (b : Rea.Bd) : Prop := b.av = true → S.meet (f b.an) (tv f b.bv b.bn) = f b.an
def JgH (N : Nat) (I : (Nat → Nat) → Prop) (A2 : Option Addr) (m c2 : Nat) (B : Nat) (t : TypeId) (p : Value) (W0 w1 : World) (a : Act) (w : World) : Prop :=
  ∃ f : Nat → Nat, a.defers = [] ∧ a.tmps.size = 59 ∧ slotU a.tmps 0 = .slice A2 m c2 ∧ slotU a.tmps 1 = .func (.func 51) #[] #[] ∧ slotU a.tmps 2 = .slice (some ⟨B, 0, none⟩) N N ∧ slotU a.tmps 3 = .func (.method "Meet") #[.iface t p] #[] ∧ Hid (RowN w B N f) ∧ Hid (I f) ∧ Hid (But B w1 w) ∧ Hid (Below W0.heap.size W0 w)
set_option maxRecDepth 100000 in
set_option maxHeartbeats 4000000 in
theorem growH_any (S : SI) (N : Nat) (h64 : N ≤ 64) (A2 : Option Addr) (m c2 : Nat) (L : List Rea.Bd) (hm : m = L.length) (hmm : m ≤ 256) (hok : ∀ b ∈ L, okB S N b = true) (B : Nat) (t : TypeId) (p : Value) (W0 w : World) (hS : SortC W0 t p S) (hL : Rea.Bds W0 A2 L) (hb0 : Below W0.heap.size W0 w) (hB : W0.heap.size ≤ B)
    (I : (Nat → Nat) → Prop) (μ : (Nat → Nat) → Nat) (hw : WayH S N L I μ) (f0 : Nat → Nat) (hf : RowN w B N f0) (hI : I f0) :
    Calls Tryz.prog 48 #[.slice A2 m c2, .func (.func 51) #[] #[], .slice (some ⟨B, 0, none⟩) N N, .func (.method "Meet") #[.iface t p] #[]] w fun e w' => e = .returned (.slice (some ⟨B, 0, none⟩) N N) ∧ But B w w' ∧ Below W0.heap.size W0 w' ∧ ∃ f, RowN w' B N f ∧ I f ∧ ∀ b ∈ L, StillH S f b := by
  have HL := Lib.hid hL
  have HM := Lib.hid hm
  have HOK := Lib.hid hok
  have HW := Lib.hid hw
  have HF0 := Lib.hid hf
  have HI0 := Lib.hid hI
  have HB0 := Lib.hid hb0
  obtain ⟨fp, ip, cp⟩ := hS.meet
  have hmeth := ip.meth
  have hcall := ip.call
  have HCP := Lib.hid cp
  have HPLT := Lib.hid hS.mlt
  clear hL hm hok hw hf hI hb0 hS ip cp
  go_enter Tryz.func48, Tryz.ntmps48
  go_wp2
  refine wp_scope_jumps2 0 (JgH N I A2 m c2 B t p W0 w) (fun a w => μ (rowF w (slotU a.tmps 2))) rfl ?pass ?first
  case first =>
    intro hpass
    have HPS := Lib.hid hpass
    clear hpass
    go_wp2_with fail
    go_step3
    rename_i hKK
    exact hKK _ _ (HPS.out _ _ ⟨f0, rfl, rfl, rfl, rfl, rfl, rfl, HF0, HI0, But.refl _ _, HB0⟩)
  case pass =>
    clear HF0 HI0 HB0
    rintro ⟨t', d'⟩ W ⟨f, rfl, hsz, s0, s1, s2, s3, HF, HI, HBU, HBL⟩
    rw [frame59 t' hsz]
    simp only at s0 s1 s2 s3
    rw [s0, s1, s2, s3]
    clear hsz s0 s1 s2 s3
    go_wp2_with fail
    go_loopw [18] (fun x wr => ∃ i : Nat, i ≤ m ∧ x = .int .i64 i ∧ Hid (∀ j (hj : j < L.length), j < i → StillH S f L[j]) ∧ Hid (Below W.heap.size W wr)) (fun x _ => m - (intOf x).toNat)
    case atStart => exact ⟨0, by omega, rfl, fun j _ h => by omega, Below.refl _ _⟩
    case round =>
      obtain ⟨i, hi, rfl, HH, HB⟩ := hrel
      by_cases him : i < m
      · have hil : i < L.length := by rw [← HM.out]; exact him
        obtain ⟨b, o, rfl, hrest⟩ := HL.out i hil
        clear hrest
        obtain ⟨d, hd⟩ : ∃ d, L[i] = d := ⟨_, rfl⟩
        have HBW := Lib.hid (HBL.out.trans (HB.out.mono HBL.out.size))
        obtain ⟨⟨c0, c1⟩, ⟨c2', c3⟩, l1, l2⟩ := bd_at (HL.out.below HBW.out) hil hd
        have hbo := HOK.out L[i] (List.getElem_mem hil)
        have HST := Lib.hid (HW.out.step f HI.out L[i] (List.getElem_mem hil))
        have HSI := Lib.hid (fun (h : StillH S f d) => (show ∀ j (hj : j < L.length), j < i + 1 → StillH S f L[j] from fun j hj hji => by
          by_cases e : j = i
          · subst e
            rw [hd]
            exact h
          · exact HH.out j hj (by omega)))
        rw [hd] at hbo HST
        obtain ⟨av, an, bv, bn⟩ := d
        simp only at c0 c1 c2' c3 l1 l2 HST
        unfold okB at hbo
        rw [Bool.and_eq_true] at hbo
        obtain ⟨ha, hbk⟩ := hbo
        simp only at ha hbk
        have hfr : bv = true → bn < N := fun h => by
          have := hbk
          rw [h] at this
          simpa [okT] using this
        have HLTF := Lib.hid (HW.out.lt f HI.out)
        have HFW := Lib.hid (HF.out.below HB.out)
        have HVAL := Lib.hid (fun W' (h : Below wr.heap.size wr W') => value_any (some ⟨B, 0, none⟩) N N (lst N f) (lst_length N f).symm (by omega) bv bn l2 W' ((HFW.out.nums HLTF.out).below h))
        rw [val_tv hfr, val_is hfr] at HVAL
        have HENDS := Lib.hid (fun W' => ends2_any av bv an bn W')
        have hxlt : tv f bv bn < 18446744073709551616 := by
          unfold tv
          split
          · next h => exact HLTF.out _ (hfr h)
          · exact l2
        have HSN := Lib.hid (fun (h : av = false) => HSI.out (show StillH S f ⟨av, an, bv, bn⟩ from fun h2 => by rw [h] at h2; cases h2))
        have HSY := Lib.hid (fun (h : S.meet (f an) (tv f bv bn) = f an) => HSI.out (show StillH S f ⟨av, an, bv, bn⟩ from fun _ => h))
        obtain ⟨x, hx⟩ : ∃ x, x = tv f bv bn := ⟨_, rfl⟩
        rw [← hx] at HVAL hxlt HST HSY
        have i1 : (0 : Int) ≤ (i : Int) := by omega
        have i2 : (i : Int) < (m : Int) := by omega
        clear hx hd HSI
        have HA := Lib.hid (lit_below wr (.cells #[.bool av, .int .u64 (an : Int), .bool bv, .int .u64 (bn : Int)] 99))
        obtain ⟨z0, z1, z2, z3⟩ := four_cells wr (.bool av) (.int .u64 (an : Int)) (.bool bv) (.int .u64 (bn : Int)) 99
        go_wp2_with fail
        refine (HENDS.out _).mono ?_
        rintro e w2 ⟨rfl, hb2⟩
        have HB2 := Lib.hid (on HA.out hb2)
        clear hb2 z0 z1 z2 z3 HENDS HA
        go_wp2_with fail
        obtain ⟨wA, hwA⟩ : ∃ wA, wA = (w2.alloc (.cells #[.bool bv, .int .u64 (bn : Int)] 97)).alloc (.cells #[.bool av, .int .u64 (an : Int)] 97) := ⟨_, rfl⟩
        obtain ⟨BA, e1, e2⟩ := two_boxes w2 (.bool bv) (.int .u64 (bn : Int)) (.bool av) (.int .u64 (an : Int)) 97
        rw [← hwA] at BA e1 e2 ⊢
        have HBA := Lib.hid (on HB2.out BA)
        clear hwA BA HB2
        refine (HVAL.out _ HBA.out).mono ?_
        rintro e w4 ⟨rfl, hb4⟩
        have d0 := cell_below e1 hb4
        have d1 := cell_below e2 hb4
        have HB4 := Lib.hid (on HBA.out hb4)
        clear hb4 e1 e2 HBA HVAL
        cases av with
        | false =>
          have HN := Lib.hid (HSN.out rfl)
          go_wp2_with fail
          go_roundw
          case rel => exact ⟨i + 1, by omega, by go_num, HN.out, HB.out.trans (HB4.out.mono HB.out.size)⟩
          case measure => simp [intOf]; omega
        | true =>
          have htn : an < N := by
            have := ha
            simpa [okT] using this
          have HF4 := Lib.hid (HFW.out.below HB4.out)
          have q0 := World.rowIs.cell HF4.out htn
          have hflt := HLTF.out an htn
          have HBI := Lib.hid (HBL.out.trans (HB.out.mono HBL.out.size))
          have HBJ := Lib.hid (HBI.out.trans (HB4.out.mono HBI.out.size))
          have HC := Lib.hid (HCP.out w4 (f an) x HBJ.out hflt hxlt)
          have j1 : (0 : Int) ≤ ((an : Nat) : Int) := by omega
          have j2 : ((an : Nat) : Int) < (N : Int) := by omega
          obtain ⟨g, hg⟩ : ∃ g, S.meet (f an) x = g := ⟨_, rfl⟩
          have hglt : g < 18446744073709551616 := hg ▸ HPLT.out _ _ hflt hxlt
          rw [hg] at HC HSY HST
          clear hg
          go_wp2_with fail
          refine HC.out.mono ?_
          rintro e w5 ⟨rfl, hb5⟩
          have d0' := cell_below d0 hb5
          have d1' := cell_below d1 hb5
          have HF5 := Lib.hid (HF4.out.below hb5)
          have q1 := World.rowIs.cell HF5.out htn
          have HB5 := Lib.hid (on HB4.out hb5)
          clear hb5 d0 d1 q0 HC HB4 HF4 HBI HBJ
          by_cases hgf : g = f an
          · have HN := Lib.hid (HSY.out hgf)
            subst hgf
            go_wp2_with fail
            go_roundw
            case rel => exact ⟨i + 1, by omega, by go_num, HN.out, HB.out.trans (HB5.out.mono HB.out.size)⟩
            case measure => simp [intOf]; omega
          · have HX := Lib.hid (HST.out (by trivial) hgf)
            have dn : ((g : Int) != ((f an : Nat) : Int)) = true := by simp; omega
            have HFZ := World.rowIs.frozen HF5.out an
            have HF6 := Lib.hid (HF5.out.set an g)
            have HB6 := Lib.hid (HB.out.trans (HB5.out.mono HB.out.size))
            have HU6 := Lib.hid ((HBU.out.on HB6.out).set (i := an) (.int .u64 (g : Int)))
            have HL6 := Lib.hid ((HBL.out.trans (HB6.out.mono HBL.out.size)).setCell (p := ⟨B, an, none⟩) hB (.int .u64 (g : Int)))
            have HM6 : μ (rowF (w5.setCell ⟨B, an, none⟩ (.int .u64 (g : Int))) (.slice (some ⟨B, 0, none⟩) N N)) < μ (rowF W (.slice (some ⟨B, 0, none⟩) N N)) := by
              rw [HW.out.same _ _ (rowF_is HF6.out N N), HW.out.same _ _ (rowF_is HF.out N N)]
              exact HX.out.2
            have HI6 := Lib.hid HX.out.1
            clear HX
            go_wp2_with fail
            go_step3
            exact ⟨rfl, ⟨_, rfl, rfl, rfl, rfl, rfl, rfl, HF6, HI6, HU6, HL6⟩, HM6⟩
      · obtain rfl : i = m := by omega
        have HR := Lib.hid (show ∀ b ∈ L, StillH S f b from fun b hb => by
          obtain ⟨j, hj, rfl⟩ := List.getElem_of_mem hb
          exact HH.out j hj (by rw [HM.out]; exact hj))
        go_wp2_with fail
        simp only [Exit.jump]
        go_ret
        exact ⟨rfl, HBU.out.on HB.out, HBL.out.trans (HB.out.mono HBL.out.size), f, HF.out.below HB.out, HI.out, HR.out⟩
end Go.Proofs.YtajilghlcfheiaaGreatDoor.Bnd
