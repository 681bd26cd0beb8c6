/- Where each variable is bounded to a value from both sides (the plain law). -/
import Derived.Test.YtappaokjlnpbnaaDoorAns
namespace Go.Proofs.YtappaokjlnpbnaaDoor
open Go.RowKit
set_option linter.unusedVariables false
def gl (v : Nat → Nat) (i : Nat) : List Rea.Bd := (List.range i).flatMap fun j => [⟨false, v j, true, j⟩, ⟨true, j, false, v j⟩]
theorem gl_succ (v : Nat → Nat) (i : Nat) : gl v (i + 1) = gl v i ++ [⟨false, v i, true, i⟩, ⟨true, i, false, v i⟩] := by simp [gl, List.range_succ]
theorem gl_length (v : Nat → Nat) (i : Nat) : (gl v i).length = 2 * i := by
  induction i with
  | zero => rfl
  | succ i ih => rw [gl_succ, List.length_append, ih]; simp; omega
theorem gl_mem {v : Nat → Nat} {i : Nat} {b : Rea.Bd} : b ∈ gl v i ↔ ∃ j, j < i ∧ (b = ⟨false, v j, true, j⟩ ∨ b = ⟨true, j, false, v j⟩) := by
  unfold gl
  rw [List.mem_flatMap]
  refine ⟨fun ⟨j, hj, h⟩ => ⟨j, List.mem_range.1 hj, by simpa using h⟩, fun ⟨j, hj, h⟩ => ⟨j, List.mem_range.2 hj, by simpa using h⟩⟩
theorem tv_congr {S : SI} {N : Nat} {f g : Nat → Nat} {v : Bool} {n : Nat} (h : okT S N v n = true) (e : ∀ i, i < N → f i = g i) : tv f v n = tv g v n := by
  cases v with
  | true => rw [tv_true, tv_true]; exact e _ (ok_var h rfl)
  | false => rw [tv_false, tv_false]
theorem given_law {S : SI} (hFN : Full S ∨ None S) {N : Nat} {L : List Rea.Bd} {v : Nat → Nat} (hc : chkF S (N : Int) L = 0) (hlen : L.length + 2 * N ≤ 256) (hv : ∀ j, j < N → S.has (v j) = true) {xs ys : List Nat} {e : Nat} (h : Ans2 S (N : Int) (L ++ gl v N) xs ys e) :
    (holdF S (lst N v) L = true → e = 0 ∧ xs = lst N v ∧ ys = lst N v) ∧ (holdF S (lst N v) L = false → e = 10) := by
  have hok := chk_vars hc
  obtain ⟨_, h64, _, hok⟩ := hok
  have hc2 : chkF S (N : Int) (L ++ gl v N) = 0 := by
    refine chk_zero.2 ⟨by omega, h64, by rw [List.length_append, gl_length]; exact hlen, fun b hb => ?_⟩
    rcases List.mem_append.1 hb with hb | hb
    · exact hok b hb
    · obtain ⟨j, hj, rfl | rfl⟩ := gl_mem.1 hb
      · simp [okB, okT, hv j hj, hj]
      · simp [okB, okT, hv j hj, hj]
  rw [Int.toNat_natCast] at hok
  have hF : ∀ f, Sol S N (L ++ gl v N) f → ∀ j, j < N → f j = v j := fun f hf j hj => by
    rcases hFN with hF | hF
    · have a1 := hf.2 ⟨false, v j, true, j⟩ (List.mem_append.2 (.inr (gl_mem.2 ⟨j, hj, .inl rfl⟩)))
      have a2 := hf.2 ⟨true, j, false, v j⟩ (List.mem_append.2 (.inr (gl_mem.2 ⟨j, hj, .inr rfl⟩)))
      simp only [tv_true, tv_false] at a1 a2
      exact hF.anti _ _ a2 a1
    · have := hv j hj
      rw [hF.has] at this
      cases this
  have hS : ∀ f, Sol S N (L ++ gl v N) f → holdF S (lst N v) L = true := fun f hf => (hold_iff v hok).2 fun b hb => by
    have := hf.2 b (List.mem_append.2 (.inl hb))
    rw [tv_congr (ok_a (hok b hb)) (hF f hf), tv_congr (ok_b (hok b hb)) (hF f hf)] at this
    exact this
  have hV : holdF S (lst N v) L = true → Sol S N (L ++ gl v N) v := fun hh => ⟨hv, fun b hb => by
    rcases List.mem_append.1 hb with hb | hb
    · exact (hold_iff v hok).1 hh b hb
    · obtain ⟨j, hj, e⟩ := gl_mem.1 hb
      have hr : S.below (v j) (v j) = true := by
        rcases hFN with hF | hF
        · exact hF.refl _ (hv j hj)
        · have := hv j hj
          rw [hF.has] at this
          cases this
      rcases e with rfl | rfl
      · simpa [tv] using hr
      · simpa [tv] using hr⟩
  rcases h with ⟨h1, rfl, rfl, h2, h3⟩ | ⟨rfl, _, f, g, hf, hg, rfl, rfl⟩
  · rw [if_pos hc2] at h2
    refine ⟨fun hh => absurd ⟨v, ?_⟩ (h3 hc2), fun _ => h2⟩
    rw [Int.toNat_natCast]
    exact hV hh
  · rw [Int.toNat_natCast] at hf hg
    refine ⟨fun _ => ⟨rfl, lst_congr (hF f hf.1), lst_congr (hF g hg.1)⟩, fun hh => ?_⟩
    rw [hS f hf.1] at hh
    cases hh
end Go.Proofs.YtappaokjlnpbnaaDoor
