/- Plain laws: what is guessed of a line's fields is no longer than they are. -/
import Derived.Test.YtconkncoohcdfaaDoorGs6
namespace Go.Proofs.YtconkncoohcdfaaDoor
set_option linter.unusedSimpArgs false
set_option linter.unusedVariables false

theorem wordL_long : ∀ t : List UInt8, t.length ≤ (wordL t).length
  | [] => by simp
  | c :: t => by
    have ih := wordL_long t
    have h : 0 < (escB c).length := List.length_pos_iff.2 (escB_ne c)
    rw [wordL_cons, List.length_append, List.length_cons]
    omega
theorem wordB_long (t : List UInt8) : t.length ≤ (wordB t).length := by
  unfold wordB
  split
  · rename_i h; rw [h]; simp
  · exact wordL_long t
theorem unr_len {n : Nat} {fs : List (List UInt8)} (h : ∀ x ∈ fs, x.length ≤ n) (i : Nat) : (unr fs i).length ≤ n := by
  unfold unr
  split
  · rename_i hi
    cases hu : unwordP (fld fs i) with
    | none => simp
    | some t =>
      have ht := unwordP_iff.1 hu
      have h1 := wordB_long t
      rw [ht] at h1
      have h2 : fld fs i ∈ fs := by
        unfold fld
        rw [List.getD_eq_getElem?_getD, List.getElem?_eq_getElem hi]
        exact List.getElem_mem hi
      have := h _ h2
      simp only [Option.getD_some]
      omega
  · simp
theorem numR_ge (fs : List (List UInt8)) : -9223372036854775808 ≤ numR fs := by
  unfold numR
  split
  · have := numW_range (fld fs 3)
    unfold sgn
    split <;> omega
  · decide
theorem guessP_small {n : Nat} {fs : List (List UInt8)} (h : ∀ x ∈ fs, x.length ≤ n) :
    (guessP fs).tk.length ≤ n ∧ (guessP fs).ky.length ≤ n ∧ (guessP fs).hi.length ≤ n ∧ (guessP fs).vl.length ≤ n ∧ -9223372036854775808 ≤ (guessP fs).lm ∧ (guessP fs).lm ≤ 9223372036854775807 := by
  have u1 := unr_len h 1
  have u2 := unr_len h 2
  have g1 := numR_ge fs
  have g2 := numR_lt fs
  unfold guessP
  repeat' split
  all_goals (refine ⟨?_, ?_, ?_, ?_, ?_, ?_⟩ <;> simp only [List.length_nil] <;> omega)
end Go.Proofs.YtconkncoohcdfaaDoor
