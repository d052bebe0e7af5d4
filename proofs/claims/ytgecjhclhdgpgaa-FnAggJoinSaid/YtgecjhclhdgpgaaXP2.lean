import Derived.Test.YtgecjhclhdgpgaaXP1
set_option linter.unusedVariables false
set_option linter.unusedSimpArgs false
namespace Go.Proofs
open Go Go.Ax
theorem top_sum (l : List Int) : sumI l - sumI (topL l) = sumI ((descL l).drop 4) := by
  have h1 : sumI l = sumI (descL l) := (sumI_perm (descL_perm l)).symm
  have h2 : sumI (descL l) = sumI ((descL l).take 4) + sumI ((descL l).drop 4) := by rw [← sumI_append, List.take_append_drop]
  rw [h1, h2]; unfold topL; omega
theorem rest_small {l : List Int} (h : l.length ≤ 4) : sumI l - sumI (topL l) = 0 := by
  rw [top_sum, List.drop_of_length_le (by rw [descL_length]; exact h)]; rfl
theorem desc_mem_bd {l : List Int} (hl : 4 < l.length) : ∀ x ∈ (descL l).drop 4, mnL l ≤ x ∧ x ≤ (topL l).getD 3 0 := by
  intro x hx
  have hD := descL_length l
  refine ⟨(mnL_le l (by omega)).2 x ((descL_perm l).mem_iff.1 (List.mem_of_mem_drop hx)), ?_⟩
  obtain ⟨j, hj, rfl⟩ := List.getElem_of_mem hx
  rw [topL_get l (by rw [topL_length]; omega)]
  simp only [List.length_drop] at hj
  have := desc_get (descL_desc l) (i := 3) (j := 4 + j) (by omega) (by omega)
  rw [List.getElem_drop]
  rwa [List.getD_eq_getElem?_getD (i := 4 + j), List.getElem?_eq_getElem (by omega)] at this
theorem rest_big {l : List Int} (hl : 4 < l.length) : mnL l * ((l.length : Int) - 4 - 1) ≤ sumI l - sumI (topL l) - mnL l ∧ sumI l - sumI (topL l) - mnL l ≤ (topL l).getD 3 0 * ((l.length : Int) - 4 - 1) := by
  have hD := descL_length l
  have hb := desc_mem_bd hl
  rw [top_sum]
  have hne : (descL l).drop 4 ≠ [] := by intro e; have := congrArg List.length e; simp at this; omega
  have hlast : ((descL l).drop 4).getLast hne = mnL l := by
    rw [List.getLast_drop, List.getLast_eq_getElem, ← desc_last (l := l) (by omega), List.getD_eq_getElem?_getD, List.getElem?_eq_getElem (by omega)]
    simp only [Option.getD_some, hD]
  have hsum : sumI ((descL l).drop 4) = sumI ((descL l).drop 4).dropLast + mnL l := by
    conv => lhs; rw [← List.dropLast_concat_getLast hne]
    rw [sumI_append, hlast]; simp [sumI]
  have hlen : ((((descL l).drop 4).dropLast.length : Nat) : Int) = (l.length : Int) - 4 - 1 := by
    rw [List.length_dropLast, List.length_drop, hD]; omega
  have := sumI_bd (lo := mnL l) (hi := (topL l).getD 3 0) ((descL l).drop 4).dropLast (fun x hx => hb x ((List.dropLast_sublist _).subset hx))
  rw [hlen] at this
  omega
theorem top_ge {l : List Int} {i : Nat} (h : i + 1 < (topL l).length) : (topL l).getD (i + 1) 0 ≤ (topL l).getD i 0 := by
  rw [topL_get l h, topL_get l (by omega)]
  exact desc_get (descL_desc l) (by omega) (by rw [descL_length]; rw [topL_length] at h; omega)
theorem top_last {l : List Int} (h : 0 < l.length) (h' : l.length ≤ 4) : (topL l).getD ((topL l).length - 1) 0 = mnL l := by
  have e : (topL l).length = l.length := by rw [topL_length]; omega
  rw [topL_get l (by omega), e, desc_last h]
theorem top_first {l : List Int} (h : 0 < l.length) : (topL l).getD 0 0 = mxL l := by
  rw [topL_get l (by rw [topL_length]; omega), desc_first h]
theorem top_mem {l : List Int} {x : Int} (h : x ∈ topL l) : x ∈ l := (descL_perm l).mem_iff.1 (List.mem_of_mem_take h)
theorem top_vals {l : List Int} (h : Vals l) : Vals (topL l) := fun x hx => h x (top_mem hx)
theorem sum_range {l : List Int} (h : Vals l) (hl : l.length ≤ 1000004) : -9223372036854775808000000 - 36893488147419103232 ≤ sumI l ∧ sumI l ≤ 9223372036854775808000000 + 36893488147419103232 := by
  have := sumI_bd l h
  constructor <;> (refine Int.le_trans ?_ (Int.le_refl _)) <;> omega
theorem mn_mem {l : List Int} (h : 0 < l.length) : mnL l ∈ l := (mnL_le l h).1
theorem mx_mem {l : List Int} (h : 0 < l.length) : mxL l ∈ l := (mxL_le l h).1
theorem sumI_take_succ {l : List Int} {i : Nat} (h : i < l.length) : sumI (l.take (i + 1)) = sumI (l.take i) + l.getD i 0 := by
  rw [List.take_succ_eq_append_getElem h, sumI_append, List.getD_eq_getElem?_getD, List.getElem?_eq_getElem h]; simp [sumI]
end Go.Proofs
