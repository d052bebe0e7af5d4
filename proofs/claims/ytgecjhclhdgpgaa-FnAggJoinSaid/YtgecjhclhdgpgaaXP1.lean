import Derived.Test.YtgecjhclhdgpgaaXF8
set_option linter.unusedVariables false
set_option linter.unusedSimpArgs false
namespace Go.Proofs
open Go Go.Ax
/-! ## wide numbers, as integers -/
theorem wadd2 (x y : Int) : waddL (wofL2 x) (wofL2 y) = wofL2 (x + y) := by
  simp only [waddL, wofL2, IntKind.wrap_i64, Wide.mk.injEq, U64.mk.injEq]
  omega
theorem wneg2 (x : Int) : wnegL (wofL2 x) = wofL2 (-x) := by
  simp only [wnegL, waddL, wofL2, IntKind.wrap_i64, Wide.mk.injEq, U64.mk.injEq]
  omega
theorem wof_2 {x : Int} (h : -9223372036854775808 ≤ x) (h' : x ≤ 9223372036854775807) : wofL x = wofL2 x := by
  simp only [wofL, wofL2, IntKind.wrap_i64, Wide.mk.injEq, and_true]
  split <;> omega
theorem wofL2_ok (x : Int) : WOk (wofL2 x) := by
  have := wrap_bd (x / 18446744073709551616)
  unfold WOk wofL2; simp only; omega
theorem wcmp2 {x y : Int} (h1 : -1329227995784915872903807060280344576 ≤ x) (h2 : x ≤ 1329227995784915872903807060280344576) (h3 : -1329227995784915872903807060280344576 ≤ y) (h4 : y ≤ 1329227995784915872903807060280344576) : wcmpL (wofL2 x) (wofL2 y) = cmpL x y := by
  have e1 : IntKind.i64.wrap (x / 18446744073709551616) = x / 18446744073709551616 := wrap_in (by omega) (by omega)
  have e2 : IntKind.i64.wrap (y / 18446744073709551616) = y / 18446744073709551616 := wrap_in (by omega) (by omega)
  simp only [wcmpL, wofL2, e1, e2, cmpL]
  repeat' split
  all_goals first | rfl | omega
def sumI : List Int → Int
  | [] => 0
  | x :: l => x + sumI l
theorem sumI_append : ∀ l m : List Int, sumI (l ++ m) = sumI l + sumI m
  | [], m => by simp [sumI]
  | x :: l, m => by simp only [List.cons_append, sumI, sumI_append l m]; omega
theorem sumI_perm {l m : List Int} (h : l.Perm m) : sumI l = sumI m := by
  induction h with
  | nil => rfl
  | cons x _ ih => simp only [sumI, ih]
  | swap x y l => simp only [sumI]; omega
  | trans _ _ ih1 ih2 => exact ih1.trans ih2
theorem sumI_bd {lo hi : Int} : ∀ (l : List Int), (∀ x ∈ l, lo ≤ x ∧ x ≤ hi) → lo * l.length ≤ sumI l ∧ sumI l ≤ hi * l.length
  | [], _ => by simp [sumI]
  | x :: l, h => by
    have h1 := h x (by simp)
    have h2 := sumI_bd l (fun y hy => h y (by simp [hy]))
    simp only [sumI, List.length_cons, Int.natCast_add, Int.natCast_one, Int.mul_add, Int.mul_one]
    omega
theorem sumW_sum (l : List Int) (hv : Vals l) : sumW l = wofL2 (sumI l) := by
  have key : ∀ (l : List Int) (s : Int), Vals l → l.foldl (fun s x => waddL s (wofL x)) (wofL2 s) = wofL2 (s + sumI l) := by
    intro l
    induction l with
    | nil => intro s _; simp [sumI]
    | cons x l ih =>
      intro s h
      have hx := h x (by simp)
      rw [List.foldl_cons, wof_2 hx.1 hx.2, wadd2, ih _ (fun y hy => h y (by simp [hy]))]
      simp only [sumI]
      congr 1; omega
  have := key l 0 hv
  rw [Int.zero_add] at this
  rw [← this]
  rfl
/-! ## the smallest, the greatest -/
theorem mnL_le : ∀ (l : List Int), 0 < l.length → mnL l ∈ l ∧ ∀ x ∈ l, mnL l ≤ x := by
  have key : ∀ (l : List Int) (a : Int), (l.foldl (fun a b => if b < a then b else a) a = a ∨ l.foldl (fun a b => if b < a then b else a) a ∈ l) ∧ l.foldl (fun a b => if b < a then b else a) a ≤ a ∧ ∀ x ∈ l, l.foldl (fun a b => if b < a then b else a) a ≤ x := by
    intro l
    induction l with
    | nil => intro a; simp
    | cons y l ih =>
      intro a
      simp only [List.foldl_cons]
      obtain ⟨h1, h2, h3⟩ := ih (if y < a then y else a)
      refine ⟨?_, ?_, fun x hx => ?_⟩
      · rcases h1 with h | h
        · rw [h]; split
          · exact .inr (by simp)
          · exact .inl rfl
        · exact .inr (by simp [h])
      · refine Int.le_trans h2 ?_
        split <;> omega
      · rcases List.mem_cons.1 hx with rfl | hx
        · refine Int.le_trans h2 ?_
          split <;> omega
        · exact h3 x hx
  intro l hl
  cases l with
  | nil => simp at hl
  | cons y l =>
    obtain ⟨h1, h2, h3⟩ := key l y
    refine ⟨?_, fun x hx => ?_⟩
    · rcases h1 with h | h
      · show List.foldl _ _ _ ∈ _; rw [h]; simp
      · show List.foldl _ _ _ ∈ _; simp [h]
    · rcases List.mem_cons.1 hx with rfl | hx
      · exact h2
      · exact h3 x hx
theorem mxL_le : ∀ (l : List Int), 0 < l.length → mxL l ∈ l ∧ ∀ x ∈ l, x ≤ mxL l := by
  have key : ∀ (l : List Int) (a : Int), (l.foldl (fun a b => if b > a then b else a) a = a ∨ l.foldl (fun a b => if b > a then b else a) a ∈ l) ∧ a ≤ l.foldl (fun a b => if b > a then b else a) a ∧ ∀ x ∈ l, x ≤ l.foldl (fun a b => if b > a then b else a) a := by
    intro l
    induction l with
    | nil => intro a; simp
    | cons y l ih =>
      intro a
      simp only [List.foldl_cons]
      obtain ⟨h1, h2, h3⟩ := ih (if y > a then y else a)
      refine ⟨?_, ?_, fun x hx => ?_⟩
      · rcases h1 with h | h
        · rw [h]; split
          · exact .inr (by simp)
          · exact .inl rfl
        · exact .inr (by simp [h])
      · refine Int.le_trans ?_ h2
        split <;> omega
      · rcases List.mem_cons.1 hx with rfl | hx
        · refine Int.le_trans ?_ h2
          split <;> omega
        · exact h3 x hx
  intro l hl
  cases l with
  | nil => simp at hl
  | cons y l =>
    obtain ⟨h1, h2, h3⟩ := key l y
    refine ⟨?_, fun x hx => ?_⟩
    · rcases h1 with h | h
      · show List.foldl _ _ _ ∈ _; rw [h]; simp
      · show List.foldl _ _ _ ∈ _; simp [h]
    · rcases List.mem_cons.1 hx with rfl | hx
      · exact h2
      · exact h3 x hx
theorem mnL_eq {l : List Int} {m : Int} (h1 : m ∈ l) (h2 : ∀ x ∈ l, m ≤ x) : mnL l = m := by
  have := mnL_le l (List.length_pos_of_mem h1)
  exact Int.le_antisymm (this.2 m h1) (h2 _ this.1)
theorem mxL_eq {l : List Int} {m : Int} (h1 : m ∈ l) (h2 : ∀ x ∈ l, x ≤ m) : mxL l = m := by
  have := mxL_le l (List.length_pos_of_mem h1)
  exact Int.le_antisymm (h2 _ this.1) (this.2 m h1)
theorem descL_length (l : List Int) : (descL l).length = l.length := (descL_perm l).length_eq
theorem desc_get {l : List Int} (h : l.Pairwise fun x y => y ≤ x) {i j : Nat} (hij : i ≤ j) (hj : j < l.length) : l.getD j 0 ≤ l.getD i 0 := by
  have hi : i < l.length := by omega
  simp only [List.getD_eq_getElem?_getD, List.getElem?_eq_getElem hi, List.getElem?_eq_getElem hj, Option.getD_some]
  by_cases e : i = j
  · subst e; exact Int.le_refl _
  · exact List.pairwise_iff_getElem.1 h i j hi hj (by omega)
theorem topL_length (l : List Int) : (topL l).length = min l.length 4 := by
  unfold topL; rw [List.length_take, descL_length]; omega
theorem topL_get (l : List Int) {i : Nat} (h : i < (topL l).length) : (topL l).getD i 0 = (descL l).getD i 0 := by
  have h4 : i < 4 := by rw [topL_length] at h; omega
  simp only [topL, List.getD_eq_getElem?_getD, List.getElem?_take, h4, if_true]
theorem desc_first {l : List Int} (h : 0 < l.length) : (descL l).getD 0 0 = mxL l := by
  symm
  refine mxL_eq ((descL_perm l).mem_iff.1 ?_) (fun x hx => ?_)
  · have : 0 < (descL l).length := by rw [descL_length]; exact h
    rw [List.getD_eq_getElem?_getD, List.getElem?_eq_getElem this]; exact List.getElem_mem _
  · obtain ⟨j, hj, rfl⟩ := List.getElem_of_mem ((descL_perm l).mem_iff.2 hx)
    have := desc_get (descL_desc l) (Nat.zero_le j) hj
    rwa [List.getD_eq_getElem?_getD (i := j), List.getElem?_eq_getElem hj] at this
theorem desc_last {l : List Int} (h : 0 < l.length) : (descL l).getD (l.length - 1) 0 = mnL l := by
  symm
  have hl := descL_length l
  refine mnL_eq ((descL_perm l).mem_iff.1 ?_) (fun x hx => ?_)
  · rw [List.getD_eq_getElem?_getD, List.getElem?_eq_getElem (by omega)]; exact List.getElem_mem _
  · obtain ⟨j, hj, rfl⟩ := List.getElem_of_mem ((descL_perm l).mem_iff.2 hx)
    have := desc_get (descL_desc l) (i := j) (j := l.length - 1) (by omega) (by omega)
    rwa [List.getD_eq_getElem?_getD (i := j), List.getElem?_eq_getElem hj] at this
end Go.Proofs
