import Derived.Test.YtgecjhclhdgpgaaXF8
set_option linter.unusedVariables false
set_option linter.unusedSimpArgs false
namespace Go.Proofs
open Go Go.Ax
/-! ## wide numbers, as integers -/
theorem wadd2 (x y : Int) : waddL (wofL2 x) (wofL2 y) = wofL2 (x + y) := by
  simp only [waddL, wofL2, IntKind.wrap_i64, Wide.mk.injEq, U64.mk.injEq]
  omega
theorem wneg2 (x : Int) : wnegL (wofL2 x) = wofL2 (-x) := by
  simp only [wnegL, waddL, wofL2, IntKind.wrap_i64, Wide.mk.injEq, U64.mk.injEq]
  omega
theorem wof_2 {x : Int} (h : -9223372036854775808 ≤ x) (h' : x ≤ 9223372036854775807) : wofL x = wofL2 x := by
  simp only [wofL, wofL2, IntKind.wrap_i64, Wide.mk.injEq, and_true]
  split <;> omega
theorem wofL2_ok (x : Int) : WOk (wofL2 x) := by
  have := wrap_bd (x / 18446744073709551616)
  unfold WOk wofL2; simp only; omega
theorem wcmp2 {x y : Int} (h1 : -1329227995784915872903807060280344576 ≤ x) (h2 : x ≤ 1329227995784915872903807060280344576) (h3 : -1329227995784915872903807060280344576 ≤ y) (h4 : y ≤ 1329227995784915872903807060280344576) : wcmpL (wofL2 x) (wofL2 y) = cmpL x y := by
  have e1 : IntKind.i64.wrap (x / 18446744073709551616) = x / 18446744073709551616 := wrap_in (by omega) (by omega)
  have e2 : IntKind.i64.wrap (y / 18446744073709551616) = y / 18446744073709551616 := wrap_in (by omega) (by omega)
  simp only [wcmpL, wofL2, e1, e2, cmpL]
  repeat' split
  all_goals first | rfl | omega
def sumI : List Int → Int
  | [] => 0
  | x :: l => x + sumI l
theorem sumI_append : ∀ l m : List Int, sumI (l ++ m) = sumI l + sumI m
  | [], m => by simp [sumI]
  | x :: l, m => by simp only [List.cons_append, sumI, sumI_append l m]; omega
theorem sumI_perm {l m : List Int} (h : l.Perm m) : sumI l = sumI m := by
  induction h with
  | nil => rfl
  | cons x _ ih => simp only [sumI, ih]
  | swap x y l => simp only [sumI]; omega
  | trans _ _ ih1 ih2 => exact ih1.trans ih2
theorem sumI_bd {lo hi : Int} : ∀ (l : List Int), (∀ x ∈ l, lo ≤ x ∧ x ≤ hi) → lo * l.length ≤ sumI l ∧ sumI l ≤ hi * l.length
  | [], _ => by simp [sumI]
  | x :: l, h => by
    have h1 := h x (by simp)
    have h2 := sumI_bd l (fun y hy => h y (by simp [hy]))
    simp only [sumI, List.length_cons, Int.natCast_add, Int.natCast_one, Int.mul_add, Int.mul_one]
    omega
theorem sumW_sum (l : List Int) (hv : Vals l) : sumW l = wofL2 (sumI l) := by
  have key : ∀ (l : List Int) (s : Int), Vals l → l.foldl (fun s x => waddL s (wofL x)) (wofL2 s) = wofL2 (s + sumI l) := by
    intro l
    induction l with
    | nil => intro s _; simp [sumI]
    | cons x l ih =>
      intro s h
      have hx := h x (by simp)
      rw [List.foldl_cons, wof_2 hx.1 hx.2, wadd2, ih _ (fun y hy => h y (by simp [hy]))]
      simp only [sumI]
      congr 1; omega
  have := key l 0 hv
  rw [Int.zero_add] at this
  rw [← this]
  rfl
/-! ## the smallest, the greatest -/
theorem mnL_le : ∀ (l : List Int), 0 < l.length → mnL l ∈ l ∧ ∀ x ∈ l, mnL l ≤ x := by
  have key : ∀ (l : List Int) (a : Int), (l.foldl (fun a b => if b < a then b else a) a = a ∨ l.foldl (fun a b => if b < a then b else a) a ∈ l) ∧ l.foldl (fun a b => if b < a then b else a) a ≤ a ∧ ∀ x ∈ l, l.foldl (fun a b => if b < a then b else a) a ≤ x := by
    intro l
    induction l with
    | nil => intro a; simp
    | cons y l ih =>
      intro a
      simp only [List.foldl_cons]
      obtain ⟨h1, h2, h3⟩ := ih (if y < a then y else a)
      refine ⟨?_, ?_, fun x hx => ?_⟩
      · rcases h1 with h | h
        · rw [h]; split
          · exact .inr (by simp)
          · exact .inl rfl
        · exact .inr (by simp [h])
      · refine Int.le_trans h2 ?_
        split <;> omega
      · rcases List.mem_cons.1 hx with rfl | hx
        · refine Int.le_trans h2 ?_
          split <;> omega
        · exact h3 x hx
  intro l hl
  cases l with
  | nil => simp at hl
  | cons y l =>
    obtain ⟨h1, h2, h3⟩ := key l y
    refine ⟨?_, fun x hx => ?_⟩
    · rcases h1 with h | h
      · show List.foldl _ _ _ ∈ _; rw [h]; simp
      · show List.foldl _ _ _ ∈ _; simp [h]
    · rcases List.mem_cons.1 hx with rfl | hx
      · exact h2
      · exact h3 x hx
theorem mxL_le : ∀ (l : List Int), 0 < l.length → mxL l ∈ l ∧ ∀ x ∈ l, x ≤ mxL l := by
  have key : ∀ (l : List Int) (a : Int), (l.foldl (fun a b => if b > a then b else a) a = a ∨ l.foldl (fun a b => if b > a then b else a) a ∈ l) ∧ a ≤ l.foldl (fun a b => if b > a then b else a) a ∧ ∀ x ∈ l, x ≤ l.foldl (fun a b => if b > a then b else a) a := by
    intro l
    induction l with
    | nil => intro a; simp
    | cons y l ih =>
      intro a
      simp only [List.foldl_cons]
      obtain ⟨h1, h2, h3⟩ := ih (if y > a then y else a)
      refine ⟨?_, ?_, fun x hx => ?_⟩
      · rcases h1 with h | h
        · rw [h]; split
          · exact .inr (by simp)
          · exact .inl rfl
        · exact .inr (by simp [h])
      · refine Int.le_trans ?_ h2
        split <;> omega
      · rcases List.mem_cons.1 hx with rfl | hx
        · refine Int.le_trans ?_ h2
          split <;> omega
        · exact h3 x hx
  intro l hl
  cases l with
  | nil => simp at hl
  | cons y l =>
    obtain ⟨h1, h2, h3⟩ := key l y
    refine ⟨?_, fun x hx => ?_⟩
    · rcases h1 with h | h
      · show List.foldl _ _ _ ∈ _; rw [h]; simp
      · show List.foldl _ _ _ ∈ _; simp [h]
    · rcases List.mem_cons.1 hx with rfl | hx
      · exact h2
      · exact h3 x hx
theorem mnL_eq {l : List Int} {m : Int} (h1 : m ∈ l) (h2 : ∀ x ∈ l, m ≤ x) : mnL l = m := by
  have := mnL_le l (List.length_pos_of_mem h1)
  exact Int.le_antisymm (this.2 m h1) (h2 _ this.1)
theorem mxL_eq {l : List Int} {m : Int} (h1 : m ∈ l) (h2 : ∀ x ∈ l, x ≤ m) : mxL l = m := by
  have := mxL_le l (List.length_pos_of_mem h1)
  exact Int.le_antisymm (h2 _ this.1) (this.2 m h1)
theorem descL_length (l : List Int) : (descL l).length = l.length := (descL_perm l).length_eq
theorem desc_get {l : List Int} (h : l.Pairwise fun x y => y ≤ x) {i j : Nat} (hij : i ≤ j) (hj : j < l.length) : l.getD j 0 ≤ l.getD i 0 := by
  have hi : i < l.length := by omega
  simp only [List.getD_eq_getElem?_getD, List.getElem?_eq_getElem hi, List.getElem?_eq_getElem hj, Option.getD_some]
  by_cases e : i = j
  · subst e; exact Int.le_refl _
  · exact List.pairwise_iff_getElem.1 h i j hi hj (by omega)
theorem topL_length (l : List Int) : (topL l).length = min l.length 4 := by
  unfold topL; rw [List.length_take, descL_length]; omega
theorem topL_get (l : List Int) {i : Nat} (h : i < (topL l).length) : (topL l).getD i 0 = (descL l).getD i 0 := by
  have h4 : i < 4 := by rw [topL_length] at h; omega
  simp only [topL, List.getD_eq_getElem?_getD, List.getElem?_take, h4, if_true]
theorem desc_first {l : List Int} (h : 0 < l.length) : (descL l).getD 0 0 = mxL l := by
  symm
  refine mxL_eq ((descL_perm l).mem_iff.1 ?_) (fun x hx => ?_)
  · have : 0 < (descL l).length := by rw [descL_length]; exact h
    rw [List.getD_eq_getElem?_getD, List.getElem?_eq_getElem this]; exact List.getElem_mem _
  · obtain ⟨j, hj, rfl⟩ := List.getElem_of_mem ((descL_perm l).mem_iff.2 hx)
    have := desc_get (descL_desc l) (Nat.zero_le j) hj
    rwa [List.getD_eq_getElem?_getD (i := j), List.getElem?_eq_getElem hj] at this
theorem desc_last {l : List Int} (h : 0 < l.length) : (descL l).getD (l.length - 1) 0 = mnL l := by
  symm
  have hl := descL_length l
  refine mnL_eq ((descL_perm l).mem_iff.1 ?_) (fun x hx => ?_)
  · rw [List.getD_eq_getElem?_getD, List.getElem?_eq_getElem (by omega)]; exact List.getElem_mem _
  · obtain ⟨j, hj, rfl⟩ := List.getElem_of_mem ((descL_perm l).mem_iff.2 hx)
    have := desc_get (descL_desc l) (i := j) (j := l.length - 1) (by omega) (by omega)
    rwa [List.getD_eq_getElem?_getD (i := j), List.getElem?_eq_getElem hj] at this
end Go.Proofs
namespace Go.Proofs
open Go Go.Ax
theorem top_sum (l : List Int) : sumI l - sumI (topL l) = sumI ((descL l).drop 4) := by
  have h1 : sumI l = sumI (descL l) := (sumI_perm (descL_perm l)).symm
  have h2 : sumI (descL l) = sumI ((descL l).take 4) + sumI ((descL l).drop 4) := by rw [← sumI_append, List.take_append_drop]
  rw [h1, h2]; unfold topL; omega
theorem rest_small {l : List Int} (h : l.length ≤ 4) : sumI l - sumI (topL l) = 0 := by
  rw [top_sum, List.drop_of_length_le (by rw [descL_length]; exact h)]; rfl
theorem desc_mem_bd {l : List Int} (hl : 4 < l.length) : ∀ x ∈ (descL l).drop 4, mnL l ≤ x ∧ x ≤ (topL l).getD 3 0 := by
  intro x hx
  have hD := descL_length l
  refine ⟨(mnL_le l (by omega)).2 x ((descL_perm l).mem_iff.1 (List.mem_of_mem_drop hx)), ?_⟩
  obtain ⟨j, hj, rfl⟩ := List.getElem_of_mem hx
  rw [topL_get l (by rw [topL_length]; omega)]
  simp only [List.length_drop] at hj
  have := desc_get (descL_desc l) (i := 3) (j := 4 + j) (by omega) (by omega)
  rw [List.getElem_drop]
  rwa [List.getD_eq_getElem?_getD (i := 4 + j), List.getElem?_eq_getElem (by omega)] at this
theorem rest_big {l : List Int} (hl : 4 < l.length) : mnL l * ((l.length : Int) - 4 - 1) ≤ sumI l - sumI (topL l) - mnL l ∧ sumI l - sumI (topL l) - mnL l ≤ (topL l).getD 3 0 * ((l.length : Int) - 4 - 1) := by
  have hD := descL_length l
  have hb := desc_mem_bd hl
  rw [top_sum]
  have hne : (descL l).drop 4 ≠ [] := by intro e; have := congrArg List.length e; simp at this; omega
  have hlast : ((descL l).drop 4).getLast hne = mnL l := by
    rw [List.getLast_drop, List.getLast_eq_getElem, ← desc_last (l := l) (by omega), List.getD_eq_getElem?_getD, List.getElem?_eq_getElem (by omega)]
    simp only [Option.getD_some, hD]
  have hsum : sumI ((descL l).drop 4) = sumI ((descL l).drop 4).dropLast + mnL l := by
    conv => lhs; rw [← List.dropLast_concat_getLast hne]
    rw [sumI_append, hlast]; simp [sumI]
  have hlen : ((((descL l).drop 4).dropLast.length : Nat) : Int) = (l.length : Int) - 4 - 1 := by
    rw [List.length_dropLast, List.length_drop, hD]; omega
  have := sumI_bd (lo := mnL l) (hi := (topL l).getD 3 0) ((descL l).drop 4).dropLast (fun x hx => hb x ((List.dropLast_sublist _).subset hx))
  rw [hlen] at this
  omega
theorem top_ge {l : List Int} {i : Nat} (h : i + 1 < (topL l).length) : (topL l).getD (i + 1) 0 ≤ (topL l).getD i 0 := by
  rw [topL_get l h, topL_get l (by omega)]
  exact desc_get (descL_desc l) (by omega) (by rw [descL_length]; rw [topL_length] at h; omega)
theorem top_last {l : List Int} (h : 0 < l.length) (h' : l.length ≤ 4) : (topL l).getD ((topL l).length - 1) 0 = mnL l := by
  have e : (topL l).length = l.length := by rw [topL_length]; omega
  rw [topL_get l (by omega), e, desc_last h]
theorem top_first {l : List Int} (h : 0 < l.length) : (topL l).getD 0 0 = mxL l := by
  rw [topL_get l (by rw [topL_length]; omega), desc_first h]
theorem top_mem {l : List Int} {x : Int} (h : x ∈ topL l) : x ∈ l := (descL_perm l).mem_iff.1 (List.mem_of_mem_take h)
theorem top_vals {l : List Int} (h : Vals l) : Vals (topL l) := fun x hx => h x (top_mem hx)
theorem sum_range {l : List Int} (h : Vals l) (hl : l.length ≤ 1000004) : -9223372036854775808000000 - 36893488147419103232 ≤ sumI l ∧ sumI l ≤ 9223372036854775808000000 + 36893488147419103232 := by
  have := sumI_bd l h
  constructor <;> (refine Int.le_trans ?_ (Int.le_refl _)) <;> omega
theorem mn_mem {l : List Int} (h : 0 < l.length) : mnL l ∈ l := (mnL_le l h).1
theorem mx_mem {l : List Int} (h : 0 < l.length) : mxL l ∈ l := (mxL_le l h).1
theorem sumI_take_succ {l : List Int} {i : Nat} (h : i < l.length) : sumI (l.take (i + 1)) = sumI (l.take i) + l.getD i 0 := by
  rw [List.take_succ_eq_append_getElem h, sumI_append, List.getD_eq_getElem?_getD, List.getElem?_eq_getElem h]; simp [sumI]
end Go.Proofs
