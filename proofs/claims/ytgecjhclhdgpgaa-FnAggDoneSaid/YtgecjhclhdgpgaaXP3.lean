import Derived.Test.YtgecjhclhdgpgaaXP2
set_option linter.unusedVariables false
set_option linter.unusedSimpArgs false
namespace Go.Proofs
open Go Go.Ax
def mrg : List Int → List Int → List Int
  | [], ys => ys
  | x :: xs, [] => x :: xs
  | x :: xs, y :: ys => if y ≤ x then x :: mrg xs (y :: ys) else y :: mrg (x :: xs) ys
termination_by xs ys => xs.length + ys.length
theorem mrg_nil (xs : List Int) : mrg xs [] = xs := by cases xs <;> simp [mrg]
theorem mrg_perm (xs ys : List Int) : (mrg xs ys).Perm (xs ++ ys) := by
  fun_induction mrg xs ys with
  | case1 ys => simp
  | case2 x xs => simp
  | case3 x xs y ys h ih => exact (List.Perm.cons x ih)
  | case4 x xs y ys h ih => exact (List.Perm.cons y ih).trans (List.perm_middle (a := y) (l₁ := x :: xs) (l₂ := ys)).symm
theorem mrg_desc (xs ys : List Int) (h1 : xs.Pairwise fun x y => y ≤ x) (h2 : ys.Pairwise fun x y => y ≤ x) : (mrg xs ys).Pairwise fun x y => y ≤ x := by
  fun_induction mrg xs ys with
  | case1 ys => exact h2
  | case2 x xs => exact h1
  | case3 x xs y ys h ih =>
    rw [List.pairwise_cons] at h1 ⊢
    refine ⟨fun z hz => ?_, ih h1.2 h2⟩
    rcases List.mem_append.1 ((mrg_perm _ _).mem_iff.1 hz) with h' | h'
    · exact h1.1 z h'
    · rcases List.mem_cons.1 h' with rfl | h'
      · exact h
      · exact Int.le_trans ((List.pairwise_cons.1 h2).1 z h') h
  | case4 x xs y ys h ih =>
    rw [List.pairwise_cons] at h2 ⊢
    refine ⟨fun z hz => ?_, ih h1 h2.2⟩
    rcases List.mem_append.1 ((mrg_perm _ _).mem_iff.1 hz) with h' | h'
    · rcases List.mem_cons.1 h' with rfl | h'
      · omega
      · have := (List.pairwise_cons.1 h1).1 z h'; omega
    · exact h2.1 z h'
theorem tk_cons (n : Nat) (y : Int) (ys : List Int) : (y :: ys.take n).take n = (y :: ys).take n := by
  cases n with
  | zero => rfl
  | succ n => simp only [List.take_succ_cons, List.take_take]; congr 2; omega
theorem mrg_take : ∀ (n : Nat) (xs ys : List Int), (mrg xs ys).take n = (mrg (xs.take n) (ys.take n)).take n
  | 0, _, _ => by simp
  | n + 1, [], ys => by simp [mrg, List.take_take]
  | n + 1, x :: xs, [] => by simp [mrg, List.take_take]
  | n + 1, x :: xs, y :: ys => by
    simp only [List.take_succ_cons]
    unfold mrg
    by_cases h : y ≤ x
    · rw [if_pos h, if_pos h, List.take_succ_cons, List.take_succ_cons, mrg_take n xs (y :: ys), mrg_take n (xs.take n) (y :: ys.take n), List.take_take, Nat.min_self, tk_cons]
    · rw [if_neg h, if_neg h, List.take_succ_cons, List.take_succ_cons, mrg_take n (x :: xs) ys, mrg_take n (x :: xs.take n) (ys.take n), List.take_take, Nat.min_self, tk_cons]
theorem desc_mrg {l m : List Int} (h1 : l.Pairwise fun x y => y ≤ x) (h2 : m.Pairwise fun x y => y ≤ x) {k : List Int} (h : k.Perm (l ++ m)) : descL k = mrg l m :=
  desc_eq ((descL_perm k).trans (h.trans (mrg_perm l m).symm)) (descL_desc k) (mrg_desc l m h1 h2)
theorem topL_desc (l : List Int) : (topL l).Pairwise fun x y => y ≤ x := (descL_desc l).sublist (List.take_sublist _ _)
/-- THE GREATEST FOUR OF BOTH ARE THE GREATEST FOUR OF THE GREATEST FOUR OF EACH. -/
theorem top_top (l m : List Int) : topL (topL l ++ topL m) = topL (l ++ m) := by
  have e1 : descL (topL l ++ topL m) = mrg (topL l) (topL m) := desc_mrg (topL_desc l) (topL_desc m) (List.Perm.refl _)
  have e2 : descL (l ++ m) = mrg (descL l) (descL m) := desc_mrg (descL_desc l) (descL_desc m) (List.Perm.append (descL_perm l).symm (descL_perm m).symm)
  unfold topL at e1 ⊢
  rw [e1, e2, mrg_take 4 (descL l)]
theorem top_nil : topL [] = [] := by simp [topL, descL]
theorem top_one (x : Int) : topL [x] = [x] := by simp [topL, descL]
theorem top_top1 (l : List Int) (x : Int) : topL (topL l ++ [x]) = topL (l ++ [x]) := by
  have := top_top l [x]
  rwa [top_one] at this
theorem top_perm {l m : List Int} (h : l.Perm m) : topL l = topL m := by
  have : descL l = descL m := desc_eq ((descL_perm l).trans (h.trans (descL_perm m).symm)) (descL_desc l) (descL_desc m)
  unfold topL; rw [this]
theorem mn_append {l m : List Int} (h : 0 < l.length) (h' : 0 < m.length) : mnL (l ++ m) = if mnL m < mnL l then mnL m else mnL l := by
  have a := mnL_le l h
  have b := mnL_le m h'
  split
  · exact mnL_eq (List.mem_append.2 (.inr b.1)) (fun x hx => (List.mem_append.1 hx).elim (fun g => by have := a.2 x g; omega) (fun g => b.2 x g))
  · exact mnL_eq (List.mem_append.2 (.inl a.1)) (fun x hx => (List.mem_append.1 hx).elim (fun g => a.2 x g) (fun g => by have := b.2 x g; omega))
theorem mx_append {l m : List Int} (h : 0 < l.length) (h' : 0 < m.length) : mxL (l ++ m) = if mxL m > mxL l then mxL m else mxL l := by
  have a := mxL_le l h
  have b := mxL_le m h'
  split
  · exact mxL_eq (List.mem_append.2 (.inr b.1)) (fun x hx => (List.mem_append.1 hx).elim (fun g => by have := a.2 x g; omega) (fun g => b.2 x g))
  · exact mxL_eq (List.mem_append.2 (.inl a.1)) (fun x hx => (List.mem_append.1 hx).elim (fun g => a.2 x g) (fun g => by have := b.2 x g; omega))
theorem sumW_append {l m : List Int} (h : Vals l) (h' : Vals m) : sumW (l ++ m) = waddL (sumW l) (sumW m) := by
  have hv : Vals (l ++ m) := fun x hx => (List.mem_append.1 hx).elim (h x) (h' x)
  rw [sumW_sum l h, sumW_sum m h', sumW_sum _ hv, wadd2, sumI_append]
def joinL (q : Agg × Agg) : Agg := if q.1.n = 0 then q.2 else if q.2.n > 0 then ⟨q.1.n + q.2.n, waddL q.1.sum q.2.sum, if q.2.min < q.1.min then q.2.min else q.1.min, if q.2.max > q.1.max then q.2.max else q.1.max, topL (q.1.top ++ q.2.top)⟩ else q.1
theorem aggOfL_nil {l : List Int} (h : l.length = 0) : aggOfL l = ⟨0, wzero, 0, 0, []⟩ := by unfold aggOfL; rw [if_pos h]
theorem aggOfL_some {l : List Int} (h : l.length ≠ 0) : aggOfL l = ⟨l.length, sumW l, mnL l, mxL l, topL l⟩ := by unfold aggOfL; rw [if_neg h]
/-- JOINING THE AGGREGATES OF TWO LISTS: THE AGGREGATE OF BOTH. -/
theorem join_agg {l m : List Int} (h : Vals l) (h' : Vals m) : joinL (aggOfL l, aggOfL m) = aggOfL (l ++ m) := by
  unfold joinL
  by_cases hl : l.length = 0
  · rw [aggOfL_nil hl]
    have : l = [] := List.length_eq_zero_iff.1 hl
    subst this
    simp
  · by_cases hm : m.length = 0
    · rw [aggOfL_nil hm, aggOfL_some hl]
      have : m = [] := List.length_eq_zero_iff.1 hm
      simp only
      rw [if_neg (by omega), if_neg (by omega), this, List.append_nil, aggOfL_some hl]
    · rw [aggOfL_some hl, aggOfL_some hm, aggOfL_some (l := l ++ m) (by rw [List.length_append]; omega)]
      simp only
      rw [if_neg (by omega), if_pos (by omega), top_top, sumW_append h h', mn_append (by omega) (by omega), mx_append (by omega) (by omega), List.length_append, Int.natCast_add]
theorem agg_perm {l m : List Int} (h : l.Perm m) (hv : Vals l) : aggOfL l = aggOfL m := by
  have hv' : Vals m := fun x hx => hv x (h.mem_iff.2 hx)
  have hlen := h.length_eq
  by_cases hl : l.length = 0
  · rw [aggOfL_nil hl, aggOfL_nil (by omega)]
  · have a := mnL_le l (by omega)
    have b := mxL_le l (by omega)
    rw [aggOfL_some hl, aggOfL_some (by omega), hlen, sumW_sum l hv, sumW_sum m hv', sumI_perm h, top_perm h,
      mnL_eq (l := m) (h.mem_iff.1 a.1) (fun x hx => a.2 x (h.mem_iff.2 hx)), mxL_eq (l := m) (h.mem_iff.1 b.1) (fun x hx => b.2 x (h.mem_iff.2 hx))]
end Go.Proofs
