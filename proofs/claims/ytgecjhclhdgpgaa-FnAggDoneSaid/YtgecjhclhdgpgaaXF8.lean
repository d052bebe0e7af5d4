import Derived.Test.YtgecjhclhdgpgaaXV3
set_option linter.unusedVariables false
set_option linter.unusedSimpArgs false
namespace Go.Proofs
open Go Go.Ax
set_option maxRecDepth 10000
theorem at69 : FnAt Try.prog tab 69 Try.f69 (Try.f69.body.getD .skip) := ⟨Try.func69, rfl, Try.call69, by kernel_rfl, by decide, by kernel_rfl, mix⟩
theorem s_iTop : SoundC Try.prog 69 (rowT (fun l : List Int => l.length ≤ 2 ^ 40) topL) := by
  refine sound_row (Γ := [(116, _), (115, _), (117, _), (58, _)]) tab_ok (.cons s_valuesI (.cons s_sortedI (.cons s_rev (.cons s_cloneI .nil)))) at69 [2, 3] _ _ (fun _ => Nat.le_of_ble_eq_true rfl) ?_
  rintro l hl hb
  conv => arg 2; arg 1; arg 1; cbv
  conv => arg 4; arg 1; cbv
  simp only [go_sem, valuesC, sortedC] at hl hb ⊢
  have hms : (l.mergeSort fun x y => decide (x ≤ y)).length = l.length := List.length_mergeSort _
  have e1 : (l.mergeSort fun x y => decide (x ≤ y)).take l.length = l.mergeSort fun x y => decide (x ≤ y) := List.take_of_length_le (by omega)
  obtain ⟨k, hk, hk', hkt⟩ : ∃ k : Nat, (if (4 : Int) < (l.length : Int) then (4 : Int) else (l.length : Int)) = k ∧ k ≤ l.length ∧ (descL l).take k = topL l := by
    by_cases h : (4 : Int) < l.length
    · exact ⟨4, by rw [if_pos h]; rfl, by omega, rfl⟩
    · refine ⟨l.length, by rw [if_neg h], Nat.le_refl _, ?_⟩
      have hd : (descL l).length = l.length := by unfold descL; rw [List.length_reverse, hms]
      unfold topL
      rw [List.take_of_length_le (by omega), List.take_of_length_le (by omega)]
  rw [hk, e1]
  have e2 : (0 : Int).toNat = 0 := rfl
  simp only [e2, Int.toNat_natCast, Nat.sub_zero, Nat.zero_add, List.drop_zero]
  rw [if_pos (by rw [List.length_reverse, hms]; exact hk')]
  have e3 : (l.mergeSort fun x y => decide (x ≤ y)).reverse.take k = topL l := hkt
  rw [e3]
  have e4 : (topL l).length ≤ l.length := by rw [← hkt]; simp [descL]; omega
  simp only [go_sem]
  refine ⟨hl, by omega, ⟨by omega, by omega, by omega⟩, by omega⟩
theorem at28 : FnAt Try.prog tab 28 Try.f28 (Try.f28.body.getD .skip) := ⟨Try.func28, rfl, Try.call28, by kernel_rfl, by decide, by kernel_rfl, mix⟩
def wzero : Wide := ⟨0, ⟨0⟩⟩
def sumW (l : List Int) : Wide := l.foldl (fun s x => waddL s (wofL x)) wzero
def aggOfL (l : List Int) : Agg := if l.length = 0 then ⟨0, wzero, 0, 0, []⟩ else ⟨l.length, sumW l, mnL l, mxL l, topL l⟩
theorem sumW_snoc (l : List Int) (x : Int) : sumW (l ++ [x]) = waddL (sumW l) (wofL x) := by simp [sumW]
theorem wzero_ok : WOk wzero := by unfold WOk wzero; simp only; omega
theorem sumW_ok (l : List Int) : WOk (sumW l) := by
  unfold sumW
  have : ∀ (l : List Int) (s : Wide), WOk s → WOk (l.foldl (fun s x => waddL s (wofL x)) s) := by
    intro l
    induction l with
    | nil => intro s h; exact h
    | cons x l ih => intro s h; exact ih _ waddL_ok
  exact this l _ wzero_ok
theorem s_iAggOf0 : SoundC Try.prog 28 (pureT (fun l : List Int => l.length ≤ 2 ^ 40 ∧ Vals l) aggOfL) := by
  refine sound_pure (Γ := [(67, _), (68, _), (69, _), (70, _), (71, _)]) tab_ok (.cons s_min (.cons s_max (.cons s_iTop (.cons s_iWideAdd (.cons s_iWideOf .nil))))) at28 [2, 3, 4, 5, 19, 20, 21] _ _ (fun _ => Nat.le_of_ble_eq_true rfl) ?_
  rintro l ⟨hl, hv⟩ -
  conv => arg 2; arg 1; arg 1; cbv
  conv => arg 4; arg 1; cbv
  simp only [go_sem] at hl ⊢
  refine onB_dec (fun h => ?_) (fun h => ⟨by omega, by omega, hl, ?_⟩)
  · have hl0 : l.length = 0 := by omega
    unfold aggOfL
    rw [if_pos hl0]
    exact ⟨rfl, rfl, rfl, rfl, rfl, rfl⟩
  refine r_loop (fun i : Nat => ⟨[(0, .sl 1 (encL Enc.e l)), (2, .ptr 96 0 0), (3, .ptr 128 0 0), (4, .any), (5, .any), (19, .sl 1 (encL Enc.e l)), (20, .lit (.int .i64 l.length)), (21, .lit (.int .i64 i))], [],
      [(96, ⟨6, [.agg [.lit (.int .i64 0), .lit (.int .i64 0), .lit (.int .u64 0), .lit (.int .i64 0), .lit (.int .i64 0), .lit (.slice none 0 0)]], false, false⟩),
       (576, ⟨1, encL Enc.e (topL l), true, false⟩),
       (128, ⟨6, [.agg [.lit (.int .i64 l.length), .lit (.int .i64 (sumW (l.take i)).hi), .lit (.int .u64 (sumW (l.take i)).lo.n), .lit (.int .i64 (mnL l)), .lit (.int .i64 (mxL l)), .row 576 1 0 (topL l).length]], false, false⟩)]⟩)
    (fun i => i ≤ l.length) (fun i => l.length - i) 0 ?_ ?_ ?_
  · exact Le.of_eq (by simp [AS.clr, sumW, wzero])
  · exact Nat.zero_le _
  · rintro i hi
    simp only [go_sem]
    refine onB_dec (fun h1 => ?_) (fun h1 => ?_)
    · have hx : i < l.length := by omega
      have hg : l.getD i default = l[i] := by simp [List.getD_eq_getElem?_getD, hx]
      have e : sumW (l.take (i + 1)) = waddL (sumW (l.take i)) (wofL (l.getD i default)) := by rw [List.take_succ_eq_append_getElem hx, sumW_snoc, hg]
      refine ⟨⟨by omega, by omega⟩, getD_mem hv hx, ⟨sumW_ok _, wofL_ok _⟩, i + 1, by omega, by omega, Le.list ?_ ?_⟩
      · rw [wrap_in (by omega) (by omega)]
        simp only [wkVs, wk_refl, Int.natCast_add, Int.natCast_one, or_true, and_true, true_or]
      · rw [e]
        simp only [wkMs, wkO_self, and_true]
    · have hi' : i = l.length := by omega
      subst hi'
      unfold aggOfL
      rw [if_neg (by omega), List.take_length]
      exact ⟨rfl, rfl, rfl, rfl, rfl, wkL_refl _⟩
theorem at10 : FnAt Try.prog tab 10 Try.f10 (Try.f10.body.getD .skip) := ⟨Try.func10, rfl, Try.call10, by kernel_rfl, by decide, by kernel_rfl, mix⟩
def aggOfL1 (l : List Int) : Agg := if 1000000 < l.length then ⟨0, wzero, 0, 0, []⟩ else aggOfL l
theorem s_iAggOf : SoundC Try.prog 10 (pureT (fun l : List Int => l.length ≤ 2 ^ 40 ∧ Vals l) aggOfL1) := by
  refine sound_pure (Γ := [(28, _)]) tab_ok (.cons s_iAggOf0 .nil) at10 [2] _ _ (fun _ => Nat.le_of_ble_eq_true rfl) ?_
  rintro l ⟨hl, hv⟩ -
  conv => arg 2; arg 1; arg 1; cbv
  conv => arg 4; arg 1; cbv
  simp only [go_sem] at hl ⊢
  unfold aggOfL1
  refine onB_dec (fun h => ?_) (fun h => ⟨⟨hl, hv⟩, ?_⟩)
  · rw [if_pos (by omega)]
    exact ⟨rfl, rfl, rfl, rfl, rfl, rfl⟩
  · rw [if_neg (by omega)]
    exact ⟨rfl, rfl, rfl, rfl, rfl, wkL_refl _⟩
end Go.Proofs
