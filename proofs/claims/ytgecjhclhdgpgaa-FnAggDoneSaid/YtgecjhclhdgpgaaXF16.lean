import Derived.Test.YtgecjhclhdgpgaaXF15
set_option linter.unusedVariables false
set_option linter.unusedSimpArgs false
namespace Go.Proofs
open Go Go.Ax
set_option maxRecDepth 10000
def doneL (q : Int × Int × Agg) : List Int × Bool :=
  if q.1 = 1 then ([q.2.2.n], false) else if q.1 = 2 then (if (wintL q.2.2.sum).2 then ([(wintL q.2.2.sum).1], false) else ([], true)) else if q.1 = 3 then ([q.2.2.min], false)
  else if q.1 = 4 then ([q.2.2.max], false) else if q.1 = 5 then ([wval q.2.2.sum / q.2.2.n], false) else (q.2.2.top.take q.2.1.toNat, false)
def DoneOk (q : Int × Int × Agg) : Prop := kindL (q.1, q.2.1) = true ∧ ∃ l : List Int, Vals l ∧ 0 < l.length ∧ l.length ≤ 1000000 ∧ q.2.2 = aggOfL l
theorem wval_of2 {s : Int} (h : -170141183460469231731687303715884105728 ≤ s) (h' : s ≤ 170141183460469231731687303715884105727) : wval (wofL2 s) = s := by
  have : IntKind.i64.wrap (s / 18446744073709551616) = s / 18446744073709551616 := wrap_in (by omega) (by omega)
  simp only [wval, wofL2, this]; omega
theorem wval_sum {l : List Int} (hv : Vals l) (hl : l.length ≤ 1000000) : wval (sumW l) = sumI l := by
  have := sum_range hv (by omega)
  rw [sumW_sum l hv]
  exact wval_of2 (by omega) (by omega)
theorem onB_nb {b : Bool} {p q : Prop} (h : b = false → p) (h' : b = true → q) : onB (!b) p q := onB_intro (fun e => h (by simpa using e)) (fun e => h' (by simpa using e))
theorem at61 : FnAt Try.prog tab 61 Try.f61 (Try.f61.body.getD .skip) := ⟨Try.func61, rfl, Try.call61, by kernel_rfl, by decide, by kernel_rfl, mix⟩
theorem s_done : SoundC Try.prog 61 (pureT DoneOk doneL) := by
  refine sound_pure (Γ := [(106, _), (107, _), (58, _)]) tab_ok (.cons s_iWideInt (.cons s_iMean (.cons s_cloneI .nil))) at61 [5, 6, 7, 8, 9, 10, 11, 12, 13, 18, 20, 30, 35, 40, 42] _ _ (fun _ => Nat.le_of_ble_eq_true rfl) ?_
  rintro ⟨kind, k, a⟩ h -
  conv => arg 2; arg 1; arg 1; cbv
  conv => arg 4; arg 1; cbv
  simp only [go_sem]
  obtain ⟨hk, l, hv, hl0, hl, rfl⟩ := h
  obtain ⟨f1, f2, f3, f4⟩ := agg_facts hv hl rfl
  have e0 := aggOfL_some (l := l) (by omega)
  have hw := wval_sum hv hl
  have hb := sumI_bd l hv
  have hs : (aggOfL l).sum = sumW l := by rw [e0]
  simp only [wide_eta]
  unfold doneL
  simp only
  refine onB_dec (fun h1 => ?_) (fun h1 => onB_dec (fun h2 => ⟨f3, onB_nb (fun h => ?_) (fun h => ?_)⟩) (fun h2 => onB_dec (fun h3 => ?_) (fun h3 => onB_dec (fun h4 => ?_) (fun h4 => onB_dec (fun h5 => ⟨⟨f3, ⟨by omega, by omega⟩, ?_, ?_⟩, ?_⟩) (fun h5 => ?_)))))
  · rw [if_pos h1]; exact ⟨wkL_refl _, rfl⟩
  · rw [if_neg h1, if_pos h2, h]; exact ⟨rfl, rfl⟩
  · rw [if_neg h1, if_pos h2, h]; exact ⟨wkL_refl _, rfl⟩
  · rw [if_neg h1, if_neg h2, if_pos h3]; exact ⟨wkL_refl _, rfl⟩
  · rw [if_neg h1, if_neg h2, if_neg h3, if_pos h4]; exact ⟨wkL_refl _, rfl⟩
  · rw [hs, hw, f1]; omega
  · rw [hs, hw, f1]; omega
  · rw [if_neg h1, if_neg h2, if_neg h3, if_neg h4, if_pos h5]; exact ⟨wkL_refl _, rfl⟩
  · rw [if_neg h1, if_neg h2, if_neg h3, if_neg h4, if_neg h5]
    have hk' : kind = 6 ∧ 1 ≤ k := by
      unfold kindL at hk
      simp only at hk
      split at hk
      · simp [in_] at hk; omega
      · simp [in_] at hk; omega
    have ek : (if ((aggOfL l).top.length : Int) < k then ((aggOfL l).top.length : Int) else k) = (min (aggOfL l).top.length k.toNat : Nat) := by split <;> omega
    have e1 : (0 : Int).toNat = 0 := rfl
    have e2 : (aggOfL l).top.take (min (aggOfL l).top.length k.toNat) = (aggOfL l).top.take k.toNat := by
      rw [Nat.min_comm, ← List.take_take, List.take_length]
    rw [ek, e1, Int.toNat_natCast, e2, List.drop_zero]
    refine ⟨⟨by omega, by omega, by omega⟩, by rw [List.length_take]; omega, wkL_refl _, rfl⟩
theorem at25 : FnAt Try.prog tab 25 Try.f25 (Try.f25.body.getD .skip) := ⟨Try.func25, rfl, Try.call25, by kernel_rfl, by decide, by kernel_rfl, mix⟩
theorem s_aggDone : SoundC Try.prog 25 (pureT DoneOk doneL) := by
  refine sound_pure (Γ := [(29, _), (60, _), (61, _)]) tab_ok (.cons s_isAgg (.cons s_iKind (.cons s_done .nil))) at25 [5, 6, 7] _ _ (fun _ => Nat.le_of_ble_eq_true rfl) ?_
  rintro ⟨kind, k, a⟩ h -
  conv => arg 2; arg 1; arg 1; cbv
  conv => arg 4; arg 1; cbv
  simp only [go_sem]
  obtain ⟨hk, l, hv, hl0, hl, e⟩ := id h
  obtain ⟨f1, _⟩ := agg_facts hv hl e
  simp only at e hk f1
  refine ⟨⟨l, hv, hl, e⟩, onB_dec (fun h' => absurd h' (by omega)) (fun _ => ?_)⟩
  rw [hk]
  simp only [Bool.not_true, onB_false]
  exact h
theorem at26 : FnAt Try.prog tab 26 Try.f26 (Try.f26.body.getD .skip) := ⟨Try.func26, rfl, Try.call26, by kernel_rfl, by decide, by kernel_rfl, mix⟩
theorem s_sAggDone : SoundC Try.prog 26 (pureT (fun q : Int × Int × Agg => DoneOk q ∧ q.1 = 2) doneL) := by
  refine sound_pure (Γ := [(62, _), (63, _), (64, _)]) tab_ok (.cons s_sAggOk (.cons s_sKind (.cons s_sWideInt .nil))) at26 [26, 5, 6, 7, 8, 9, 10, 11, 27, 32, 34, 44, 49, 54, 56] _ _ (fun _ => Nat.le_of_ble_eq_true rfl) ?_
  rintro ⟨kind, k, a⟩ ⟨h, h2⟩ -
  simp only at h2
  subst h2
  conv => arg 2; arg 1; arg 1; cbv
  conv => arg 4; arg 1; cbv
  simp only [go_sem]
  obtain ⟨hk, l, hv, hl0, hl, e⟩ := id h
  obtain ⟨f1, f2, f3, f4⟩ := agg_facts hv hl e
  simp only at e hk f1 f2 f3 f4
  refine ⟨⟨l, hv, hl, e⟩, onB_dec (fun h' => absurd h' (by omega)) (fun _ => ?_)⟩
  rw [hk]
  simp only [Bool.not_true, onB_false, decide_false, decide_true, onB_true, wide_eta]
  unfold doneL
  simp only
  rw [if_neg (by decide), if_pos trivial]
  refine ⟨f3, onB_nb (fun h => ?_) (fun h => ?_)⟩
  · rw [h]; exact ⟨rfl, rfl⟩
  · rw [h]; exact ⟨wkL_refl _, rfl⟩
end Go.Proofs
