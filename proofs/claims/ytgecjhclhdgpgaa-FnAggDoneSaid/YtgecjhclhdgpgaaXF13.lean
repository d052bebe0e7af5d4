import Derived.Test.YtgecjhclhdgpgaaXF12
set_option linter.unusedVariables false
set_option linter.unusedSimpArgs false
namespace Go.Proofs
open Go Go.Ax
set_option maxRecDepth 10000
theorem cmpL_ge {a b : Int} (h : b ≤ a) : 0 ≤ cmpL a b := by
  unfold cmpL; repeat' split
  all_goals omega
theorem at62 : FnAt Try.prog tab 62 Try.f62 (Try.f62.body.getD .skip) := ⟨Try.func62, rfl, Try.call62, by kernel_rfl, by decide, by kernel_rfl, mix⟩
theorem s_sAggOk : SoundC Try.prog 62 (pureT IsAgg fun _ => true) := by
  refine sound_pure (Γ := [(33, _), (108, _), (31, _), (32, _), (109, _), (110, _)]) tab_ok (.cons s_sTop (.cons s_l07Same (.cons s_sWideAdd (.cons s_sWideOf (.cons s_l07Times (.cons s_sWideCmp .nil)))))) at62 [1, 2, 3, 4, 5, 6, 7] _ _ (fun _ => Nat.le_of_ble_eq_true rfl) ?_
  rintro a ⟨l, hv, hl, rfl⟩ -
  have hd : (default : Int) = 0 := rfl
  conv => arg 2; arg 1; arg 1; cbv
  conv => arg 4; arg 1; cbv
  simp only [go_sem]
  by_cases h0 : l.length = 0
  · rw [aggOfL_nil h0]
    refine onB_dec (fun h => absurd h (by simp)) (fun _ => onB_dec (fun h => absurd h (by simp)) (fun _ => onB_ndec (fun h => absurd rfl h) (fun _ => onB_dec (fun _ => ?_) (fun h => absurd rfl h))))
    simp [wzero, onB_true]
  have htl := topL_length l
  have h0' : 0 < l.length := by omega
  rw [aggOfL_some h0]
  simp only [hd]
  have hmin : (if (4 : Int) < (l.length : Int) then (4 : Int) else (l.length : Int)) = ((topL l).length : Int) := by rw [htl]; split <;> omega
  have e0 : (0 : Int).toNat = 0 := rfl
  have e1 : IntKind.i64.wrap (((topL l).length : Int) - 1) = (((topL l).length - 1 : Nat) : Int) := by rw [wrap_in (by omega) (by omega)]; omega
  have htt : topL (topL l) = topL l := by have := top_top l []; rwa [top_nil, List.append_nil, List.append_nil] at this
  have hlast : mnL l ≤ (topL l).getD ((topL l).length - 1) 0 := (mnL_le l h0').2 _ (top_mem (getD_mem (P := fun x => x ∈ topL l) (fun x hx => hx) (by omega)))
  rw [hmin, e0, e1, htt, top_first h0', Int.toNat_natCast]
  refine onB_dec (fun h => absurd h (by omega)) (fun _ => onB_dec (fun h => absurd h (by omega)) (fun _ => onB_ndec (fun h => absurd rfl h) (fun _ => onB_dec (fun h => absurd h (by omega)) (fun _ => ⟨by omega, onB_ndec (fun h => absurd rfl h) (fun _ => ⟨⟨by omega, by omega⟩, onB_ndec (fun h => absurd rfl h) (fun _ => ⟨⟨by omega, by omega⟩, onB_dec (fun h => absurd h (by omega)) (fun _ => ?_)⟩)⟩)⟩))))
  have htop := @top_last l h0'
  have hrs := @rest_small l
  have hrb := @rest_big l
  have hvT : Vals (topL l) := top_vals hv
  have hr := sum_range hv (by omega)
  have hS := sumW_sum l hv
  generalize hT : topL l = T at *
  refine r_loop (fun i : Nat => ⟨[(0, .agg [.lit (.int .i64 l.length), .lit (.int .i64 (sumW l).hi), .lit (.int .u64 (sumW l).lo.n), .lit (.int .i64 (mnL l)), .lit (.int .i64 (mxL l)), .sl 1 (encL Enc.e T)]), (1, .ptr 64 0 0), (2, .lit (.bool false)), (3, .ptr 128 0 0), (4, .lit (.int .i64 i)), (5, .any), (6, .any), (7, .any)], [],
      [(64, ⟨6, [.agg [.lit (.int .i64 l.length), .lit (.int .i64 (sumW l).hi), .lit (.int .u64 (sumW l).lo.n), .lit (.int .i64 (mnL l)), .lit (.int .i64 (mxL l)), .sl 1 (encL Enc.e T)]], false, false⟩),
       (1440, ⟨1, encL Enc.e T, true, false⟩),
       (128, ⟨2, [.agg [.lit (.int .i64 (wofL2 (sumI (T.take i))).hi), .lit (.int .u64 (wofL2 (sumI (T.take i))).lo.n)]], false, false⟩)]⟩)
    (fun i => i ≤ T.length) (fun i => T.length - i) 0 ?_ ?_ ?_
  · exact Le.of_eq rfl
  · exact Nat.zero_le _
  · rintro i hi
    simp only [go_sem, wide_eta, hd]
    refine onB_dec (fun h1 => ?_) (fun h1 => ?_)
    · have hi1 : i < T.length := by omega
      have hx : -9223372036854775808 ≤ T.getD i 0 ∧ T.getD i 0 ≤ 9223372036854775807 := getD_mem hvT hi1
      have e2 : waddL (wofL2 (sumI (T.take i))) (wofL (T.getD i 0)) = wofL2 (sumI (T.take (i + 1))) := by
        rw [wof_2 hx.1 hx.2, wadd2, sumI_take_succ hi1]
      rw [e2]
      refine ⟨⟨by omega, hi1⟩, hx, ⟨wofL2_ok _, wofL_ok _⟩, i + 1, by omega, by omega, Le.list ?_ ?_⟩
      · rw [wrap_in (by omega) (by omega)]
        simp only [wkVs, wk_refl, Int.natCast_add, Int.natCast_one, or_true, and_true, true_or]
      · simp only [wkMs, wkO_self, and_true]
    · have hi1 : i = T.length := by omega
      subst hi1
      rw [List.take_length]
      have e3 : (3 : Int).toNat = 3 := rfl
      have hm := hv _ (mn_mem h0')
      have e4 : IntKind.i64.wrap ((l.length : Int) - T.length) = (l.length : Int) - T.length := wrap_in (by omega) (by omega)
      rw [e1, e3, e4, Int.toNat_natCast, hS]
      refine onB_dec (fun h2 => ⟨⟨by omega, by omega⟩, onB_dec (fun _ => ?_) (fun h => absurd (htop (by omega)).symm h)⟩) (fun h2 => ?_)
      · have := hrs (by omega)
        have : sumI l = sumI T := by omega
        rw [this]
        simp
      · have hx : -9223372036854775808 ≤ T.getD 3 0 ∧ T.getD 3 0 ≤ 9223372036854775807 := getD_mem (i := 3) hvT (by omega)
        have hb := hrb (by omega)
        have e5 : (l.length : Int) - T.length = (l.length : Int) - 4 - 1 + 1 := by omega
        have e6 : IntKind.i64.wrap ((l.length : Int) - T.length - 1) = (l.length : Int) - 4 - 1 := by rw [wrap_in (by omega) (by omega)]; omega
        have g1 := mul_rng hm.1 hm.2 (k := (l.length : Int) - 4 - 1) (by omega) (by omega)
        have g2 := mul_rng hx.1 hx.2 (k := (l.length : Int) - 4 - 1) (by omega) (by omega)
        have e7 : ((l.length : Int) - T.length) * mnL l = mnL l * ((l.length : Int) - 4 - 1) + mnL l := by rw [e5, Int.add_mul, Int.one_mul, Int.mul_comm]
        rw [e6, e7, wof_2 hm.1 hm.2, wadd2, wadd2, Int.mul_comm _ (T.getD 3 0), wadd2]
        generalize mnL l * ((l.length : Int) - 4 - 1) = p1 at *
        generalize T.getD 3 0 * ((l.length : Int) - 4 - 1) = p2 at *
        have hST := sum_range hvT (by omega)
        have hST' := sumI_bd T hvT
        have hT4 : T.length = 4 := by omega
        rw [hT4] at hST'
        rw [wcmp2 (by omega) (by omega) (by omega) (by omega), wcmp2 (by omega) (by omega) (by omega) (by omega)]
        refine ⟨⟨⟨by omega, by omega⟩, hm⟩, ⟨wofL2_ok _, wofL2_ok _⟩, hm, ⟨wofL2_ok _, wofL2_ok _⟩, ⟨by omega, by omega⟩, ⟨⟨by omega, by omega⟩, hx⟩, ⟨wofL2_ok _, wofL2_ok _⟩, onB_dec (fun _ => decide_eq_true (cmpL_le (by omega))) (fun h => absurd (cmpL_ge (by omega)) h)⟩
end Go.Proofs
