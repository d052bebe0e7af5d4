import Derived.Test.YtgecjhclhdgpgaaXP2
set_option linter.unusedVariables false
set_option linter.unusedSimpArgs false
namespace Go.Proofs
open Go Go.Ax
set_option maxRecDepth 10000
def IsAgg (a : Agg) : Prop := ∃ l : List Int, Vals l ∧ l.length ≤ 1000000 ∧ a = aggOfL l
theorem onB_tail {c d : Prop} [Decidable c] [Decidable d] {A Q : Prop} (h : c → A ∧ ¬ d) (q : Q) : onB (decide c) (A ∧ onB (decide d) False Q) Q :=
  onB_dec (fun hc => ⟨(h hc).1, onB_dec (fun hd => (h hc).2 hd) (fun _ => q)⟩) (fun _ => q)
theorem mul_rng {x k : Int} (h : -9223372036854775808 ≤ x) (h' : x ≤ 9223372036854775807) (hk : 0 ≤ k) (hk' : k ≤ 1000000) : -9223372036854775808000000 ≤ x * k ∧ x * k ≤ 9223372036854775808000000 := by
  have h1 := Int.mul_le_mul_of_nonneg_right h hk
  have h2 := Int.mul_le_mul_of_nonneg_right h' hk
  omega
theorem cmpL_le {a b : Int} (h : a ≤ b) : cmpL a b ≤ 0 := by
  unfold cmpL; repeat' split
  all_goals omega
theorem wide_eta (a : Wide) : (⟨a.hi, ⟨a.lo.n⟩⟩ : Wide) = a := (rfl)
theorem at29 : FnAt Try.prog tab 29 Try.f29 (Try.f29.body.getD .skip) := ⟨Try.func29, rfl, Try.call29, by kernel_rfl, by decide, by kernel_rfl, mix⟩
theorem s_isAgg : SoundC Try.prog 29 (flatT IsAgg fun _ => true) := by
  refine sound_flat (Γ := [(70, _), (71, _), (72, _), (73, _), (74, _), (75, _)]) tab_ok (.cons s_iWideAdd (.cons s_iWideOf (.cons s_in (.cons s_iWideNeg (.cons s_iWideCmp (.cons s_times .nil)))))) at29 [1, 2, 3, 4, 5, 6, 7, 56, 57, 58] _ _ (fun _ => Nat.le_of_ble_eq_true rfl) (fun _ => rfl) ?_
  rintro a ⟨l, hv, hl, rfl⟩ hb
  have hd : (default : Int) = 0 := rfl
  conv => arg 2; arg 1; arg 1; cbv
  conv => arg 4; arg 1; cbv
  simp only [go_sem]
  by_cases h0 : l.length = 0
  · have e : aggOfL l = ⟨0, wzero, 0, 0, []⟩ := by unfold aggOfL; rw [if_pos h0]
    rw [e]
    refine onB_dec (fun _ => ?_) (fun h => absurd rfl h)
    simp [wzero, onB_true]
  have e : aggOfL l = ⟨l.length, sumW l, mnL l, mxL l, topL l⟩ := by unfold aggOfL; rw [if_neg h0]
  have htl := topL_length l
  have h0' : 0 < l.length := by omega
  rw [e]
  simp only [hd]
  refine onB_dec (fun h => absurd h (by omega)) (fun _ => ?_)
  have hin : in_ ((l.length : Int), 1, 1000000) = true := by simp [in_]; omega
  have hmin : (if (4 : Int) < (l.length : Int) then (4 : Int) else (l.length : Int)) = ((topL l).length : Int) := by rw [htl]; split <;> omega
  have e0 : (0 : Int).toNat = 0 := rfl
  rw [hin, hmin, e0, top_first h0']
  simp only [decide_true, Bool.not_true, onB_false]
  refine ⟨⟨by omega, by omega⟩, ?_⟩
  generalize hT : topL l = T at *
  have hvT : Vals T := hT ▸ top_vals hv
  have hr := sum_range hv (by omega)
  have hS := sumW_sum l hv
  let R : Nat → Wide := fun i => wofL2 (sumI l - sumI (T.take i))
  refine r_loop (fun i : Nat => ⟨[(0, .agg [.lit (.int .i64 l.length), .lit (.int .i64 (sumW l).hi), .lit (.int .u64 (sumW l).lo.n), .lit (.int .i64 (mnL l)), .lit (.int .i64 (mxL l)), .sl 1 (encL Enc.e T)]), (1, .ptr 64 0 0), (2, .lit (.bool false)), (3, .ptr 128 0 0), (4, .any), (5, .any), (6, .any), (7, .any), (56, .sl 1 (encL Enc.e T)), (57, .lit (.int .i64 T.length)), (58, .lit (.int .i64 i))], [],
      [(64, ⟨6, [.agg [.lit (.int .i64 l.length), .lit (.int .i64 (sumW l).hi), .lit (.int .u64 (sumW l).lo.n), .lit (.int .i64 (mnL l)), .lit (.int .i64 (mxL l)), .sl 1 (encL Enc.e T)]], false, false⟩),
       (128, ⟨2, [.agg [.lit (.int .i64 (R i).hi), .lit (.int .u64 (R i).lo.n)]], false, false⟩)]⟩)
    (fun i => i ≤ T.length) (fun i => T.length - i) 0 ?_ ?_ ?_
  · refine Le.of_eq ?_
    have : R 0 = sumW l := by show wofL2 _ = _; rw [hS, List.take_zero]; simp [sumI]
    simp only [this, AS.clr]
    rfl
  · exact Nat.zero_le _
  · rintro i hi
    simp only [go_sem]
    simp only [hd]
    refine onB_dec (fun h1 => ?_) (fun h1 => ?_)
    · have hi1 : i < T.length := by omega
      have hx : -9223372036854775808 ≤ T.getD i 0 ∧ T.getD i 0 ≤ 9223372036854775807 := getD_mem hvT hi1
      have e2 : R (i + 1) = waddL (R i) (wnegL (wofL (T.getD i 0))) := by
        show wofL2 _ = waddL (wofL2 _) _
        rw [wof_2 hx.1 hx.2, wneg2, wadd2, sumI_take_succ hi1]
        congr 1; omega
      refine ⟨⟨by omega, hi1⟩, onB_tail (fun h2 => ?_) ⟨hx, wofL_ok _, ⟨wofL2_ok _, wnegL_ok⟩, i + 1, by omega, by omega, Le.list ?_ ?_⟩⟩
      · have e3 : IntKind.i64.wrap ((i : Int) - 1) = ((i - 1 : Nat) : Int) := by rw [wrap_in (by omega) (by omega)]; omega
        rw [e3]
        have := top_ge (l := l) (i := i - 1) (by rw [hT]; omega)
        rw [hT, show i - 1 + 1 = i from by omega] at this
        exact ⟨⟨by omega, by omega⟩, by rw [Int.toNat_natCast]; omega⟩
      · rw [wrap_in (by omega) (by omega)]
        simp only [wkVs, wk_refl, Int.natCast_add, Int.natCast_one, or_true, and_true, true_or]
      · rw [e2]
        simp only [wkMs, wkO_self, and_true]
    · have hi1 : i = T.length := by omega
      subst hi1
      simp only [wide_eta]
      have e3 : IntKind.i64.wrap ((T.length : Int) - 1) = ((T.length - 1 : Nat) : Int) := by rw [wrap_in (by omega) (by omega)]; omega
      have e4 : R T.length = wofL2 (sumI l - sumI T) := by show wofL2 _ = _; rw [List.take_length]
      rw [e3, e4, Int.toNat_natCast]
      refine ⟨⟨by omega, by omega⟩, onB_dec (fun h2 => onB_dec (fun _ => ?_) (fun h3 => ?_)) (fun h2 => ?_)⟩
      · have := rest_small (l := l) (by omega)
        rw [hT] at this
        rw [this]
        rfl
      · have := top_last (l := l) h0' (by omega)
        rw [hT] at this
        exact h3 this.symm
      · have hm := hv _ (mn_mem h0')
        have e5 : T.length - 1 = 3 := by omega
        have hx : -9223372036854775808 ≤ T.getD 3 0 ∧ T.getD 3 0 ≤ 9223372036854775807 := getD_mem (i := 3) hvT (by omega)
        have e6 : IntKind.i64.wrap (IntKind.i64.wrap ((l.length : Int) - 4) - 1) = (l.length : Int) - 4 - 1 := by
          rw [wrap_in (n := (l.length : Int) - 4) (by omega) (by omega), wrap_in (by omega) (by omega)]
        have e7 : waddL (wofL2 (sumI l - sumI T)) (wnegL (wofL (mnL l))) = wofL2 (sumI l - sumI T - mnL l) := by
          rw [wof_2 hm.1 hm.2, wneg2, wadd2]; congr 1
        have hrb := rest_big (l := l) (by omega)
        rw [hT] at hrb
        have g1 := mul_rng hm.1 hm.2 (k := (l.length : Int) - 4 - 1) (by omega) (by omega)
        have g2 := mul_rng hx.1 hx.2 (k := (l.length : Int) - 4 - 1) (by omega) (by omega)
        have hle : mnL l ≤ T.getD 3 0 := (mnL_le l h0').2 _ (by rw [← hT]; exact top_mem (getD_mem (P := fun x => x ∈ topL l) (fun x hx => hx) (i := 3) (by rw [hT]; omega)))
        rw [e5, e6, e7]
        refine ⟨hm, wofL_ok _, ⟨wofL2_ok _, wnegL_ok⟩, onB_dec (fun _ => ?_) (fun h => absurd hle h)⟩
        rw [wcmp2 (by omega) (by omega) (by omega) (by omega), wcmp2 (by omega) (by omega) (by omega) (by omega)]
        refine ⟨⟨hm, by omega, by omega⟩, onB_dec (fun _ => ?_) (fun h => absurd (cmpL_le hrb.1) h)⟩
        exact ⟨⟨hx, by omega, by omega⟩, decide_eq_true (cmpL_le hrb.2)⟩
end Go.Proofs
