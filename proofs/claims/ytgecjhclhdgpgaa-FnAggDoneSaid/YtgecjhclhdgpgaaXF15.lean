import Derived.Test.YtgecjhclhdgpgaaXF14
set_option linter.unusedVariables false
set_option linter.unusedSimpArgs false
namespace Go.Proofs
open Go Go.Ax
set_option maxRecDepth 10000
def wval (a : Wide) : Int := a.hi * 18446744073709551616 + a.lo.n
theorem at107 : FnAt Try.prog tab 107 Try.f107 (Try.f107.body.getD .skip) := ⟨Try.func107, rfl, Try.call107, by kernel_rfl, by decide, by kernel_rfl, mix⟩
theorem s_iMean : SoundC Try.prog 107 (flatT (fun q : Wide × Int => WOk q.1 ∧ (1 ≤ q.2 ∧ q.2 ≤ 1000000) ∧ -(q.2 * 9223372036854775808) ≤ wval q.1 ∧ wval q.1 ≤ q.2 * 9223372036854775807) fun q => (wval q.1 / q.2, true)) := by
  refine sound_flat (Γ := [(72, _), (135, _), (136, _)]) tab_ok (.cons s_in (.cons s_iSize (.cons s_div64 .nil))) at107 [2, 4, 5, 6, 7, 8, 9, 10, 14, 27] _ _ (fun _ => Nat.le_of_ble_eq_true rfl) (fun _ => rfl) ?_
  rintro ⟨a, n⟩ ⟨ha, ⟨hn, hn'⟩, hs, hs'⟩ -
  simp only [wval] at hn hn' hs hs'
  conv => arg 2; arg 1; arg 1; cbv
  conv => arg 4; arg 1; cbv
  simp only [go_sem]
  simp only at ha
  obtain ⟨a1, a2, a3, a4⟩ := id ha
  have hin : in_ (n, 1, 1000000) = true := by simp [in_]; omega
  have wn : IntKind.u64.wrap n = n := wrap_u64 (by omega) (by omega)
  rw [hin, wn]
  simp only [Bool.not_true, onB_false, wide_eta]
  have key : ∃ A : Int, 0 ≤ (sizeL a).1.n ∧ (sizeL a).1.n < n ∧ (0 ≤ (sizeL a).2.n ∧ (sizeL a).2.n ≤ 18446744073709551615) ∧ (sizeL a).1.n * 18446744073709551616 + (sizeL a).2.n = A ∧ A = (if a.hi < 0 then -wval a else wval a) := by
    by_cases h : a.hi < 0
    · rw [if_pos h]
      refine ⟨_, ?_, ?_, ?_, rfl, ?_⟩
      all_goals simp only [sizeL, h, if_true, wnegL, waddL, IntKind.wrap_i64, IntKind.wrap_u64', wval]
      all_goals omega
    · rw [if_neg h]
      have hb : a.hi < n := by omega
      have hm : IntKind.u64.wrap a.hi = a.hi := wrap_u64 (by omega) (by omega)
      refine ⟨_, ?_, ?_, ?_, rfl, ?_⟩
      all_goals simp only [sizeL, h, if_false, hm, wval]
      all_goals omega
  obtain ⟨A, k1, k2, k3, k4, k5⟩ := key
  have hdv : divL (⟨(sizeL a).1.n⟩, ⟨(sizeL a).2.n⟩, ⟨n⟩) = (⟨A / n⟩, ⟨A % n⟩) := by simp only [divL, k4]
  rw [tmod_nn k1, tdiv_nn k1, Int.emod_eq_of_lt k1 k2, Int.ediv_eq_zero_of_lt k1 k2, hdv]
  dsimp only
  have hA0 : 0 ≤ A := by omega
  have hm := Int.emod_add_mul_ediv A n
  have hm0 := Int.emod_nonneg A (by omega : n ≠ 0)
  have hm1 := Int.emod_lt_of_pos A (by omega : 0 < n)
  have hq0 : 0 ≤ A / n := Int.ediv_nonneg hA0 (by omega)
  have z : IntKind.u64.wrap 0 = 0 := rfl
  rw [z]
  refine ⟨ha, by omega, by omega, ⟨k1, k2, k3, by omega⟩, onB_ndec (fun h => absurd rfl h) (fun _ => ?_)⟩
  by_cases hneg : a.hi < 0
  · rw [if_pos hneg] at k5
    have hw : wval a = -A := by omega
    have hAle : A ≤ 9223372036854775808 * n := by unfold wval at hw; omega
    have hq1 : A / n ≤ 9223372036854775808 := Int.ediv_le_of_le_mul (by omega) hAle
    refine onB_dec (fun h => absurd h (by omega)) (fun _ => onB_dec (fun h => absurd h (by omega)) (fun _ => onB_dec (fun h => ?_) (fun h => ?_)))
    · have hq2 : A / n < 9223372036854775808 := by
        refine Int.ediv_lt_of_lt_mul (by omega) ?_
        have : A ≠ 9223372036854775808 * n := fun e => by rw [e, Int.mul_emod_left] at h; omega
        omega
      have w1 : IntKind.u64.wrap (A / n + 1) = A / n + 1 := wrap_u64 (by omega) (by omega)
      have w2 : IntKind.i64.wrap (IntKind.u64.wrap (0 - (A / n + 1))) = -(A / n + 1) := by simp only [IntKind.wrap_u64', IntKind.wrap_i64]; omega
      rw [w1, w2, hw]
      have e := (Int.ediv_emod_unique (a := -A) (r := n - A % n) (q := -(A / n + 1)) (by omega : 0 < n)).2 ⟨by rw [Int.mul_neg, Int.mul_add, Int.mul_one]; omega, by omega, by omega⟩
      refine onB_dec (fun h => absurd h (by omega)) (fun _ => onB_dec (fun h => absurd h (by omega)) (fun _ => e.1.symm))
    · have w2 : IntKind.i64.wrap (IntKind.u64.wrap (0 - A / n)) = -(A / n) := by simp only [IntKind.wrap_u64', IntKind.wrap_i64]; omega
      rw [w2, hw]
      have e := (Int.ediv_emod_unique (a := -A) (r := 0) (q := -(A / n)) (by omega : 0 < n)).2 ⟨by rw [Int.mul_neg]; omega, by omega, by omega⟩
      refine onB_dec (fun h => absurd h (by omega)) (fun _ => e.1.symm)
  · rw [if_neg hneg] at k5
    have hAle : A ≤ 9223372036854775807 * n := by unfold wval at k5; omega
    have hq1 : A / n ≤ 9223372036854775807 := Int.ediv_le_of_le_mul (by omega) hAle
    rw [← k5]
    refine onB_dec (fun _ => onB_dec (fun h => absurd h (by omega)) (fun _ => onB_dec (fun _ => ?_) (fun h => absurd h (by omega)))) (fun h => absurd h (by omega))
    exact wrap_in (by omega) (by omega)
end Go.Proofs
