import Derived.Test.YtgecjhclhdgpgaaXF11
set_option linter.unusedVariables false
set_option linter.unusedSimpArgs false
namespace Go.Proofs
open Go Go.Ax
set_option maxRecDepth 10000
def kindL (q : Int × Int) : Bool := if q.1 = 6 then in_ (q.2, 1, 4) else in_ (q.1, 1, 5) && decide (q.2 = 0)
theorem at60 : FnAt Try.prog tab 60 Try.f60 (Try.f60.body.getD .skip) := ⟨Try.func60, rfl, Try.call60, by kernel_rfl, by decide, by kernel_rfl, mix⟩
theorem s_iKind : SoundC Try.prog 60 (flatT (fun _ => True) kindL) := by
  refine sound_flat (Γ := [(72, _)]) tab_ok (.cons s_in .nil) at60 [4] _ _ (fun _ => Nat.le_of_ble_eq_true rfl) (fun _ => rfl) ?_
  rintro ⟨a, b⟩ - -
  conv => arg 2; arg 1; arg 1; cbv
  conv => arg 4; arg 1; cbv
  simp only [go_sem, kindL]
  refine onB_dec (fun h => ?_) (fun h => ?_)
  · rw [if_pos h]
  · rw [if_neg h]
    cases in_ (a, 1, 5) <;> simp [onB_true, onB_false]
theorem at63 : FnAt Try.prog tab 63 Try.f63 (Try.f63.body.getD .skip) := ⟨Try.func63, rfl, Try.call63, by kernel_rfl, by decide, by kernel_rfl, mix⟩
theorem s_sKind : SoundC Try.prog 63 (flatT (fun _ => True) kindL) := by
  refine sound_flat (Γ := []) tab_ok .nil at63 [4] _ _ (fun _ => Nat.le_of_ble_eq_true rfl) (fun _ => rfl) ?_
  rintro ⟨a, b⟩ - -
  conv => arg 2; arg 1; arg 1; cbv
  conv => arg 4; arg 1; cbv
  simp only [go_sem, kindL, in_]
  refine onB_dec (fun h => ?_) (fun h => ?_)
  · refine onB_dec (fun h1 => ?_) (fun h1 => ?_) <;> simp [h, h1]
  · refine onB_dec (fun h1 => onB_dec (fun h2 => ?_) (fun h2 => ?_)) (fun h1 => ?_)
    · have h3 : a ≤ 5 := by omega
      simp [h, h1, h3]
    · have h3 : ¬ a ≤ 5 := by omega
      simp [h, h3]
    · simp [h, h1]
def wintL (a : Wide) : Int × Bool := if (wofL (IntKind.i64.wrap a.lo.n)).hi = a.hi ∧ (wofL (IntKind.i64.wrap a.lo.n)).lo.n = a.lo.n then (IntKind.i64.wrap a.lo.n, true) else (0, false)
theorem at106 : FnAt Try.prog tab 106 Try.f106 (Try.f106.body.getD .skip) := ⟨Try.func106, rfl, Try.call106, by kernel_rfl, by decide, by kernel_rfl, mix⟩
theorem s_iWideInt : SoundC Try.prog 106 (flatT (fun a : Wide => WOk a) wintL) := by
  refine sound_flat (Γ := [(71, _)]) tab_ok (.cons s_iWideOf .nil) at106 [1, 2, 3, 4] _ _ (fun _ => Nat.le_of_ble_eq_true rfl) (fun _ => rfl) ?_
  rintro a h -
  conv => arg 2; arg 1; arg 1; cbv
  conv => arg 4; arg 1; cbv
  simp only [go_sem, wintL]
  rw [← Bool.decide_and]
  refine ⟨wrap_bd _, onB_dec (fun h => ?_) (fun h => ?_)⟩
  · rw [if_pos h]; exact ⟨rfl, rfl⟩
  · rw [if_neg h]; exact ⟨rfl, rfl⟩
theorem at64 : FnAt Try.prog tab 64 Try.f64 (Try.f64.body.getD .skip) := ⟨Try.func64, rfl, Try.call64, by kernel_rfl, by decide, by kernel_rfl, mix⟩
theorem s_sWideInt : SoundC Try.prog 64 (flatT (fun a : Wide => WOk a) wintL) := by
  refine sound_flat (Γ := [(32, _)]) tab_ok (.cons s_sWideOf .nil) at64 [1, 2, 3, 4] _ _ (fun _ => Nat.le_of_ble_eq_true rfl) (fun _ => rfl) ?_
  rintro a h -
  conv => arg 2; arg 1; arg 1; cbv
  conv => arg 4; arg 1; cbv
  simp only [go_sem, wintL]
  rw [← Bool.decide_and]
  refine ⟨wrap_bd _, onB_ndec (fun h => ?_) (fun h => ?_)⟩
  · rw [if_neg h]; exact ⟨rfl, rfl⟩
  · rw [if_pos h]; exact ⟨rfl, rfl⟩
theorem at135 : FnAt Try.prog tab 135 Try.f135 (Try.f135.body.getD .skip) := ⟨Try.func135, rfl, Try.call135, by kernel_rfl, by decide, by kernel_rfl, mix⟩
def sizeL (a : Wide) : U64 × U64 := (⟨IntKind.u64.wrap (if a.hi < 0 then wnegL a else a).hi⟩, (if a.hi < 0 then wnegL a else a).lo)
theorem s_iSize : SoundC Try.prog 135 (flatT (fun a : Wide => WOk a) sizeL) := by
  refine sound_flat (Γ := [(73, _)]) tab_ok (.cons s_iWideNeg .nil) at135 [1, 2, 3] _ _ (fun _ => Nat.le_of_ble_eq_true rfl) (fun _ => rfl) ?_
  rintro a h -
  conv => arg 2; arg 1; arg 1; cbv
  conv => arg 4; arg 1; cbv
  simp only [go_sem, sizeL]
  refine onB_dec (fun h1 => ?_) (fun h1 => ?_)
  · rw [if_pos h1]; exact ⟨h, rfl, rfl⟩
  · rw [if_neg h1]; exact ⟨rfl, rfl⟩
theorem at114 : FnAt Try.prog tab 114 Try.f114 (Try.f114.body.getD .skip) := ⟨Try.func114, rfl, Try.call114, by kernel_rfl, by decide, by kernel_rfl, mix⟩
theorem s_sWideNeg : SoundC Try.prog 114 (flatT (fun q : Wide => WOk q) wnegL) := by
  refine sound_flat (Γ := [(31, _)]) tab_ok (.cons s_sWideAdd .nil) at114 [1, 2] _ _ (fun _ => Nat.le_of_ble_eq_true rfl) (fun _ => rfl) ?_
  rintro a h _
  conv => arg 2; arg 1; arg 1; cbv
  conv => arg 4; arg 1; cbv
  simp only [go_sem]
  obtain ⟨a1, a2, a3, a4⟩ := h
  rw [wrap_in (by omega) (by omega), wrap_u64 (by omega) (by omega)]
  refine ⟨⟨⟨?_, ?_, ?_, ?_⟩, ⟨?_, ?_, ?_, ?_⟩⟩, rfl, rfl⟩ <;> (simp only; omega)
theorem at108 : FnAt Try.prog tab 108 Try.f108 (Try.f108.body.getD .skip) := ⟨Try.func108, rfl, Try.call108, by kernel_rfl, by decide, by kernel_rfl, mix⟩
theorem s_l07Same : SoundC Try.prog 108 (flatT (fun _ : List Int × List Int => True) fun q => decide (q.1 = q.2)) := by
  refine sound_flat (Γ := []) tab_ok .nil at108 [4, 5] _ _ (fun _ => Nat.le_of_ble_eq_true rfl) (fun _ => rfl) ?_
  rintro ⟨x, y⟩ _ hb
  conv => arg 2; arg 1; arg 1; cbv
  conv => arg 4; arg 1; cbv
  simp only [go_sem, bndL, AV.bnd, maxLen] at hb ⊢
  refine onB_ndec (fun h => ?_) (fun h => ?_)
  · symm; simp; intro e; subst e; exact h rfl
  · refine r_loop (fun i : Nat => ⟨[(0, .sl 1 (encL Enc.e x)), (1, .sl 1 (encL Enc.e y)), (4, .lit (.bool false)), (5, .lit (.int .i64 i))], [], []⟩) (fun i => i ≤ x.length ∧ x.take i = y.take i) (fun i => x.length - i) 0 ?_ ?_ ?_
    · exact Le.of_eq rfl
    · simp
    · rintro i ⟨h1, h2⟩
      simp only [go_sem]
      refine onB_dec (fun h3 => ⟨⟨by omega, by omega⟩, ⟨by omega, by omega⟩, onB_ndec (fun h4 => ?_) (fun h4 => ⟨i + 1, by omega, ⟨by omega, ?_⟩, Le.of_eq ?_⟩)⟩) (fun h3 => ?_)
      · symm; simp; rintro rfl; exact h4 rfl
      · have hy : i < y.length := by omega
        have hx : i < x.length := by omega
        rw [List.take_succ_eq_append_getElem hx, List.take_succ_eq_append_getElem hy, h2]
        simp [List.getD_eq_getElem?_getD, hx, hy] at h4
        rw [h4]
      · rw [wrap_in (by omega) (by omega)]; rfl
      · have : i = x.length := by omega
        subst this
        rw [List.take_length, List.take_of_length_le (by omega)] at h2
        simp [h2]
theorem at137 : FnAt Try.prog tab 137 Try.f137 (Try.f137.body.getD .skip) := ⟨Try.func137, rfl, Try.call137, by kernel_rfl, by decide, by kernel_rfl, mix⟩
theorem s_l03Times : SoundC Try.prog 137 (flatT (fun q : Int × Int => (-9223372036854775808 ≤ q.1 ∧ q.1 ≤ 9223372036854775807) ∧ -9223372036854775808 ≤ q.2 ∧ q.2 ≤ 9223372036854775807) fun q => wofL2 (q.1 * q.2)) := by
  refine sound_flat (Γ := [(32, _), (114, _), (31, _)]) tab_ok (.cons s_sWideOf (.cons s_sWideNeg (.cons s_sWideAdd .nil))) at137 [4, 5, 6, 7] _ _ (fun _ => Nat.le_of_ble_eq_true rfl) (fun _ => rfl) ?_
  rintro ⟨a, b⟩ ⟨ha, hb⟩ -
  simp only at ha hb
  conv => arg 2; arg 1; arg 1; cbv
  conv => arg 4; arg 1; cbv
  simp only [go_sem]
  simp only [wide_eta]
  refine ⟨ha, onB_dec (fun h => ⟨wofL_ok _, ?_⟩) (fun h => ?_)⟩
  · obtain ⟨A, hA⟩ : ∃ A, A = -a := ⟨_, rfl⟩
    obtain ⟨x, hx⟩ : ∃ x, x = -b := ⟨_, rfl⟩
    have e1 : IntKind.u64.wrap (0 - IntKind.u64.wrap b) = x := by simp only [IntKind.wrap_u64']; omega
    have e2 : wnegL (wofL a) = wofL2 A := by rw [wof_2 ha.1 ha.2, wneg2, hA]
    have e3 : A * x = a * b := by rw [hA, hx, Int.neg_mul_neg]
    have e4 : 0 ≤ x ∧ x ≤ 18446744073709551615 := by omega
    rw [e1, e2]
    refine r_loop (fun q : Int × Int × Int => ⟨[(0, .lit (.int .i64 a)), (1, .lit (.int .i64 b)), (4, .ptr 160 0 0), (5, .ptr 192 0 0), (6, .ptr 224 0 0), (7, .lit (.int .u64 q.2.2))], [],
        [(160, ⟨2, [.agg [.lit (.int .i64 0), .lit (.int .u64 0)]], false, false⟩), (192, ⟨2, [.agg [.lit (.int .i64 (wofL2 q.1).hi), .lit (.int .u64 (wofL2 q.1).lo.n)]], false, false⟩), (224, ⟨2, [.agg [.lit (.int .i64 (wofL2 q.2.1).hi), .lit (.int .u64 (wofL2 q.2.1).lo.n)]], false, false⟩)]⟩)
      (fun q => q.1 + q.2.1 * q.2.2 = a * b ∧ 0 ≤ q.2.2 ∧ q.2.2 ≤ 18446744073709551615) (fun q => q.2.2.toNat) (0, A, x) ?_ ?_ ?_
    · exact Le.of_eq rfl
    · exact ⟨by simp only; omega, e4⟩
    · rintro ⟨W, B, y⟩ ⟨g1, g2, g3⟩
      simp only at g1 g2 g3
      simp only [go_sem, wide_eta]
      rw [tdiv_nn g2, tmod_nn g2, wrap_u64 (n := y / 2) (by omega) (by omega), wadd2, wadd2]
      refine onB_dec (fun h1 => onB_dec (fun h2 => ?_) (fun h2 => ?_)) (fun h1 => ?_)
      · refine ⟨⟨wofL2_ok _, wofL2_ok _⟩, ⟨wofL2_ok _, wofL2_ok _⟩, (W + B, B + B, y / 2), by simp only; omega, ⟨?_, by simp only; omega, by simp only; omega⟩, Le.of_eq rfl⟩
        simp only
        have : y = 2 * (y / 2) + 1 := by omega
        have e : B * y = (B + B) * (y / 2) + B := by
          conv => lhs; rw [this, Int.mul_add, Int.mul_one, ← Int.mul_assoc, Int.mul_comm B 2, Int.two_mul]
        omega
      · refine ⟨⟨wofL2_ok _, wofL2_ok _⟩, (W, B + B, y / 2), by simp only; omega, ⟨?_, by simp only; omega, by simp only; omega⟩, Le.of_eq rfl⟩
        simp only
        have : y = 2 * (y / 2) := by omega
        have e : B * y = (B + B) * (y / 2) := by
          conv => lhs; rw [this, ← Int.mul_assoc, Int.mul_comm B 2, Int.two_mul]
        omega
      · have : y = 0 := by omega
        subst this
        rw [Int.mul_zero, Int.add_zero] at g1
        rw [g1]
        exact ⟨rfl, rfl⟩
  · obtain ⟨A, hA⟩ : ∃ A, A = a := ⟨_, rfl⟩
    obtain ⟨x, hx⟩ : ∃ x, x = b := ⟨_, rfl⟩
    have e1 : IntKind.u64.wrap b = x := by simp only [IntKind.wrap_u64']; omega
    have e2 : wofL a = wofL2 A := by rw [wof_2 ha.1 ha.2, hA]
    have e3 : A * x = a * b := by rw [hA, hx]
    have e4 : 0 ≤ x ∧ x ≤ 18446744073709551615 := by omega
    rw [e1, e2]
    refine r_loop (fun q : Int × Int × Int => ⟨[(0, .lit (.int .i64 a)), (1, .lit (.int .i64 b)), (4, .ptr 160 0 0), (5, .ptr 192 0 0), (6, .ptr 224 0 0), (7, .lit (.int .u64 q.2.2))], [],
        [(160, ⟨2, [.agg [.lit (.int .i64 0), .lit (.int .u64 0)]], false, false⟩), (192, ⟨2, [.agg [.lit (.int .i64 (wofL2 q.1).hi), .lit (.int .u64 (wofL2 q.1).lo.n)]], false, false⟩), (224, ⟨2, [.agg [.lit (.int .i64 (wofL2 q.2.1).hi), .lit (.int .u64 (wofL2 q.2.1).lo.n)]], false, false⟩)]⟩)
      (fun q => q.1 + q.2.1 * q.2.2 = a * b ∧ 0 ≤ q.2.2 ∧ q.2.2 ≤ 18446744073709551615) (fun q => q.2.2.toNat) (0, A, x) ?_ ?_ ?_
    · exact Le.of_eq rfl
    · exact ⟨by simp only; omega, e4⟩
    · rintro ⟨W, B, y⟩ ⟨g1, g2, g3⟩
      simp only at g1 g2 g3
      simp only [go_sem, wide_eta]
      rw [tdiv_nn g2, tmod_nn g2, wrap_u64 (n := y / 2) (by omega) (by omega), wadd2, wadd2]
      refine onB_dec (fun h1 => onB_dec (fun h2 => ?_) (fun h2 => ?_)) (fun h1 => ?_)
      · refine ⟨⟨wofL2_ok _, wofL2_ok _⟩, ⟨wofL2_ok _, wofL2_ok _⟩, (W + B, B + B, y / 2), by simp only; omega, ⟨?_, by simp only; omega, by simp only; omega⟩, Le.of_eq rfl⟩
        simp only
        have : y = 2 * (y / 2) + 1 := by omega
        have e : B * y = (B + B) * (y / 2) + B := by
          conv => lhs; rw [this, Int.mul_add, Int.mul_one, ← Int.mul_assoc, Int.mul_comm B 2, Int.two_mul]
        omega
      · refine ⟨⟨wofL2_ok _, wofL2_ok _⟩, (W, B + B, y / 2), by simp only; omega, ⟨?_, by simp only; omega, by simp only; omega⟩, Le.of_eq rfl⟩
        simp only
        have : y = 2 * (y / 2) := by omega
        have e : B * y = (B + B) * (y / 2) := by
          conv => lhs; rw [this, ← Int.mul_assoc, Int.mul_comm B 2, Int.two_mul]
        omega
      · have : y = 0 := by omega
        subst this
        rw [Int.mul_zero, Int.add_zero] at g1
        rw [g1]
        exact ⟨rfl, rfl⟩
theorem at109 : FnAt Try.prog tab 109 Try.f109 (Try.f109.body.getD .skip) := ⟨Try.func109, rfl, Try.call109, by kernel_rfl, by decide, by kernel_rfl, mix⟩
theorem s_l07Times : SoundC Try.prog 109 (flatT (fun q : Int × Int => (-9223372036854775808 ≤ q.1 ∧ q.1 ≤ 9223372036854775807) ∧ -9223372036854775808 ≤ q.2 ∧ q.2 ≤ 9223372036854775807) fun q => wofL2 (q.1 * q.2)) := by
  refine sound_flat (Γ := [(137, _)]) tab_ok (.cons s_l03Times .nil) at109 [4] _ _ (fun _ => Nat.le_of_ble_eq_true rfl) (fun _ => rfl) ?_
  rintro ⟨a, b⟩ h -
  conv => arg 2; arg 1; arg 1; cbv
  conv => arg 4; arg 1; cbv
  simp only [go_sem]
  exact h
end Go.Proofs
