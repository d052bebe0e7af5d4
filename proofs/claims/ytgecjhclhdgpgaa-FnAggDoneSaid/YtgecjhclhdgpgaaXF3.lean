import Derived.Test.YtgecjhclhdgpgaaXF2
set_option linter.unusedVariables false
set_option linter.unusedSimpArgs false
namespace Go.Proofs
open Go Go.Ax
set_option maxRecDepth 10000
theorem at141 : FnAt Try.prog tab 141 Try.f141 (Try.f141.body.getD .skip) := ⟨Try.func141, rfl, Try.call141, by kernel_rfl, by decide, by kernel_rfl, mix⟩
theorem s_nanI : SoundC Try.prog 141 (flatT (fun _ : Int => True) fun _ => false) := by
  refine sound_flat (Γ := []) tab_ok .nil at141 [2] _ _ (fun _ => Nat.le_of_ble_eq_true rfl) (fun _ => rfl) ?_
  rintro l h _
  conv => arg 2; arg 1; arg 1; cbv
  conv => arg 4; arg 1; cbv
  simp only [go_sem]
  simp
theorem at142 : FnAt Try.prog tab 142 Try.f142 (Try.f142.body.getD .skip) := ⟨Try.func142, rfl, Try.call142, by kernel_rfl, by decide, by kernel_rfl, mix⟩
theorem s_nanU : SoundC Try.prog 142 (flatT (fun _ : U64 => True) fun _ => false) := by
  refine sound_flat (Γ := []) tab_ok .nil at142 [2] _ _ (fun _ => Nat.le_of_ble_eq_true rfl) (fun _ => rfl) ?_
  rintro l h _
  conv => arg 2; arg 1; arg 1; cbv
  conv => arg 4; arg 1; cbv
  simp only [go_sem]
  simp
theorem at120 : FnAt Try.prog tab 120 Try.f120 (Try.f120.body.getD .skip) := ⟨Try.func120, rfl, Try.call120, by kernel_rfl, by decide, by kernel_rfl, mix⟩
theorem s_cmpI : SoundC Try.prog 120 (flatT (fun _ : Int × Int => True) fun q => cmpL q.1 q.2) := by
  refine sound_flat (Γ := [(141, _)]) tab_ok (.cons s_nanI .nil) at120 [4, 5, 6] _ _ (fun _ => Nat.le_of_ble_eq_true rfl) (fun _ => rfl) ?_
  rintro ⟨a, b⟩ h _
  conv => arg 2; arg 1; arg 1; cbv
  conv => arg 4; arg 1; cbv
  simp only [go_sem, cmpL]
  refine onB_dec (fun h => ?_) (fun h => onB_dec (fun h' => ?_) (fun h' => ?_)) <;> simp [*]
theorem at121 : FnAt Try.prog tab 121 Try.f121 (Try.f121.body.getD .skip) := ⟨Try.func121, rfl, Try.call121, by kernel_rfl, by decide, by kernel_rfl, mix⟩
theorem s_cmpU : SoundC Try.prog 121 (flatT (fun _ : U64 × U64 => True) fun q => cmpL q.1.n q.2.n) := by
  refine sound_flat (Γ := [(142, _)]) tab_ok (.cons s_nanU .nil) at121 [4, 5, 6] _ _ (fun _ => Nat.le_of_ble_eq_true rfl) (fun _ => rfl) ?_
  rintro ⟨a, b⟩ h _
  conv => arg 2; arg 1; arg 1; cbv
  conv => arg 4; arg 1; cbv
  simp only [go_sem, cmpL]
  refine onB_dec (fun h => ?_) (fun h => onB_dec (fun h' => ?_) (fun h' => ?_)) <;> simp [*]
theorem at119 : FnAt Try.prog tab 119 Try.f119 (Try.f119.body.getD .skip) := ⟨Try.func119, rfl, Try.call119, by kernel_rfl, by decide, by kernel_rfl, mix⟩
theorem orL_drop : ∀ (l : List Int) (i : Nat), i < l.length → l.getD i default = 0 → orL (l.drop i) = orL (l.drop (i + 1))
  | [], i, h, _ => by simp at h
  | x :: l, 0, _, h => by simp at h; subst h; simp [orL]
  | x :: l, i + 1, h, h' => by simpa using orL_drop l i (by simpa using h) (by simpa using h')
theorem orL_at : ∀ (l : List Int) (i : Nat), i < l.length → l.getD i default ≠ 0 → orL (l.drop i) = l.getD i default
  | [], i, h, _ => by simp at h
  | x :: l, 0, _, h => by simp at h; simp [orL, h]
  | x :: l, i + 1, h, h' => by simpa using orL_at l i (by simpa using h) (by simpa using h')
theorem s_or : SoundC Try.prog 119 (flatT (fun _ : List Int => True) orL) := by
  refine sound_flat (Γ := []) tab_ok .nil at119 [2, 3, 5, 6, 7, 8] _ _ (fun _ => Nat.le_of_ble_eq_true rfl) (fun _ => rfl) ?_
  rintro l _ hb
  conv => arg 2; arg 1; arg 1; cbv
  conv => arg 4; arg 1; cbv
  simp only [go_sem, bndL, AV.bnd, maxLen] at hb ⊢
  refine r_loop (fun q : Nat × AV => ⟨[(0, .sl 1 (encL Enc.e l)), (2, .lit (.int .i64 0)), (3, .lit (.int .i64 0)), (5, .any), (6, .sl 1 (encL Enc.e l)), (7, .lit (.int .i64 l.length)), (8, .lit (.int .i64 q.1))], [], []⟩)
    (fun q => q.1 ≤ l.length ∧ orL l = orL (l.drop q.1)) (fun q => l.length - q.1) (0, .any) ?_ ?_ ?_
  · exact Le.of_eq rfl
  · simp
  · rintro ⟨i, _⟩ ⟨h1, h2⟩
    simp only at h1 h2
    simp only [go_sem]
    refine onB_dec (fun h3 => ⟨⟨by omega, by omega⟩, onB_ndec (fun h4 => ?_) (fun h4 => ⟨(i + 1, .any), by simp only; omega, ⟨by simp only; omega, ?_⟩, Le.list ?_ ?_⟩)⟩) (fun h3 => ?_)
    · rw [h2, orL_at l i (by omega) h4]
    · rw [h2]; exact orL_drop l i (by omega) h4
    · simp only [go_sem]; rw [wrap_in (by omega) (by omega)]; simp
    · simp only [go_sem]
    · rw [h2, List.drop_of_length_le (by omega)]; rfl
theorem at74 : FnAt Try.prog tab 74 Try.f74 (Try.f74.body.getD .skip) := ⟨Try.func74, rfl, Try.call74, by kernel_rfl, by decide, by kernel_rfl, mix⟩
theorem s_iWideCmp : SoundC Try.prog 74 (flatT (fun _ : Wide × Wide => True) fun q => wcmpL q.1 q.2) := by
  refine sound_flat (Γ := [(120, _), (121, _), (119, _)]) tab_ok (.cons s_cmpI (.cons s_cmpU (.cons s_or .nil))) at74 [2, 3, 4] _ _ (fun _ => Nat.le_of_ble_eq_true rfl) (fun _ => rfl) ?_
  rintro ⟨a, b⟩ h _
  conv => arg 2; arg 1; arg 1; cbv
  conv => arg 4; arg 1; cbv
  simp only [go_sem, wcmpL, cmpL, orL]
  by_cases h1 : a.hi = b.hi
  · simp only [h1, Int.lt_irrefl, if_false, if_true]
    split <;> simp_all
  · rw [if_neg h1, if_neg (by split <;> omega)]
theorem at110 : FnAt Try.prog tab 110 Try.f110 (Try.f110.body.getD .skip) := ⟨Try.func110, rfl, Try.call110, by kernel_rfl, by decide, by kernel_rfl, mix⟩
theorem s_sWideCmp : SoundC Try.prog 110 (flatT (fun _ : Wide × Wide => True) fun q => wcmpL q.1 q.2) := by
  refine sound_flat (Γ := []) tab_ok .nil at110 [2, 3, 4] _ _ (fun _ => Nat.le_of_ble_eq_true rfl) (fun _ => rfl) ?_
  rintro ⟨a, b⟩ h _
  conv => arg 2; arg 1; arg 1; cbv
  conv => arg 4; arg 1; cbv
  simp only [go_sem, wcmpL, cmpL]
  refine onB_ndec (fun h1 => onB_dec (fun h2 => ?_) (fun h2 => ?_)) (fun h1 => onB_ndec (fun h2 => onB_dec (fun h3 => ?_) (fun h3 => ?_)) (fun h2 => ?_))
  · simp [h1, h2]
  · rw [if_neg h1, if_neg h2, if_pos (by omega)]
  · simp [h1, h3]
  · rw [if_pos h1, if_neg h3, if_pos (by omega)]
  · simp [h1, h2]
theorem at122 : FnAt Try.prog tab 122 Try.f122 (Try.f122.body.getD .skip) := ⟨Try.func122, rfl, Try.call122, by kernel_rfl, by decide, by kernel_rfl, mix⟩
theorem s_mul64 : SoundC Try.prog 122 (flatT (fun q : U64 × U64 => (0 ≤ q.1.n ∧ q.1.n ≤ 18446744073709551615) ∧ 0 ≤ q.2.n ∧ q.2.n ≤ 18446744073709551615) mul64L) := by
  refine sound_flat (Γ := []) tab_ok .nil at122 [4, 5, 6, 7, 8, 9, 10, 11, 12, 13] _ _ (fun _ => Nat.le_of_ble_eq_true rfl) (fun _ => rfl) ?_
  rintro ⟨⟨x⟩, ⟨y⟩⟩ ⟨⟨h1, h2⟩, h3, h4⟩ _
  conv => arg 2; arg 1; arg 1; cbv
  conv => arg 4; arg 1; cbv
  simp only [go_sem] at h1 h2 h3 h4 ⊢
  refine ⟨by omega, by omega, by omega, by omega, by omega, ?_, IntKind.wrap_u64' _⟩
  have e1 := and_mask h1 h2
  have e2 := and_mask h3 h4
  simp only [e1, e2, shr32 h1, shr32 h3]
  have ha : 0 ≤ x % 4294967296 ∧ x % 4294967296 < 4294967296 := by omega
  have hb : 0 ≤ x / 4294967296 ∧ x / 4294967296 < 4294967296 := by omega
  have hc : 0 ≤ y % 4294967296 ∧ y % 4294967296 < 4294967296 := by omega
  have hd : 0 ≤ y / 4294967296 ∧ y / 4294967296 < 4294967296 := by omega
  have hx : x = x / 4294967296 * 4294967296 + x % 4294967296 := by omega
  have hy : y = y / 4294967296 * 4294967296 + y % 4294967296 := by omega
  simp only [mul64L]
  generalize x % 4294967296 = a at *
  generalize x / 4294967296 = b at *
  generalize y % 4294967296 = c at *
  generalize y / 4294967296 = d at *
  subst hx; subst hy
  have m1 := mul_bd (m := 4294967295) (n := 4294967295) ha.1 (by omega) hc.1 (by omega)
  have m2 := mul_bd (m := 4294967295) (n := 4294967295) hb.1 (by omega) hc.1 (by omega)
  have m3 := mul_bd (m := 4294967295) (n := 4294967295) ha.1 (by omega) hd.1 (by omega)
  have m4 := mul_bd (m := 4294967295) (n := 4294967295) hb.1 (by omega) hd.1 (by omega)
  have key := mul_hi a b c d ha.1 ha.2 hb.1 hb.2 hc.1 hc.2 hd.1 hd.2
  simp (discharger := omega) only [wrap_u64, shr32, and_mask]
  rw [← key]
end Go.Proofs
