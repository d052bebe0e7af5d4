import Derived.Test.YtgecjhclhdgpgaaXF1
import Derived.Test.YtgecjhclhdgpgaaXW
set_option linter.unusedVariables false
set_option linter.unusedSimpArgs false
namespace Go.Proofs
open Go Go.Ax
set_option maxRecDepth 10000
/-! ## the bytes that a law is given -/
def Code (l : List U8) : Prop := (∀ b ∈ l, 0 ≤ b.n ∧ b.n < 256) ∧ l.length ≤ 1048576
def openL (l : List U8) : Cur := ⟨l, 0, 101 + (l.length : Int) % 1000⟩
theorem openL_ok {l : List U8} (h : Code l) : CurOk (openL l) := by
  have := h.2
  exact ⟨by simp [openL], by simp only [openL]; omega, by simp only [openL]; omega, h.1, by simp only [openL]; omega⟩
theorem at34 : FnAt Try.prog tab 34 Try.f34 (Try.f34.body.getD .skip) := ⟨Try.func34, rfl, Try.call34, by kernel_rfl, by decide, by kernel_rfl, mix⟩
theorem s_open : SoundC Try.prog 34 (newT Code openL) := by
  refine sound_new (Γ := []) tab_ok .nil at34 [2] _ _ (fun _ => Nat.le_of_ble_eq_true rfl) ?_
  rintro l h _
  conv => arg 2; arg 1; arg 1; cbv
  conv => arg 4; arg 1; cbv
  have := h.2
  simp only [go_sem]
  rw [tmod_nn (by omega), wrap_in (by omega) (by omega)]
  exact ⟨wkL_refl _, rfl, rfl⟩
theorem at27 : FnAt Try.prog tab 27 Try.f27 (Try.f27.body.getD .skip) := ⟨Try.func27, rfl, Try.call27, by kernel_rfl, by decide, by kernel_rfl, mix⟩
theorem x_aggOf : ∃ f : List U8 → List Int, (∀ l, Code l → bndL (EncA.es l) → ((f l).length ≤ 9 ∧ Vals (f l))) ∧ SoundC Try.prog 27 (rowT Code f) := by
  refine ex_row (Γ := [(34, _), (66, _)]) tab_ok (.cons s_open (.cons s_values .nil)) at27 [2, 3] _ (fun (l : List U8) (r : List Int) => r.length ≤ 9 ∧ Vals r) (fun _ => Nat.le_of_ble_eq_true rfl) ?_
  rintro l h _
  conv => arg 2; arg 1; arg 1; cbv
  conv => arg 4; arg 1; cbv
  simp only [go_sem]
  have ho := openL_ok h
  have ha : (openL l).at_ ≤ 2 ^ 58 := by simp only [openL]; decide
  have p1 := p_values (u := ()) ho ha
  exact ⟨h, ⟨ho, ha⟩, (f_values (openL l) ()).1, ⟨p1.1, p1.2.1⟩, rfl, wkL_refl _⟩
noncomputable def f_aggOf : List U8 → List Int := Classical.choose x_aggOf
theorem s_aggOf : SoundC Try.prog 27 (rowT Code f_aggOf) := (Classical.choose_spec x_aggOf).2
theorem code_bnd {l : List U8} (h : Code l) : bndL (EncA.es l) := ⟨⟨by rw [encL_length]; have := h.2; simp only [maxLen]; omega, bnd_u8 _⟩, trivial⟩
theorem p_aggOf {l : List U8} (h : Code l) : (f_aggOf l).length ≤ 9 ∧ Vals (f_aggOf l) := (Classical.choose_spec x_aggOf).1 l h (code_bnd h)
theorem at8 : FnAt Try.prog tab 8 Try.f8 (Try.f8.body.getD .skip) := ⟨Try.func8, rfl, Try.call8, by kernel_rfl, by decide, by kernel_rfl, mix⟩
theorem s_numbers : SoundC Try.prog 8 (rowT Code f_aggOf) := by
  refine sound_row (Γ := [(27, _)]) tab_ok (.cons s_aggOf .nil) at8 [2] _ _ (fun _ => Nat.le_of_ble_eq_true rfl) ?_
  rintro l h _
  conv => arg 2; arg 1; arg 1; cbv
  conv => arg 4; arg 1; cbv
  simp only [go_sem]
  exact h
theorem at7 : FnAt Try.prog tab 7 Try.f7 (Try.f7.body.getD .skip) := ⟨Try.func7, rfl, Try.call7, by kernel_rfl, by decide, by kernel_rfl, mix⟩
theorem s_big : SoundC Try.prog 7 (flatT (fun _ : List U8 => True) fun l => decide ((1048576 : Int) < l.length)) := by
  refine sound_flat (Γ := []) tab_ok .nil at7 [2] _ _ (fun _ => Nat.le_of_ble_eq_true rfl) (fun _ => rfl) ?_
  rintro l h _
  conv => arg 2; arg 1; arg 1; cbv
  conv => arg 4; arg 1; cbv
  simp only [go_sem]
theorem at9 : FnAt Try.prog tab 9 Try.f9 (Try.f9.body.getD .skip) := ⟨Try.func9, rfl, Try.call9, by kernel_rfl, by decide, by kernel_rfl, mix⟩
theorem s_rest : SoundC Try.prog 9 (pureT Code fun l => l.drop (l.length / 2)) := by
  refine sound_pure (Γ := []) tab_ok .nil at9 [2] _ _ (fun _ => Nat.le_of_ble_eq_true rfl) ?_
  rintro l h _
  conv => arg 2; arg 1; arg 1; cbv
  conv => arg 4; arg 1; cbv
  simp only [go_sem]
  have := h.2
  have e : IntKind.i64.wrap ((l.length : Int).tdiv 2) = (l.length / 2 : Nat) := by rw [tdiv_nn (by omega), wrap_in (by omega) (by omega)]; omega
  rw [e, Int.toNat_natCast]
  exact ⟨⟨by omega, by omega, by omega⟩, wkL_refl _⟩
theorem at71 : FnAt Try.prog tab 71 Try.f71 (Try.f71.body.getD .skip) := ⟨Try.func71, rfl, Try.call71, by kernel_rfl, by decide, by kernel_rfl, mix⟩
theorem s_iWideOf : SoundC Try.prog 71 (flatT (fun n => -9223372036854775808 ≤ n ∧ n ≤ 9223372036854775807) wofL) := by
  refine sound_flat (Γ := []) tab_ok .nil at71 [2] _ _ (fun _ => Nat.le_of_ble_eq_true rfl) (fun _ => rfl) ?_
  rintro n ⟨h, h'⟩ _
  conv => arg 2; arg 1; arg 1; cbv
  conv => arg 4; arg 1; cbv
  simp only [go_sem, IntKind.wrap_u64', wofL]
  refine ⟨by omega, ?_⟩
  show n.fdiv (2 ^ 63) = _
  rw [Int.fdiv_eq_ediv_of_nonneg _ (by decide)]
  split <;> omega
def add64L (q : U64 × U64 × U64) : U64 × U64 := (⟨(q.1.n + q.2.1.n + q.2.2.n) % 18446744073709551616⟩, ⟨(q.1.n + q.2.1.n + q.2.2.n) / 18446744073709551616⟩)
theorem s_add64 : SoundC Try.prog 118 (flatT (fun q : U64 × U64 × U64 => 0 ≤ q.1.n ∧ 0 ≤ q.2.1.n ∧ 0 ≤ q.2.2.n ∧ q.2.2.n ≤ 1) add64L) := by
  refine sound_val _ _ (fun q => [.int .u64 q.1.n, .int .u64 q.2.1.n, .int .u64 q.2.2.n]) (fun q => rfl) (fun q => .tuple #[.int .u64 (add64L q).1.n, .int .u64 (add64L q).2.n]) ?_ ?_
  · intro q w S β _
    simp [EncR.r, EncA.es, Enc.e, rep, reps, Value.oneCell']
  · rintro ⟨⟨x⟩, ⟨y⟩, ⟨c⟩⟩ w ⟨h1, h2, h3, h4⟩
    simp only at h1 h2 h3 h4
    obtain ⟨x, rfl⟩ : ∃ k : Nat, x = k := ⟨x.toNat, by omega⟩
    obtain ⟨y, rfl⟩ : ∃ k : Nat, y = k := ⟨y.toNat, by omega⟩
    obtain ⟨c, rfl⟩ : ∃ k : Nat, c = k := ⟨c.toNat, by omega⟩
    rw [run_callFunc_extern (P := Try.prog) Try.func118 (by kernel_rfl) (by kernel_rfl) (by kernel_rfl) (e := add64Entry) (by kernel_rfl)]
    simp only [List.size_toArray]
    rw [run_add64 x y c (by omega) (by omega) (by omega) (by omega)]
    rfl
theorem at70 : FnAt Try.prog tab 70 Try.f70 (Try.f70.body.getD .skip) := ⟨Try.func70, rfl, Try.call70, by kernel_rfl, by decide, by kernel_rfl, mix⟩
theorem s_iWideAdd : SoundC Try.prog 70 (flatT (fun q : Wide × Wide => WOk q.1 ∧ WOk q.2) fun q => waddL q.1 q.2) := by
  refine sound_flat (Γ := [(118, _)]) tab_ok (.cons s_add64 .nil) at70 [2, 3, 4, 5, 6] _ _ (fun _ => Nat.le_of_ble_eq_true rfl) (fun _ => rfl) ?_
  rintro ⟨a, b⟩ ⟨h1, h2⟩ _
  conv => arg 2; arg 1; arg 1; cbv
  conv => arg 4; arg 1; cbv
  simp only [go_sem, add64L, waddL]
  obtain ⟨_, _, a3, a4⟩ := h1
  obtain ⟨_, _, b3, b4⟩ := h2
  simp only at a3 a4 b3 b4
  refine ⟨⟨a3, b3, by omega, by omega⟩, ?_, by simp⟩
  simp only [IntKind.wrap_i64]
  omega
theorem at73 : FnAt Try.prog tab 73 Try.f73 (Try.f73.body.getD .skip) := ⟨Try.func73, rfl, Try.call73, by kernel_rfl, by decide, by kernel_rfl, mix⟩
theorem s_iWideNeg : SoundC Try.prog 73 (flatT (fun q : Wide => WOk q) wnegL) := by
  refine sound_flat (Γ := [(70, _)]) tab_ok (.cons s_iWideAdd .nil) at73 [1, 2] _ _ (fun _ => Nat.le_of_ble_eq_true rfl) (fun _ => rfl) ?_
  rintro a h _
  conv => arg 2; arg 1; arg 1; cbv
  conv => arg 4; arg 1; cbv
  simp only [go_sem]
  obtain ⟨a1, a2, a3, a4⟩ := h
  rw [not_i64 a1 a2, not_u64 a3 a4]
  refine ⟨⟨⟨?_, ?_, ?_, ?_⟩, ⟨?_, ?_, ?_, ?_⟩⟩, rfl, rfl⟩ <;> (simp only; omega)
theorem at32 : FnAt Try.prog tab 32 Try.f32 (Try.f32.body.getD .skip) := ⟨Try.func32, rfl, Try.call32, by kernel_rfl, by decide, by kernel_rfl, mix⟩
theorem s_sWideOf : SoundC Try.prog 32 (flatT (fun n => -9223372036854775808 ≤ n ∧ n ≤ 9223372036854775807) wofL) := by
  refine sound_flat (Γ := []) tab_ok .nil at32 [2] _ _ (fun _ => Nat.le_of_ble_eq_true rfl) (fun _ => rfl) ?_
  rintro n ⟨h, h'⟩ _
  conv => arg 2; arg 1; arg 1; cbv
  conv => arg 4; arg 1; cbv
  simp only [go_sem, IntKind.wrap_u64', wofL]
  refine onB_dec (fun hn => ?_) (fun hn => ?_) <;> simp [hn]
theorem at31 : FnAt Try.prog tab 31 Try.f31 (Try.f31.body.getD .skip) := ⟨Try.func31, rfl, Try.call31, by kernel_rfl, by decide, by kernel_rfl, mix⟩
theorem s_sWideAdd : SoundC Try.prog 31 (flatT (fun q : Wide × Wide => WOk q.1 ∧ WOk q.2) fun q => waddL q.1 q.2) := by
  refine sound_flat (Γ := []) tab_ok .nil at31 [2, 3, 4, 5, 6] _ _ (fun _ => Nat.le_of_ble_eq_true rfl) (fun _ => rfl) ?_
  rintro ⟨a, b⟩ ⟨h1, h2⟩ _
  conv => arg 2; arg 1; arg 1; cbv
  conv => arg 4; arg 1; cbv
  simp only [go_sem, waddL, IntKind.wrap_u64']
  obtain ⟨a1, a2, a3, a4⟩ := h1
  obtain ⟨b1, b2, b3, b4⟩ := h2
  simp only at a1 a2 a3 a4 b1 b2 b3 b4
  refine onB_dec (fun hn => ?_) (fun hn => ?_)
  all_goals
    simp only [IntKind.wrap_i64]
    omega
end Go.Proofs
