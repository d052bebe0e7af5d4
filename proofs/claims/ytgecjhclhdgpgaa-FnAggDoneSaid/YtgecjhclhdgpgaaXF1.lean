import Derived.Test.YtgecjhclhdgpgaaXF0
set_option linter.unusedVariables false
set_option linter.unusedSimpArgs false
namespace Go.Proofs
open Go Go.Ax
set_option maxRecDepth 10000
theorem at96 : FnAt Try.prog tab 96 Try.f96 (Try.f96.body.getD .skip) := ⟨Try.func96, rfl, Try.call96, by kernel_rfl, by decide, by kernel_rfl, mix⟩
theorem x_size : ∃ f : Cur → Int → Int × Cur, (∀ c n, (CurOk c ∧ c.at_ ≤ 2 ^ 60 ∧ 0 ≤ n ∧ n ≤ 2 ^ 62) → bndL (EncA.es n) → (Enc.e c).bnd → (0 ≤ (f c n).1 ∧ (f c n).1 ≤ n ∧ CurStep 1 c (f c n).2)) ∧ SoundC Try.prog 96 (ptrT (fun c n => CurOk c ∧ c.at_ ≤ 2 ^ 60 ∧ 0 ≤ n ∧ n ≤ 2 ^ 62) f) := by
  refine ex_ptr (Γ := [(36, _)]) tab_ok (.cons s_pick .nil) at96 [4] _ (fun c n r => 0 ≤ r.1 ∧ r.1 ≤ n ∧ CurStep 1 c r.2) (fun _ => Nat.le_of_ble_eq_true rfl) ?_
  rintro c n ⟨h1, h2, h3, h4⟩ _ hb
  conv => arg 2; arg 1; arg 1; cbv
  conv => arg 4; arg 1; cbv
  simp only [go_sem]
  refine ⟨⟨h1, by omega⟩, ?_⟩
  have hl := h1.len
  rw [tdiv_nn (by omega), wrap_in (n := c.code.length / 8) (by omega) (by omega), wrap_in (n := 1 + _) (by omega) (by omega), wrap_in (by split <;> omega) (by split <;> omega)]
  have p1 := p_pick (c := c) (n := (if 1 + (c.code.length : Int) / 8 < n then 1 + (c.code.length : Int) / 8 else n) + 1) h1 (by omega)
  refine cur_ret ⟨p1.1, ?_, p1.2.2⟩
  have := p1.2.1
  simp only at this ⊢
  split at this <;> omega
noncomputable def f_size : Cur → Int → Int × Cur := Classical.choose x_size
theorem s_size : SoundC Try.prog 96 (ptrT (fun c n => CurOk c ∧ c.at_ ≤ 2 ^ 60 ∧ 0 ≤ n ∧ n ≤ 2 ^ 62) f_size) := (Classical.choose_spec x_size).2
theorem p_size {c : Cur} {n : Int} (h : CurOk c ∧ c.at_ ≤ 2 ^ 60 ∧ 0 ≤ n ∧ n ≤ 2 ^ 62) : 0 ≤ (f_size c n).1 ∧ (f_size c n).1 ≤ n ∧ CurStep 1 c (f_size c n).2 := (Classical.choose_spec x_size).1 c n h ⟨trivial, trivial⟩ (cur_bnd h.1)
theorem size_gen {c : Cur} {n : Int} {G : Int × Cur → Prop} (h : CurOk c ∧ c.at_ ≤ 2 ^ 60 ∧ 0 ≤ n ∧ n ≤ 2 ^ 62) (k : ∀ r c1, 0 ≤ r → r ≤ n → CurStep 1 c c1 → G (r, c1)) : G (f_size c n) := by
  have := (Classical.choose_spec x_size).1 c n h ⟨trivial, trivial⟩ (cur_bnd h.1)
  exact k _ _ this.1 this.2.1 this.2.2
theorem at78 : FnAt Try.prog tab 78 Try.f78 (Try.f78.body.getD .skip) := ⟨Try.func78, rfl, Try.call78, by kernel_rfl, by decide, by kernel_rfl, mix⟩
theorem x_raw : ∃ f : Cur → Unit → Int × Cur, (∀ c n, (CurOk c ∧ c.at_ ≤ 2 ^ 60) → bndL (EncA.es n) → (Enc.e c).bnd → (-9223372036854775808 ≤ (f c n).1 ∧ (f c n).1 ≤ 9223372036854775807 ∧ CurStep 2 c (f c n).2)) ∧ SoundC Try.prog 78 (ptrT (fun c n => CurOk c ∧ c.at_ ≤ 2 ^ 60) f) := by
  refine ex_ptr (Γ := [(36, _)]) tab_ok (.cons s_pick .nil) at78 [2, 4, 5, 10] _ (fun c n r => -9223372036854775808 ≤ r.1 ∧ r.1 ≤ 9223372036854775807 ∧ CurStep 2 c r.2) (fun _ => Nat.le_of_ble_eq_true rfl) ?_
  rintro c n ⟨h1, h2⟩ _ hb
  conv => arg 2; arg 1; arg 1; cbv
  conv => arg 4; arg 1; cbv
  simp only [go_sem]
  refine ⟨⟨h1, by omega⟩, ?_⟩
  have p1 := p_pick (n := 8) h1 (by omega)
  generalize f_pick c 8 = q1 at p1 ⊢
  obtain ⟨r1, c1⟩ := q1
  obtain ⟨a1, a2, a3⟩ := p1
  simp only at a1 a2 a3 ⊢
  have hc1 : CurOk c1 ∧ c1.at_ ≤ 2 ^ 61 := ⟨a3.1, by have := a3.2.1; omega⟩
  have nxt : ∀ n, 0 < n → ∃ r2 c2, f_pick c1 n = (r2, c2) ∧ 0 ≤ r2 ∧ r2 < n ∧ CurStep 2 c c2 := by
    intro n hn
    have p2 := p_pick (n := n) hc1.1 hc1.2
    exact ⟨(f_pick c1 n).1, (f_pick c1 n).2, rfl, p2.1, by omega, a3.trans p2.2.2⟩
  refine onB_dec (fun h3 => ⟨hc1, ?_⟩) (fun h3 => onB_dec (fun h4 => ⟨hc1, ?_⟩) (fun h4 => ⟨hc1, ?_⟩))
  · obtain ⟨r2, c2, e, b1, b2, b3⟩ := nxt 256 (by omega)
    rw [e]
    exact cur_ret' (wrap_in (by omega) (by omega)) ⟨by simp only; omega, by simp only; omega, b3⟩
  · obtain ⟨r2, c2, e, b1, b2, b3⟩ := nxt 8 (by omega)
    rw [e]
    refine ⟨⟨b1, b2⟩, by omega, cur_ret ⟨?_, ?_, b3⟩⟩
    all_goals
      simp only
      obtain rfl | rfl | rfl | rfl | rfl | rfl | rfl | rfl : r2 = 0 ∨ r2 = 1 ∨ r2 = 2 ∨ r2 = 3 ∨ r2 = 4 ∨ r2 = 5 ∨ r2 = 6 ∨ r2 = 7 := by omega
      all_goals decide
  · obtain ⟨r2, c2, e, b1, b2, b3⟩ := nxt 14 (by omega)
    rw [e]
    exact cur_ret' (wrap_in (by omega) (by omega)) ⟨by simp only; omega, by simp only; omega, b3⟩
noncomputable def f_raw : Cur → Unit → Int × Cur := Classical.choose x_raw
theorem s_raw : SoundC Try.prog 78 (ptrT (fun c n => CurOk c ∧ c.at_ ≤ 2 ^ 60) f_raw) := (Classical.choose_spec x_raw).2
theorem p_raw {c : Cur} {u : Unit} (h : CurOk c) (h' : c.at_ ≤ 2 ^ 60) : -9223372036854775808 ≤ (f_raw c u).1 ∧ (f_raw c u).1 ≤ 9223372036854775807 ∧ CurStep 2 c (f_raw c u).2 :=
  (Classical.choose_spec x_raw).1 c u ⟨h, h'⟩ trivial (cur_bnd h)
theorem at66 : FnAt Try.prog tab 66 Try.f66 (Try.f66.body.getD .skip) := ⟨Try.func66, rfl, Try.call66, by kernel_rfl, by decide, by kernel_rfl, mix⟩
def Vals (l : List Int) : Prop := ∀ x ∈ l, -9223372036854775808 ≤ x ∧ x ≤ 9223372036854775807
theorem x_values : ∃ f : Cur → Unit → List Int × Cur, (∀ c n, (CurOk c ∧ c.at_ ≤ 2 ^ 58) → bndL (EncA.es n) → (Enc.e c).bnd → ((f c n).1.length ≤ 9 ∧ Vals (f c n).1 ∧ CurStep 100 c (f c n).2)) ∧ SoundC Try.prog 66 (ptrRowT (fun c n => CurOk c ∧ c.at_ ≤ 2 ^ 58) f) := by
  refine ex_ptrRow (Γ := [(36, _), (96, _), (78, _)]) tab_ok (.cons s_pick (.cons s_size (.cons s_raw .nil))) at66 [2, 3, 4] _ (fun (c : Cur) (n : Unit) (r : List Int × Cur) => r.1.length ≤ 9 ∧ Vals r.1 ∧ CurStep 100 c r.2) (fun _ => Nat.le_of_ble_eq_true rfl) ?_
  rintro c n ⟨h1, h2⟩ _ hb
  conv => arg 2; arg 1; arg 1; cbv
  conv => arg 4; arg 1; cbv
  simp only [go_sem]
  refine ⟨⟨h1, by omega, by omega, by omega⟩, ?_⟩
  have p1 := p_size (c := c) (n := 9) ⟨h1, by omega, by omega, by omega⟩
  generalize f_size c 9 = q1 at p1 ⊢
  obtain ⟨r, c1⟩ := q1
  obtain ⟨a1, a2, a3⟩ := p1
  simp only at a1 a2 a3 ⊢
  refine r_loop (fun q : Int × List Int × Cur => ⟨[(0, .ptr 1 0 0), (2, .lit (.slice none 0 0)), (3, .row 128 1 0 q.2.1.length), (4, .lit (.int .i64 q.1))], [], [(1, ⟨3, [Enc.e q.2.2], false, false⟩), (128, ⟨1, encL Enc.e q.2.1, true, false⟩)]⟩)
    (fun q => 0 ≤ q.1 ∧ q.2.1.length + q.1 ≤ 9 ∧ Vals q.2.1 ∧ CurStep (100 - 10 * q.1) c q.2.2) (fun q => q.1.toNat) (r, [], c1) ?_ ?_ ?_
  · exact Le.of_eq rfl
  · exact ⟨a1, by simpa using a2, (by intro x hx; cases hx), a3.mono (by simp only; omega)⟩
  · rintro ⟨k, l, c2⟩ ⟨b1, b2, b3, b4⟩
    simp only at b1 b2 b3 b4
    simp only [go_sem]
    have hat : ∀ m c', CurStep m c c' → m ≤ 200 → CurOk c' ∧ c'.at_ ≤ 2 ^ 60 := fun m c' h hm => ⟨h.1, by have := h.2.1; omega⟩
    refine onB_dec (fun h => ?_) (fun h => ⟨(l, c2), ⟨by simp only; omega, b3, b4.mono (by omega)⟩, ⟨rfl, wkL_refl _⟩, wkL_refl _, rfl, rfl⟩)
    have p1 := p_pick (c := c2) (n := 20) b4.1 (by have := hat _ _ b4 (by omega); omega)
    generalize f_pick c2 20 = q at p1 ⊢
    obtain ⟨x1, d1⟩ := q
    obtain ⟨g1, g2, g3⟩ := p1
    simp only at g1 g2 g3 ⊢
    have g4 := b4.trans g3
    have p2 := p_pick (c := d1) (n := 20) g3.1 (by have := hat _ _ g4 (by omega); omega)
    generalize f_pick d1 20 = q at p2 ⊢
    obtain ⟨x2, d2⟩ := q
    obtain ⟨e1, e2, e3⟩ := p2
    simp only at e1 e2 e3 ⊢
    have e4 := g4.trans e3
    have p3 := p_raw (c := d2) (u := ()) e3.1 (hat _ _ e4 (by omega)).2
    generalize f_raw d2 () = q at p3 ⊢
    obtain ⟨x3, d3⟩ := q
    obtain ⟨i1, i2, i3⟩ := p3
    simp only at i1 i2 i3 ⊢
    have i4 := e4.trans i3
    have p4 := p_pick (c := d3) (n := 3) i3.1 (by have := hat _ _ i4 (by omega); omega)
    generalize f_pick d3 3 = q at p4 ⊢
    obtain ⟨x4, d4⟩ := q
    obtain ⟨j1, j2, j3⟩ := p4
    simp only at j1 j2 j3 ⊢
    have j4 := i4.trans j3
    have w1 : IntKind.i64.wrap (x1 - 5) = x1 - 5 := wrap_in (by omega) (by omega)
    have w2 : IntKind.i64.wrap (x2 - 5) = x2 - 5 := wrap_in (by omega) (by omega)
    rw [w1, w2]
    have hx : -9223372036854775808 ≤ [x1 - 5, x2 - 5, x3].getD x4.toNat default ∧ [x1 - 5, x2 - 5, x3].getD x4.toNat default ≤ 9223372036854775807 := by
      obtain rfl | rfl | rfl : x4 = 0 ∨ x4 = 1 ∨ x4 = 2 := by omega
      · simp; omega
      · simp; omega
      · simp; omega
    generalize [x1 - 5, x2 - 5, x3].getD x4.toNat default = x at hx ⊢
    refine ⟨⟨b4.1, by have := hat _ _ b4 (by omega); omega⟩, ⟨g3.1, by have := hat _ _ g4 (by omega); omega⟩, hat _ _ e4 (by omega), ⟨i3.1, by have := hat _ _ i4 (by omega); omega⟩, ⟨by omega, by omega⟩, by omega, ⟨by simp only [maxLen]; omega, by omega⟩, (k - 1, l ++ [x], d4), by simp only; omega, ⟨by simp only; omega, by simp; omega, ?_, j4.mono (by simp only; omega)⟩, ?_⟩
    · intro y hy
      rcases List.mem_append.1 hy with hy | hy
      · exact b3 y hy
      · simp only [List.mem_singleton] at hy; subst hy; exact hx
    · refine (Le.gc [128] _).trans (Le.of_eq ?_)
      rw [wrap_in (by omega) (by omega)]
      simp only [go_sem]
      simp [encL, Enc.e]
noncomputable def f_values : Cur → Unit → List Int × Cur := Classical.choose x_values
theorem s_values : SoundC Try.prog 66 (ptrRowT (fun c n => CurOk c ∧ c.at_ ≤ 2 ^ 58) f_values) := (Classical.choose_spec x_values).2
theorem p_values {c : Cur} {u : Unit} (h : CurOk c) (h' : c.at_ ≤ 2 ^ 58) : (f_values c u).1.length ≤ 9 ∧ Vals (f_values c u).1 ∧ CurStep 100 c (f_values c u).2 :=
  (Classical.choose_spec x_values).1 c u ⟨h, h'⟩ trivial (cur_bnd h)
end Go.Proofs
