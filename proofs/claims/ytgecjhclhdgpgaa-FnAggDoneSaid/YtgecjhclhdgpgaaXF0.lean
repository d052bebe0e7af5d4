import Derived.Test.YtgecjhclhdgpgaaXTab
import Derived.Test.YtgecjhclhdgpgaaXSt
set_option linter.unusedVariables false
set_option linter.unusedSimpArgs false
namespace Go.Proofs
open Go Go.Ax
set_option maxRecDepth 10000
theorem mix : Try.prog.follows .mixedOrders = true := by kernel_rfl
theorem at72 : FnAt Try.prog tab 72 Try.f72 (Try.f72.body.getD .skip) := ⟨Try.func72, rfl, Try.call72, by kernel_rfl, by decide, by kernel_rfl, mix⟩
def in_ (q : Int × Int × Int) : Bool := decide (q.2.1 ≤ q.1) && decide (q.1 ≤ q.2.2)
theorem s_in : SoundC Try.prog 72 (flatT (fun _ => True) in_) := by
  refine sound_flat (Γ := []) tab_ok .nil at72 [6] _ _ (fun _ => Nat.le_of_ble_eq_true rfl) (fun _ => rfl) ?_
  rintro ⟨a, b, c⟩ _ _
  conv => arg 2; arg 1; arg 1; cbv
  conv => arg 4; arg 1; cbv
  simp only [go_sem, in_]
  by_cases h : b ≤ a <;> simp [onB, h]
theorem at23 : FnAt Try.prog tab 23 Try.f23 (Try.f23.body.getD .skip) := ⟨Try.func23, rfl, Try.call23, by kernel_rfl, by decide, by kernel_rfl, mix⟩
theorem s_same : SoundC Try.prog 23 (flatT (fun _ : List Int × List Int => True) fun q => decide (q.1 = q.2)) := by
  refine sound_flat (Γ := []) tab_ok .nil at23 [4, 5] _ _ (fun _ => Nat.le_of_ble_eq_true rfl) (fun _ => rfl) ?_
  rintro ⟨x, y⟩ _ hb
  conv => arg 2; arg 1; arg 1; cbv
  conv => arg 4; arg 1; cbv
  simp only [go_sem, bndL, AV.bnd, maxLen] at hb ⊢
  refine onB_ndec (fun h => ?_) (fun h => ?_)
  · symm; simp; intro e; subst e; exact h rfl
  · refine r_loop (fun i : Nat => ⟨[(0, .sl 1 (encL Enc.e x)), (1, .sl 1 (encL Enc.e y)), (4, .lit (.bool false)), (5, .lit (.int .i64 i))], [], []⟩) (fun i => i ≤ x.length ∧ x.take i = y.take i) (fun i => x.length - i) 0 ?_ ?_ ?_
    · exact Le.of_eq rfl
    · simp
    · rintro i ⟨h1, h2⟩
      simp only [go_sem]
      refine onB_dec (fun h3 => ⟨⟨by omega, by omega⟩, ⟨by omega, by omega⟩, onB_ndec (fun h4 => ?_) (fun h4 => ⟨i + 1, by omega, ⟨by omega, ?_⟩, Le.of_eq ?_⟩)⟩) (fun h3 => ?_)
      · symm; simp; rintro rfl; exact h4 rfl
      · have hy : i < y.length := by omega
        have hx : i < x.length := by omega
        rw [List.take_succ_eq_append_getElem hx, List.take_succ_eq_append_getElem hy, h2]
        simp [List.getD_eq_getElem?_getD, hx, hy] at h4
        rw [h4]
      · rw [wrap_in (by omega) (by omega)]; rfl
      · have : i = x.length := by omega
        subst this
        rw [List.take_length, List.take_of_length_le (by omega)] at h2
        simp [h2]
/-! ## numbers out of a code -/
def CurOk (c : Cur) : Prop := 0 ≤ c.at_ ∧ 0 ≤ c.seed ∧ c.seed < 65521 ∧ (∀ b ∈ c.code, 0 ≤ b.n ∧ b.n < 256) ∧ c.code.length ≤ 9223372036854775807
/-- At most so many numbers have been handed out between. -/
def CurStep (m : Int) (c c' : Cur) : Prop := CurOk c' ∧ c'.at_ ≤ c.at_ + m ∧ c'.code = c.code
theorem at36 : FnAt Try.prog tab 36 Try.f36 (Try.f36.body.getD .skip) := ⟨Try.func36, rfl, Try.call36, by kernel_rfl, by decide, by kernel_rfl, mix⟩
theorem x_pick : ∃ f : Cur → Int → Int × Cur, (∀ c a, (CurOk c ∧ c.at_ ≤ 2 ^ 61) → bndL (EncA.es a) → (Enc.e c).bnd → (0 ≤ (f c a).1 ∧ ((f c a).1 < a ∨ (f c a).1 = 0) ∧ CurStep 1 c (f c a).2)) ∧ SoundC Try.prog 36 (ptrT (fun c _ => CurOk c ∧ c.at_ ≤ 2 ^ 61) f) := by
  refine ex_ptr (Γ := []) tab_ok .nil at36 [4, 5] (fun c _ => CurOk c ∧ c.at_ ≤ 2 ^ 61) (fun c a r => 0 ≤ r.1 ∧ (r.1 < a ∨ r.1 = 0) ∧ CurStep 1 c r.2) (fun _ => Nat.le_of_ble_eq_true rfl) ?_
  rintro ⟨code, at_, seed⟩ n ⟨⟨h1, h2, h3, h4, h6⟩, h5⟩ _ hb
  conv => arg 2; arg 1; arg 1; cbv
  conv => arg 4; arg 1; cbv
  simp only [go_sem, bndL, AV.bnd, maxLen] at hb h1 h2 h3 h4 h5 h6 ⊢
  have fin : ∀ (x : Int) (sd : Int), 0 ≤ x → ¬ n < 2 → (0 ≤ sd ∧ sd < 65521) → ∃ r : Int × Cur, (0 ≤ r.1 ∧ (r.1 < n ∨ r.1 = 0) ∧ CurStep 1 ⟨code, at_, seed⟩ r.2) ∧ x.tmod n = r.1 ∧ wkL (encL Enc.e code) (encL Enc.e r.2.code) ∧ IntKind.i64.wrap (at_ + 1) = r.2.at_ ∧ sd = r.2.seed := by
    intro x sd hx hn hsd
    have hm := Int.emod_lt_of_pos x (show 0 < n by omega)
    have hm0 := Int.emod_nonneg x (show n ≠ 0 by omega)
    refine ⟨(x % n, ⟨code, at_ + 1, sd⟩), ⟨hm0, .inl hm, ⟨by simp only; omega, hsd.1, hsd.2, h4, h6⟩, by simp, rfl⟩, tmod_nn hx, wkL_refl _, wrap_in (by omega) (by omega), rfl⟩
  refine onB_dec (fun hn => ⟨(0, ⟨code, at_, seed⟩), ⟨by simp, by simp, ⟨h1, h2, h3, h4, h6⟩, by simp only; omega, rfl⟩, rfl, wkL_refl _, rfl, rfl⟩) (fun hn => onB_dec (fun ha => ⟨⟨by omega, by omega⟩, by omega, ?_⟩) (fun ha => ?_))
  · have hc := getD_mem h4 (i := at_.toNat) (by omega)
    exact fin _ _ (by rw [wrap_in (by omega) (by omega)]; omega) hn ⟨h2, h3⟩
  · have hs : (IntKind.i64.wrap (IntKind.i64.wrap (seed * 1103) + 12345)).tmod 65521 = (seed * 1103 + 12345) % 65521 := by
      rw [wrap_in (n := seed * 1103) (by omega) (by omega), wrap_in (by omega) (by omega), tmod_nn (by omega)]
    rw [hs]
    refine onB_dec (fun hl => ?_) (fun hl => ⟨by omega, fin _ _ (by omega) hn (by omega)⟩)
    have ht : at_.tmod code.length = at_ % code.length := tmod_nn h1
    have hm := Int.emod_lt_of_pos at_ hl
    have hm0 := Int.emod_nonneg at_ (show (code.length : Int) ≠ 0 by omega)
    refine ⟨by omega, by rw [ht]; omega, by omega, fin _ _ ?_ hn (by omega)⟩
    have hc := getD_mem h4 (i := (at_.tmod code.length).toNat) (by omega)
    rw [tdiv_nn (by omega)]
    simp (discharger := omega) only [wrap_in]
    omega
noncomputable def f_pick : Cur → Int → Int × Cur := Classical.choose x_pick
theorem s_pick : SoundC Try.prog 36 (ptrT (fun c _ => CurOk c ∧ c.at_ ≤ 2 ^ 61) f_pick) := (Classical.choose_spec x_pick).2
theorem cur_bnd {c : Cur} (h : CurOk c) : (Enc.e c).bnd := by rw [e_Cur]; exact ⟨⟨by rw [encL_length]; exact h.2.2.2.2, bnd_u8 _⟩, trivial, trivial, trivial⟩
theorem p_pick {c : Cur} {n : Int} (h : CurOk c) (h' : c.at_ ≤ 2 ^ 61) : 0 ≤ (f_pick c n).1 ∧ ((f_pick c n).1 < n ∨ (f_pick c n).1 = 0) ∧ CurStep 1 c (f_pick c n).2 :=
  (Classical.choose_spec x_pick).1 c n ⟨h, h'⟩ ⟨trivial, trivial⟩ (cur_bnd h)
theorem Cur.eta (c : Cur) : (⟨c.code, c.at_, c.seed⟩ : Cur) = c := rfl
attribute [go_sem] Cur.eta
theorem CurStep.trans {a b : Int} {c c' c'' : Cur} (h : CurStep a c c') (h' : CurStep b c' c'') : CurStep (a + b) c c'' := ⟨h'.1, by have := h.2.1; have := h'.2.1; omega, h'.2.2.trans h.2.2⟩
theorem CurStep.mono {a b : Int} {c c' : Cur} (h : CurStep a c c') (hab : a ≤ b) : CurStep b c c' := ⟨h.1, by have := h.2.1; omega, h.2.2⟩
theorem CurStep.refl {c : Cur} (h : CurOk c) : CurStep 0 c c := ⟨h, by omega, rfl⟩
theorem CurOk.len {c : Cur} (h : CurOk c) : c.code.length ≤ 9223372036854775807 := h.2.2.2.2
/-- What a function of a cursor hands back. -/
theorem cur_ret {ρ : Type} {Φ : ρ × Cur → Prop} {x : ρ} {c : Cur} (h : Φ (x, c)) : ∃ r : ρ × Cur, Φ r ∧ x = r.1 ∧ wkL (encL Enc.e c.code) (encL Enc.e r.2.code) ∧ c.at_ = r.2.at_ ∧ c.seed = r.2.seed := ⟨(x, c), h, rfl, wkL_refl _, rfl, rfl⟩
theorem cur_ret' {ρ : Type} {Φ : ρ × Cur → Prop} {x x' : ρ} {c : Cur} (e : x = x') (h : Φ (x', c)) : ∃ r : ρ × Cur, Φ r ∧ x = r.1 ∧ wkL (encL Enc.e c.code) (encL Enc.e r.2.code) ∧ c.at_ = r.2.at_ ∧ c.seed = r.2.seed := ⟨(x', c), h, e, wkL_refl _, rfl, rfl⟩
theorem pick_gen {c : Cur} {n : Int} {G : Int × Cur → Prop} (h : CurOk c) (h' : c.at_ ≤ 2 ^ 61) (k : ∀ r c1, 0 ≤ r → (r < n ∨ r = 0) → CurStep 1 c c1 → G (r, c1)) : G (f_pick c n) := by
  have := p_pick (n := n) h h'
  exact k _ _ this.1 this.2.1 this.2.2
end Go.Proofs
