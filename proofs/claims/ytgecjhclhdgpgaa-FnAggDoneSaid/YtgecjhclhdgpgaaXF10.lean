import Derived.Test.YtgecjhclhdgpgaaXF9
import Derived.Test.YtgecjhclhdgpgaaXP3
set_option linter.unusedVariables false
set_option linter.unusedSimpArgs false
namespace Go.Proofs
open Go Go.Ax
set_option maxRecDepth 10000
theorem at14 : FnAt Try.prog tab 14 Try.f14 (Try.f14.body.getD .skip) := ⟨Try.func14, rfl, Try.call14, by kernel_rfl, by decide, by kernel_rfl, mix⟩
theorem s_iAggOk : SoundC Try.prog 14 (flatT IsAgg fun _ => true) := by
  refine sound_flat (Γ := [(29, _)]) tab_ok (.cons s_isAgg .nil) at14 [1, 2] _ _ (fun _ => Nat.le_of_ble_eq_true rfl) (fun _ => rfl) ?_
  rintro a ha hb
  conv => arg 2; arg 1; arg 1; cbv
  conv => arg 4; arg 1; cbv
  simp only [go_sem]
  exact ha
def IsAggs (q : Agg × Agg) : Prop := ∃ l m : List Int, Vals l ∧ Vals m ∧ l.length ≤ 1000000 ∧ m.length ≤ 1000000 ∧ q = (aggOfL l, aggOfL m)
theorem agg_facts {l : List Int} {a : Agg} (h : Vals l) (hl : l.length ≤ 1000000) (e : a = aggOfL l) : a.n = l.length ∧ a.top.length ≤ 4 ∧ WOk a.sum ∧ a.top = topL l := by
  subst e
  by_cases h0 : l.length = 0
  · rw [aggOfL_nil h0]
    have : l = [] := List.length_eq_zero_iff.1 h0
    subst this
    exact ⟨rfl, by simp, wzero_ok, top_nil.symm⟩
  · rw [aggOfL_some h0]
    exact ⟨rfl, by rw [topL_length]; omega, sumW_ok l, rfl⟩
theorem at30 : FnAt Try.prog tab 30 Try.f30 (Try.f30.body.getD .skip) := ⟨Try.func30, rfl, Try.call30, by kernel_rfl, by decide, by kernel_rfl, mix⟩
theorem s_joined : SoundC Try.prog 30 (pureT IsAggs joinL) := by
  refine sound_pure (Γ := [(58, _), (69, _), (70, _), (76, _)]) tab_ok (.cons s_cloneI (.cons s_iTop (.cons s_iWideAdd (.cons s_concat .nil)))) at30 [2, 3, 4] _ _ (fun _ => Nat.le_of_ble_eq_true rfl) ?_
  rintro ⟨a, b⟩ h -
  conv => arg 2; arg 1; arg 1; cbv
  conv => arg 4; arg 1; cbv
  simp only [go_sem]
  obtain ⟨l, m, hl, hm, hll, hml, e⟩ := h
  rw [Prod.mk.injEq] at e
  obtain ⟨ea, eb⟩ := e
  obtain ⟨a1, a2, a3, a4⟩ := agg_facts hl hll ea
  obtain ⟨b1, b2, b3, b4⟩ := agg_facts hm hml eb
  unfold joinL
  simp only
  refine onB_dec (fun h => ?_) (fun h => onB_dec (fun h2 => ?_) (fun h2 => ?_))
  · rw [if_pos h]; exact ⟨by omega, rfl, rfl, rfl, rfl, rfl, wkL_refl _⟩
  · rw [if_neg h, if_pos h2, wrap_in (by omega) (by omega)]
    have e : [a.top, b.top].flatten = a.top ++ b.top := by simp
    rw [e]
    refine ⟨⟨a3, b3⟩, ?_, ?_, rfl, rfl, rfl, rfl, rfl, wkL_refl _⟩ <;> (rw [List.length_append]; omega)
  · rw [if_neg h, if_neg (by omega)]; exact ⟨by omega, rfl, rfl, rfl, rfl, rfl, wkL_refl _⟩
theorem at11 : FnAt Try.prog tab 11 Try.f11 (Try.f11.body.getD .skip) := ⟨Try.func11, rfl, Try.call11, by kernel_rfl, by decide, by kernel_rfl, mix⟩
theorem s_aggJoin : SoundC Try.prog 11 (pureT (ρ := Agg × Bool) (fun q => IsAggs q ∧ q.1.n + q.2.n ≤ 1000000) fun q => (joinL q, true)) := by
  refine sound_pure (Γ := [(29, _), (30, _)]) tab_ok (.cons s_isAgg (.cons s_joined .nil)) at11 [2, 3, 4, 5] _ _ (fun _ => Nat.le_of_ble_eq_true rfl) ?_
  rintro ⟨a, b⟩ ⟨h, hn⟩ -
  conv => arg 2; arg 1; arg 1; cbv
  conv => arg 4; arg 1; cbv
  simp only [go_sem]
  obtain ⟨l, m, hl, hm, hll, hml, e⟩ := id h
  rw [Prod.mk.injEq] at e
  obtain ⟨ea, eb⟩ := e
  obtain ⟨a1, _⟩ := agg_facts hl hll ea
  obtain ⟨b1, _⟩ := agg_facts hm hml eb
  simp only at hn
  refine ⟨⟨l, hl, hll, ea⟩, ⟨m, hm, hml, eb⟩, onB_dec (fun h' => ?_) (fun _ => h)⟩
  rw [wrap_in (by omega) (by omega)] at h'
  omega
theorem at12 : FnAt Try.prog tab 12 Try.f12 (Try.f12.body.getD .skip) := ⟨Try.func12, rfl, Try.call12, by kernel_rfl, by decide, by kernel_rfl, mix⟩
theorem s_sameAgg : SoundC Try.prog 12 (flatT (fun _ : Agg × Agg => True) fun q => decide (q.1.n = q.2.n) && (decide (q.1.sum.hi = q.2.sum.hi) && decide (q.1.sum.lo.n = q.2.sum.lo.n)) && decide (q.1.min = q.2.min) && decide (q.1.max = q.2.max) && decide (q.1.top = q.2.top)) := by
  refine sound_flat (Γ := [(23, _)]) tab_ok (.cons s_same .nil) at12 [2, 3, 4] _ _ (fun _ => Nat.le_of_ble_eq_true rfl) (fun _ => rfl) ?_
  rintro ⟨a, b⟩ - -
  conv => arg 2; arg 1; arg 1; cbv
  conv => arg 4; arg 1; cbv
  simp only [go_sem]
  generalize decide (a.n = b.n) = x1
  generalize decide (a.sum.hi = b.sum.hi) = x2
  generalize decide (a.sum.lo.n = b.sum.lo.n) = x3
  generalize decide (a.min = b.min) = x4
  generalize decide (a.max = b.max) = x5
  cases x1 <;> cases x2 <;> cases x3 <;> cases x4 <;> cases x5 <;> simp [onB_true, onB_false]
theorem at13 : FnAt Try.prog tab 13 Try.f13 (Try.f13.body.getD .skip) := ⟨Try.func13, rfl, Try.call13, by kernel_rfl, by decide, by kernel_rfl, mix⟩
def rnM (a b id : Nat) : Option Nat := if id = a then some b else if id = b then some a else some id
theorem rnM_iff (a b i j : Nat) : rnM a b i = some j ↔ rnM a b j = some i := by
  unfold rnM
  constructor <;> intro h <;> repeat' split at h
  all_goals (simp only [Option.some.injEq] at h; subst h; simp_all)
/-- Two names change places. -/
theorem Le.ren (a b : Nat) (ha : a % 2 = 0) (hb : b % 2 = 0) (s : AS) : Le s (s.mv (rnM a b)) := by
  intro c ac w hs
  unfold RepS at *
  rw [mv_f s (rnM_iff a b)]
  exact hs.mv (rnM a b) (rnM a b) (rnM_iff a b) (fun i hi => by
    unfold rnM; rw [if_neg (by rintro rfl; omega), if_neg (by rintro rfl; omega)])
theorem s_sAggOf : SoundC Try.prog 13 (pureT (fun l : List Int => l.length ≤ 2 ^ 40 ∧ Vals l) aggOfL1) := by
  refine sound_pure (Γ := [(31, _), (32, _), (33, _)]) tab_ok (.cons s_sWideAdd (.cons s_sWideOf (.cons s_sTop .nil))) at13 [2, 3, 4] _ _ (fun _ => Nat.le_of_ble_eq_true rfl) ?_
  rintro l ⟨hl, hv⟩ -
  conv => arg 2; arg 1; arg 1; cbv
  conv => arg 4; arg 1; cbv
  simp only [go_sem] at hl ⊢
  unfold aggOfL1
  refine onB_dec (fun h0 => ?_) (fun h0 => onB_dec (fun h1 => ?_) (fun h1 => ?_))
  · rw [if_neg (by omega), aggOfL_nil (by omega)]
    exact ⟨rfl, rfl, rfl, rfl, rfl, rfl⟩
  · rw [if_pos (by omega)]
    exact ⟨rfl, rfl, rfl, rfl, rfl, rfl⟩
  rw [if_neg (by omega), aggOfL_some (by omega)]
  have e0 : (0 : Int).toNat = 0 := rfl
  rw [e0]
  refine ⟨⟨by omega, by omega⟩, ⟨by omega, by omega⟩, ?_⟩
  let A : Wide → Int → Int → AV → AV := fun s mn mx t => .agg [.lit (.int .i64 l.length), .lit (.int .i64 s.hi), .lit (.int .u64 s.lo.n), .lit (.int .i64 mn), .lit (.int .i64 mx), t]
  let Z : AV := .agg [.lit (.int .i64 0), .lit (.int .i64 0), .lit (.int .u64 0), .lit (.int .i64 0), .lit (.int .i64 0), .lit (.slice none 0 0)]
  refine r_loop (fun i : Nat => match i with
      | 0 => ⟨[(0, .sl 1 (encL Enc.e l)), (2, .ptr 96 0 0), (3, .ptr 128 0 0), (4, .lit (.int .i64 (0 : Nat)))], [], [(96, ⟨6, [Z], false, false⟩), (128, ⟨6, [A wzero (l.getD 0 default) (l.getD 0 default) (.lit (.slice none 0 0))], false, false⟩)]⟩
      | i + 1 => ⟨[(0, .sl 1 (encL Enc.e l)), (2, .ptr 96 0 0), (3, .ptr 128 0 0), (4, .lit (.int .i64 (i + 1 : Nat)))], [], [(96, ⟨6, [Z], false, false⟩), (128, ⟨6, [A (sumW (l.take (i + 1))) (mnL (l.take (i + 1))) (mxL (l.take (i + 1))) (.row 4000 1 0 (topL (l.take (i + 1))).length)], false, false⟩), (4000, ⟨1, encL Enc.e (topL (l.take (i + 1))), true, false⟩)]⟩)
    (fun i => i ≤ l.length) (fun i => l.length - i) 0 ?_ ?_ ?_
  · refine Le.of_eq ?_
    simp only [AS.clr, A, Z, wzero]
    rfl
  · exact Nat.zero_le _
  · rintro i hi
    cases i with
    | zero =>
      simp only [go_sem, A, Z, wide_eta]
      refine onB_dec (fun h => ?_) (fun h => absurd h (by omega))
      have hx : 0 < l.length := by omega
      have e1 : IntKind.i64.wrap (((0 : Nat) : Int) + 1) = ((0 + 1 : Nat) : Int) := rfl
      have hg : l.getD 0 default = l[0] := by simp [List.getD_eq_getElem?_getD, hx]
      have ht : l.take (0 + 1) = [l.getD 0 default] := by rw [List.take_succ_eq_append_getElem hx, hg]; simp
      rw [e1, Int.toNat_natCast]
      refine ⟨⟨by omega, hx⟩, getD_mem hv hx, ⟨wzero_ok, wofL_ok _⟩, ⟨by omega, hx⟩, ⟨by omega, hx⟩, ⟨by omega, by omega, by omega⟩, by rw [List.length_take]; omega, 0 + 1, by omega, by omega, (Le.ren 1984 4000 (by decide) (by decide) _).trans (Le.of_eq ?_)⟩
      simp only [go_sem, rnM]
      rw [ht]
      simp only [ite_self]
      rfl
    | succ i =>
      simp only [go_sem, A, Z, wide_eta]
      refine onB_dec (fun h => ?_) (fun h => ?_)
      · have hx : i + 1 < l.length := by omega
        have e1 : IntKind.i64.wrap (((i + 1 : Nat) : Int) + 1) = ((i + 1 + 1 : Nat) : Int) := by rw [wrap_in (by omega) (by omega)]; omega
        have hg : l.getD (i + 1) default = l[i + 1] := by simp [List.getD_eq_getElem?_getD, hx]
        have ht : l.take (i + 1 + 1) = l.take (i + 1) ++ [l.getD (i + 1) default] := by rw [List.take_succ_eq_append_getElem hx, hg]
        have hd : (l.take (i + 1 + 1)).drop (i + 1) = [l.getD (i + 1) default] := by rw [ht, List.drop_left' (by rw [List.length_take]; omega)]
        have hlt := topL_length (l.take (i + 1))
        have hpos : 0 < (l.take (i + 1)).length := by rw [List.length_take]; omega
        rw [e1, Int.toNat_natCast, hd, top_top1, ← ht, ← sumW_snoc, ← ht, ← mnL_snoc _ _ hpos, ← mxL_snoc _ _ hpos, ← ht]
        refine ⟨⟨by omega, hx⟩, getD_mem hv hx, ⟨sumW_ok _, wofL_ok _⟩, ⟨by omega, hx⟩, ⟨by omega, hx⟩, ⟨by omega, by omega, by omega⟩, by rw [List.length_singleton]; omega, i + 1 + 1, by omega, by omega, (Le.gc [96, 128, 1984] _).trans ((Le.ren 1984 4000 (by decide) (by decide) _).trans (Le.of_eq ?_))⟩
        simp only [go_sem, rnM]
      · have hi' : i + 1 = l.length := by omega
        rw [hi', List.take_length]
        exact ⟨rfl, rfl, rfl, rfl, wkL_refl _⟩
end Go.Proofs
