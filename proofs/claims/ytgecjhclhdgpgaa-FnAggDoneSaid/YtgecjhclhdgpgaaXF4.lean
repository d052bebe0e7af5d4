import Derived.Test.YtgecjhclhdgpgaaXF3
set_option linter.unusedVariables false
set_option linter.unusedSimpArgs false
namespace Go.Proofs
open Go Go.Ax
set_option maxRecDepth 10000
theorem at58 : FnAt Try.prog tab 58 Try.f58 (Try.f58.body.getD .skip) := ⟨Try.func58, rfl, Try.call58, by kernel_rfl, by decide, by kernel_rfl, mix⟩
theorem s_cloneI : SoundC Try.prog 58 (rowT (fun l : List Int => l.length ≤ 2 ^ 40) fun l => l) := by
  refine sound_row3 (Γ := []) tab_ok .nil at58 [2] _ _ (by decide) rfl ?_ ?_ ?_
  · rintro l h hl _
    conv => arg 2; arg 1; arg 1; cbv
    conv => arg 4; arg 1; cbv
    simp only [go_sem]
    refine ⟨hl, by simp only [maxLen]; omega, by omega⟩
  · intro cap
    conv => arg 2; arg 1; arg 1; cbv
    conv => arg 4; arg 1; cbv
    simp only [go_sem]
  · intro a cap
    conv => arg 2; arg 1; arg 1; cbv
    conv => arg 4; arg 1; cbv
    simp only [go_sem]
    exact ⟨by simp [maxLen], by simp [wkL, encL]⟩
theorem at123 : FnAt Try.prog tab 123 Try.f123 (Try.f123.body.getD .skip) := ⟨Try.func123, rfl, Try.call123, by kernel_rfl, by decide, by kernel_rfl, mix⟩
/-- slices.Grow, of nil. -/
def growC : Ct := fun nid xs lk => match xs with
  | [.lit (.slice none 0 0), .lit (.int .i64 n)] => some (lk nid = none ∧ 0 ≤ n ∧ n ≤ 2 ^ 40, .row nid (Enc.w Int) 0 ([] : List Int).length, [(nid, ⟨Enc.w Int, encL Enc.e ([] : List Int), true, false⟩)])
  | _ => none
theorem s_grow : SoundC Try.prog 123 growC := by
  refine ⟨?_, fun nid xs μ μ' h => by unfold growC; rw [h nid (by simp [foot])]⟩
  intro nid xs us w S β μ p v up hi hr hp hc hpp
  unfold growC at hc
  split at hc
  · rename_i n
    simp only [Option.some.injEq, Prod.mk.injEq] at hc
    obtain ⟨rfl, rfl, rfl⟩ := hc
    obtain ⟨hfree, h0, h1⟩ := hpp
    have hr0 : reps w S β0 [.lit (.slice none 0 0), .lit (.int .i64 n)] us := reps_closed rfl hr
    have hI : Inv w S β (Upd.app [] μ) := by rw [show ([] : Upd) = noUpd from rfl, noUpd_app]; exact hi
    by_cases hn : 0 < n
    · refine (body_plain (Γ := []) (K := rowPost ([] : List Int)) tab_ok .nil at123 [4] hi.slt hr0 hp (Nat.le_of_ble_eq_true rfl) ?_).mono ?_
      · conv => arg 2; arg 1; arg 1; cbv
        conv => arg 4; arg 1; cbv
        simp only [go_sem]
        refine onB_dec (fun h => by omega) (fun h => ?_)
        have e : IntKind.i64.wrap (n - IntKind.i64.wrap (0 - ((0 : Nat) : Int))) = n := by
          rw [wrap_in (n := 0 - ((0 : Nat) : Int)) (by omega) (by omega), wrap_in (by omega) (by omega)]; omega
        rw [e]
        refine onB_dec (fun h => ?_) (fun h => absurd hn h)
        simp only [go_sem, nilS]
        refine ⟨⟨hn, by omega, by omega⟩, ⟨by omega, by omega, by omega⟩, ⟨rfl, rfl⟩, by simp, ?_⟩
        simp [encL, wkL]
      · rintro u w' ⟨s, S', β', v, hv, g1, g2, g3, g4⟩
        exact row_fin hi hI (Ext.refl _ _ _) hfree hv g1 g2 g3 g4
    · have hn0 : n = 0 := by omega
      subst hn0
      refine (body_plain (Γ := []) (K := fun v _ => v = .lit (.slice none 0 0)) tab_ok .nil at123 [4] hi.slt hr0 hp (Nat.le_of_ble_eq_true rfl) ?_).mono ?_
      · conv => arg 2; arg 1; arg 1; cbv
        conv => arg 4; arg 1; cbv
        simp only [go_sem]
        refine onB_dec (fun h => absurd h (by decide)) (fun h => onB_dec (fun h => absurd h (by decide)) (fun h => trivial))
      · rintro u w' ⟨s, S', β', v, rfl, g1, g2, g3, g4⟩
        exact nil_fin hi hI (Ext.refl _ _ _) hfree g2 g3
  · cases hc
theorem at76 : FnAt Try.prog tab 76 Try.f76 (Try.f76.body.getD .skip) := ⟨Try.func76, rfl, Try.call76, by kernel_rfl, by decide, by kernel_rfl, mix⟩
theorem s_concat : SoundC Try.prog 76 (rowT (fun l : List (List Int) => l.flatten.length ≤ 2 ^ 40) fun l => l.flatten) := by
  refine sound_row (Γ := [(123, _)]) tab_ok (.cons s_grow .nil) at76 [2, 3, 5, 6, 8, 9, 10, 11, 25, 26, 27] _ _ (fun _ => Nat.le_of_ble_eq_true rfl) ?_
  rintro l h hb
  conv => arg 2; arg 1; arg 1; cbv
  conv => arg 4; arg 1; cbv
  simp only [go_sem, bndL, AV.bnd, maxLen, growC] at hb ⊢
  have hlen : ∀ i, (l.take i).flatten.length ≤ l.flatten.length := fun i => by
    conv => rhs; rw [← List.take_append_drop i l, List.flatten_append, List.length_append]
    omega
  have hstep : ∀ i (h : i < l.length), (l.take (i + 1)).flatten = (l.take i).flatten ++ l[i] := fun i h => by
    rw [List.take_succ_eq_append_getElem h, List.flatten_append]; simp
  refine r_loop (fun i : Nat => ⟨[(0, .sl 1 (encL Enc.e l)), (2, .lit (.slice none 0 0)), (3, .lit (.int .i64 (l.take i).flatten.length)), (5, .any), (6, .any), (8, .any), (9, .sl 1 (encL Enc.e l)), (10, .lit (.int .i64 l.length)), (11, .lit (.int .i64 i)), (25, .any), (26, .any), (27, .any)], [], []⟩)
    (fun i => i ≤ l.length) (fun i => l.length - i) 0 ?_ ?_ ?_
  · exact Le.of_eq (by simp [AS.clr])
  · exact Nat.zero_le _
  · rintro i h1
    simp only [go_sem]
    refine onB_dec (fun h2 => ⟨⟨by omega, by omega⟩, ?_⟩) (fun h2 => ?_)
    · have hx : i < l.length := by omega
      have hg : l.getD i default = l[i] := by simp [List.getD_eq_getElem?_getD, hx]
      have e : ((l.take i).flatten.length : Int) + (l.getD i default).length = (l.take (i + 1)).flatten.length := by rw [hstep i hx, hg]; simp
      have hle := hlen (i + 1)
      rw [e, wrap_in (by omega) (by omega), wrap_in (by omega) (by omega)]
      refine onB_dec (fun h => by omega) (fun _ => ⟨i + 1, by omega, by omega, Le.list ?_ ?_⟩)
      · simp only [wkVs, wk_refl, Int.natCast_add, Int.natCast_one, or_true, and_true, true_or]
      · simp [wkMs]
    · have hi : i = l.length := by omega
      subst hi
      rw [List.take_length]
      simp only [go_sem, growC]
      refine ⟨⟨by omega, by omega⟩, ?_⟩
      refine r_loop (fun i : Nat => ⟨[(0, .sl 1 (encL Enc.e l)), (2, .lit (.slice none 0 0)), (3, .lit (.int .i64 l.flatten.length)), (5, .any), (6, .row 224 1 0 (l.take i).flatten.length), (8, .any), (9, .sl 1 (encL Enc.e l)), (10, .lit (.int .i64 l.length)), (11, .lit (.int .i64 l.length)), (25, .sl 1 (encL Enc.e l)), (26, .lit (.int .i64 l.length)), (27, .lit (.int .i64 i))], [], [(224, ⟨1, encL Enc.e (l.take i).flatten, true, false⟩)]⟩)
        (fun i => i ≤ l.length) (fun i => l.length - i) 0 ?_ ?_ ?_
      · exact Le.of_eq (by simp [AS.clr])
      · exact Nat.zero_le _
      · rintro i h1
        simp only [go_sem]
        refine onB_dec (fun h2 => ⟨⟨by omega, by omega⟩, ?_⟩) (fun h2 => ?_)
        · have hx : i < l.length := by omega
          have hg : l.getD i default = l[i] := by simp [List.getD_eq_getElem?_getD, hx]
          have e : (l.take i).flatten.length + (l.getD i default).length = (l.take (i + 1)).flatten.length := by rw [hstep i hx, hg]; simp
          have e2 : (l.take i).flatten ++ l.getD i default = (l.take (i + 1)).flatten := by rw [hstep i hx, hg]
          have hle := hlen (i + 1)
          rw [e, e2, wrap_in (by omega) (by omega)]
          refine ⟨⟨by simp only [maxLen]; omega, by omega⟩, i + 1, by omega, by omega, Le.list ?_ ?_⟩
          · simp only [wkVs, wk_refl, Int.natCast_add, Int.natCast_one, or_true, and_true, true_or]
          · simp only [wkMs, wkO_self, and_true]
        · have hi : i = l.length := by omega
          subst hi
          rw [List.take_length]
          exact ⟨rfl, wkL_refl _⟩
theorem at67 : FnAt Try.prog tab 67 Try.f67 (Try.f67.body.getD .skip) := ⟨Try.func67, rfl, Try.call67, by kernel_rfl, by decide, by kernel_rfl, mix⟩
theorem mnL_snoc (l : List Int) (x : Int) (h : 0 < l.length) : mnL (l ++ [x]) = if x < mnL l then x else mnL l := by
  cases l with
  | nil => simp at h
  | cons y l => simp only [mnL, List.cons_append, List.foldl_append, List.foldl_cons, List.foldl_nil]; rfl
theorem s_min : SoundC Try.prog 67 (flatT (fun l : List Int => 0 < l.length) mnL) := by
  refine sound_flat (Γ := []) tab_ok .nil at67 [2, 3, 4] _ _ (fun _ => Nat.le_of_ble_eq_true rfl) (fun _ => rfl) ?_
  rintro l hl hb
  conv => arg 2; arg 1; arg 1; cbv
  conv => arg 4; arg 1; cbv
  simp only [go_sem, bndL, AV.bnd, maxLen] at hb ⊢
  refine onB_dec (fun h => by omega) (fun h => ⟨⟨by omega, by simpa using hl⟩, ?_⟩)
  refine r_loop (fun i : Nat => ⟨[(0, .sl 1 (encL Enc.e l)), (2, .lit (.int .i64 0)), (3, .lit (.int .i64 (mnL (l.take i)))), (4, .lit (.int .i64 i))], [], []⟩)
    (fun i => 1 ≤ i ∧ i ≤ l.length) (fun i => l.length - i) 1 ?_ ?_ ?_
  · refine Le.of_eq ?_
    cases l with
    | nil => simp at hl
    | cons y l => simp [mnL, AS.clr]
  · exact ⟨Nat.le_refl _, hl⟩
  · rintro i ⟨h1, h2⟩
    simp only [go_sem]
    refine onB_dec (fun h3 => ⟨⟨by omega, by omega⟩, i + 1, by omega, ⟨by omega, by omega⟩, Le.of_eq ?_⟩) (fun h3 => ?_)
    · have hx : i < l.length := by omega
      rw [wrap_in (by omega) (by omega), List.take_succ_eq_append_getElem hx, mnL_snoc _ _ (by simp; omega)]
      simp [List.getD_eq_getElem?_getD, hx]
    · rw [List.take_of_length_le (by omega)]
theorem at68 : FnAt Try.prog tab 68 Try.f68 (Try.f68.body.getD .skip) := ⟨Try.func68, rfl, Try.call68, by kernel_rfl, by decide, by kernel_rfl, mix⟩
theorem mxL_snoc (l : List Int) (x : Int) (h : 0 < l.length) : mxL (l ++ [x]) = if x > mxL l then x else mxL l := by
  cases l with
  | nil => simp at h
  | cons y l => simp only [mxL, List.cons_append, List.foldl_append, List.foldl_cons, List.foldl_nil]; rfl
theorem s_max : SoundC Try.prog 68 (flatT (fun l : List Int => 0 < l.length) mxL) := by
  refine sound_flat (Γ := []) tab_ok .nil at68 [2, 3, 4] _ _ (fun _ => Nat.le_of_ble_eq_true rfl) (fun _ => rfl) ?_
  rintro l hl hb
  conv => arg 2; arg 1; arg 1; cbv
  conv => arg 4; arg 1; cbv
  simp only [go_sem, bndL, AV.bnd, maxLen] at hb ⊢
  refine onB_dec (fun h => by omega) (fun h => ⟨⟨by omega, by simpa using hl⟩, ?_⟩)
  refine r_loop (fun i : Nat => ⟨[(0, .sl 1 (encL Enc.e l)), (2, .lit (.int .i64 0)), (3, .lit (.int .i64 (mxL (l.take i)))), (4, .lit (.int .i64 i))], [], []⟩)
    (fun i => 1 ≤ i ∧ i ≤ l.length) (fun i => l.length - i) 1 ?_ ?_ ?_
  · refine Le.of_eq ?_
    cases l with
    | nil => simp at hl
    | cons y l => simp [mxL, AS.clr]
  · exact ⟨Nat.le_refl _, hl⟩
  · rintro i ⟨h1, h2⟩
    simp only [go_sem]
    refine onB_dec (fun h3 => ⟨⟨by omega, by omega⟩, i + 1, by omega, ⟨by omega, by omega⟩, Le.of_eq ?_⟩) (fun h3 => ?_)
    · have hx : i < l.length := by omega
      rw [wrap_in (by omega) (by omega), List.take_succ_eq_append_getElem hx, mxL_snoc _ _ (by simp; omega)]
      simp [List.getD_eq_getElem?_getD, hx]
    · rw [List.take_of_length_le (by omega)]
end Go.Proofs
