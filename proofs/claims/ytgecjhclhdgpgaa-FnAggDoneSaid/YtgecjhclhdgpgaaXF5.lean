import Derived.Test.YtgecjhclhdgpgaaXF4
set_option linter.unusedVariables false
set_option linter.unusedSimpArgs false
namespace Go.Proofs
open Go Go.Ax
set_option maxRecDepth 10000
theorem at117 : FnAt Try.prog tab 117 Try.f117 (Try.f117.body.getD .skip) := ⟨Try.func117, rfl, Try.call117, by kernel_rfl, by decide, by kernel_rfl, mix⟩
/-- Half way: the first i and the last i have changed places. -/
def RevAt (l m : List Int) (i : Nat) : Prop := m.length = l.length ∧ ∀ j, j < l.length → m.getD j default = if j < i ∨ l.length ≤ j + i then l.getD (l.length - 1 - j) default else l.getD j default
theorem getD_set (l : List Int) (i j : Nat) (x : Int) : (l.set i x).getD j default = if i = j ∧ j < l.length then x else l.getD j default := by
  simp only [List.getD_eq_getElem?_getD, List.getElem?_set]
  by_cases h : i = j
  · subst h
    by_cases h2 : i < l.length
    · simp [h2]
    · simp [h2]
  · simp [h]
theorem RevAt.step {l m : List Int} {i : Nat} (h : RevAt l m i) (hi : 2 * i + 1 < l.length) : RevAt l ((m.set i (m.getD (l.length - 1 - i) default)).set (l.length - 1 - i) (m.getD i default)) (i + 1) := by
  obtain ⟨h1, h2⟩ := h
  refine ⟨by simpa using h1, fun j hj => ?_⟩
  rw [getD_set, getD_set, h2 i (by omega), h2 (l.length - 1 - i) (by omega), h2 j hj]
  simp only [List.length_set, h1]
  repeat' split
  all_goals first | omega | (congr 1; omega)
theorem RevAt.fin {l m : List Int} {i : Nat} (h : RevAt l m i) (hi : l.length ≤ 2 * i + 1) : m = l.reverse := by
  obtain ⟨h1, h2⟩ := h
  refine List.ext_getElem (by simpa using h1) fun j hj hj' => ?_
  have hl : j < l.length := by simpa using hj'
  have := h2 j hl
  rw [List.getD_eq_getElem?_getD, List.getElem?_eq_getElem hj, Option.getD_some] at this
  rw [this, List.getElem_reverse, List.getD_eq_getElem?_getD, List.getD_eq_getElem?_getD, List.getElem?_eq_getElem (by omega), List.getElem?_eq_getElem hl, Option.getD_some, Option.getD_some]
  split
  · rfl
  · have : l.length - 1 - j = j := by omega
    simp only [this]
theorem RevAt.zero (l : List Int) : RevAt l l 0 := ⟨rfl, fun j hj => by rw [if_neg (by omega)]⟩
theorem elI (m : List Int) (i : Nat) (h : i < m.length) : (encL Enc.e m).getD i AV.any = .lit (.int .i64 (m.getD i default)) := by
  rw [encL_getD _ _ _ h]; rfl
theorem setI (m : List Int) (i : Nat) (x : Int) : (encL Enc.e m).set i (.lit (.int .i64 x)) = encL Enc.e (m.set i x) := by
  rw [← encL_set]; rfl
theorem s_rev : SoundC Try.prog 117 (rmT (ρ := Unit) (fun (_ : List Int) (_ : Unit) => True) fun l _ => ((), l.reverse)) := by
  refine sound_rm (ε := Int) (α := Unit) (ρ := Unit) (Γ := []) tab_ok .nil at117 [2, 3] _ _ (fun _ => Nat.le_of_ble_eq_true rfl) (fun l _ _ _ _ => by simp) ?_
  rintro l _ - hl hb
  conv => arg 2; arg 1; arg 1; cbv
  conv => arg 4; arg 1; cbv
  simp only [go_sem, maxLen] at hl ⊢
  refine r_loop (fun q : List Int × Nat => ⟨[(0, .row 1 1 0 l.length), (2, .lit (.int .i64 q.2)), (3, .lit (.int .i64 (l.length - 1 - q.2)))], [], [(1, ⟨1, encL Enc.e q.1, true, false⟩)]⟩)
    (fun q => RevAt l q.1 q.2 ∧ 2 * q.2 ≤ l.length) (fun q => l.length - q.2) (l, 0) ?_ ?_ ?_
  · refine Le.of_eq ?_
    rw [wrap_in (by omega) (by omega)]
    simp [AS.clr]
  · exact ⟨RevAt.zero l, by simp⟩
  · rintro ⟨m, i⟩ ⟨h1, h2⟩
    simp only at h1 h2
    simp only [go_sem]
    refine onB_dec (fun h3 => ?_) (fun h3 => ?_)
    · have hm : m.length = l.length := h1.1
      have e : ((l.length : Int) - 1 - i).toNat = l.length - 1 - i := by omega
      rw [e, elI m i (by omega)]
      simp only [setI]
      rw [elI _ _ (by rw [List.length_set]; omega)]
      simp only [setI, encL_length, List.length_set]
      rw [wrap_in (by omega) (by omega), wrap_in (by omega) (by omega)]
      refine ⟨⟨by omega, by omega⟩, by omega, ⟨by omega, by omega⟩, by omega, ⟨by omega, by omega⟩, ⟨by omega, by simp⟩, ⟨by omega, by omega⟩, ⟨by omega, by simp⟩, (_, i + 1), by simp only; omega, ⟨h1.step (by omega), by simp only; omega⟩, Le.of_eq ?_⟩
      have e2 : (l.length : Int) - 1 - i - 1 = l.length - 1 - ((i + 1 : Nat) : Int) := by omega
      rw [e2]
      simp
    · rw [h1.fin (by omega)]
      exact wkL_refl _
end Go.Proofs
