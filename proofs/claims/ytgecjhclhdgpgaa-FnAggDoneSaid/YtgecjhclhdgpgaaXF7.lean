import Derived.Test.YtgecjhclhdgpgaaXF6
set_option linter.unusedVariables false
set_option linter.unusedSimpArgs false
namespace Go.Proofs
open Go Go.Ax
set_option maxRecDepth 10000
def descL (l : List Int) : List Int := (l.mergeSort fun x y => decide (x ≤ y)).reverse
def topL (l : List Int) : List Int := (descL l).take 4
theorem Le.swap2 {vs tm : List (Nat × AV)} {i j : Nat} {x y : Ob} (h : i ≠ j) : Le ⟨vs, tm, [(i, x), (j, y)]⟩ ⟨vs, tm, [(j, y), (i, x)]⟩ := by
  refine Le.wk (fun k => .inl (wk_refl _)) (fun k => ?_)
  simp only [lookL]
  by_cases h1 : i = k
  · subst h1
    simp only [beq_self_eq_true, if_true, beq_iff_eq, Ne.symm h, if_false, wkO_self]
  · by_cases h2 : j = k
    · subst h2
      simp only [beq_self_eq_true, if_true, beq_iff_eq, h, if_false, wkO_self]
    · simp only [beq_iff_eq, h1, h2, if_false, wkO]
/-- out: the greatest so far, all: the others. -/
structure TI (l out all : List Int) : Prop where
  perm : (out ++ all).Perm l
  desc : out.Pairwise fun x y => y ≤ x
  cross : ∀ x ∈ out, ∀ y ∈ all, y ≤ x
  four : out.length ≤ 4
theorem TI.zero (l : List Int) : TI l [] l := ⟨List.Perm.refl _, .nil, fun _ h => by simp at h, by simp⟩
theorem descL_desc (l : List Int) : (descL l).Pairwise fun x y => y ≤ x := by
  unfold descL
  rw [List.pairwise_reverse]
  refine (List.pairwise_mergeSort (le := fun x y : Int => decide (x ≤ y)) (by simp; omega) (by simp; omega) l).imp (by simp)
theorem descL_perm (l : List Int) : (descL l).Perm l := (List.reverse_perm _).trans (List.mergeSort_perm _ _)
theorem desc_eq {l m : List Int} (h : l.Perm m) (h1 : l.Pairwise fun x y => y ≤ x) (h2 : m.Pairwise fun x y => y ≤ x) : l = m :=
  h.eq_of_pairwise (le := fun x y => y ≤ x) (fun _ _ _ _ h h' => Int.le_antisymm h' h) h1 h2
theorem TI.top {l out all : List Int} (h : TI l out all) (he : out.length = 4 ∨ all = []) : topL l = out := by
  have : descL l = out ++ descL all := by
    refine desc_eq (((descL_perm l).trans h.perm.symm).trans (List.Perm.append_left _ (descL_perm all).symm)) (descL_desc l) ?_
    rw [List.pairwise_append]
    exact ⟨h.desc, descL_desc all, fun x hx y hy => h.cross x hx y ((descL_perm all).mem_iff.1 hy)⟩
  unfold topL
  rw [this]
  rcases he with he | rfl
  · rw [← he, List.take_left]
  · have := h.four
    simp [descL, List.take_of_length_le this]
theorem TI.step {l out all : List Int} (h : TI l out all) (ho : out.length < 4) {i : Nat} (hi : i < all.length) (hm : ∀ j, j < all.length → all.getD j default ≤ all.getD i default) : TI l (out ++ [all.getD i default]) (all.take i ++ all.drop (i + 1)) := by
  have hx : all.getD i default = all[i] := by simp [List.getD_eq_getElem?_getD, hi]
  have hall : all = all.take i ++ all[i] :: all.drop (i + 1) := by rw [← List.drop_eq_getElem_cons hi, List.take_append_drop]
  have hmem : ∀ y ∈ all, y ≤ all[i] := fun y hy => by
    obtain ⟨j, hj, rfl⟩ := List.getElem_of_mem hy
    have := hm j hj
    simpa [List.getD_eq_getElem?_getD, hi, hj] using this
  have hsub : ∀ y ∈ all.take i ++ all.drop (i + 1), y ∈ all := fun y hy => by
    rcases List.mem_append.1 hy with h | h
    · exact List.mem_of_mem_take h
    · exact List.mem_of_mem_drop h
  rw [hx]
  refine ⟨?_, ?_, ?_, by simp; omega⟩
  · refine List.Perm.trans ?_ h.perm
    rw [List.append_assoc]
    refine List.Perm.append_left _ ?_
    conv => rhs; rw [hall]
    exact (List.perm_middle (a := all[i]) (l₁ := all.take i) (l₂ := all.drop (i + 1))).symm
  · rw [List.pairwise_append]
    exact ⟨h.desc, by simp, fun x hx y hy => by simp only [List.mem_singleton] at hy; subst hy; exact h.cross x hx _ (List.getElem_mem hi)⟩
  · intro x hx y hy
    rcases List.mem_append.1 hx with h' | h'
    · exact h.cross x h' y (hsub y hy)
    · simp only [List.mem_singleton] at h'; subst h'; exact hmem y (hsub y hy)
theorem at33 : FnAt Try.prog tab 33 Try.f33 (Try.f33.body.getD .skip) := ⟨Try.func33, rfl, Try.call33, by kernel_rfl, by decide, by kernel_rfl, mix⟩
theorem s_sTop : SoundC Try.prog 33 (rowT (fun q : List Int × List Int => q.1.length + q.2.length ≤ 2 ^ 40) fun q => topL (q.1 ++ q.2)) := by
  refine sound_row (Γ := []) tab_ok .nil at33 [4, 5, 6, 7, 8] _ _ (fun _ => Nat.le_of_ble_eq_true rfl) ?_
  rintro ⟨a, b⟩ hab hb
  conv => arg 2; arg 1; arg 1; cbv
  conv => arg 4; arg 1; cbv
  simp only [go_sem] at hab hb ⊢
  refine ⟨⟨by simp only [maxLen]; omega, by omega⟩, ⟨by simp only [maxLen]; omega, by omega⟩, ?_⟩
  refine r_loop (fun q : List Int × List Int => ⟨[(0, .sl 1 (encL Enc.e a)), (1, .sl 1 (encL Enc.e b)), (4, .lit (.slice none 0 0)), (5, .row 192 1 0 q.2.length), (6, .row 224 1 0 q.1.length), (7, .any), (8, .any)], [], [(192, ⟨1, encL Enc.e q.2, true, false⟩), (224, ⟨1, encL Enc.e q.1, true, false⟩)]⟩)
    (fun q => TI (a ++ b) q.1 q.2) (fun q => q.2.length) ([], a ++ b) ?_ ?_ ?_
  · refine (Le.gc [192, 224] _).trans (Le.of_eq ?_)
    simp only [go_sem]
    simp [AS.clr, encL]
  · exact TI.zero _
  · rintro ⟨out, all⟩ h
    simp only at h
    have hlen : out.length + all.length ≤ 2 ^ 40 := by have := h.perm.length_eq; simp at this; omega
    simp only [go_sem]
    have hfin : out.length = 4 ∨ all = [] → out.length = (topL (a ++ b)).length ∧ wkL (encL Enc.e out) (encL Enc.e (topL (a ++ b))) := fun he => by
      rw [h.top he]; exact ⟨rfl, wkL_refl _⟩
    have h4 := h.four
    refine onB_dec (fun h1 => onB_dec (fun h2 => ?_) (fun h2 => hfin (.inr (List.length_eq_zero_iff.1 (by omega))))) (fun h1 => hfin (.inl (by omega)))
    refine r_loop (fun q : Nat × Nat => ⟨[(0, .sl 1 (encL Enc.e a)), (1, .sl 1 (encL Enc.e b)), (4, .lit (.slice none 0 0)), (5, .row 192 1 0 all.length), (6, .row 224 1 0 out.length), (7, .lit (.int .i64 q.1)), (8, .lit (.int .i64 q.2))], [], [(192, ⟨1, encL Enc.e all, true, false⟩), (224, ⟨1, encL Enc.e out, true, false⟩)]⟩)
      (fun q => q.1 < all.length ∧ q.2 ≤ all.length ∧ ∀ j, j < q.2 → all.getD j default ≤ all.getD q.1 default) (fun q => all.length - q.2) (0, 0) ?_ ?_ ?_
    · exact Le.of_eq (by simp [AS.clr])
    · exact ⟨by simp only; omega, by simp only; omega, fun j hj => by simp only at hj; omega⟩
    · rintro ⟨p, i⟩ ⟨g1, g2, g3⟩
      simp only at g1 g2 g3
      simp only [go_sem]
      refine onB_dec (fun e1 => ⟨⟨by omega, by omega⟩, by omega, ⟨by omega, by omega⟩, by omega, onB_dec (fun e2 => ⟨(i, i + 1), by simp only; omega, ⟨by simp only; omega, by simp only; omega, fun j hj => ?_⟩, Le.of_eq ?_⟩) (fun e2 => ⟨(p, i + 1), by simp only; omega, ⟨by simp only; omega, by simp only; omega, fun j hj => ?_⟩, Le.of_eq ?_⟩)⟩) (fun e1 => ?_)
      · simp only at hj ⊢
        by_cases c : j = i
        · subst c; omega
        · have := g3 j (by omega); omega
      · rw [wrap_in (by omega) (by omega)]; simp
      · simp only at hj ⊢
        by_cases c : j = i
        · subst c; omega
        · exact g3 j (by omega)
      · rw [wrap_in (by omega) (by omega)]; simp
      · have hi : i = all.length := by omega
        subst hi
        have e3 : (IntKind.i64.wrap ((p : Int) + 1)).toNat = p + 1 := by rw [wrap_in (by omega) (by omega)]; omega
        have e4 : IntKind.i64.wrap ((p : Int) + 1) = p + 1 := wrap_in (by omega) (by omega)
        have e5 : (0 : Int).toNat = 0 := rfl
        rw [e3, e4, e5]
        simp only [Nat.sub_zero, List.drop_zero, Nat.zero_add]
        have e6 : (all.drop (p + 1)).take (all.length - (p + 1)) = all.drop (p + 1) := List.take_of_length_le (by simp)
        rw [e6]
        simp only [List.length_take, List.length_drop]
        refine ⟨⟨by omega, by omega⟩, by omega, ⟨by simp only [maxLen]; omega, by omega⟩, ⟨by omega, by omega, by omega⟩, ⟨by omega, by simp only [maxLen]; omega, by omega⟩, ⟨by omega, by omega, by omega⟩, ⟨by omega, by simp only [maxLen]; omega, by omega⟩, (out ++ [all.getD p default], all.take p ++ all.drop (p + 1)), ?_, h.step (by omega) g1 g3, ?_⟩
        · simp only [List.length_append, List.length_take, List.length_drop]; omega
        · refine (Le.gc [192, 224] _).trans ?_
          simp only [go_sem]
          refine (Le.swap2 (by decide)).trans (Le.list ?_ ?_)
          · simp only [List.length_append, List.length_take, List.length_drop, List.length_singleton, wkVs, wk_refl, or_true, and_true, true_or]
          · have e7 : encL Enc.e out ++ [AV.lit (Value.int IntKind.i64 (all.getD p default))] = encL Enc.e (out ++ [all.getD p default]) := by simp [encL, Enc.e]
            rw [e7]
            simp only [wkMs, wkO_self, and_true]
end Go.Proofs
