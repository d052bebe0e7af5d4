import Derived.Test.YtgecjhclhdgpgaaXF10
set_option linter.unusedVariables false
set_option linter.unusedSimpArgs false
namespace Go.Proofs
open Go Go.Ax
set_option maxRecDepth 10000
theorem code_half {l : List U8} (h : Code l) : Code (l.drop (l.length / 2)) :=
  ⟨fun b hb => h.1 b (List.mem_of_mem_drop hb), by rw [List.length_drop]; have := h.2; omega⟩
def Bytes (l : List U8) : Prop := ∀ b ∈ l, 0 ≤ b.n ∧ b.n < 256
theorem agg_eta (a : Agg) : (⟨a.n, a.sum, a.min, a.max, a.top⟩ : Agg) = a := (rfl)
theorem at3 : FnAt Try.prog tab 3 Try.f3 (Try.f3.body.getD .skip) := ⟨Try.func3, rfl, Try.call3, by kernel_rfl, by decide, by kernel_rfl, mix⟩
theorem s_fnAggJoin : SoundC Try.prog 3 (flatT Bytes fun _ => true) := by
  refine sound_flat (Γ := [(7, _), (8, _), (9, _), (10, _), (11, _), (12, _), (13, _), (14, _)]) tab_ok (.cons s_big (.cons s_numbers (.cons s_rest (.cons s_iAggOf (.cons s_aggJoin (.cons s_sameAgg (.cons s_sAggOf (.cons s_iAggOk .nil)))))))) at3 [1, 2, 3, 4, 5, 6, 7, 8, 9, 10, 11, 23, 29] _ _ (fun _ => Nat.le_of_ble_eq_true rfl) (fun _ => rfl) ?_
  rintro code hcb hb
  conv => arg 2; arg 1; arg 1; cbv
  conv => arg 4; arg 1; cbv
  simp only [go_sem]
  refine onB_dec (fun _ => trivial) (fun hbig => ?_)
  have hc : Code code := ⟨hcb, by omega⟩
  have hc2 := code_half hc
  have pa := p_aggOf hc
  have pb := p_aggOf hc2
  refine ⟨hc, hc, hc2, ?_⟩
  generalize f_aggOf code = a at *
  generalize f_aggOf (code.drop (code.length / 2)) = b at *
  have e1 : aggOfL1 a = aggOfL a := by unfold aggOfL1; rw [if_neg (by omega)]
  have e2 : aggOfL1 b = aggOfL b := by unfold aggOfL1; rw [if_neg (by omega)]
  have e : a.length + b.length = (a ++ b).length := List.length_append.symm
  rw [e]
  simp only [Nat.le_refl, if_true, List.take_length, go_sem]
  have hab : Vals (a ++ b) := fun x hx => (List.mem_append.1 hx).elim (pa.2 x) (pb.2 x)
  have hlen : (a ++ b).length ≤ 18 := by rw [List.length_append]; omega
  have e3 : aggOfL1 (a ++ b) = aggOfL (a ++ b) := by unfold aggOfL1; rw [if_neg (by omega)]
  have e4 : aggOfL (b ++ a) = aggOfL (a ++ b) := (agg_perm List.perm_append_comm hab).symm
  have na := (agg_facts pa.2 (by omega) rfl).1
  have nb := (agg_facts pb.2 (by omega) rfl).1
  simp only [e1, e2, e3, wide_eta, agg_eta, join_agg pa.2 pb.2, join_agg pb.2 pa.2, e4, decide_true, Bool.and_self, onB_true]
  have ia : IsAggs (aggOfL a, aggOfL b) := ⟨a, b, pa.2, pb.2, by omega, by omega, rfl⟩
  have ib : IsAggs (aggOfL b, aggOfL a) := ⟨b, a, pb.2, pa.2, by omega, by omega, rfl⟩
  refine ⟨⟨by omega, pa.2⟩, ⟨by omega, pb.2⟩, ⟨ia, by omega⟩, ⟨ib, by omega⟩, ⟨by simp only [maxLen]; omega, by omega⟩, ⟨by simp only [maxLen]; omega, by omega⟩, ⟨by omega, hab⟩, ?_⟩
  exact ⟨⟨a ++ b, hab, by omega, rfl⟩, ⟨by omega, hab⟩, trivial⟩
end Go.Proofs
