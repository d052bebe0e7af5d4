import Derived.Test.YtgecjhclhdgpgaaXF16
set_option linter.unusedVariables false
set_option linter.unusedSimpArgs false
namespace Go.Proofs
open Go Go.Ax
set_option maxRecDepth 10000
theorem at6 : FnAt Try.prog tab 6 Try.f6 (Try.f6.body.getD .skip) := ⟨Try.func6, rfl, Try.call6, by kernel_rfl, by decide, by kernel_rfl, mix⟩
theorem s_fnAggDone : SoundC Try.prog 6 (flatT Bytes fun _ => true) := by
  refine sound_flat (Γ := [(7, _), (8, _), (10, _), (25, _), (13, _), (26, _), (23, _)]) tab_ok (.cons s_big (.cons s_numbers (.cons s_iAggOf (.cons s_aggDone (.cons s_sAggOf (.cons s_sAggDone (.cons s_same .nil))))))) at6 [2, 3, 4, 5, 6, 7, 8, 9, 10, 11, 12, 13, 14, 15, 16, 17, 18, 19, 28, 33, 38, 43, 48, 53, 58] _ _ (fun _ => Nat.le_of_ble_eq_true rfl) (fun _ => rfl) ?_
  rintro code hcb hb
  conv => arg 2; arg 1; arg 1; cbv
  conv => arg 4; arg 1; cbv
  simp only [go_sem]
  refine onB_dec (fun _ => trivial) (fun hbig => ?_)
  have hc : Code code := ⟨hcb, by omega⟩
  have pa := p_aggOf hc
  have e1 : encL Enc.e (f_aggOf code) ++ [AV.lit (Value.int IntKind.i64 1)] = encL Enc.e (f_aggOf code ++ [1]) := by simp [encL, Enc.e]
  have e2 : (f_aggOf code).length + 1 = (encL Enc.e (f_aggOf code ++ [1])).length := by rw [encL_length]; simp
  rw [e1]
  refine ⟨hc, ⟨by simp only [maxLen]; omega, by omega⟩, ?_⟩
  rw [e2]
  simp only [Nat.le_refl, if_true, List.take_length]
  have hl : (f_aggOf code ++ [1]).length = (f_aggOf code).length + 1 := by simp
  have hv : Vals (f_aggOf code ++ [1]) := fun x hx => (List.mem_append.1 hx).elim (pa.2 x) (fun h => by simp at h; subst h; omega)
  generalize f_aggOf code ++ [1] = l at *
  have h0 : 0 < l.length := by omega
  simp only [go_sem]
  have ea : aggOfL1 l = ⟨l.length, sumW l, mnL l, mxL l, topL l⟩ := by unfold aggOfL1; rw [if_neg (by omega), aggOfL_some (by omega)]
  have ok : ∀ kind k : Int, kindL (kind, k) = true → DoneOk (kind, k, ⟨l.length, sumW l, mnL l, mxL l, topL l⟩) := fun kind k h => ⟨h, l, hv, h0, by omega, (aggOfL_some (by omega)).symm⟩
  have hS := wval_sum hv (by omega : l.length ≤ 1000000)
  have d1 : doneL (1, 0, ⟨l.length, sumW l, mnL l, mxL l, topL l⟩) = ([(l.length : Int)], false) := rfl
  have d3 : doneL (3, 0, ⟨l.length, sumW l, mnL l, mxL l, topL l⟩) = ([mnL l], false) := rfl
  have d4 : doneL (4, 0, ⟨l.length, sumW l, mnL l, mxL l, topL l⟩) = ([mxL l], false) := rfl
  have d5 : doneL (5, 0, ⟨l.length, sumW l, mnL l, mxL l, topL l⟩) = ([sumI l / l.length], false) := by rw [← hS]; rfl
  have d6 : doneL (6, 2, ⟨l.length, sumW l, mnL l, mxL l, topL l⟩) = ((topL l).take 2, false) := rfl
  have d2 : doneL (2, 0, ⟨l.length, sumW l, mnL l, mxL l, topL l⟩) = (if (wintL (sumW l)).2 then ([(wintL (sumW l)).1], false) else ([], true)) := rfl
  have htl : ((topL l).take 2).length = min 2 l.length := by rw [List.length_take, topL_length]; omega
  have hm2 : (if (l.length : Int) < 2 then (l.length : Int) else 2) = ((min 2 l.length : Nat) : Int) := by split <;> omega
  generalize hw : doneL (2, 0, ⟨l.length, sumW l, mnL l, mxL l, topL l⟩) = w2 at *
  simp only [ea, wide_eta, d1, d3, d4, d5, d6, hw, htl, hm2, bne_self_eq_false, List.length_singleton, decide_true, Bool.not_true, onB_false, Int.natCast_one]
  have hv' := hv
  refine ⟨⟨by omega, hv⟩, ok _ _ rfl, ok _ _ rfl, ok _ _ rfl, ok _ _ rfl, ok _ _ rfl, ok _ _ rfl, ⟨by omega, hv⟩, ok _ _ rfl, ?_⟩
  refine r_loop (fun i : Nat => ⟨[(0, .sl 1 (encL Enc.e code)), (2, .lit (.bool false)), (3, .row 128 1 0 l.length), (4, .ptr 160 0 0), (5, .sl 1 (encL Enc.e [(l.length : Int)])), (6, .lit (.bool false)), (7, .sl 1 (encL Enc.e [mnL l])), (8, .lit (.bool false)), (9, .sl 1 (encL Enc.e [mxL l])), (10, .lit (.bool false)), (11, .sl 1 (encL Enc.e ((topL l).take 2))), (12, .lit (.bool false)), (13, .sl 1 (encL Enc.e [sumI l / l.length])), (14, .lit (.bool false)), (15, .sl 1 (encL Enc.e w2.1)), (16, .lit (.bool w2.2)), (17, .sl 1 (encL Enc.e w2.1)), (18, .lit (.bool w2.2)), (19, .lit (.int .i64 i)), (28, .tup [.sl 1 (encL Enc.e [(l.length : Int)]), .lit (.bool false)]), (33, .tup [.sl 1 (encL Enc.e [mnL l]), .lit (.bool false)]), (38, .tup [.sl 1 (encL Enc.e [mxL l]), .lit (.bool false)]), (43, .tup [.sl 1 (encL Enc.e ((topL l).take 2)), .lit (.bool false)]), (48, .tup [.sl 1 (encL Enc.e [sumI l / l.length]), .lit (.bool false)]), (53, .tup [.sl 1 (encL Enc.e w2.1), .lit (.bool w2.2)]), (58, .tup [.sl 1 (encL Enc.e w2.1), .lit (.bool w2.2)])], [],
      [(768, ⟨1, [], true, true⟩), (800, ⟨1, [.lit (.int .i64 1)], true, false⟩), (128, ⟨1, encL Enc.e l, false, true⟩), (160, ⟨6, [.agg [.lit (.int .i64 l.length), .lit (.int .i64 (sumW l).hi), .lit (.int .u64 (sumW l).lo.n), .lit (.int .i64 (mnL l)), .lit (.int .i64 (mxL l)), .sl 1 (encL Enc.e (topL l))]], false, false⟩)]⟩)
    (fun i => i ≤ l.length) (fun i => l.length - i) 0 ?_ ?_ ?_
  · exact Le.of_eq rfl
  · exact Nat.zero_le _
  · rintro i hi
    simp only [go_sem]
    have e0 : (0 : Int).toNat = 0 := rfl
    have g1 : ∀ x : Int, [x].getD 0 default = x := fun _ => rfl
    have g2 : ((topL l).take 2).getD 0 default = mxL l := by
      have := top_first h0
      rw [← this, List.getD_eq_getElem?_getD, List.getD_eq_getElem?_getD, List.getElem?_take]
      rfl
    simp only [e0, g1, g2]
    have hmn := mnL_le l h0
    have hmx := mxL_le l h0
    have hbd := sumI_bd (lo := mnL l) (hi := mxL l) l (fun x hx => ⟨hmn.2 x hx, hmx.2 x hx⟩)
    refine onB_dec (fun h1 => ?_) (fun h1 => ?_)
    · have hx : i < l.length := by omega
      have hm := getD_mem (P := fun x => mnL l ≤ x ∧ x ≤ mxL l) (fun x hx => ⟨hmn.2 x hx, hmx.2 x hx⟩) hx
      refine ⟨⟨by omega, by omega⟩, hx, ⟨by omega, by omega⟩, onB_dec (fun h => absurd h (by omega)) (fun _ => ⟨⟨by omega, by omega⟩, hx, ⟨by omega, by omega⟩, onB_dec (fun h => absurd h (by omega)) (fun _ => ⟨i + 1, by omega, by omega, Le.of_eq ?_⟩)⟩)⟩
      rw [wrap_in (by omega) (by omega)]
      rfl
    · have hlo : mnL l ≤ sumI l / l.length := Int.le_ediv_of_mul_le (by omega) hbd.1
      have hhi : sumI l / l.length ≤ mxL l := Int.ediv_le_of_le_mul (by omega) hbd.2
      refine ⟨⟨by omega, by omega⟩, onB_dec (fun _ => ⟨⟨by omega, by omega⟩, ⟨by omega, by omega⟩, onB_dec (fun _ => ⟨⟨by omega, by omega⟩, ⟨by omega, by omega⟩, onB_dec (fun _ => ⟨⟨by omega, by omega⟩, ⟨by omega, by omega⟩, onB_dec (fun _ => ?_) (fun h => absurd trivial h)⟩) (fun h => absurd hhi h)⟩) (fun h => absurd hlo h)⟩) (fun h => absurd trivial h)⟩
      rw [d2]
      split <;> rfl
end Go.Proofs
