import Derived.Test.YtgecjhclhdgpgaaXV2
import Derived.Test.YtgecjhclhdgpgaaXO9
import Derived.Test.YtgecjhclhdgpgaaXF7
set_option linter.unusedVariables false
set_option linter.unusedSimpArgs false
namespace Go.Proofs
open Go Go.Ax Go.Shelf
set_option maxRecDepth 10000
/-- slices.Values: a function value that holds the slice. -/
def valuesC : Ct := fun nid xs lk => match xs with
  | [.sl z els] => some (lk nid = none, .fn 140 [.ptr nid 0 0], [(nid, ⟨1, [.sl z els], true, false⟩)])
  | _ => none
theorem s_valuesI : SoundC Try.prog 116 valuesC := by
  refine ⟨?_, fun nid xs μ μ' h => by unfold valuesC; rw [h nid (by simp [foot])]⟩
  intro nid xs us w S β μ p v up hi hr hp hc hpp
  unfold valuesC at hc
  split at hc
  · rename_i z els
    simp only [Option.some.injEq, Prod.mk.injEq] at hc
    obtain ⟨rfl, rfl, rfl⟩ := hc
    simp only [reps] at hr
    obtain ⟨u, _, rfl, h, rfl⟩ := hr
    have h0 : rep w S β0 (.sl z els) u := by simp only [rep] at h ⊢; exact h
    have h' := h
    simp only [rep] at h'
    obtain ⟨a, cap, rfl, _⟩ := h'
    refine callOk_of (enters_of Try.func116 (by kernel_rfl) rfl _ _) (Calls.mono (callsIn_wide.1 (Col.values_in Fence.wide 1 trivial rfl a _ cap w)) ?_)
    rintro e w' ⟨rfl, rfl⟩
    exact ⟨_, rfl, box_done hi hpp (by rfl) h0⟩
  · cases hc
/-- slices.Sorted, of slices.Values's value. -/
def sortedC : Ct := fun nid xs lk => match xs with
  | [.fn 140 [.ptr q 0 0]] => match lk q with
    | some ⟨1, [.sl 1 els], true, false⟩ => match decL (Enc.d (α := Int)) els with
      | some l => some (lk nid = none ∧ l.length ≤ 2 ^ 40, .row nid 1 0 l.length, [(nid, ⟨1, encL Enc.e (l.mergeSort fun x y => decide (x ≤ y)), true, false⟩)])
      | none => none
    | _ => none
  | _ => none
theorem s_sortedI : SoundC Try.prog 115 sortedC := by
  refine ⟨?_, fun nid xs μ μ' h => ?_⟩
  · intro nid xs us w S β μ p v up hi hr hp hc hpp
    unfold sortedC at hc
    split at hc
    · rename_i q
      split at hc
      · rename_i els hq
        split at hc
        · rename_i l hl
          simp only [Option.some.injEq, Prod.mk.injEq] at hc
          obtain ⟨rfl, rfl, rfl⟩ := hc
          obtain ⟨hfree, hlen⟩ := hpp
          simp only [reps] at hr
          obtain ⟨u, _, rfl, h, rfl⟩ := hr
          simp only [rep] at h
          obtain ⟨ps, rfl, h⟩ := h
          simp only [reps] at h
          obtain ⟨pu, _, rfl, h, rfl⟩ := h
          simp only [rep] at h
          obtain ⟨bl, hbl, rfl⟩ := h
          obtain ⟨k1, k2, k3, k4⟩ := hi.obs q _ bl hq rfl hbl
          simp only [List.length_singleton] at k1 k2
          have hcap : bl.cap ≠ 0 := by omega
          have hlt : bl.b < w.heap.size := hi.blt hq rfl hbl hcap
          obtain ⟨c, ty, c1, c2, c3⟩ := k4 hcap
          simp only [repEls] at c3
          obtain ⟨_, c4, _⟩ := c3
          have c4' : repEl w S β0 (.sl 1 els) bl.b bl.o := c4
          simp only [repEl] at c4'
          obtain ⟨sv, c5, _, c6⟩ := c4'
          simp only [rep] at c6
          obtain ⟨a, cap, rfl, ⟨d1, d2⟩, d3⟩ := c6
          have hwk := decL_wk els l hl
          have hln : els.length = l.length := by rw [← wkL_len _ _ hwk, encL_length]
          have hI : Col.Ints w.heap.size w (.slice a els.length cap) l := by
            rcases d3 with rfl | ⟨b, o, rfl, hb, d4⟩
            · obtain rfl : l = [] := List.length_eq_zero_iff.1 (by simpa using hln.symm)
              exact .inl ⟨a, cap, rfl, rfl⟩
            · refine .inr ⟨b, o, cap, by rw [hln], hi.slt b hb, ints_repEls l o (wkEls_rep β0 1 _ _ b o hwk d4)⟩
          have hcell : w.cell? ⟨bl.b, bl.o + 0 * bl.sz + 0, none⟩ = some (.slice a els.length cap) := by rw [Nat.zero_mul, Nat.add_zero]; exact c5
          have hseq := Col.values_gives Fence.wide 1 trivial rfl (Nat.le_refl _) ⟨bl.b, bl.o + 0 * bl.sz + 0, none⟩ _ l (by omega) w hlt hcell hI
          have hc := Col.sorted_in Fence.wide 4 trivial trivial trivial trivial rfl (Nat.le_refl _) (Col.sorts_wide _) 140 _ trivial (enters_of Try.func140 (by kernel_rfl) rfl) (fun ys => ys = l) l.length (by simp only [maxLen]; omega) (by omega) w (fun ys h => Nat.le_of_eq (congrArg _ h)) hseq
          refine callOk_of (enters_of Try.func115 (by kernel_rfl) rfl _ _) (Calls.mono (callsIn_wide.1 hc) ?_)
          rintro e w' ⟨v, ss, rfl, rfl, hrow, _, hbw⟩
          refine ⟨v, rfl, ?_⟩
          have := rowI_done (nid := nid) hi hbw hfree (l := ss.mergeSort fun x y => decide (x ≤ y)) (ty := 3) (v := v) (by rw [List.length_mergeSort]; exact hrow)
          rw [List.length_mergeSort] at this
          exact this
        · cases hc
      · cases hc
    · cases hc
  · unfold sortedC
    split
    · rename_i q
      rw [h nid (by simp [foot]), h q (by simp [foot, namesL, AV.names])]
    · rfl
end Go.Proofs
