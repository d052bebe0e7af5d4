import Derived.Test.YtgecjhclhdgpgaaXF17
import Derived.Test.YtgecjhclhdgpgaaXLA
import Derived.Test.YtgecjhclhdgpgaaRows
import Derived.ProofKit
set_option linter.unusedVariables false
set_option linter.unusedSimpArgs false
namespace Go.Proofs.Ytgecjhclhdgpgaa
open Go.ChangeShapes Go.WideShapes Go.ChangeAt Go.RowKit Go.Shelf
theorem Try.own : ownKnob Try.prog.godebug = none := by kernel_rfl
theorem Try.laidOut : laidOutB Try.prog = true := by kernel_rfl
theorem Try.cells5 : Try.prog.cellsOf 5 = 1 := by kernel_rfl
theorem spot_none {W : World} {a : Addr} {v : Value} (h : W.cell? a = some v) : a = ⟨a.block, a.off, none⟩ ∧ a.block < W.heap.size := by
  unfold World.cell? at h
  split at h
  · rename_i c _ _ hb
    refine ⟨?_, (Array.getElem?_eq_some_iff.1 hb).1⟩
    cases a with
    | mk b o s => cases s with
      | none => rfl
      | some x => simp at h
  · cases h
set_option maxRecDepth 100000 in
/-- A list of bytes, read. -/
theorem open_code {H : Type} {enc : TypeId × Value → H} {W : World} {v0 : Value} {d0 : DataW H} {p0 : List MemPlace} {base : Nat} (hval : Value.okWide Try.prog W .any base 22 v0) (h : DataW.Trod enc Try.prog W 0 (fun _ => true) true 22 v0 d0 p0) :
    ∃ l : List Ax.U8, Bytes l ∧ ∃ a cap, v0 = .slice a l.length cap ∧ (l.length ≤ cap ∧ cap ≤ maxLen) ∧ (l = [] ∨ ∃ b o, a = some ⟨b, o, none⟩ ∧ b < W.heap.size ∧ ∀ j, j < l.length → W.cell? ⟨b, o + j, none⟩ = some (.int .u8 (l.getD j ⟨0⟩).n)) := by
  obtain ⟨a1, len1, cap1, rfl⟩ := okWide_slice Try.underlying22 hval
  obtain ⟨fuel, hf⟩ := h
  rcases open_ints Try.underlying22 Try.underlying5 Try.cells5 hf with ⟨hcs, hx⟩ | ⟨a, len, cap, zs, hcs, _, hl, hm, hz, hx, hcell, hwz⟩
  · simp [Value.cells] at hcs
    obtain ⟨rfl, rfl, rfl⟩ := hcs
    exact ⟨[], fun b hb => by simp at hb, none, 0, rfl, ⟨by simp, by simp [maxLen]⟩, .inl rfl⟩
  · simp [Value.cells] at hcs
    obtain ⟨rfl, rfl, rfl⟩ := hcs
    have hz' : zs.length = cap1 := by simpa using hz
    have hlen : (zs.take len1).length = len1 := by rw [List.length_take]; omega
    refine ⟨(zs.take len1).map fun n => ⟨n⟩, ?_, some a, cap1, by rw [List.length_map, hlen], ⟨by rw [List.length_map, hlen]; exact hl, hm⟩, ?_⟩
    · intro b hb
      obtain ⟨n, hn, rfl⟩ := List.mem_map.1 hb
      have := hwz n (List.mem_of_mem_take hn)
      simp only [Lit.wf, decide_eq_true_eq, Bool.and_eq_true] at this
      have h1 : IntKind.u8.min = 0 := rfl
      have h2 : IntKind.u8.max = 255 := rfl
      rw [h1, h2] at this
      exact ⟨this.1, by show n < 256; omega⟩
    · by_cases h0 : len1 = 0
      · exact .inl (List.length_eq_zero_iff.1 (by rw [List.length_map, hlen]; exact h0))
      · right
        obtain ⟨e1, e2⟩ := spot_none (hcell 0 (by omega))
        have e1' : a = ⟨a.block, a.off, none⟩ := by
          have := e1
          cases a with
          | mk b o s => simpa [Addr.add] using this
        refine ⟨a.block, a.off, congrArg some e1', by simpa [Addr.add] using e2, fun j hj => ?_⟩
        rw [List.length_map, hlen] at hj
        have := hcell j (by omega)
        rw [e1'] at this
        rw [show (⟨a.block, a.off + j, none⟩ : Addr) = (⟨a.block, a.off, none⟩ : Addr).add j from by simp [Addr.add], this]
        congr 2
        simp only [List.getD_eq_getElem?_getD, List.getElem?_map, List.getElem?_take]
        rw [if_pos hj, List.getElem?_eq_getElem (by omega)]
        rfl
set_option maxRecDepth 100000 in
theorem fnAggDone_lifted (os : Os) (started : os.Started) (H : Type) (enc : TypeId × Value → H) :
    ReturnsInHanded {} Try.checked os 6 .any (Rows.fnAggDoneSpec.pre6 enc Try.prog Try.f6 Rows.fnAggDoneRow.domain false) (Rows.fnAggDoneSpec.post enc Try.prog Try.f6 false true false false) := by
  refine returnsInHanded_of_change (C := Try.checked) Try.own started (by kernel_rfl) Try.func6
    (ChangeSpec.witness6 (enc := enc) (C := Try.checked) false ⟨#[], #[.slice none 0 0], []⟩ 8 (by kernel_rfl) (by kernel_rfl) (by kernel_rfl) (by kernel_rfl)) ?_
  intro W base args ds gs before hval0 hW hcnd _
  have hval : ∀ (j : Nat) t v, Try.f6.params[j]? = some t → args[j]? = some v → Value.okWide Try.prog W .any base t v := hval0
  have hW' := hW
  obtain ⟨p, q, hA0, hV, rfl, hfz, hnd⟩ := hW
  have hA : DataW.TrodAll enc Try.prog W 0 (fun _ => true) true Try.f6.params.toList args.toList ds p := hA0
  rw [Try.params6] at hA hval
  obtain ⟨v0, d0, rfl, rfl, h0⟩ := trodAll_one hA
  obtain ⟨rfl, rfl⟩ := trodVars_none hV
  clear hA0 hval0
  simp only [List.append_nil] at hW'
  obtain ⟨l, hl, hv⟩ := open_code (hval 0 22 v0 rfl rfl) h0
  refine (Ax.law_call s_fnAggDone (fun us w => enters_of Try.func6 (by kernel_rfl) rfl us w) hl hv).mono fun e W' ⟨he, hb⟩ => ?_
  subst he
  refine ⟨_, rfl, [d0], [], p, [], p, [], hW', ?_, ?_, rfl, hb.frame _, fun h => by cases h⟩
  · exact trodAll_mk1 (shut_bool Try.underlying4 true)
  · exact trodAll_mk1 (Below.trod Try.laidOut (by kernel_rfl) (of_decide_eq_true (by kernel_rfl)) h0 hb (fun x hx => hW'.lt x hx))
theorem fnAggDone_holds : Rows.FnAggDoneSaid :=
  OpenClaim.holds_of_wide 6 Try.f6 rfl rfl rfl rfl rfl rfl rfl ⟨rfl, rfl, rfl, rfl, rfl⟩ rfl rfl rfl rfl rfl (by kernel_rfl) Try.func6 (by kernel_rfl)
    (of_decide_eq_true (by kernel_rfl)) (by unfold Func.isWrapper; first | (rw [if_pos (by decide +kernel)]; kernel_rfl) | (rw [if_neg (by decide +kernel)]; exact ⟨rfl, rfl⟩))
    (fun os started H enc _ => fnAggDone_lifted os started H enc)
end Go.Proofs.Ytgecjhclhdgpgaa
