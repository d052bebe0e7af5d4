import Derived.Test.YtgecjhclhdgpgaaXO9
import Derived.Test.YtgecjhclhdgpgaaXQ
import Derived.ProofKit
set_option linter.unusedVariables false
set_option linter.unusedSimpArgs false
namespace Go.Ax
open Go
theorem repEls_u8 {w : World} {S : Nat → Prop} {g : Nat} : ∀ (l : List U8) (o : Nat), (∀ j, j < l.length → w.cell? ⟨g, o + j, none⟩ = some (.int .u8 (l.getD j ⟨0⟩).n)) → repEls w S β0 1 (encL Enc.e l) g o
  | [], _, _ => by simp [encL, repEls]
  | x :: l, o, h => by
    rw [encL_cons]
    simp only [repEls]
    refine ⟨rfl, ?_, repEls_u8 l (o + 1) fun j hj => ?_⟩
    · have := h 0 (by simp)
      simp only [Nat.add_zero, List.getD_cons_zero] at this
      show repEl w S β0 (.lit (.int .u8 x.n)) g o
      simp only [repEl]
      exact ⟨_, this, rfl, by simp [rep, Value.oneCell']⟩
    · have := h (j + 1) (by simp; omega)
      rw [List.getD_cons_succ] at this
      rw [← this]; congr 2; omega
theorem inv_free {w : World} {S : Nat → Prop} (hS : ∀ b, S b → b < w.heap.size) : Inv w S β0 (fun _ => none) where
  live := fun id => ⟨fun _ => rfl, fun _ => rfl⟩
  obs := fun _ _ _ h => nomatch h
  fzs := fun _ _ _ h => nomatch h
  inj := fun _ _ _ _ _ _ h => nomatch h
  notS := fun _ _ _ h => nomatch h
  slt := hS
/-- A law of one list of bytes: the call. -/
theorem law_call {P : Program} {N : FuncId} {pre : List U8 → Prop} (hs : SoundC P N (flatT pre fun _ => true)) (he : ∀ us w, (callFunc N us).run P w = .ok (.enter N us) w) {W : World} {v0 : Value} {l : List U8} (hpre : pre l)
    (hv : ∃ a cap, v0 = .slice a l.length cap ∧ (l.length ≤ cap ∧ cap ≤ maxLen) ∧ (l = [] ∨ ∃ b o, a = some ⟨b, o, none⟩ ∧ b < W.heap.size ∧ ∀ j, j < l.length → W.cell? ⟨b, o + j, none⟩ = some (.int .u8 (l.getD j ⟨0⟩).n))) :
    Calls P N #[v0] W fun e W' => e = .returned (.bool true) ∧ RowKit.Below W.heap.size W W' := by
  let S : Nat → Prop := fun b => b < W.heap.size
  have hr : reps W S β0 [.sl 1 (encL Enc.e l)] [v0] := by
    simp only [reps]
    refine ⟨v0, [], rfl, ?_, rfl⟩
    obtain ⟨a, cap, rfl, hc, h⟩ := hv
    simp only [rep]
    refine ⟨a, cap, by rw [encL_length], by rw [encL_length]; exact hc, ?_⟩
    rcases h with rfl | ⟨b, o, rfl, hb, hcell⟩
    · exact .inl rfl
    · exact .inr ⟨b, o, rfl, hb, repEls_u8 l o hcell⟩
  have hC : flatT pre (fun _ => true) 64 [.sl 1 (encL Enc.e l)] (fun _ => none) = some (pre l, EncR.r true, []) := by
    simp only [go_sem]
  have := hs.ok 64 [.sl 1 (encL Enc.e l)] [v0] W S β0 (fun _ => none) _ _ _ (inv_free (fun b h => h)) hr (fun x hx v e => by simp only [List.mem_singleton] at hx; rw [hx] at e; cases e) hC hpre
  unfold CallOk at this
  rw [he] at this
  refine Calls.mono this ?_
  rintro e W' ⟨u, rfl, S', β', hd⟩
  have hval : rep W' S' β' (.lit (.bool true)) u := hd.val
  refine ⟨by rw [rep_lit' hval], hd.ext.os, hd.ext.tape, hd.ext.output, hd.ext.size, fun b hb => hd.ext.keep b hb (fun ⟨id, bl, h, _⟩ => by cases h)⟩
end Go.Ax
