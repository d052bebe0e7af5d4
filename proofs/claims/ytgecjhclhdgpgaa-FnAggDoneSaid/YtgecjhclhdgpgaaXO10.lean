import Derived.Test.YtgecjhclhdgpgaaXO9
import Derived.Test.YtgecjhclhdgpgaaXO7
set_option linter.unusedVariables false
set_option linter.unusedSimpArgs false
namespace Go.Ax
open Go
/-- A function of numbers alone whose call is known, and that leaves the world as it was. -/
theorem sound_calls {P : Program} {N : FuncId} {α ρ : Type} [EncA α] [EncR ρ] (pre : α → Prop) (f : α → ρ) (vs : α → List Value) (hvs : ∀ a : α, EncA.es a = (vs a).map .lit) (u : α → Value) (hu : ∀ (a : α) (w : World) (S : Nat → Prop) (β : Nat → Option Blk), pre a → rep w S β (EncR.r (f a)) (u a))
    (he : ∀ us w, (callFunc N us).run P w = .ok (.enter N us) w) (hrun : ∀ (a : α) (w : World), pre a → Calls P N (vs a).toArray w fun e w' => e = .returned (u a) ∧ w' = w) : SoundC P N (flatT pre f) := by
  refine ⟨?_, fun nid xs μ μ' h => by simp only [flatT]; rw [frzL_congr xs (fun id hid => h id (by simp [foot, hid]))]⟩
  intro nid xs us w S β μ p v up hi hr hp hc hpp
  simp only [flatT] at hc
  split at hc
  · rename_i a ha
    simp only [Option.some.injEq, Prod.mk.injEq] at hc
    obtain ⟨rfl, rfl, rfl⟩ := hc
    have h3 : reps w (SO S β μ) β0 (EncA.es a) us := wkL_rep β0 _ _ us (EncA.ed _ a ha) (frzL_reps hi xs us hr)
    have hus : us = vs a := by
      rw [hvs a] at h3
      generalize vs a = l at h3
      clear hr ha hpp hvs
      induction l generalizing us with
      | nil => simpa [reps] using h3
      | cons x xs ih =>
        simp only [List.map_cons, reps] at h3
        obtain ⟨y, ys, rfl, h1, h2⟩ := h3
        rw [rep_lit' h1, ih ys h2]
    subst hus
    refine callOk_of (he _ _) (Calls.mono (hrun a w hpp) ?_)
    rintro e w' ⟨rfl, rfl⟩
    exact ⟨_, rfl, S, β, Done.pure hi (hu a _ S β hpp) (EncR.pl _)⟩
  · cases hc
end Go.Ax
