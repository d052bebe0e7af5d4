import Derived.Test.YtgecjhclhdgpgaaXO3
set_option linter.unusedVariables false
set_option linter.unusedSimpArgs false
namespace Go.Ax
open Go

/-! ## structs: their cells, one behind the other -/
class Cells (α : Type) where
  cs : α → List AV
  dc : List AV → Option (α × List AV)
  n : Nat
  dcs : ∀ a r, dc (cs a ++ r) = some (a, r)
  wdc : ∀ l a r, dc l = some (a, r) → ∃ l1, l = l1 ++ r ∧ wkL l1 (cs a)
  len : ∀ a, (cs a).length = n
  cl : ∀ a, closedL (cs a) = true

def dcOne {α : Type} [Enc α] (l : List AV) : Option (α × List AV) := match l with
  | x :: r => match Enc.d x with
    | some a => some (a, r)
    | none => none
  | [] => none
instance (priority := low) Cells.one {α : Type} [Enc α] : Cells α where
  cs a := [Enc.e a]
  dc := dcOne
  n := 1
  dcs a r := by simp [dcOne, Enc.de]
  wdc l a r h := by
    unfold dcOne at h
    split at h
    · rename_i x r'
      split at h
      · rename_i a' ha
        simp only [Option.some.injEq, Prod.mk.injEq] at h
        obtain ⟨rfl, rfl⟩ := h
        exact ⟨[x], rfl, by simp only [wkL]; exact ⟨_, _, rfl, Enc.ed _ _ ha, rfl⟩⟩
      · cases h
    · cases h
  len _ := rfl
  cl a := by simp [closedL, Enc.cl]
theorem wkL_append : ∀ (a b c d : List AV), wkL a b → wkL c d → wkL (a ++ c) (b ++ d)
  | [], b, c, d, h, h' => by simp only [wkL] at h; subst h; exact h'
  | x :: xs, b, c, d, h, h' => by
    simp only [wkL] at h
    obtain ⟨y, ys, rfl, h1, h2⟩ := h
    simp only [List.cons_append, wkL]
    exact ⟨_, _, rfl, h1, wkL_append xs ys c d h2 h'⟩
def dcPair {α β : Type} (da : List AV → Option (α × List AV)) (db : List AV → Option (β × List AV)) (l : List AV) : Option ((α × β) × List AV) := match da l with
  | some (a, r) => match db r with
    | some (b, r') => some ((a, b), r')
    | none => none
  | none => none
instance Cells.pair {α β : Type} [Cells α] [Cells β] : Cells (α × β) where
  cs a := Cells.cs a.1 ++ Cells.cs a.2
  dc := dcPair Cells.dc Cells.dc
  n := Cells.n α + Cells.n β
  dcs a r := by simp [dcPair, List.append_assoc, Cells.dcs]
  wdc l a r h := by
    unfold dcPair at h
    split at h
    · rename_i a1 r1 h1
      split at h
      · rename_i b1 r2 h2
        simp only [Option.some.injEq, Prod.mk.injEq] at h
        obtain ⟨rfl, rfl⟩ := h
        obtain ⟨l1, rfl, k1⟩ := Cells.wdc _ _ _ h1
        obtain ⟨l2, rfl, k2⟩ := Cells.wdc _ _ _ h2
        exact ⟨l1 ++ l2, by rw [List.append_assoc], wkL_append _ _ _ _ k1 k2⟩
      · cases h
    · cases h
  len a := by simp [Cells.len]
  cl a := by rw [closedL_append, Cells.cl, Cells.cl]; rfl
def dcIso {σ τ : Type} (of : τ → σ) (d : List AV → Option (τ × List AV)) (l : List AV) : Option (σ × List AV) := match d l with
  | some (t, r) => some (of t, r)
  | none => none
abbrev Cells.iso {σ τ : Type} [Cells τ] (to : σ → τ) (of : τ → σ) (h1 : ∀ s, of (to s) = s) (h2 : ∀ t, to (of t) = t) : Cells σ where
  cs s := Cells.cs (to s)
  dc := dcIso of Cells.dc
  n := Cells.n τ
  dcs a r := by simp [dcIso, Cells.dcs, h1]
  wdc l a r h := by
    unfold dcIso at h
    split at h
    · rename_i t r' ht
      simp only [Option.some.injEq, Prod.mk.injEq] at h
      obtain ⟨rfl, rfl⟩ := h
      rw [h2]
      exact Cells.wdc _ _ _ ht
    · cases h
  len a := Cells.len _
  cl a := Cells.cl _
def dAgg {σ : Type} (d : List AV → Option (σ × List AV)) (v : AV) : Option σ := match v with
  | .agg l => match d l with
    | some (a, []) => some a
    | _ => none
  | _ => none
abbrev Enc.agg {σ : Type} [Cells σ] : Enc σ where
  e s := .agg (Cells.cs s)
  d := dAgg Cells.dc
  w := Cells.n σ
  de a := by have := Cells.dcs a []; rw [List.append_nil] at this; simp [dAgg, this]
  ed v a h := by
    unfold dAgg at h
    split at h
    · split at h
      · rename_i l a' hd
        simp only [Option.some.injEq] at h
        subst h
        obtain ⟨l1, rfl, k⟩ := Cells.wdc _ _ _ hd
        simp only [List.append_nil, wk]
        exact ⟨_, rfl, k⟩
      · cases h
    · cases h
  cl a := by simp only [AV.closed]; exact Cells.cl a
  pl _ v h := by cases h
  wd a := Cells.len a
  na _ := rfl
  nt _ := rfl
end Go.Ax
