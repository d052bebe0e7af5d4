import Derived.Test.YtgecjhclhdgpgaaXO
set_option linter.unusedVariables false
set_option linter.unusedSimpArgs false
namespace Go.Ax
open Go

/-! ## typed values -/
class Enc (α : Type) where
  e : α → AV
  d : AV → Option α
  w : Nat
  de : ∀ a, d (e a) = some a
  ed : ∀ v a, d v = some a → wk v (e a)
  cl : ∀ a, (e a).closed = true
  pl : ∀ a, (e a).plain
  wd : ∀ a, (e a).cells.length = w
  na : ∀ a, (e a).isAny = false
  nt : ∀ a, (e a).isTup = false

theorem closed_names : ∀ x : AV, x.closed = true → x.names = [] := by
  intro x
  refine AV.rec (motive_1 := fun x => x.closed = true → x.names = []) (motive_2 := fun xs => closedL xs = true → namesL xs = []) ?_ ?_ ?_ ?_ ?_ ?_ ?_ ?_ ?_ ?_ ?_ x
  · intro v _; rfl
  · intro _; rfl
  · intro cs ih h; exact ih h
  · intro sz xs _ _; rfl
  · intro id sz lo n h; cases h
  · intro id i o h; cases h
  · intro x o _ _; rfl
  · intro f cs ih h; exact ih h
  · intro cs ih h; exact ih h
  · intro _; rfl
  · intro x xs h1 h2 h
    simp only [closedL, Bool.and_eq_true] at h
    simp only [namesL, h1 h.1, h2 h.2, List.append_nil]
theorem closedL_names : ∀ xs : List AV, closedL xs = true → namesL xs = []
  | [], _ => rfl
  | x :: xs, h => by
    simp only [closedL, Bool.and_eq_true] at h
    simp only [namesL, closed_names x h.1, closedL_names xs h.2, List.append_nil]

/-- A list's elements, written as values. -/
def encL {α : Type} (f : α → AV) (l : List α) : List AV := l.map f
theorem encL_length {α : Type} (f : α → AV) (l : List α) : (encL f l).length = l.length := by simp [encL]
theorem encL_getD {α : Type} [Inhabited α] (f : α → AV) (l : List α) (i : Nat) (h : i < l.length) : (encL f l).getD i .any = f (l.getD i default) := by
  simp [encL, List.getD_eq_getElem?_getD, h]
theorem encL_append {α : Type} (f : α → AV) (l l' : List α) : encL f l ++ encL f l' = encL f (l ++ l') := by simp [encL]
theorem encL_take {α : Type} (f : α → AV) (l : List α) (n : Nat) : (encL f l).take n = encL f (l.take n) := by simp [encL]
theorem encL_drop {α : Type} (f : α → AV) (l : List α) (n : Nat) : (encL f l).drop n = encL f (l.drop n) := by simp [encL]
theorem encL_set {α : Type} (f : α → AV) (l : List α) (n : Nat) (a : α) : (encL f l).set n (f a) = encL f (l.set n a) := by simp [encL, List.map_set]
theorem encL_rep {α : Type} (f : α → AV) (n : Nat) (a : α) : List.replicate n (f a) = encL f (List.replicate n a) := by simp [encL]
theorem encL_nil {α : Type} (f : α → AV) : encL f [] = [] := (rfl)
theorem encL_cons {α : Type} (f : α → AV) (a : α) (l : List α) : encL f (a :: l) = f a :: encL f l := (rfl)

def decL {α : Type} (d : AV → Option α) : List AV → Option (List α)
  | [] => some []
  | x :: xs => match d x with
    | some a => match decL d xs with
      | some l => some (a :: l)
      | none => none
    | none => none
theorem decL_encL {α : Type} [Enc α] (l : List α) : decL Enc.d (encL Enc.e l) = some l := by
  induction l with
  | nil => rfl
  | cons a l ih => simp only [encL_cons, decL, Enc.de, ih]
theorem decL_append {α : Type} (d : AV → Option α) : ∀ (xs ys : List AV), decL d (xs ++ ys) = match decL d xs with | some a => (match decL d ys with | some b => some (a ++ b) | none => none) | none => none
  | [], ys => by simp only [List.nil_append, decL]; cases decL d ys <;> rfl
  | x :: xs, ys => by
    simp only [List.cons_append, decL, decL_append d xs ys]
    cases d x <;> simp
    cases decL d xs <;> simp
    cases decL d ys <;> simp
theorem decL_wk {α : Type} [Enc α] : ∀ (xs : List AV) (l : List α), decL Enc.d xs = some l → wkL xs (encL Enc.e l)
  | [], l, h => by simp only [decL, Option.some.injEq] at h; subst h; simp [wkL, encL]
  | x :: xs, l, h => by
    simp only [decL] at h
    cases hx : Enc.d (α := α) x with
    | none => rw [hx] at h; cases h
    | some a =>
      rw [hx] at h
      cases hl : decL (Enc.d (α := α)) xs with
      | none => rw [hl] at h; cases h
      | some l' =>
        rw [hl] at h
        simp only [Option.some.injEq] at h
        subst h
        simp only [encL_cons, wkL]
        exact ⟨_, _, rfl, Enc.ed x a hx, decL_wk xs l' hl⟩

instance : Enc Int where
  e n := .lit (.int .i64 n)
  d v := match v with | .lit (.int .i64 n) => some n | _ => none
  w := 1
  de _ := rfl
  ed v a h := by
    split at h
    · simp only [Option.some.injEq] at h; subst h; exact wk_refl _
    · cases h
  cl _ := rfl
  pl _ v h := by cases h; rfl
  wd _ := rfl
  na _ := rfl
  nt _ := rfl
instance : Enc Bool where
  e b := .lit (.bool b)
  d v := match v with | .lit (.bool n) => some n | _ => none
  w := 1
  de _ := rfl
  ed v a h := by
    split at h
    · simp only [Option.some.injEq] at h; subst h; exact wk_refl _
    · cases h
  cl _ := rfl
  pl _ v h := by cases h; rfl
  wd _ := rfl
  na _ := rfl
  nt _ := rfl
instance : Enc ByteArray where
  e b := .lit (.string b)
  d v := match v with | .lit (.string n) => some n | _ => none
  w := 1
  de _ := rfl
  ed v a h := by
    split at h
    · simp only [Option.some.injEq] at h; subst h; exact wk_refl _
    · cases h
  cl _ := rfl
  pl _ v h := by cases h; rfl
  wd _ := rfl
  na _ := rfl
  nt _ := rfl
/-- A whole number of eight bytes, without a sign. -/
structure U64 where
  n : Int
  deriving Inhabited, DecidableEq
structure U8 where
  n : Int
  deriving Inhabited, DecidableEq
instance : Enc U64 where
  e n := .lit (.int .u64 n.n)
  d v := match v with | .lit (.int .u64 n) => some ⟨n⟩ | _ => none
  w := 1
  de _ := rfl
  ed v a h := by
    split at h
    · simp only [Option.some.injEq] at h; subst h; exact wk_refl _
    · cases h
  cl _ := rfl
  pl _ v h := by cases h; rfl
  wd _ := rfl
  na _ := rfl
  nt _ := rfl
instance : Enc U8 where
  e n := .lit (.int .u8 n.n)
  d v := match v with | .lit (.int .u8 n) => some ⟨n⟩ | _ => none
  w := 1
  de _ := rfl
  ed v a h := by
    split at h
    · simp only [Option.some.injEq] at h; subst h; exact wk_refl _
    · cases h
  cl _ := rfl
  pl _ v h := by cases h; rfl
  wd _ := rfl
  na _ := rfl
  nt _ := rfl

def decS {α : Type} [Enc α] (z : Nat) (xs : List AV) : Option (List α) := if z = Enc.w α then decL Enc.d xs else match xs with | [] => some [] | _ :: _ => none
instance {α : Type} [Enc α] : Enc (List α) where
  e l := .sl (Enc.w α) (encL Enc.e l)
  d v := match v with
    | .sl z xs => decS z xs
    | .lit (.slice none 0 0) => some []
    | _ => none
  w := 1
  de l := by simp [decS, decL_encL]
  ed v l h := by
    split at h
    · rename_i z xs
      unfold decS at h
      simp only [wk]
      split at h
      · rename_i hz
        exact ⟨_, _, rfl, .inl hz.symm, decL_wk xs l h⟩
      · split at h
        · simp only [Option.some.injEq] at h; subst h; exact ⟨_, _, rfl, .inr rfl, by simp [wkL, encL]⟩
        · cases h
    · simp only [Option.some.injEq] at h; subst h
      unfold wk; exact .inr ⟨rfl, _, rfl⟩
    · cases h
  cl _ := rfl
  pl _ v h := by cases h
  wd _ := rfl
  na _ := rfl
  nt _ := rfl

/-- Arguments. -/
class EncA (α : Type) where
  es : α → List AV
  ds : List AV → Option α
  de : ∀ a, ds (es a) = some a
  ed : ∀ v a, ds v = some a → wkL v (es a)
  cl : ∀ a, closedL (es a) = true
  pl : ∀ a, ∀ x ∈ es a, x.plain
instance (priority := low) {α : Type} [Enc α] : EncA α where
  es a := [Enc.e a]
  ds l := match l with | [x] => Enc.d x | _ => none
  de a := by simp [Enc.de]
  ed v a h := by
    split at h
    · simp only [wkL]; exact ⟨_, _, rfl, Enc.ed _ _ h, rfl⟩
    · cases h
  cl a := by simp [closedL, Enc.cl]
  pl a x hx := by simp only [List.mem_singleton] at hx; subst hx; exact Enc.pl a
instance : EncA Unit where
  es _ := []
  ds l := match l with | [] => some () | _ => none
  de _ := rfl
  ed v a h := by
    split at h
    · simp [wkL]
    · cases h
  cl _ := rfl
  pl _ x h := by cases h
instance {α β : Type} [Enc α] [EncA β] : EncA (α × β) where
  es a := Enc.e a.1 :: EncA.es a.2
  ds l := match l with
    | x :: r => match Enc.d x with
      | some a => match EncA.ds r with
        | some b => some (a, b)
        | none => none
      | none => none
    | [] => none
  de a := by simp [Enc.de, EncA.de]
  ed v a h := by
    split at h
    · rename_i x r
      cases hx : Enc.d (α := α) x with
      | none => rw [hx] at h; cases h
      | some a1 =>
        rw [hx] at h
        cases hr : EncA.ds (α := β) r with
        | none => rw [hr] at h; cases h
        | some b =>
          rw [hr] at h
          simp only [Option.some.injEq] at h
          subst h
          simp only [wkL]
          exact ⟨_, _, rfl, Enc.ed _ _ hx, EncA.ed _ _ hr⟩
    · cases h
  cl a := by simp [closedL, Enc.cl, EncA.cl]
  pl a x hx := by
    cases hx with
    | head => exact Enc.pl _
    | tail _ hx => exact EncA.pl _ x hx

/-- Results. -/
class EncR (α : Type) where
  r : α → AV
  cl : ∀ a, (r a).closed = true
  pl : ∀ a, (r a).plain
instance (priority := low) {α : Type} [Enc α] : EncR α := ⟨Enc.e, Enc.cl, Enc.pl⟩
instance : EncR Unit := ⟨fun _ => .tup [], fun _ => rfl, fun _ v h => by cases h⟩
instance {α β : Type} [Enc α] [EncA β] : EncR (α × β) := ⟨fun a => .tup (EncA.es a), fun a => by simp only [AV.closed]; exact EncA.cl a, fun _ v h => by cases h⟩

/-! ## arguments that stand still from here on -/
def fzUpd (lk : Look) : List Nat → Option Upd
  | [] => some []
  | id :: r => if r.elem id then fzUpd lk r else match lk id with
    | some ob => match fzUpd lk r with
      | some up => match ob.cl, ob.dd with
        | true, false => some ((id, froz ob) :: up)
        | false, true => some up
        | _, _ => none
      | none => none
    | none => none

theorem fzUpd_keys {lk : Look} : ∀ {l : List Nat} {up : Upd}, fzUpd lk l = some up → ∀ id, lookL up id ≠ none → id ∈ l
  | [], up, h, id, hl => by simp only [fzUpd, Option.some.injEq] at h; subst h; simp [lookL] at hl
  | i :: r, up, h, id, hl => by
    simp only [fzUpd] at h
    split at h
    · exact List.mem_cons_of_mem _ (fzUpd_keys h id hl)
    · split at h
      · split at h
        · rename_i up' hr
          split at h
          · simp only [Option.some.injEq] at h; subst h
            simp only [lookL] at hl
            by_cases e : i = id
            · subst e; simp
            · rw [if_neg e] at hl; exact List.mem_cons_of_mem _ (fzUpd_keys hr id hl)
          · simp only [Option.some.injEq] at h; subst h; exact List.mem_cons_of_mem _ (fzUpd_keys hr id hl)
          · cases h
        · cases h
      · cases h

section
variable {w : World} {S : Nat → Prop} {β : Nat → Option Blk} {μ : Look}

theorem fz_sound (hi : Inv w S β μ) : ∀ (l : List Nat) (up : Upd), fzUpd μ l = some up → ∃ S', Inv w S' β (Upd.app up μ) ∧ (∀ b, S b → S' b) ∧ Ext w S (Own β) w S' ∧
    ∀ id ob bl, id ∈ l → μ id = some ob → rdable ob.cl ob.dd = true → β id = some bl → bl.cap ≠ 0 → S' bl.b
  | [], up, h => by
    simp only [fzUpd, Option.some.injEq] at h
    subst h
    exact ⟨S, by rw [show ([] : Upd) = noUpd from rfl, noUpd_app]; exact hi, fun _ h => h, Ext.refl _ _ _, fun _ _ _ h => by cases h⟩
  | id :: r, up, h => by
    simp only [fzUpd] at h
    split at h
    · rename_i he
      obtain ⟨S', h1, h2, h3, h4⟩ := fz_sound hi r up h
      refine ⟨S', h1, h2, h3, fun i ob bl hm => ?_⟩
      have : i ∈ r := by
        cases hm with
        | head => simpa using he
        | tail _ hm => exact hm
      exact h4 i ob bl this
    · rename_i hne
      split at h
      · rename_i ob hob
        split at h
        · rename_i up' hr
          obtain ⟨S', h1, h2, h3, h4⟩ := fz_sound hi r up' hr
          have hsame : Upd.app up' μ id = some ob := by
            have : lookL up' id = none := by
              cases hl : lookL up' id with
              | none => rfl
              | some o => exact absurd (fzUpd_keys hr id (by rw [hl]; simp)) (by simpa using hne)
            simp only [Upd.app, this, hob]
          split at h
          · rename_i hcl hdd
            simp only [Option.some.injEq] at h
            subst h
            cases hb : β id with
            | none => have := (hi.live id).2 hb; rw [hob] at this; cases this
            | some bl =>
              have hf := h1.freeze hsame hdd hcl hb
              rw [app_cons]
              refine ⟨_, hf, fun b hb => .inl (h2 b hb), h3.trans (ext_freeze (ob := ob) hb) (fun b _ h => h), fun i ob' bl' hm hm' hrd hb' hc => ?_⟩
              cases hm with
              | head => rw [hb] at hb'; injection hb' with hb'; subst hb'; exact .inr ⟨hc, rfl⟩
              | tail _ hm => exact .inl (h4 i ob' bl' hm hm' hrd hb' hc)
          · rename_i hcl hdd
            simp only [Option.some.injEq] at h
            subst h
            refine ⟨S', h1, h2, h3, fun i ob' bl' hm hm' hrd hb' hc => ?_⟩
            cases hm with
            | head =>
              rw [hob] at hm'; injection hm' with hm'; subst hm'
              exact ((h1.fzs id ob bl' hsame hdd hcl hb').2.2.2 hc).1
            | tail _ hm => exact h4 i ob' bl' hm hm' hrd hb' hc
          · cases h
        · cases h
      · cases h
end

theorem fzUpd_congr {μ μ' : Look} : ∀ l : List Nat, (∀ id ∈ l, μ id = μ' id) → fzUpd μ l = fzUpd μ' l
  | [], _ => rfl
  | i :: r, h => by
    simp only [fzUpd, h i (by simp), fzUpd_congr r (fun id hid => h id (by simp [hid]))]

theorem has_names : ∀ (x : AV) (id : Nat), x.has id = true → id ∈ x.names := by
  intro x id
  refine AV.rec (motive_1 := fun x => x.has id = true → id ∈ x.names) (motive_2 := fun xs => hasL id xs = true → id ∈ namesL xs) ?_ ?_ ?_ ?_ ?_ ?_ ?_ ?_ ?_ ?_ ?_ x
  · intro v h; cases h
  · intro h; cases h
  · intro cs ih h; exact ih h
  · intro sz xs _ h; cases h
  · intro i sz lo n h; simp [AV.has] at h; simp [AV.names, h]
  · intro i j o h; simp [AV.has] at h; simp [AV.names, h]
  · intro x o _ h; cases h
  · intro f cs ih h; exact ih h
  · intro cs ih h; exact ih h
  · intro h; cases h
  · intro x xs h1 h2 h
    simp only [hasL, Bool.or_eq_true] at h
    simp only [namesL, List.mem_append]
    exact h.imp h1 h2
theorem hasL_names : ∀ (xs : List AV) (id : Nat), hasL id xs = true → id ∈ namesL xs
  | [], id, h => by cases h
  | x :: xs, id, h => by
    simp only [hasL, Bool.or_eq_true] at h
    simp only [namesL, List.mem_append]
    exact h.imp (has_names x id) (hasL_names xs id)
end Go.Ax
