import Derived.Test.YtgecjhclhdgpgaaXM
set_option linter.unusedVariables false
set_option linter.unusedSimpArgs false
namespace Go.Ax
open Go

/-- What is returned. -/
inductive RIx where
  | v (t : Nat)
  | c (a n : Nat) (g : Bool)
  | bad
def rixOf (tab : TT) : ResultVar → RIx
  | .tmp t => .v t
  | .cell a t => match tab.find t with
    | some ti => .c a ti.size ti.agg
    | none => .bad
def resE (s : AS) : List RIx → Option (Prop × List AV)
  | [] => some (True, [])
  | .v t :: r => (resE s r).map fun q => (q.1, s.look t :: q.2)
  | .c a n g :: r => (ldE n g (s.look a) (lookL s.mem)).bind fun x => (resE s r).map fun q => (x.1 ∧ q.1, x.2 :: q.2)
  | .bad :: _ => none
def one : List AV → AV
  | [v] => v
  | vs => .tup vs

/-- An own slice whose elements name no object, alive or at rest. -/
def rdable : Bool → Bool → Bool
  | true, false => true
  | false, true => true
  | _, _ => false
mutual
/-- A value, its own slices read as they are. -/
def frz (lk : Look) : AV → AV
  | .row id sz lo n => match lk id with
    | some ob => if rdable ob.cl ob.dd = true ∧ lo + n ≤ ob.els.length then .sl sz ((ob.els.drop lo).take n) else .any
    | none => .any
  | .ptr _ _ _ => .any
  | .agg cs => .agg (frzL lk cs)
  | .tup cs => .tup (frzL lk cs)
  | .fn f cs => .any
  | x => x
def frzL (lk : Look) : List AV → List AV
  | [] => []
  | x :: xs => frz lk x :: frzL lk xs
end

mutual
/-- What one says, the other says too. -/
def wk : AV → AV → Prop
  | .agg a, y => ∃ b, y = .agg b ∧ wkL a b
  | .tup a, y => ∃ b, y = .tup b ∧ wkL a b
  | .lit v, y => y = .lit v ∨ (v = .slice none 0 0 ∧ ∃ z, y = .sl z [])
  | .any, y => y = .any
  | .sl z xs, y => ∃ z' ys, y = .sl z' ys ∧ (z' = z ∨ xs = []) ∧ wkL xs ys
  | .row id z lo n, y => y = .row id z lo n
  | .ptr id i o, y => y = .ptr id i o
  | .rp x o, y => y = .rp x o
  | .fn f cs, y => y = .fn f cs
def wkL : List AV → List AV → Prop
  | [], l => l = []
  | x :: xs, l => ∃ y ys, l = y :: ys ∧ wk x y ∧ wkL xs ys
end
mutual
theorem wk_refl : ∀ x : AV, wk x x
  | .agg a => by simp only [wk]; exact ⟨a, rfl, wkL_refl a⟩
  | .tup a => by simp only [wk]; exact ⟨a, rfl, wkL_refl a⟩
  | .lit v => by simp [wk]
  | .any => by simp only [wk]
  | .sl z xs => by simp only [wk]; exact ⟨z, xs, rfl, .inl rfl, wkL_refl xs⟩
  | .row id z lo n => by simp only [wk]
  | .ptr id i o => by simp only [wk]
  | .rp x o => by simp only [wk]
  | .fn f cs => by simp only [wk]
theorem wkL_refl : ∀ xs : List AV, wkL xs xs
  | [] => by simp only [wkL]
  | x :: xs => by simp only [wkL]; exact ⟨x, xs, rfl, wk_refl x, wkL_refl xs⟩
end
theorem wkL_len : ∀ (xs ys : List AV), wkL xs ys → ys.length = xs.length
  | [], ys, h => by simp only [wkL] at h; subst h; rfl
  | x :: xs, ys, h => by
    simp only [wkL] at h
    obtain ⟨y, ys, rfl, _, h2⟩ := h
    simp [wkL_len xs ys h2]
theorem wk_cells {x y : AV} (h : wk x y) : wkL x.cells y.cells := by
  cases x with
  | agg a => simp only [wk] at h; obtain ⟨b, rfl, h⟩ := h; exact h
  | tup a =>
    have h0 := h
    simp only [wk] at h; obtain ⟨b, rfl, h⟩ := h
    simp only [AV.cells, wkL]; exact ⟨_, _, rfl, h0, rfl⟩
  | sl z xs =>
    have h0 := h
    simp only [wk] at h; obtain ⟨z', b, rfl, _, h⟩ := h
    simp only [AV.cells, wkL]; exact ⟨_, _, rfl, h0, rfl⟩
  | lit v =>
    have h0 := h
    simp only [wk] at h
    rcases h with rfl | ⟨rfl, z, rfl⟩ <;> (simp only [AV.cells, wkL]; exact ⟨_, _, rfl, h0, rfl⟩)
  | _ =>
    have h0 := h
    simp only [wk] at h
    subst h
    simp only [AV.cells, wkL]; exact ⟨_, _, rfl, h0, rfl⟩
section
variable {w : World} {S : Nat → Prop}
mutual
theorem wk_rep : ∀ (β : Nat → Option Blk) (x y : AV) (u : Value), wk x y → rep w S β x u → rep w S β y u
  | β, .agg a, y, u, h, hr => by
    simp only [wk] at h
    obtain ⟨b, rfl, h⟩ := h
    simp only [rep] at hr ⊢
    obtain ⟨us, rfl, h1, hr⟩ := hr
    exact ⟨us, rfl, h1, wkL_rep β a b us h hr⟩
  | β, .tup a, y, u, h, hr => by
    simp only [wk] at h
    obtain ⟨b, rfl, h⟩ := h
    simp only [rep] at hr ⊢
    obtain ⟨us, rfl, hr⟩ := hr
    exact ⟨us, rfl, wkL_rep β a b us h hr⟩
  | β, .lit v, y, u, h, hr => by
    simp only [wk] at h
    rcases h with rfl | ⟨rfl, z, rfl⟩
    · exact hr
    · simp only [rep] at hr ⊢
      obtain ⟨rfl, _⟩ := hr
      exact ⟨none, 0, rfl, ⟨by simp, by simp⟩, by simp⟩
  | β, .any, y, u, h, hr => by simp only [wk] at h; subst h; exact hr
  | β, .sl z xs, y, u, h, hr => by
    simp only [wk] at h
    obtain ⟨z', ys, rfl, hz, h⟩ := h
    have hl := wkL_len _ _ h
    simp only [rep] at hr ⊢
    obtain ⟨a, cap, rfl, hc, hr⟩ := hr
    refine ⟨a, cap, by rw [hl], by rw [hl]; exact hc, ?_⟩
    rcases hr with rfl | ⟨b, o, rfl, hs, hr⟩
    · left; simp only [wkL] at h; exact h
    · rcases hz with rfl | rfl
      · exact .inr ⟨b, o, rfl, hs, wkEls_rep β0 z' xs ys b o h hr⟩
      · left; simp only [wkL] at h; exact h
  | β, .row id z lo n, y, u, h, hr => by simp only [wk] at h; subst h; exact hr
  | β, .ptr id i o, y, u, h, hr => by simp only [wk] at h; subst h; exact hr
  | β, .rp x o, y, u, h, hr => by simp only [wk] at h; subst h; exact hr
  | β, .fn f cs, y, u, h, hr => by simp only [wk] at h; subst h; exact hr
termination_by β x => (SizeOf.sizeOf x, 0)
theorem wkL_rep : ∀ (β : Nat → Option Blk) (xs ys : List AV) (us : List Value), wkL xs ys → reps w S β xs us → reps w S β ys us
  | β, [], ys, us, h, hr => by simp only [wkL] at h; subst h; exact hr
  | β, x :: xs, ys, us, h, hr => by
    simp only [wkL] at h
    obtain ⟨y, ys, rfl, h1, h2⟩ := h
    simp only [reps] at hr ⊢
    obtain ⟨v, vs, rfl, h3, h4⟩ := hr
    exact ⟨v, vs, rfl, wk_rep β x y v h1 h3, wkL_rep β xs ys vs h2 h4⟩
termination_by β xs => (SizeOf.sizeOf xs, 0)
theorem wkCells_rep : ∀ (β : Nat → Option Blk) (xs ys : List AV) (b o : Nat), wkL xs ys → repCells w S β xs b o → repCells w S β ys b o
  | β, [], ys, b, o, h, hr => by simp only [wkL] at h; subst h; exact hr
  | β, x :: xs, ys, b, o, h, hr => by
    simp only [wkL] at h
    obtain ⟨y, ys, rfl, h1, h2⟩ := h
    simp only [repCells] at hr ⊢
    obtain ⟨⟨v, h3, h4, h5⟩, h6⟩ := hr
    exact ⟨⟨v, h3, h4, wk_rep β x y v h1 h5⟩, wkCells_rep β xs ys b (o + 1) h2 h6⟩
termination_by β xs => (SizeOf.sizeOf xs, 0)
theorem wkEl_rep : ∀ (β : Nat → Option Blk) (x y : AV) (b o : Nat), wk x y → repEl w S β x b o → repEl w S β y b o
  | β, .agg a, y, b, o, h, hr => by
    simp only [wk] at h
    obtain ⟨b', rfl, h⟩ := h
    simp only [repEl] at hr ⊢
    exact wkCells_rep β a b' b o h hr
  | β, .lit v, y, b, o, h, hr => by
    rw [repEl_cells] at hr ⊢
    have hc : wkL [AV.lit v] y.cells := wk_cells h
    simp only [wkL] at hc
    obtain ⟨y', ys, e, h1, rfl⟩ := hc
    rw [e]
    simp only [AV.cells, repCells, and_true] at hr ⊢
    obtain ⟨u, h3, h4, h5⟩ := hr
    exact ⟨u, h3, h4, wk_rep β (.lit v) y' u h1 h5⟩
  | β, .sl z xs, y, b, o, h, hr => by
    rw [repEl_cells] at hr ⊢
    have hc : wkL [AV.sl z xs] y.cells := wk_cells h
    simp only [wkL] at hc
    obtain ⟨y', ys, e, h1, rfl⟩ := hc
    rw [e]
    simp only [AV.cells, repCells, and_true] at hr ⊢
    obtain ⟨u, h3, h4, h5⟩ := hr
    exact ⟨u, h3, h4, wk_rep β (.sl z xs) y' u h1 h5⟩
  | β, .tup a, y, b, o, h, hr => by
    rw [repEl_cells] at hr ⊢
    have hc : wkL [AV.tup a] y.cells := wk_cells h
    simp only [wkL] at hc
    obtain ⟨y', ys, e, h1, rfl⟩ := hc
    rw [e]
    simp only [AV.cells, repCells, and_true] at hr ⊢
    obtain ⟨u, h3, h4, h5⟩ := hr
    exact ⟨u, h3, h4, wk_rep β (.tup a) y' u h1 h5⟩
  | β, .any, y, b, o, h, hr => by simp only [wk] at h; subst h; exact hr
  | β, .row id z lo n, y, b, o, h, hr => by simp only [wk] at h; subst h; exact hr
  | β, .ptr id i o', y, b, o, h, hr => by simp only [wk] at h; subst h; exact hr
  | β, .rp x o', y, b, o, h, hr => by simp only [wk] at h; subst h; exact hr
  | β, .fn f cs, y, b, o, h, hr => by simp only [wk] at h; subst h; exact hr
termination_by β x => (SizeOf.sizeOf x, 1)
theorem wkEls_rep : ∀ (β : Nat → Option Blk) (sz : Nat) (xs ys : List AV) (b o : Nat), wkL xs ys → repEls w S β sz xs b o → repEls w S β sz ys b o
  | β, sz, [], ys, b, o, h, hr => by simp only [wkL] at h; subst h; exact hr
  | β, sz, x :: xs, ys, b, o, h, hr => by
    simp only [wkL] at h
    obtain ⟨y, ys, rfl, h1, h2⟩ := h
    simp only [repEls] at hr ⊢
    exact ⟨by rw [wkL_len _ _ (wk_cells h1)]; exact hr.1, wkEl_rep β x y b o h1 hr.2.1, wkEls_rep β sz xs ys b (o + sz) h2 hr.2.2⟩
termination_by β sz xs => (SizeOf.sizeOf xs, 0)
end
end
mutual
theorem wk_closed : ∀ (x y : AV), wk x y → y.closed = true → x.closed = true
  | .agg a, y, h, hc => by simp only [wk] at h; obtain ⟨b, rfl, h⟩ := h; simp only [AV.closed] at hc ⊢; exact wkL_closed a b h hc
  | .tup a, y, h, hc => by simp only [wk] at h; obtain ⟨b, rfl, h⟩ := h; simp only [AV.closed] at hc ⊢; exact wkL_closed a b h hc
  | .lit v, y, h, hc => rfl
  | .any, y, h, hc => rfl
  | .sl z xs, y, h, hc => rfl
  | .row id z lo n, y, h, hc => by simp only [wk] at h; subst h; exact hc
  | .ptr id i o, y, h, hc => by simp only [wk] at h; subst h; exact hc
  | .rp x o, y, h, hc => rfl
  | .fn f cs, y, h, hc => by simp only [wk] at h; subst h; exact hc
theorem wkL_closed : ∀ (xs ys : List AV), wkL xs ys → closedL ys = true → closedL xs = true
  | [], ys, h, hc => rfl
  | x :: xs, ys, h, hc => by
    simp only [wkL] at h
    obtain ⟨y, ys, rfl, h1, h2⟩ := h
    simp only [closedL, Bool.and_eq_true] at hc ⊢
    exact ⟨wk_closed x y h1 hc.1, wkL_closed xs ys h2 hc.2⟩
end

mutual
/-- Nothing but numbers, strings and the like. -/
def AV.flat : AV → Bool
  | .lit _ => true
  | .agg cs | .tup cs => flatL cs
  | _ => false
def flatL : List AV → Bool
  | [] => true
  | x :: xs => x.flat && flatL xs
end

def initV : Nat → List AV → List (Nat × AV)
  | _, [] => []
  | i, x :: xs => (i, x) :: initV (i + 1) xs
def keepV : List Nat → List (Nat × AV)
  | [] => []
  | k :: ks => (k, .any) :: keepV ks
/-- The state in which a function begins: its parameters, the variables that are kept, the objects that it is given. -/
def initS (as : List AV) (keep : List Nat) (mem : List (Nat × Ob)) : AS := ⟨initV 0 as ++ keepV keep, [], mem⟩

def resK (x : Option (Prop × List AV)) (s : AS) (K : AV → AS → Prop) : Prop :=
  match x with
  | some (p, vs) => p ∧ K (one vs) s
  | none => False
def postX (rs : List RIx) (K : AV → AS → Prop) : Ex → AS → Prop
  | .exit _, _ => False
  | _, s => resK (resE s rs) s K

section
variable {P : Program} {c : Ctx} {Γ : Cts} {tab : TT}

theorem rep_closed {w : World} {S : Nat → Prop} {β β' : Nat → Option Blk} {x : AV} {u : Value} (hx : ∀ id, x.has id = false) (h : rep w S β x u) : rep w S β' x u :=
  rep_mono (w := w) (S := S) (fun b hb => ⟨hb, rfl⟩) (fun id h _ _ => by rw [hx id] at h; cases h) h

theorem load_of {w : World} {S : Nat → Prop} {β : Nat → Option Blk} {μ : Look} (hi : Inv w S β μ) {x v : AV} {u0 : Value} {t : TypeId} {p : Prop} (hx : rep w S β x u0) (hk : tKnown P t = true) (h : ldE (tSize P t) (tAgg P t) x μ = some (p, v)) (hp : p) :
    ∃ ad u, (asAddr u0).run P w = .ok ad w ∧ (loadVar t ad).run P w = .ok u w ∧ rep w S β v u := by
  unfold ldE at h
  split at h
  · rename_i y oo
    simp only [Option.map_eq_some_iff, Prod.mk.injEq] at h
    obtain ⟨v', hv, _, rfl⟩ := h
    simp only [rep] at hx
    obtain ⟨b, k, _, hr, rfl⟩ := hx
    obtain ⟨u, hu, hru⟩ := run_loadVar_part (P := P) hk hr (part_of hv)
    exact ⟨_, u, rfl, hu, rep_of_closed β hru⟩
  · rename_i id i oo
    split at h
    · rename_i ob hob
      simp only [Option.map_eq_some_iff, Prod.mk.injEq] at h
      obtain ⟨v', hv, rfl, rfl⟩ := h
      simp only [rep] at hx
      obtain ⟨bl, hbl, rfl⟩ := hx
      have hel : ob.els[i]? = some (ob.els.getD i .any) := by simp [List.getD_eq_getElem?_getD, hp.2]
      obtain ⟨u, hu, hru⟩ := load_object (P := P) hi hbl hob hp.1 hel hk (part_of hv)
      exact ⟨_, u, rfl, hu, hru⟩
    · cases h
  · cases h

theorem mapM_results (htab : TabOk P tab) {s : AS} {a : Act} {w : World} {S : Nat → Prop} {β : Nat → Option Blk} (hi : Inv w S β (lookL s.mem)) (hs : ∀ k, rep w S β (s.look k) (a.tmps.getD k undef) ∧ (s.look k).plain) :
    ∀ (rs : List ResultVar) (p : Prop) (vs : List AV), resE s (rs.map (rixOf tab)) = some (p, vs) → p → ∃ us, reps w S β vs us ∧
      (rs.mapM (fun | .tmp t => pure (a.tmps.getD t undef) | .cell x t => do loadVar t (← asAddr (a.tmps.getD x undef)) : ResultVar → Sem Value)).run P w = .ok us w
  | [], p, vs, h, hp => by
    simp only [List.map_nil, resE, Option.some.injEq, Prod.mk.injEq] at h
    obtain ⟨_, rfl⟩ := h
    exact ⟨[], by simp [reps], by simp⟩
  | .tmp t :: r, p, vs, h, hp => by
    simp only [List.map_cons, rixOf, resE, Option.map_eq_some_iff, Prod.mk.injEq, Prod.exists] at h
    obtain ⟨p', vs', h, rfl, rfl⟩ := h
    obtain ⟨us, hr, hrun⟩ := mapM_results htab hi hs r _ _ h hp
    refine ⟨_, by simp only [reps]; exact ⟨_, _, rfl, (hs t).1, hr⟩, ?_⟩
    simp only [List.mapM_cons, Sem.run_bind, Sem.run_pure, Result.andThen_ok, hrun]
  | .cell x t :: r, p, vs, h, hp => by
    simp only [List.map_cons, rixOf] at h
    cases ht : tab.find t with
    | none => rw [ht] at h; simp [resE] at h
    | some ti =>
      rw [ht] at h
      simp only [resE, Option.bind_eq_some_iff, Option.map_eq_some_iff, Prod.mk.injEq, Prod.exists] at h
      obtain ⟨p1, v1, hl, p', vs', h, rfl, rfl⟩ := h
      obtain ⟨hk, hsz, hag, _⟩ := find_info htab ht
      rw [hsz, hag] at hl
      obtain ⟨us, hr, hrun⟩ := mapM_results htab hi hs r _ _ h hp.2
      obtain ⟨ad, u, had, hu, hru⟩ := load_of (P := P) hi (hs x).1 hk hl hp.1
      refine ⟨_, by simp only [reps]; exact ⟨_, _, rfl, hru, hr⟩, ?_⟩
      simp only [List.mapM_cons, Sem.run_bind, Sem.run_pure, Result.andThen_ok, had, hu, hrun]

theorem results_sound (htab : TabOk P tab) {fn : Func} {s : AS} {a : Act} {w : World} {S : Nat → Prop} {β : Nat → Option Blk} (hi : Inv w S β (lookL s.mem)) (hs : ∀ k, rep w S β (s.look k) (a.tmps.getD k undef) ∧ (s.look k).plain)
    {K : AV → AS → Prop} (h : resK (resE s (fn.results.toList.map (rixOf tab))) s K) : ∃ v u, K v s ∧ rep w S β v u ∧ (results fn a.tmps).run P w = .ok u w := by
  unfold resK at h
  split at h
  · rename_i p vs he
    obtain ⟨hp, hk⟩ := h
    obtain ⟨us, hr, hrun⟩ := mapM_results htab hi hs fn.results.toList _ _ he hp
    have hm : (fn.results.mapM (fun | .tmp t => pure (a.tmps.getD t undef) | .cell x t => do loadVar t (← asAddr (a.tmps.getD x undef)) : ResultVar → Sem Value)).run P w = .ok us.toArray w := by
      rw [Array.mapM_eq_mapM_toList]
      simp only [Sem.run_map, hrun, Result.andThen_ok]
    have hl := reps_length hr
    refine ⟨one vs, if h : us.toArray.size = 1 then us.toArray[0] else .tuple us.toArray, hk, ?_, ?_⟩
    · cases vs with
      | nil => simp only [reps] at hr; subst hr; simp only [one, rep]; exact ⟨[], by simp, by simp [reps]⟩
      | cons v r =>
        cases r with
        | nil =>
          simp only [reps] at hr
          obtain ⟨u, us', rfl, h1, rfl⟩ := hr
          simpa [one] using h1
        | cons v' r' =>
          simp only [List.length_cons] at hl
          rw [dif_neg (by simp; omega)]
          simp only [one, rep]
          exact ⟨us, rfl, hr⟩
    · unfold results
      simp only [Sem.run_bind]
      erw [hm]
      simp only [Result.andThen_ok, Sem.run_pure]
  · exact h.elim
end
end Go.Ax
