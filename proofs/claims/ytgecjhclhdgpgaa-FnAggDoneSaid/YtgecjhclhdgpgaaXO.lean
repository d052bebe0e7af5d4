import Derived.Test.YtgecjhclhdgpgaaXN
set_option linter.unusedVariables false
set_option linter.unusedSimpArgs false
namespace Go.Ax
open Go

section
variable {P : Program} {c : Ctx} {Γ : Cts} {tab : TT}

/-- Stable, or of the call's own. -/
def SO (S : Nat → Prop) (β : Nat → Option Blk) (μ : Look) (b : Nat) : Prop := S b ∨ ∃ id ob bl, μ id = some ob ∧ rdable ob.cl ob.dd = true ∧ β id = some bl ∧ bl.cap ≠ 0 ∧ bl.b = b

/-- What is read of an object that can be read. -/
theorem rowAt_rd {w : World} {S : Nat → Prop} {β : Nat → Option Blk} {μ : Look} (hi : Inv w S β μ) {id : Nat} {ob : Ob} {bl : Blk} (hm : μ id = some ob) (hr : rdable ob.cl ob.dd = true) (hb : β id = some bl) :
    ob.sz = bl.sz ∧ ob.els.length ≤ bl.cap ∧ bl.cap ≤ maxLen ∧ (bl.cap ≠ 0 → RowAt w S β0 bl ob.els) := by
  cases hd : ob.dd with
  | false =>
    have hcl : ob.cl = true := by cases hc : ob.cl <;> simp_all [rdable]
    obtain ⟨g1, g2, g3, g4⟩ := hi.obs id ob bl hm hd hb
    exact ⟨g1, g2, g3, fun h => by have := g4 h; rw [hcl] at this; exact this⟩
  | true =>
    have hcl : ob.cl = false := by cases hc : ob.cl <;> simp_all [rdable]
    obtain ⟨g1, g2, g3, g4⟩ := hi.fzs id ob bl hm hd hcl hb
    exact ⟨g1, g2, g3, fun h => (g4 h).2⟩

theorem frz_repH {w : World} {S S' : Nat → Prop} {β : Nat → Option Blk} {μ μ' : Look} (hi : Inv w S β μ) (hS : ∀ b, S b → S' b) (hμ : ∀ id ob, μ' id = some ob → μ id = some ob) :
    (∀ (x : AV) (u : Value), (∀ id ob bl, x.has id = true → μ' id = some ob → rdable ob.cl ob.dd = true → β id = some bl → bl.cap ≠ 0 → S' bl.b) → rep w S β x u → rep w S' β0 (frz μ' x) u) := by
  have hS2 : ∀ b, S b → S' b ∧ w.heap[b]? = w.heap[b]? := fun b hb => ⟨hS b hb, rfl⟩
  refine fun x u => (rep.mutual_induct (motive1 := fun β' x u => β' = β → (∀ id ob bl, x.has id = true → μ' id = some ob → rdable ob.cl ob.dd = true → β id = some bl → bl.cap ≠ 0 → S' bl.b) → rep w S β' x u → rep w S' β0 (frz μ' x) u) (motive2 := fun _ _ _ _ => True) (motive3 := fun _ _ _ _ => True) (motive4 := fun _ _ _ _ _ => True)
    (motive5 := fun β' xs us => β' = β → (∀ id ob bl, hasL id xs = true → μ' id = some ob → rdable ob.cl ob.dd = true → β id = some bl → bl.cap ≠ 0 → S' bl.b) → reps w S β' xs us → reps w S' β0 (frzL μ' xs) us) ?_ ?_ ?_ ?_ ?_ ?_ ?_ ?_ ?_ ?_ ?_ ?_ ?_ ?_ ?_ ?_ ?_).1 β x u rfl
  · rintro _ v u rfl _ h; simpa [rep, frz] using h
  · rintro _ u rfl _ h; simp [rep, frz]
  · rintro _ cs u ih rfl F h
    simp only [rep, frz] at h ⊢
    obtain ⟨us, rfl, h1, h⟩ := h
    exact ⟨us, rfl, h1, ih us rfl (fun id ob bl hid => F id ob bl (by simpa [AV.has] using hid)) h⟩
  · rintro _ sz xs u ih rfl _ h; simp only [frz]; exact rep_mono hS2 (fun id hi => by simp [AV.has] at hi) h
  · rintro _ id sz lo n u rfl F h
    simp only [rep, frz] at h ⊢
    obtain ⟨bl, a, hbl, rfl, hcap, rfl, ha⟩ := h
    cases hm : μ' id with
    | none => simp [rep]
    | some ob =>
      simp only
      split
      · rename_i hcl
        obtain ⟨hcl, hle⟩ := hcl
        obtain ⟨g1, g2, g3, g4⟩ := rowAt_rd hi (hμ _ _ hm) hcl hbl
        simp only [rep]
        have hlen : ((ob.els.drop lo).take n).length = n := by rw [List.length_take, List.length_drop]; omega
        refine ⟨a, bl.cap - lo, by rw [hlen], ⟨by omega, by omega⟩, ?_⟩
        by_cases hn : n = 0
        · left; subst hn; simp
        · right
          have hc : bl.cap ≠ 0 := by omega
          obtain ⟨c0, ty0, g4, g5, g6⟩ := g4 hc
          exact ⟨bl.b, _, ha (by omega), F id ob bl (by simp [AV.has]) hm hcl hbl hc, (rep_mono_all hS2).2.2.2.1 _ _ _ _ _ rfl β0 (fun _ _ _ h => h) (repEls_take n _ _ (repEls_drop lo _ _ g6 (by omega)))⟩
      · simp [rep]
  · rintro _ id i o u rfl _ h; simp [rep, frz]
  · rintro _ x o u ih rfl _ h; simp only [frz]; exact rep_mono hS2 (fun id hi => by simp [AV.has] at hi) h
  · rintro _ f cs u ih rfl _ h; simp [rep, frz]
  · rintro _ cs u ih rfl F h
    simp only [rep, frz] at h ⊢
    obtain ⟨us, rfl, h⟩ := h
    exact ⟨us, rfl, ih us rfl (fun id ob bl hid => F id ob bl (by simpa [AV.has] using hid)) h⟩
  · intros; trivial
  · intros; trivial
  · intros; trivial
  · intros; trivial
  · intros; trivial
  · intros; trivial
  · rintro _ us rfl _ h; simpa [reps, frzL] using h
  · rintro _ x xs us ih1 ih2 rfl F h
    simp only [reps, frzL] at h ⊢
    obtain ⟨v, vs, rfl, h1, h2⟩ := h
    exact ⟨v, vs, rfl, ih1 v rfl (fun id ob bl hid => F id ob bl (by simp [hasL, hid])) h1, ih2 vs rfl (fun id ob bl hid => F id ob bl (by simp [hasL, hid])) h2⟩

theorem frz_rep' {w : World} {S S' : Nat → Prop} {β : Nat → Option Blk} {μ : Look} (hi : Inv w S β μ) (hS : ∀ b, S b → S' b) :
    (∀ (x : AV) (u : Value), (∀ id ob bl, x.has id = true → μ id = some ob → rdable ob.cl ob.dd = true → β id = some bl → bl.cap ≠ 0 → S' bl.b) → rep w S β x u → rep w S' β0 (frz μ x) u) := frz_repH hi hS (fun _ _ h => h)

theorem frz_rep {w : World} {S : Nat → Prop} {β : Nat → Option Blk} {μ : Look} (hi : Inv w S β μ) : ∀ (x : AV) (u : Value), rep w S β x u → rep w (SO S β μ) β0 (frz μ x) u :=
  fun x u => frz_rep' hi (fun b hb => .inl hb) x u (fun id ob bl _ hm hr hb hc => .inr ⟨id, ob, bl, hm, hr, hb, hc, rfl⟩)

theorem flat_rep {w w' : World} {S S' : Nat → Prop} {β β' : Nat → Option Blk} : ∀ (x : AV) (u : Value), rep w S β x u → x.flat = true → rep w' S' β' x u := by
  refine (rep.mutual_induct (motive1 := fun β x u => rep w S β x u → x.flat = true → rep w' S' β' x u) (motive2 := fun _ _ _ _ => True) (motive3 := fun _ _ _ _ => True) (motive4 := fun _ _ _ _ _ => True)
    (motive5 := fun β xs us => reps w S β xs us → flatL xs = true → reps w' S' β' xs us) ?_ ?_ ?_ ?_ ?_ ?_ ?_ ?_ ?_ ?_ ?_ ?_ ?_ ?_ ?_ ?_ ?_).1 β
  · intro _ v u h _; simpa [rep] using h
  · intro _ u h hf; cases hf
  · intro _ cs u ih h hf
    simp only [rep, AV.flat] at h hf ⊢
    obtain ⟨us, rfl, h1, h⟩ := h
    exact ⟨us, rfl, h1, ih us h hf⟩
  · intro _ sz xs u ih h hf; cases hf
  · intro _ id sz lo n u h hf; cases hf
  · intro _ id i o u h hf; cases hf
  · intro _ x o u ih h hf; cases hf
  · intro _ f cs u ih h hf; cases hf
  · intro _ cs u ih h hf
    simp only [rep, AV.flat] at h hf ⊢
    obtain ⟨us, rfl, h⟩ := h
    exact ⟨us, rfl, ih us h hf⟩
  · intros; trivial
  · intros; trivial
  · intros; trivial
  · intros; trivial
  · intros; trivial
  · intros; trivial
  · intro _ us h _; simpa [reps] using h
  · intro _ x xs us ih1 ih2 h hf
    simp only [reps, flatL, Bool.and_eq_true] at h hf ⊢
    obtain ⟨v, vs, rfl, h1, h2⟩ := h
    exact ⟨v, vs, rfl, ih1 v h1 hf.1, ih2 vs h2 hf.2⟩

theorem frzL_repsH {w : World} {S S' : Nat → Prop} {β : Nat → Option Blk} {μ μ' : Look} (hi : Inv w S β μ) (hS : ∀ b, S b → S' b) (hμ : ∀ id ob, μ' id = some ob → μ id = some ob) : ∀ (xs : List AV) (us : List Value), (∀ id ob bl, hasL id xs = true → μ' id = some ob → rdable ob.cl ob.dd = true → β id = some bl → bl.cap ≠ 0 → S' bl.b) → reps w S β xs us → reps w S' β0 (frzL μ' xs) us
  | [], us, _, h => by simpa [reps, frzL] using h
  | x :: xs, us, F, h => by
    simp only [reps, frzL] at h ⊢
    obtain ⟨v, vs, rfl, h1, h2⟩ := h
    exact ⟨v, vs, rfl, frz_repH hi hS hμ x v (fun id ob bl hid => F id ob bl (by simp [hasL, hid])) h1, frzL_repsH hi hS hμ xs vs (fun id ob bl hid => F id ob bl (by simp [hasL, hid])) h2⟩
theorem frzL_reps' {w : World} {S S' : Nat → Prop} {β : Nat → Option Blk} {μ : Look} (hi : Inv w S β μ) (hS : ∀ b, S b → S' b) : ∀ (xs : List AV) (us : List Value), (∀ id ob bl, hasL id xs = true → μ id = some ob → rdable ob.cl ob.dd = true → β id = some bl → bl.cap ≠ 0 → S' bl.b) → reps w S β xs us → reps w S' β0 (frzL μ xs) us := frzL_repsH hi hS (fun _ _ h => h)
theorem frzL_reps {w : World} {S : Nat → Prop} {β : Nat → Option Blk} {μ : Look} (hi : Inv w S β μ) (xs : List AV) (us : List Value) (h : reps w S β xs us) : reps w (SO S β μ) β0 (frzL μ xs) us :=
  frzL_reps' hi (fun b hb => .inl hb) xs us (fun id ob bl _ hm hr hb hc => .inr ⟨id, ob, bl, hm, hr, hb, hc, rfl⟩) h

theorem frz_plain (lk : Look) (x : AV) (h : x.plain) : (frz lk x).plain := by
  cases x with
  | row id sz lo n =>
    intro v e
    simp only [frz] at e
    split at e
    · split at e <;> cases e
    · cases e
  | lit v => exact h
  | _ => intro v e; simp [frz] at e

theorem frzL_plain (lk : Look) : ∀ (xs : List AV), (∀ x ∈ xs, x.plain) → ∀ x ∈ frzL lk xs, x.plain
  | [], _, x, hx => by simp [frzL] at hx
  | y :: ys, h, x, hx => by
    simp only [frzL, List.mem_cons] at hx
    rcases hx with rfl | hx
    · exact frz_plain lk y (h y (by simp))
    · exact frzL_plain lk ys (fun z hz => h z (by simp [hz])) x hx


theorem initV_look (as : List AV) (i k : Nat) : lookL (initV i as) k = if k < i then none else as[k - i]? := by
  induction as generalizing i with
  | nil => simp [initV, lookL]
  | cons x xs ih =>
    simp only [initV, lookL, ih]
    by_cases e : i = k
    · subst e; simp
    · rw [if_neg e]
      by_cases h : k < i
      · simp [h, show k < i + 1 by omega]
      · rw [if_neg (by omega), if_neg h]
        rw [show k - i = (k - (i + 1)) + 1 from by omega]
        simp

theorem lookL_append {α : Type} (a b : List (Nat × α)) (k : Nat) : lookL (a ++ b) k = match lookL a k with | some v => some v | none => lookL b k := by
  induction a with
  | nil => rfl
  | cons p r ih =>
    obtain ⟨j, v⟩ := p
    simp only [List.cons_append, lookL]
    split
    · rfl
    · exact ih

theorem initS_look (as : List AV) (keep : List Nat) (mem : List (Nat × Ob)) (k : Nat) : (initS as keep mem).look k = (as[k]?).getD .any := by
  have hk : ∀ ks : List Nat, lookL (keepV ks) k = none ∨ lookL (keepV ks) k = some .any := by
    intro ks
    induction ks with
    | nil => simp [lookL, keepV]
    | cons x r ih =>
      simp only [keepV, lookL]
      split
      · simp
      · exact ih
  unfold AS.look initS
  simp only [lookL_append, initV_look, Nat.not_lt_zero, if_false, Nat.sub_zero]
  cases h : as[k]? with
  | some v => simp
  | none =>
    simp only [Option.getD_none]
    rcases hk keep with h | h <;> rw [h] <;> simp [lookL]

theorem init_rep {w : World} {S : Nat → Prop} {β : Nat → Option Blk} {as : List AV} {us : List Value} {keep : List Nat} {mem : List (Nat × Ob)} {n : Nat} (hr : reps w S β as us) (hp : ∀ x ∈ as, x.plain) (hn : us.length ≤ n) :
    (∀ k, rep w S β ((initS as keep mem).look k) ((us.toArray ++ Array.replicate (n - us.toArray.size) undef).getD k undef) ∧ ((initS as keep mem).look k).plain) ∧ (us.toArray ++ Array.replicate (n - us.toArray.size) undef).size = n := by
  refine ⟨fun k => ?_, by simp; omega⟩
  rw [initS_look]
  have hl := reps_length hr
  cases h : as[k]? with
  | none => exact ⟨by simp [rep], plain_any⟩
  | some x =>
    obtain ⟨u, hu, hru⟩ := reps_get hr k x h
    have hlt : k < us.length := (List.getElem?_eq_some_iff.1 hu).1
    refine ⟨?_, hp x (List.mem_of_getElem? h)⟩
    have : (us.toArray ++ Array.replicate (n - us.toArray.size) undef)[k]? = some u := by
      rw [Array.getElem?_append_left (by simpa using hlt)]
      simpa using hu
    simp only [Array.getD_eq_getD_getElem?, this, Option.getD_some]
    exact hru

/-- A function that is given values, and hands back a value. -/
structure FnAt (P : Program) (tab : TT) (N : FuncId) (fn : Func) (code : Code) : Prop where
  func : P.funcs[N]? = some fn
  body : fn.body = some code
  call : ∀ args w, (callFunc N args).run P w = .ok (.enter N args) w
  fits : codeFits fn.ntmps code = true
  params : fn.params.size ≤ fn.ntmps
  draws : drawsOk tab code = true
  mix : P.follows .mixedOrders = true

/-- A function's body, from a state of objects that it is given. -/
theorem body_sound (htab : TabOk P tab) (hΓ : GOk P Γ) {N : FuncId} {fn : Func} {code : Code} (hf : FnAt P tab N fn code) (keep : List Nat) (mem : List (Nat × Ob)) {as : List AV} {us : List Value} {w : World} {S : Nat → Prop} {β pin : Nat → Option Blk} {K : AV → AS → Prop}
    (hi : Inv w S β (lookL mem)) (hpin : ∀ id bl, pin id = some bl → id % 2 = 1 ∧ β id = some bl) (hr : reps w S β as us) (hp : ∀ x ∈ as, x.plain) (hn : as.length ≤ fn.ntmps)
    (h : run Γ [.code (comp tab code)] (initS as keep mem) (postX (fn.results.toList.map (rixOf tab)) K)) :
    CallOk P N us.toArray w fun u w' => ∃ s S' β' v, K v s ∧ Inv w' S' β' (lookL s.mem) ∧ rep w' S' β' v u ∧ Ext w S (Own β) w' S' ∧ (∀ id bl, β' id = some bl → Own β bl.b ∨ w.heap.size ≤ bl.b) ∧ (∀ id bl, pin id = some bl → β' id = some bl) := by
  unfold CallOk
  rw [hf.call]
  simp only
  have hl := reps_length hr
  obtain ⟨h2, h3⟩ := init_rep (keep := keep) (mem := mem) (n := fn.ntmps) hr hp (by omega)
  refine calls_of_wp hf.func hf.body ?_
  refine wp_mono (iCode_sound (c := ⟨w, S, Own β, fn.ntmps, pin, fun id bl h => (hpin id bl h).1⟩) htab hΓ hf.mix code _ _ _ _ hf.fits hf.draws (run_code _ h) ⟨S, β, hi, h2, h3, rfl, Ext.refl _ _ _, fun id bl h => .inl ⟨id, bl, h, rfl⟩, fun id bl h => (hpin id bl h).2⟩) ?_
  intro e a' w' hq
  have fin : ∀ s', resK (resE s' (fn.results.toList.map (rixOf tab))) s' K → RepS ⟨w, S, Own β, fn.ntmps, pin, fun id bl h => (hpin id bl h).1⟩ s' a' w' →
      a'.defers = [] ∧ ∃ v, (results fn a'.tmps).run P w' = .ok v w' ∧ ∃ u, Ending.returned v = .returned u ∧ ∃ s S' β' v, K v s ∧ Inv w' S' β' (lookL s.mem) ∧ rep w' S' β' v u ∧ Ext w S (Own β) w' S' ∧ (∀ id bl, β' id = some bl → Own β bl.b ∨ w.heap.size ≤ bl.b) ∧ (∀ id bl, pin id = some bl → β' id = some bl) := by
    intro s' hk ⟨S', β', g1, g2, g3, g4, g5, g6, g7⟩
    obtain ⟨v, u, hv, hru, hrun⟩ := results_sound htab (fn := fn) g1 g2 hk
    exact ⟨g4, u, hrun, u, rfl, s', S', β', v, hv, g1, hru, g5, g6, g7⟩
  cases e with
  | normal => obtain ⟨s', hq, hs'⟩ := hq; exact fin s' hq hs'
  | ret => obtain ⟨s', hq, hs'⟩ := hq; exact fin s' hq hs'
  | exit id => obtain ⟨s', hq, hs'⟩ := hq; exact hq.elim
  | goto l => exact hq.elim
  | panic ch => exact hq.elim
  | outgrown => exact hq.elim

theorem CallOk.mono {N : FuncId} {us : Array Value} {w : World} {R R' : Value → World → Prop} (h : CallOk P N us w R) (hr : ∀ u w', R u w' → R' u w') : CallOk P N us w R' := by
  unfold CallOk at *
  split at h
  · exact Calls.mono h (fun e w' ⟨u, he, hu⟩ => ⟨u, he, hr u w' hu⟩)
  · exact hr _ _ h
  · exact h.elim

/-! ## lengths -/
mutual
/-- Every slice in it is short enough to be. -/
def AV.bnd : AV → Prop
  | .sl _ xs => xs.length ≤ maxLen ∧ bndL xs
  | .agg cs | .tup cs => bndL cs
  | _ => True
def bndL : List AV → Prop
  | [] => True
  | x :: xs => x.bnd ∧ bndL xs
end

theorem rep_bnd_all {w : World} {S : Nat → Prop} :
    (∀ (β : Nat → Option Blk) (x : AV) (u : Value), rep w S β x u → x.bnd) ∧
    (∀ (β : Nat → Option Blk) (x : AV) (b o : Nat), repEl w S β x b o → x.bnd) ∧
    (∀ (β : Nat → Option Blk) (xs : List AV) (b o : Nat), repCells w S β xs b o → bndL xs) ∧
    (∀ (β : Nat → Option Blk) (sz : Nat) (xs : List AV) (b o : Nat), repEls w S β sz xs b o → bndL xs) ∧
    (∀ (β : Nat → Option Blk) (xs : List AV) (us : List Value), reps w S β xs us → bndL xs) := by
  apply rep.mutual_induct (motive1 := fun β x u => rep w S β x u → x.bnd) (motive2 := fun β x b o => repEl w S β x b o → x.bnd) (motive3 := fun β xs b o => repCells w S β xs b o → bndL xs)
    (motive4 := fun β sz xs b o => repEls w S β sz xs b o → bndL xs) (motive5 := fun β xs us => reps w S β xs us → bndL xs)
  case case3 => intro β cs u ih h; simp only [rep] at h; obtain ⟨us, rfl, _, h⟩ := h; simp only [AV.bnd]; exact ih us h
  case case4 =>
    intro β sz xs u ih h
    simp only [rep] at h
    obtain ⟨a, cap, rfl, hc, h⟩ := h
    simp only [AV.bnd]
    refine ⟨by omega, ?_⟩
    rcases h with rfl | ⟨b, o, rfl, _, h⟩
    · simp [bndL]
    · exact ih b o h
  case case9 => intro β cs u ih h; simp only [rep] at h; obtain ⟨us, rfl, h⟩ := h; simp only [AV.bnd]; exact ih us h
  case case10 => intro β cs b o ih h; simp only [repEl] at h; simp only [AV.bnd]; exact ih h
  case case11 =>
    intro β x b o hx ih h
    rw [repEl] at h
    · obtain ⟨v, _, _, h⟩ := h; exact ih v h
    · exact hx
  case case13 =>
    intro β x xs b o ih1 ih2 h
    simp only [repCells] at h
    obtain ⟨⟨v, _, _, h1⟩, h2⟩ := h
    exact ⟨ih1 v h1, ih2 h2⟩
  case case15 =>
    intro β sz x xs b o ih1 ih2 h
    simp only [repEls] at h
    exact ⟨ih1 h.2.1, ih2 h.2.2⟩
  case case17 =>
    intro β x xs us ih1 ih2 h
    simp only [reps] at h
    obtain ⟨v, vs, rfl, h1, h2⟩ := h
    exact ⟨ih1 v h1, ih2 vs h2⟩
  all_goals (intros; simp [AV.bnd, bndL])

/-! ## contracts -/
mutual
theorem frz_congr {μ μ' : Look} : ∀ x : AV, (∀ id ∈ x.names, μ id = μ' id) → frz μ x = frz μ' x
  | .row id sz lo n, h => by simp only [frz, h id (by simp [AV.names])]
  | .agg cs, h => by simp only [frz, frzL_congr cs h]
  | .tup cs, h => by simp only [frz, frzL_congr cs h]
  | .ptr _ _ _, _ => rfl
  | .fn _ _, _ => rfl
  | .lit _, _ => rfl
  | .any, _ => rfl
  | .sl _ _, _ => rfl
  | .rp _ _, _ => rfl
theorem frzL_congr {μ μ' : Look} : ∀ xs : List AV, (∀ id ∈ namesL xs, μ id = μ' id) → frzL μ xs = frzL μ' xs
  | [], _ => rfl
  | x :: xs, h => by
    simp only [namesL, List.mem_append] at h
    simp only [frzL, frz_congr x (fun id hid => h id (.inl hid)), frzL_congr xs (fun id hid => h id (.inr hid))]
end

theorem inv_none {w : World} {S : Nat → Prop} (hS : ∀ b, S b → b < w.heap.size) : Inv w S β0 (lookL []) :=
  ⟨fun id => by simp [lookL, β0], fun id ob bl h => by simp [lookL] at h, fun id ob bl h => by simp [lookL] at h, fun i j oi oj bi bj h => by simp [lookL] at h, fun id ob bl h => by simp [lookL] at h, hS⟩

theorem SO_lt {w : World} {S : Nat → Prop} {β : Nat → Option Blk} {μ : Look} (hi : Inv w S β μ) : ∀ b, SO S β μ b → b < w.heap.size := by
  rintro b (hb | ⟨id, ob, bl, hob, hr, hbl, hc, rfl⟩)
  · exact hi.slt b hb
  · obtain ⟨c, ty, h, _⟩ := (rowAt_rd hi hob hr hbl).2.2.2 hc
    exact (Array.getElem?_eq_some_iff.1 h).1

theorem own0 (b : Nat) : ¬ Own β0 b := fun ⟨id, bl, h, _⟩ => by simp [β0] at h

theorem body_plain (htab : TabOk P tab) (hΓ : GOk P Γ) {N : FuncId} {fn : Func} {code : Code} (hf : FnAt P tab N fn code) (keep : List Nat) {as : List AV} {us : List Value} {w : World} {S : Nat → Prop} {K : AV → AS → Prop}
    (hS : ∀ b, S b → b < w.heap.size) (hr : reps w S β0 as us) (hp : ∀ x ∈ as, x.plain) (hn : as.length ≤ fn.ntmps)
    (h : run Γ [.code (comp tab code)] (initS as keep []) (postX (fn.results.toList.map (rixOf tab)) K)) :
    CallOk P N us.toArray w fun u w' => ∃ s S' β' v, K v s ∧ Inv w' S' β' (lookL s.mem) ∧ rep w' S' β' v u ∧ Ext w S (fun _ => False) w' S' ∧ (∀ id bl, β' id = some bl → w.heap.size ≤ bl.b) := by
  refine (body_sound htab hΓ hf keep [] (pin := β0) (inv_none hS) (fun id bl h => by simp [β0] at h) hr hp hn h).mono ?_
  rintro u w' ⟨s, S', β', v, hv, g1, g2, g3, g4, _⟩
  exact ⟨s, S', β', v, hv, g1, g2, ⟨g3.os, g3.tape, g3.output, g3.size, g3.sub, fun b hb _ => g3.keep b hb (own0 b), fun b hb => (g3.fresh b hb).imp id (fun h => h.imp (fun h => (own0 b h).elim) id)⟩, fun id bl h => (g4 id bl h).resolve_left (own0 _)⟩
end
end Go.Ax
