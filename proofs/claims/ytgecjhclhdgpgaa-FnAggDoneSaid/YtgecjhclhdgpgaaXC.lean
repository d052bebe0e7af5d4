import Derived.Test.YtgecjhclhdgpgaaXB
import Derived.RowKit3
set_option linter.unusedVariables false
set_option linter.unusedSimpArgs false
namespace Go.Ax
open Go

mutual
theorem closed_has : ∀ (x : AV), x.closed = true → ∀ id, x.has id = false
  | .lit _, _, _ => rfl
  | .any, _, _ => rfl
  | .agg cs, h, id => by simp only [AV.closed] at h; simp only [AV.has]; exact closedL_has cs h id
  | .sl _ _, _, _ => rfl
  | .row _ _ _ _, h, _ => by cases h
  | .ptr _ _ _, h, _ => by cases h
  | .rp _ _, _, _ => rfl
  | .fn _ cs, h, id => by simp only [AV.closed] at h; simp only [AV.has]; exact closedL_has cs h id
  | .tup cs, h, id => by simp only [AV.closed] at h; simp only [AV.has]; exact closedL_has cs h id
theorem closedL_has : ∀ (xs : List AV), closedL xs = true → ∀ id, hasL id xs = false
  | [], _, _ => rfl
  | x :: xs, h, id => by
    simp only [closedL, Bool.and_eq_true] at h
    simp only [hasL, closed_has x h.1 id, closedL_has xs h.2 id, Bool.or_self]
end
theorem closed_cells {x : AV} (h : x.closed = true) (id : Nat) : hasL id x.cells = false := by
  have := closed_has x h id
  cases x <;> simp_all [AV.cells, hasL, AV.has]

section
variable {P : Program} {w : World} {S : Nat → Prop} {β : Nat → Option Blk}

theorem info_of_known {t : TypeId} (h : tKnown P t = true) : ∃ i d, P.info? t = some i ∧ P.underlying t = some d ∧ tSize P t = i.size := by
  unfold tKnown at h
  simp only [Bool.and_eq_true, Option.isSome_iff_exists] at h
  obtain ⟨⟨i, hi⟩, d, hd⟩ := h
  exact ⟨i, d, hi, hd, by simp [tSize, hi]⟩

theorem run_sizeOf {t : TypeId} {i : TypeInfo} (h : P.info? t = some i) (w : World) : (Go.sizeOf t).run P w = .ok i.size w := by simp [Go.sizeOf, typeInfo, h]
theorem run_isAgg {t : TypeId} {d : TypeDesc} (h : P.underlying t = some d) (w : World) : (isAgg t).run P w = .ok (tAgg P t) w := by
  unfold isAgg tAgg
  simp only [Sem.run_bind, run_underlying h, Result.andThen_ok, h]
  cases d <;> rfl

theorem reps_length {xs : List AV} {us : List Value} (h : reps w S β xs us) : us.length = xs.length := by
  induction xs generalizing us with
  | nil => simp [reps] at h; simp [h]
  | cons x xs ih => simp only [reps] at h; obtain ⟨v, vs, rfl, _, h⟩ := h; simp [ih h]

theorem reps_get {xs : List AV} {us : List Value} (h : reps w S β xs us) (i : Nat) (x : AV) (hx : xs[i]? = some x) : ∃ u, us[i]? = some u ∧ rep w S β x u := by
  induction xs generalizing us i with
  | nil => simp at hx
  | cons y xs ih =>
    simp only [reps] at h; obtain ⟨v, vs, rfl, h1, h2⟩ := h
    cases i with
    | zero => simp at hx; subst hx; exact ⟨v, by simp, h1⟩
    | succ i => simp at hx; simpa using ih h2 i hx

theorem reps_append {xs ys : List AV} {us vs : List Value} (h : reps w S β xs us) (h' : reps w S β ys vs) : reps w S β (xs ++ ys) (us ++ vs) := by
  induction xs generalizing us with
  | nil => simp [reps] at h; simpa [h] using h'
  | cons x xs ih => simp only [reps] at h; obtain ⟨v, vs', rfl, h1, h2⟩ := h; simp only [List.cons_append, reps]; exact ⟨v, vs' ++ vs, rfl, h1, ih h2⟩

theorem reps_drop {xs : List AV} {us : List Value} (h : reps w S β xs us) (n : Nat) : reps w S β (xs.drop n) (us.drop n) := by
  induction n generalizing xs us with
  | zero => simpa using h
  | succ n ih =>
    cases xs with
    | nil => simp [reps] at h; simp [h, reps]
    | cons x xs => simp only [reps] at h; obtain ⟨v, vs, rfl, h1, h2⟩ := h; simpa using ih h2

theorem reps_take {xs : List AV} {us : List Value} (h : reps w S β xs us) (n : Nat) : reps w S β (xs.take n) (us.take n) := by
  induction n generalizing xs us with
  | zero => simp [reps]
  | succ n ih =>
    cases xs with
    | nil => simp [reps] at h; simp [h, reps]
    | cons x xs => simp only [reps] at h; obtain ⟨v, vs, rfl, h1, h2⟩ := h; simp only [List.take_succ_cons, reps]; exact ⟨v, _, rfl, h1, ih h2⟩

theorem reps_map_lit (vs : List Value) (h : ∀ v ∈ vs, v.oneCell' = true) : reps w S β (vs.map .lit) vs := by
  induction vs with
  | nil => simp [reps]
  | cons v vs ih => simp only [List.map_cons, reps]; exact ⟨v, vs, rfl, by simp [rep, h v (by simp)], ih (fun u hu => h u (by simp [hu]))⟩

theorem rep_ofVal (v : Value) (h : v.cells.all (·.oneCell') = true) : rep w S β (ofVal v) v := by
  rw [Array.all_eq_true_iff_forall_mem] at h
  cases v <;> simp only [ofVal, rep]
  case agg cs =>
    have h1 : ∀ c ∈ cs.toList, c.oneCell' = true := by simpa [Value.cells] using h
    exact ⟨_, by simp, h1, reps_map_lit _ h1⟩
  all_goals (refine ⟨by first | rfl | trivial, ?_⟩; first | rfl | exact h _ (by simp [Value.cells]))

/-- A value's cells are read as the abstract value's. -/
theorem rep_cells {x : AV} {u : Value} (hx : x ≠ .any) (h : rep w S β x u) (hl : ∀ v, x = .lit v → v.oneCell' = true) : reps w S β x.cells u.cells.toList := by
  cases x with
  | agg cs => simp only [rep] at h; obtain ⟨us, rfl, _, h⟩ := h; simpa [AV.cells, Value.cells] using h
  | lit v =>
    simp only [rep] at h; obtain ⟨rfl, _⟩ := h
    have := hl u rfl
    cases u <;> simp_all [AV.cells, Value.cells, reps, rep, Value.oneCell']
  | any => exact absurd rfl hx
  | sl sz xs => have h0 := h; simp only [rep] at h; obtain ⟨a, cap, rfl, _⟩ := h; simpa [AV.cells, Value.cells, reps] using h0
  | row id sz lo n => have h0 := h; simp only [rep] at h; obtain ⟨bl, a, _, rfl, _⟩ := h; simpa [AV.cells, Value.cells, reps] using h0
  | ptr id i o => have h0 := h; simp only [rep] at h; obtain ⟨bl, _, rfl⟩ := h; simpa [AV.cells, Value.cells, reps] using h0
  | rp x o => have h0 := h; simp only [rep] at h; obtain ⟨b, k, _, _, rfl⟩ := h; simpa [AV.cells, Value.cells, reps] using h0
  | fn f caps => have h0 := h; simp only [rep] at h; obtain ⟨us, rfl, _⟩ := h; simpa [AV.cells, Value.cells, reps] using h0
  | tup vs => have h0 := h; simp only [rep] at h; obtain ⟨us, rfl, _⟩ := h; simpa [AV.cells, Value.cells, reps] using h0

theorem one_cells {x : AV} {u : Value} (h : rep w S β x u) (hl : ∀ v, x = .lit v → v.oneCell' = true) (hx : x ≠ .any) (ht : ∀ vs, x ≠ .tup vs) : ∀ c ∈ u.cells.toList, c.oneCell' = true := by
  cases x with
  | agg cs => simp only [rep] at h; obtain ⟨us, rfl, h1, _⟩ := h; simpa [Value.cells] using h1
  | lit v =>
    simp only [rep] at h; obtain ⟨rfl, _⟩ := h
    have := hl u rfl
    cases u <;> simp_all [Value.cells, Value.oneCell']
  | any => exact absurd rfl hx
  | sl sz xs => simp only [rep] at h; obtain ⟨a, cap, rfl, _⟩ := h; simp [Value.cells, Value.oneCell']
  | row id sz lo n => simp only [rep] at h; obtain ⟨bl, a, _, rfl, _⟩ := h; simp [Value.cells, Value.oneCell']
  | ptr id i o => simp only [rep] at h; obtain ⟨bl, _, rfl⟩ := h; simp [Value.cells, Value.oneCell']
  | rp x o => simp only [rep] at h; obtain ⟨b, k, _, _, rfl⟩ := h; simp [Value.cells, Value.oneCell']
  | fn f caps => simp only [rep] at h; obtain ⟨us, rfl, _⟩ := h; simp [Value.cells, Value.oneCell']
  | tup vs => exact absurd rfl (ht vs)

theorem repCells_at {xs : List AV} {b o : Nat} (h : repCells w S β xs b o) : ∃ us : List Value, reps w S β xs us ∧ (∀ u ∈ us, u.oneCell' = true) ∧ ∀ j u, us[j]? = some u → w.cell? ⟨b, o + j, none⟩ = some u := by
  induction xs generalizing o with
  | nil => exact ⟨[], by simp [reps], by simp, by simp⟩
  | cons x xs ih =>
    simp only [repCells] at h
    obtain ⟨⟨v, hc, h1, hv⟩, h⟩ := h
    obtain ⟨us, hr, hone, hu⟩ := ih h
    refine ⟨v :: us, by simp only [reps]; exact ⟨v, us, rfl, hv, hr⟩, by simpa [h1] using hone, fun j u hj => ?_⟩
    cases j with
    | zero => simp at hj; subst hj; simpa using hc
    | succ j => have := hu j u (by simpa using hj); rw [show o + (j + 1) = o + 1 + j from by omega]; exact this

theorem repEls_get {sz : Nat} {xs : List AV} {b o : Nat} (h : repEls w S β sz xs b o) (i : Nat) (x : AV) (hx : xs[i]? = some x) : x.cells.length = sz ∧ repEl w S β x b (o + i * sz) := by
  induction xs generalizing o i with
  | nil => simp at hx
  | cons y xs ih =>
    simp only [repEls] at h
    cases i with
    | zero => simp at hx; subst hx; simpa using ⟨h.1, h.2.1⟩
    | succ i =>
      have := ih h.2.2 i (by simpa using hx)
      rw [show o + (i + 1) * sz = o + sz + i * sz from by rw [Nat.add_mul]; omega]
      exact this

theorem add_addr (b o n : Nat) : (⟨b, o, none⟩ : Addr).add n = ⟨b, o + n, none⟩ := by
  unfold Addr.add; split <;> simp_all

theorem run_loadVar_part {t : TypeId} {x : AV} {b k o : Nat} {v : AV} (ht : tKnown P t = true) (hx : repEl w S β x b k)
    (h : partOf x o (tSize P t) (tAgg P t) (· = v)) : ∃ u, (loadVar t ⟨b, k + o, none⟩).run P w = .ok u w ∧ rep w S β v u := by
  obtain ⟨i, d, hi, hd, hsz⟩ := info_of_known ht
  unfold partOf at h
  unfold loadVar
  simp only [Sem.run_bind, run_isAgg hd, Result.andThen_ok]
  rw [repEl_cells] at hx
  obtain ⟨us, hr, hone, hc⟩ := repCells_at hx
  by_cases hg : tAgg P t = true
  · simp only [hg, if_true] at h ⊢
    cases x with
    | agg cs =>
      simp only at h
      obtain ⟨hle, rfl⟩ := h
      have hlen := reps_length hr
      simp only [AV.cells] at hlen hr
      refine ⟨.agg ((us.drop o).take (tSize P t)).toArray, ?_, ?_⟩
      · have hl := run_loadCells_list (P := P) w ⟨b, k + o, none⟩ ((us.drop o).take (tSize P t)) (by
          intro j u hj
          rw [List.getElem?_take] at hj
          split at hj
          · rw [List.getElem?_drop] at hj
            rw [add_addr, show k + o + j = k + (o + j) from by omega]
            exact hc _ _ hj
          · cases hj)
        have hn : ((us.drop o).take (tSize P t)).length = i.size := by rw [List.length_take, List.length_drop, hlen, ← hsz]; omega
        rw [hn] at hl
        simp only [Sem.run_bind, run_sizeOf hi, Result.andThen_ok, hl]
        rfl
      · simp only [rep]; exact ⟨_, rfl, fun c hc => hone c (List.mem_of_mem_drop (List.mem_of_mem_take hc)), reps_take (reps_drop hr o) _⟩
    | _ => simp at h
  · simp only [hg, Bool.false_eq_true, if_false] at h ⊢
    have key : ∀ c, x.cells[o]? = some c → ∃ u, (load ⟨b, k + o, none⟩).run P w = .ok u w ∧ rep w S β c u := by
      intro c hcs
      obtain ⟨u, hu, hru⟩ := reps_get hr o c hcs
      exact ⟨u, by simp [run_load, hc o u hu], hru⟩
    cases x with
    | agg cs =>
      simp only at h
      cases hd : cs.drop o with
      | nil => rw [hd] at h; exact h.elim
      | cons c r =>
        rw [hd] at h
        simp only at h
        subst h
        refine key c ?_
        have := congrArg (·[0]?) hd
        simpa [AV.cells, List.getElem?_drop] using this
    | _ => (simp only at h; obtain ⟨rfl, rfl⟩ := h; exact key _ rfl)
end
end Go.Ax
