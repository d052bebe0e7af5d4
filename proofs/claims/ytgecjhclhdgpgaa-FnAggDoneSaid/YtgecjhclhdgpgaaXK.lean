import Derived.Test.YtgecjhclhdgpgaaXJ
import Derived.Laws.Strings
set_option linter.unusedVariables false
set_option linter.unusedSimpArgs false
namespace Go.Ax
open Go

section
variable {P : Program} {tab : TT}

theorem part_of {y : AV} {o n : Nat} {g : Bool} {v : AV} (h : part? y o n g = some v) : partOf y o n g (· = v) := by
  unfold part? at h
  unfold partOf
  cases g with
  | true =>
    simp only [if_true] at h ⊢
    cases y with
    | agg cs =>
      simp only at h ⊢
      split at h
      · rename_i hl; simp only [Option.some.injEq] at h; exact ⟨hl, h⟩
      · cases h
    | _ => simp at h
  | false =>
    simp only [Bool.false_eq_true, if_false] at h ⊢
    cases y with
    | agg cs =>
      simp only at h ⊢
      obtain ⟨hl, rfl⟩ := List.getElem?_eq_some_iff.1 h
      rw [List.drop_eq_getElem_cons hl]
    | _ =>
      simp only at h ⊢
      split at h
      · rename_i hl; simp only [Option.some.injEq] at h; exact ⟨hl, h⟩
      · cases h

theorem toList_inj (a b : ByteArray) : (a.toList == b.toList) = decide (a = b) := by
  by_cases h : a = b
  · subst h; simp
  · simp only [h, decide_false]
    rw [beq_eq_false_iff_ne]
    intro e
    apply h
    rw [ByteArray.toList_eq, ByteArray.toList_eq] at e
    have e' := Array.toList_inj.1 e
    cases a; cases b; simp_all

theorem bin_of {t : TypeId} {op : BinOp} {tb : Bool} {x y v : AV} {p : Prop} (ht : tb = true → tBool P t = true) (h : binE op tb x y = some (p, v)) (hp : p) : bin P t op x y (· = v) := by
  unfold binE at h
  unfold bin
  split at h
  · cases op <;> simp only [Option.some.injEq, Prod.mk.injEq] at h <;> obtain ⟨rfl, rfl⟩ := h <;> simp only <;> first
      | exact ⟨hp, rfl⟩
      | exact ⟨hp.1, hp.2, rfl⟩
      | exact ⟨hp.1, hp.2, trivial⟩
      | exact ⟨hp, by simp [mkB, bne]⟩
      | exact ⟨hp, by congr⟩
  · split at h
    · rename_i htb
      cases op <;> simp only [Option.some.injEq, Prod.mk.injEq, reduceCtorEq] at h <;> obtain ⟨rfl, rfl⟩ := h <;> exact ⟨ht htb, rfl⟩
    · cases h
  · cases op <;> simp only [Option.some.injEq, Prod.mk.injEq, reduceCtorEq] at h <;> obtain ⟨rfl, rfl⟩ := h <;> first
      | exact ⟨hp, rfl⟩
      | simp only [toList_inj]
  · cases h

theorem find_info (htab : TabOk P tab) {t : TypeId} {i : TI} (h : tab.find t = some i) : tKnown P t = true ∧ i.size = tSize P t ∧ i.agg = tAgg P t ∧ i.str = tString P t ∧ i.int = tInt P t ∧ i.bool = tBool P t ∧ i.zero = tZero P t ∧ i.places = tPlaces P t ∧ i.bytes = tBytes P t ∧ i.eqs = tEqs P t := by
  obtain ⟨h1, rfl⟩ := htab t i h
  exact ⟨h1, rfl, rfl, rfl, rfl, rfl, rfl, rfl, rfl, rfl⟩

theorem find_elem (htab : TabOk P tab) {t : TypeId} {i : TI} (h : tab.find t = some i) {sz by' : Nat} {e : Nat} (he : i.elem = some (sz, by', e)) : tElem P t = some e ∧ tKnown P e = true ∧ tSize P e = sz ∧ tBytes P e = by' ∧ tZok P e = true := by
  obtain ⟨h1, rfl⟩ := htab t i h
  simp only [tiOf, Option.bind_eq_some_iff] at he
  obtain ⟨e', he, h2⟩ := he
  split at h2
  · rename_i hk
    simp only [Option.some.injEq, Prod.mk.injEq] at h2
    simp only [Bool.and_eq_true] at hk
    obtain ⟨rfl, rfl, rfl⟩ := h2
    exact ⟨he, hk.1, rfl, rfl, hk.2⟩
  · cases h2

theorem find_field (htab : TabOk P tab) {t : TypeId} {i : TI} (h : tab.find t = some i) {f : Nat} {x : Nat × Nat × Bool} (hf : i.fields[f]? = some (some x)) : tField P t f = some x := by
  obtain ⟨h1, rfl⟩ := htab t i h
  simp only [tiOf] at hf
  split at hf
  · rename_i fs hu
    rw [List.getElem?_map] at hf
    cases hr : (List.range fs.size)[f]? with
    | none => rw [hr] at hf; cases hf
    | some j =>
      rw [hr] at hf
      obtain ⟨hlt, hj⟩ := List.getElem?_eq_some_iff.1 hr
      simp only [List.getElem_range] at hj
      subst hj
      simpa using hf
  · simp at hf

theorem fill_of {ev : Env} {look : Nat → AV} (hev : ∀ x, evX look (ixOf x) = ev x) (ps : List (Nat × Nat)) : ∀ (parts : List (Nat × Operand)) (l : List (Nat × Nat × IX)) (cs out : List AV), placeOf ps parts = some l → fillE look l cs = some out → fillAV ps ev parts cs = some out
  | [], l, cs, out, hl, h => by
    simp only [placeOf, Option.some.injEq] at hl
    subst hl
    simpa [fillE, fillAV] using h
  | (f, x) :: r, l, cs, out, hl, h => by
    simp only [placeOf] at hl
    split at hl
    · rename_i o n l' hp hr
      simp only [Option.some.injEq] at hl
      subst hl
      simp only [fillE, hev] at h
      simp only [fillAV, hp]
      split at h
      · rename_i hc
        rw [if_pos hc]
        exact fill_of hev ps r l' _ out hr h
      · cases h
    · cases hl

theorem pe_of (htab : TabOk P tab) {op : Op} {ev : Env} {look : Nat → AV} (hev : ∀ x, evX look (ixOf x) = ev x) {p : Prop} {v : AV} (h : pe (opOf tab op) look = some (p, v)) (hp : p) : px P op ev (· = v) := by
  unfold opOf at h
  split at h
  · simp [pe] at h
  rename_i hbi; clear hbi
  unfold opOf0 at h
  split at h
  · simp only [pe, hev, Option.some.injEq, Prod.mk.injEq] at h; simp only [px]; exact h.2
  · simp only [pe, hev, Option.some.injEq, Prod.mk.injEq] at h; simp only [px]; exact h.2
  · simp only [pe, hev, pickE] at h; simp only [px]
    split at h <;> simp only [Option.some.injEq, Prod.mk.injEq, reduceCtorEq] at h <;> (rename_i hc; rw [hc]; exact h.2)
  · simp only [pe, hev, nilcE] at h; simp only [px]
    split at h <;> simp only [Option.some.injEq, Prod.mk.injEq, reduceCtorEq] at h <;> (rename_i hc; rw [hc]; exact h.2)
  · split at h
    · rename_i t parts i hi
      obtain ⟨_, _, _, _, _, _, hz, hpl, _, _⟩ := find_info htab hi
      split at h
      · rename_i z ps h1 h2
        rw [hz] at h1; rw [hpl] at h2
        split at h
        · rename_i l hl
          simp only [pe, Option.map_eq_some_iff, Prod.mk.injEq] at h
          obtain ⟨cs, hcs, _, rfl⟩ := h
          simp only [px, h1, h2, fill_of hev ps _ l z cs hl hcs]
        · simp [pe] at h
      · simp [pe] at h
    · simp [pe] at h
  · simp only [pe, hev] at h; simp only [px]
    refine bin_of ?_ h hp
    intro ht
    simp only [Option.any_eq_true] at ht
    obtain ⟨i, hi, hb⟩ := ht
    rw [← (find_info htab hi).2.2.2.2.2.1]; exact hb
  · simp only [pe, hev, unE] at h; simp only [px, un]
    split at h <;> simp only [Option.some.injEq, Prod.mk.injEq, reduceCtorEq] at h <;> (rename_i hc; first | (rw [hc]; exact h.2) | (simp only [hc]; exact h.2))
  · split at h
    · rename_i s d x i' i hs hd
      split at h
      · rename_i k hk
        rw [(find_info htab hd).2.2.2.2.1] at hk
        simp only [pe, hev, convE] at h
        simp only [px, hk]
        refine ⟨(find_info htab hs).1, ?_⟩
        split at h <;> simp only [Option.some.injEq, Prod.mk.injEq, reduceCtorEq] at h
        rename_i hc; rw [hc]; exact h.2
      · simp [pe] at h
    · simp [pe] at h
  · split at h
    · rename_i hi
      split at h
      · rename_i hf
        have hf := find_field htab hi hf
        simp only [pe, hev, fadE] at h; simp only [px, hf]
        split at h <;> simp only [Option.some.injEq, Prod.mk.injEq, reduceCtorEq] at h <;> (rename_i hc; simp only [hc]; exact h.2)
      · simp [pe] at h
    · simp [pe] at h
  · split at h
    · rename_i hi
      split at h
      · rename_i hf
        have hf := find_field htab hi hf
        simp only [pe, hev, fldE] at h; simp only [px, hf]
        split at h
        · rename_i cs hc
          simp only [Option.map_eq_some_iff, Prod.mk.injEq] at h
          obtain ⟨v', hv, _, rfl⟩ := h
          simp only [hc]
          exact part_of hv
        · cases h
      · simp [pe] at h
    · simp [pe] at h
  · split at h
    · rename_i hi
      split at h
      · rename_i he
        obtain ⟨he, hke, hsz, _⟩ := find_elem htab hi he
        simp only [pe, hev, idxE] at h; simp only [px, he]
        split at h
        · rename_i hx hn
          simp only [Option.some.injEq, Prod.mk.injEq] at h
          obtain ⟨rfl, rfl⟩ := h
          simp only [hx, hn]
          obtain ⟨h1, h2, h3⟩ := hp
          refine ⟨hke, by rw [hsz]; exact h1, h2, _, List.getElem?_eq_getElem h3, ?_⟩
          simp [List.getD_eq_getElem?_getD, h3]
        · rename_i hx hn
          simp only [Option.some.injEq, Prod.mk.injEq] at h
          obtain ⟨rfl, rfl⟩ := h
          simp only [hx, hn]
          exact ⟨hke, by rw [hsz]; exact hp.1, hp.2.1, hp.2.2, (by first | rfl | trivial)⟩
        · cases h
      · simp [pe] at h
    · simp [pe] at h
  · split at h
    · rename_i hi
      split at h
      · rename_i hs
        rw [(find_info htab hi).2.2.2.1] at hs
        simp only [pe, hev, sidxE] at h; simp only [px]
        split at h
        · rename_i s kk n hx hn
          simp only [Option.some.injEq, Prod.mk.injEq] at h
          obtain ⟨rfl, rfl⟩ := h
          simp only [hx, hn]
          have h2 : n.toNat < s.data.toList.length := by simpa using hp.2
          refine ⟨hs, hp.1, _, List.getElem?_eq_getElem h2, ?_⟩
          simp [List.getD_eq_getElem?_getD, List.getElem?_eq_getElem h2]
        · cases h
      · simp [pe] at h
    · simp [pe] at h
  · simp only [pe, hev, extE] at h; simp only [px]
    split at h
    · rename_i vs hx
      simp only [Option.map_eq_some_iff, Prod.mk.injEq] at h
      obtain ⟨v', hv, _, rfl⟩ := h
      simp only [hx]
      obtain ⟨hl, rfl⟩ := List.getElem?_eq_some_iff.1 hv
      rw [List.drop_eq_getElem_cons hl]
    · cases h
  · split at h <;> simp [pe] at h
  · split at h
    · rename_i hf
      simp only [pe, List.map_map, Option.some.injEq, Prod.mk.injEq] at h
      simp only [px]
      refine ⟨by simpa using hf, ?_⟩
      rw [← h.2]
      congr 1
      exact List.map_congr_left (fun x _ => (hev x).symm)
    · simp [pe] at h
  · split at h
    · split at h
      · split at h <;> simp [pe] at h
      · simp [pe] at h
    · simp [pe] at h
  · simp [pe] at h
  · split at h
    · split at h <;> simp [pe] at h
    · simp [pe] at h
  · rename_i args argTypes
    split at h
    · rename_i x t hx ht
      split at h
      · rename_i ti hi
        obtain ⟨_, _, _, hstr, _⟩ := find_info htab hi
        split at h
        · rename_i hs
          rw [hstr] at hs
          simp only [pe, hev, slenE] at h
          simp only [px, hx, ht, lenAV, hs, if_true]
          split at h
          · rename_i hc; simp only [Option.some.injEq, Prod.mk.injEq] at h; simp only [hc]; exact h.2
          · cases h
        · rename_i hs
          rw [hstr] at hs
          split at h
          · rename_i he
            obtain ⟨⟨sz, by', e⟩, he⟩ := Option.isSome_iff_exists.1 he
            obtain ⟨he, _⟩ := find_elem htab hi he
            simp only [pe, hev, lenE] at h
            simp only [px, hx, ht, lenAV, hs, he, Bool.false_eq_true, if_false, Option.isSome_some, true_and]
            split at h <;> simp only [Option.some.injEq, Prod.mk.injEq, reduceCtorEq] at h <;> (rename_i hc; simp only [hc]; exact h.2)
          · simp [pe] at h
      · simp [pe] at h
    · simp [pe] at h
  · rename_i args _
    split at h
    · rename_i x y hx
      simp only [pe, hev, minE] at h
      simp only [px, hx, List.map_cons, List.map_nil]
      split at h
      · rename_i h1 h2; simp only [Option.some.injEq, Prod.mk.injEq] at h; simp only [h1, h2]; exact h.2
      · cases h
    · simp [pe] at h
  · rename_i args _
    split at h
    · rename_i x y hx
      simp only [pe, hev, maxE] at h
      simp only [px, hx, List.map_cons, List.map_nil]
      split at h
      · rename_i h1 h2; simp only [Option.some.injEq, Prod.mk.injEq] at h; simp only [h1, h2]; exact h.2
      · cases h
    · simp [pe] at h
  · simp [pe] at h
  · simp [pe] at h
end
end Go.Ax
namespace Go.Ax
open Go

section
variable {P : Program} {tab : TT} {w : World} {S : Nat → Prop} {β : Nat → Option Blk} {μ : Look} {Γ : Cts}

theorem plain_ptr (id i o : Nat) : (AV.ptr id i o).plain := fun v h => by cases h
theorem plain_any : AV.any.plain := fun v h => by cases h

theorem wp_value {o : Oper} {a : Act} {next : Act → World → Prop} {Q : Exit → Act → World → Prop} {u : Value} {w' : World} (h : (execOp a.eval o).run P w = .ok (.value u) w') (hn : next (a.put o.dst u) w') : o.wp P a w next Q := by
  unfold Oper.wp; rw [h]; exact hn

theorem lift_run {s : Sem Value} {u : Value} {w' : World} (hs : s.run P w = .ok u w') : (do pure (.value (← s)) : Sem Next).run P w = .ok (.value u) w' := by
  simp only [Sem.run_bind, hs, Result.andThen_ok]; rfl

/-- What an operation, run in a world, comes to. -/
def OpDone (P : Program) (w : World) (S : Nat → Prop) (β : Nat → Option Blk) (μ : Look) (o : Oper) (a : Act) (v : AV) (up : Upd) : Prop :=
  ∀ (next : Act → World → Prop) (Q : Exit → Act → World → Prop), (∀ u w' S' β', Done w S β μ v up u w' S' β' → next (a.put o.dst u) w') → o.wp P a w next Q

theorem done_pure {o : Oper} {a : Act} {ev : Env} {v : AV} (hi : Inv w S β μ) (hev : Ev w S β ev a.eval) (h : px P o.op ev (· = v)) : OpDone P w S β μ o a v noUpd := by
  intro next Q hn
  obtain ⟨u, hu, hr⟩ := px_sound hev h
  exact wp_value hu (hn u w S β (Done.pure hi hr (rep_plain hr)))

theorem done_alloc {o : Oper} {a : Act} {t : TypeId} {z : AV} {nid : Nat} (hfree : μ nid = none) (hi : Inv w S β μ) (ho : o.op = .alloc t) (hz : tZero P t = some z) (hcl : z.cells.length = tSize P t) : OpDone P w S β μ o a (.ptr nid 0 0) [(nid, ⟨tSize P t, [z], false, false⟩)] := by
  intro next Q hn
  obtain ⟨zv, it, hit, hzv, hall, rfl⟩ := zero_of hz
  have hrz := rep_ofVal (w := w) (S := S) (β := β) zv hall
  have hany : ofVal zv ≠ .any := by cases zv <;> simp [ofVal]
  have htup : ∀ vs, ofVal zv ≠ .tup vs := by intro vs; cases zv <;> simp [ofVal]
  have hcr := rep_cells hany hrz (rep_plain hrz)
  have hone := one_cells hrz (rep_plain hrz) hany htup
  have hlen := reps_length hcr
  simp only [Array.length_toList] at hlen
  obtain ⟨g1, g2, g3, g4⟩ := new_object hi hfree (tSize P t) 1 false [ofVal zv] zv.cells.toList zv.cells t (by simpa [βc] using hcr) hone (by simpa using hcl) (by simp) (by simp [maxLen]) (by omega) (by intro j u hj; simpa using hj)
  refine wp_value (u := .pointer (some ⟨w.heap.size, 0, none⟩)) (w' := w.alloc (.cells zv.cells t)) ?_ (hn _ _ S _ ⟨g1, by simp only [rep]; exact ⟨_, upd_same _ _ _, by simp⟩, plain_ptr _ _ _, g2, g3, g4⟩)
  unfold execOp
  rw [ho]
  refine lift_run ?_
  have hzr : (zeroValue t).run P w = .ok zv w := by simp [zeroValue, typeInfo, hit, hzv]
  simp only [Instr.alloc, Sem.run_bind, hzr, Result.andThen_ok, newVar, newRow, run_newObj, World.alloc_eq, Sem.run_pure]

theorem done_box {o : Oper} {a : Act} {ev : Env} {t : TypeId} {x : Operand} {nid : Nat} (hfree : μ nid = none) (hi : Inv w S β μ) (hev : Ev w S β ev a.eval) (ho : o.op = .box t x) (ha : (ev x).isAny = false) (ht : (ev x).isTup = false) : OpDone P w S β μ o a (.ptr nid 0 0) [(nid, ⟨(ev x).cells.length, [ev x], false, false⟩)] := by
  intro next Q hn
  have hany : ev x ≠ .any := fun e => by simp [e, AV.isAny] at ha
  have htup : ∀ vs, ev x ≠ .tup vs := fun vs e => by simp [e, AV.isTup] at ht
  have hcr := rep_cells hany (hev x).1 (hev x).2
  have hone := one_cells (hev x).1 (hev x).2 hany htup
  have hlen := reps_length hcr
  simp only [Array.length_toList] at hlen
  obtain ⟨g1, g2, g3, g4⟩ := new_object hi hfree (ev x).cells.length 1 false [ev x] (a.eval x).cells.toList (a.eval x).cells t (by simpa [βc] using hcr) hone (by simp) (by simp) (by simp [maxLen]) (by omega) (by intro j u hj; simpa using hj)
  refine wp_value (u := .pointer (some ⟨w.heap.size, 0, none⟩)) (w' := w.alloc (.cells (a.eval x).cells t)) ?_ (hn _ _ S _ ⟨g1, by simp only [rep]; exact ⟨_, upd_same _ _ _, by simp⟩, plain_ptr _ _ _, g2, g3, g4⟩)
  unfold execOp
  rw [ho]
  refine lift_run ?_
  simp only [Instr.box, Sem.run_bind, Result.andThen_ok, newVar, newRow, run_newObj, World.alloc_eq, Sem.run_pure]

theorem done_load {o : Oper} {a : Act} {ev : Env} {t : TypeId} {x : Operand} {p : Prop} {v : AV} (hi : Inv w S β μ) (hev : Ev w S β ev a.eval) (ho : o.op = .load t x) (hk : tKnown P t = true)
    (h : ldE (tSize P t) (tAgg P t) (ev x) μ = some (p, v)) (hp : p) : OpDone P w S β μ o a v noUpd := by
  unfold ldE at h
  split at h
  · rename_i y oo hx
    simp only [Option.map_eq_some_iff, Prod.mk.injEq] at h
    obtain ⟨v', hv, _, rfl⟩ := h
    refine done_pure hi hev (ho ▸ ?_)
    simp only [px, hx]
    exact ⟨hk, part_of hv⟩
  · rename_i id i oo hx
    split at h
    · rename_i ob hob
      simp only [Option.map_eq_some_iff, Prod.mk.injEq] at h
      obtain ⟨v', hv, rfl, rfl⟩ := h
      intro next Q hn
      have hr := (hev x).1
      rw [hx] at hr
      simp only [rep] at hr
      obtain ⟨bl, hbl, hr⟩ := hr
      have hel : ob.els[i]? = some (ob.els.getD i .any) := by simp [List.getD_eq_getElem?_getD, hp.2]
      obtain ⟨u, hu, hru⟩ := load_object (P := P) hi hbl hob hp.1 hel hk (part_of hv)
      refine wp_value (u := u) ?_ (hn u w S β (Done.pure hi hru (rep_plain hru)))
      unfold execOp
      rw [ho]
      refine lift_run ?_
      simp only [Instr.loadAt, hr, Instr.sureAddr, Sem.run_bind, Sem.run_pure, Result.andThen_ok, hu]
    · cases h
  · cases h

theorem done_store {o : Oper} {a : Act} {ev : Env} {t : TypeId} {x y : Operand} {p : Prop} {v : AV} {up : Upd} (hi : Inv w S β μ) (hev : Ev w S β ev a.eval) (ho : o.op = .store t x y) (hk : tKnown P t = true) (hpos : 0 < tSize P t)
    (h : stE (tSize P t) (ev x) (ev y) μ = some (p, v, up)) (hp : p) : OpDone P w S β μ o a v up := by
  unfold stE at h
  split at h
  · rename_i id i oo hx
    split at h
    · rename_i ob hob
      simp only [Option.some.injEq, Prod.mk.injEq] at h
      obtain ⟨rfl, rfl, rfl⟩ := h
      obtain ⟨⟨ha, ht, hcl⟩, ⟨hdd, hlt⟩, ⟨hfit, hshape⟩, hclo⟩ := hp
      have hel : ob.els[i]? = some (ob.els.getD i .any) := by simp [List.getD_eq_getElem?_getD, hlt]
      generalize hz' : ob.els.getD i .any = z at *
      intro next Q hn
      have hr := (hev x).1
      rw [hx] at hr
      simp only [rep] at hr
      obtain ⟨bl, hbl, hr⟩ := hr
      have hany : ev y ≠ .any := fun e => by simp [e, AV.isAny] at ha
      have htup : ∀ vs, ev y ≠ .tup vs := fun vs e => by simp [e, AV.isTup] at ht
      have hcr := rep_cells hany (hev y).1 (hev y).2
      have hone := one_cells (hev y).1 (hev y).2 hany htup
      have hag : (∃ cs, z = .agg cs) ∨ ((ev y).cells = [ev y] ∧ 0 < tSize P t) := by
        by_cases hza : ∃ cs, z = .agg cs
        · exact .inl hza
        · right
          have hz' : z.isAgg = false := by cases z <;> simp_all [AV.isAgg]
          simp only [hz', Bool.false_or, Bool.not_eq_true'] at hshape
          refine ⟨?_, hpos⟩
          generalize ev y = yy at *
          cases yy <;> simp_all [AV.isAgg, AV.cells]
      have hcr' : reps w S (βc ob.cl β) (ev y).cells (a.eval y).cells.toList := by
        cases hcc : ob.cl with
        | false => exact hcr
        | true => exact reps_mono (fun b hb => ⟨hb, rfl⟩) (fun id hid _ _ => by have := closed_cells (hclo hcc) id; rw [this] at hid; cases hid) hcr
      obtain ⟨w', hw', g1, g2⟩ := store_object (P := P) hi hbl hob hdd hel hk hcr' hone hcl rfl hfit hag
      have hsz : ob.sz = bl.sz := (hi.obs id ob bl hob hdd hbl).1
      rw [← hsz] at g1
      have hrun : (execOp a.eval o).run P w = .ok .skip w' := by
        unfold execOp
        rw [ho]
        simp only [Instr.storeAt, hr, Instr.sureAddr, Sem.run_bind, Sem.run_pure, Result.andThen_ok, hw']
      unfold Oper.wp
      rw [hrun]
      exact hn undef w' S β ⟨g1, by simp [rep], plain_any, g2, fun id' bl' h' => h', fun id' bl' h' => .inl ⟨id', bl', h', rfl⟩⟩
    · cases h
  · cases h

theorem done_call (hΓ : GOk P Γ) {o : Oper} {a : Act} {ev : Env} {nid : Nat} {f : Operand} {args : Array Operand} {argTypes : Array TypeId} {p : Prop} {v : AV} {up : Upd} (hi : Inv w S β μ) (hev : Ev w S β ev a.eval)
    (ho : o.op = .call { callee := .value f, args := args, argTypes := argTypes }) (h : callE Γ nid (ev f) (args.toList.map ev) μ = some (p, v, up)) (hp : p) : OpDone P w S β μ o a v up := by
  intro next Q hn
  unfold callE at h
  split at h
  · rename_i N caps hf
    split at h
    · rename_i hnl
      split at h
      · rename_i C hC
        have hr := (hev f).1
        rw [hf] at hr
        simp only [rep] at hr
        obtain ⟨us, hr, hcs⟩ := hr
        have hargs : reps w S β (args.toList.map ev ++ caps) ((args.toList.map a.eval) ++ us) := by
          refine reps_append ?_ hcs
          induction args.toList with
          | nil => simp [reps]
          | cons x r ih => simp only [List.map_cons, reps]; exact ⟨_, _, rfl, (hev x).1, ih⟩
        have hpl : ∀ x ∈ args.toList.map ev ++ caps, x.plain := by
          intro x hx
          rcases List.mem_append.1 hx with hx | hx
          · obtain ⟨y, _, rfl⟩ := List.mem_map.1 hx; exact (hev y).2
          · intro v e
            have := List.all_eq_true.1 hnl x hx
            simp [e, AV.noLit] at this
        obtain hok := (hΓ N C hC).ok nid _ _ w S β μ p v up hi hargs hpl h hp
        have hexec : (execOp a.eval o).run P w = (callFunc N ((args.toList.map a.eval) ++ us).toArray).run P w := by
          unfold execOp
          rw [ho]
          simp only [resolve, hr, Deferred.ofValue, Sem.run_bind, Sem.run_pure, Result.andThen_ok, invoke]
          congr 2
          rw [← Array.toList_inj]
          simp
        unfold Oper.wp
        rw [hexec]
        unfold CallOk at hok
        split at hok
        · rename_i f' args' w1 he
          rw [he]
          exact Calls.mono hok (fun e w' ⟨u, hu, S', β', hd⟩ => by subst hu; exact hn u w' S' β' hd)
        · rename_i u w1 he
          rw [he]
          obtain ⟨S', β', hd⟩ := hok
          exact hn u w1 S' β' hd
        · exact hok.elim
      · cases h
    · cases h
  · cases h

/-- Of a run that comes to a value. -/
theorem done_run {o : Oper} {a : Act} {m : Sem Value} {v : AV} {up : Upd} (he : ∀ u w', m.run P w = .ok u w' → (execOp a.eval o).run P w = .ok (.value u) w') (h : RunDone P w S β μ m v up) : OpDone P w S β μ o a v up := by
  intro next Q hn
  obtain ⟨u, w', S', β', hrun, hd⟩ := h
  exact wp_value (he u w' hrun) (hn u w' S' β' hd)

theorem elem_of (htab : TabOk P tab) {t : TypeId} {sz by' e : Nat} (h : (tab.find t).bind (·.elem) = some (sz, by', e)) : ∃ inf z, P.underlying t = some (.slice e) ∧ P.info? e = some inf ∧ inf.size = sz ∧ inf.bytes = by' ∧ inf.zero = some z ∧ z.cells.size = inf.size ∧ z.cells.all (·.oneCell') = true := by
  simp only [Option.bind_eq_some_iff] at h
  obtain ⟨ti, hti, he⟩ := h
  obtain ⟨h1, h2, rfl, rfl, h5⟩ := find_elem htab hti he
  obtain ⟨inf, d, hinf, _, hsz⟩ := info_of_known h2
  unfold tZok at h5
  split at h5
  · rename_i z hz
    simp only [hinf, Option.bind_some] at hz
    simp only [Bool.and_eq_true, beq_iff_eq] at h5
    refine ⟨inf, z, ?_, hinf, hsz.symm, by simp [tBytes, hinf], hz, by rw [h5.1, hsz], h5.2⟩
    unfold tElem at h1
    split at h1
    · rename_i hu; simp only [Option.some.injEq] at h1; rw [hu, h1]
    · cases h1
  · cases h5

theorem seqOk_zip : ∀ (l : List (Nat × Operand)) (k : Nat) (ρ : Operand → Value), seqOk k l = true → l.map (fun x => (x.1, ρ x.2)) = ((l.map fun x => ρ x.2).zipIdx k).map fun x => (x.2, x.1)
  | [], k, ρ, _ => rfl
  | (j, x) :: r, k, ρ, h => by
    simp only [seqOk, Bool.and_eq_true, beq_iff_eq] at h
    simp only [List.map_cons, List.zipIdx_cons, seqOk_zip r (k + 1) ρ h.2, h.1]

theorem done_bi (htab : TabOk P tab) {o : Oper} {a : Act} {ev : Env} {k : BK} {xs : List IX} {look : Nat → AV} (hl : ∀ x, evX look (ixOf x) = ev x) {nid : Nat} {p : Prop} {v : AV} {up : Upd} (hi : Inv w S β μ) (hev : Ev w S β ev a.eval)
    (ho : biOf tab o.op = some (k, xs)) (h : biE k nid (xs.map (evX look)) μ = some (p, v, up)) (hp : p) : OpDone P w S β μ o a v up := by
  unfold biOf at ho
  split at ho
  · rename_i t len parts hop
    split at ho
    · rename_i sz by' e he
      split at ho
      · rename_i hc
        simp only [Bool.and_eq_true, beq_iff_eq, decide_eq_true_eq] at hc
        obtain ⟨⟨⟨hseq, hps⟩, hl1⟩, hl2⟩ := hc
        simp only [Option.some.injEq, Prod.mk.injEq] at ho
        obtain ⟨rfl, rfl⟩ := ho
        obtain ⟨inf, z, e1, e2, rfl, rfl, e3, _⟩ := elem_of htab he
        simp only [biE, List.map_map] at h
        have hlen : (parts.toList.map (evX look ∘ fun x => ixOf x.2)).length = len := by simp [hps]
        have hb := bs_sound (P := P) (t := t) (us := parts.toList.map fun x => a.eval x.2) hi e1 e2 e3 (vs := parts.toList.map (evX look ∘ fun x => ixOf x.2)) (fun i v hv => by
          rw [List.getElem?_map, Option.map_eq_some_iff] at hv
          obtain ⟨x, hx, rfl⟩ := hv
          refine ⟨a.eval x.2, by simp only [List.getElem?_map, hx, Option.map_some], ?_⟩
          simp only [Function.comp_apply, hl]
          exact hev x.2) (by simp) (by rw [hlen]; exact hl2) (by rw [hlen]; exact hl1) h hp
        refine done_run (fun u w' hrun => ?_) hb
        unfold execOp
        rw [hop]
        refine lift_run ?_
        rw [hlen] at hrun
        have : (parts.map fun (i, x) => (i, a.eval x)) = (((parts.toList.map fun x => a.eval x.2).zipIdx 0).map fun x => (x.2, x.1)).toArray := by
          rw [← Array.toList_inj, Array.toList_map, List.toList_toArray, ← seqOk_zip _ _ _ hseq]
        rw [this]
        exact hrun
      · cases ho
    · cases ho
  · rename_i t l c hop
    split at ho
    · rename_i sz by' e he
      split at ho
      · rename_i zz hzz
        simp only [Option.some.injEq, Prod.mk.injEq] at ho
        obtain ⟨rfl, rfl⟩ := ho
        obtain ⟨inf, z, e1, e2, rfl, rfl, e3, e4, e5⟩ := elem_of htab he
        simp only [Option.bind_eq_some_iff] at hzz
        obtain ⟨te, hte, hzz⟩ := hzz
        have hz0 := (find_info htab hte).2.2.2.2.2.2.1
        rw [hz0] at hzz
        have hzv : zz = ofVal z := by
          unfold tZero at hzz
          simp only [e2, Option.bind_some, e3, e5, if_true, Option.some.injEq] at hzz
          exact hzz.symm
        subst hzv
        simp only [List.map_cons, List.map_nil, biE, hl] at h
        refine done_run (fun u w' hrun => ?_) (mks_sound (P := P) hi e1 e2 e3 e4 e5 (hev l).1 (hev c).1 h hp)
        unfold execOp
        rw [hop]
        exact lift_run hrun
      · cases ho
    · cases ho
  · rename_i t x lo hi' mx hop
    split at ho
    · rename_i ti k' r hti hk'
      have hexec : ∀ u w', (Instr.sliceAt t (a.eval x) (lo.map a.eval) (hi'.map a.eval) (mx.map a.eval)).run P w = .ok u w' → (execOp a.eval o).run P w = .ok (.value u) w' := by
        intro u w' hrun
        unfold execOp
        rw [hop]
        exact lift_run hrun
      have hro : ∀ y : Operand, repO w S β (some (ev y)) (some (a.eval y)) := fun y => ⟨_, rfl, (hev y).1⟩
      have hrn : repO w S β none none := rfl
      split at ho
      · rename_i hs
        split at ho
        · rename_i hmx
          have hmx : mx = none := by simpa using hmx
          subst hmx
          simp only [Option.some.injEq, Prod.mk.injEq] at ho
          obtain ⟨rfl, rfl⟩ := ho
          have hst : P.underlying t = some .string := by
            rw [(find_info htab hti).2.2.2.1] at hs
            unfold tString at hs
            split at hs
            · assumption
            · cases hs
          unfold slcK at hk'
          split at hk' <;> simp only [Option.some.injEq, Prod.mk.injEq, reduceCtorEq] at hk' <;> obtain ⟨rfl, rfl⟩ := hk' <;> simp only [List.map_cons, List.map_nil, biE, hl] at h
          · exact done_run hexec (sls_sound (P := P) hi hst (hev x).1 hrn hrn h hp)
          · exact done_run hexec (sls_sound (P := P) hi hst (hev x).1 (hro _) hrn h hp)
          · exact done_run hexec (sls_sound (P := P) hi hst (hev x).1 hrn (hro _) h hp)
          · exact done_run hexec (sls_sound (P := P) hi hst (hev x).1 (hro _) (hro _) h hp)
          · cases h
        · cases ho
      · split at ho
        · rename_i sz by' e he
          simp only [Option.some.injEq, Prod.mk.injEq] at ho
          obtain ⟨rfl, rfl⟩ := ho
          obtain ⟨inf, z, e1, e2, rfl, rfl, e3, e4, e5⟩ := elem_of htab (t := t) (by rw [hti]; exact he)
          unfold slcK at hk'
          split at hk' <;> simp only [Option.some.injEq, Prod.mk.injEq, reduceCtorEq] at hk' <;> obtain ⟨rfl, rfl⟩ := hk' <;> simp only [List.map_cons, List.map_nil, biE, hl] at h
          · exact done_run hexec (slc_sound (P := P) hi e1 e2 (hev x).1 hrn hrn hrn h hp)
          · exact done_run hexec (slc_sound (P := P) hi e1 e2 (hev x).1 (hro _) hrn hrn h hp)
          · exact done_run hexec (slc_sound (P := P) hi e1 e2 (hev x).1 hrn (hro _) hrn h hp)
          · exact done_run hexec (slc_sound (P := P) hi e1 e2 (hev x).1 (hro _) (hro _) hrn h hp)
          · exact done_run hexec (slc_sound (P := P) hi e1 e2 (hev x).1 hrn (hro _) (hro _) h hp)
        · cases ho
    · cases ho
  · rename_i args argTypes hop
    split at ho
    · rename_i x y t tx hx ht
      split at ho
      · rename_i sz by' e ti he hti
        split at ho
        · rename_i hc
          simp only [Option.some.injEq, Prod.mk.injEq] at ho
          obtain ⟨rfl, rfl⟩ := ho
          obtain ⟨inf, z, e1, e2, rfl, rfl, e3, e4, e5⟩ := elem_of htab he
          have hk : (∃ e', P.underlying tx = some (.slice e')) ∨ P.underlying tx = some .string := by
            simp only [Bool.or_eq_true] at hc
            rcases hc with hc | hc
            · obtain ⟨⟨s2, b2, e2'⟩, he2⟩ := Option.isSome_iff_exists.1 hc
              obtain ⟨_, _, f1, _⟩ := elem_of htab (t := tx) (by rw [hti]; exact he2)
              exact .inl ⟨_, f1⟩
            · right
              rw [(find_info htab hti).2.2.2.1] at hc
              unfold tString at hc
              split at hc
              · assumption
              · cases hc
          have hax : args = #[x, y] := by rw [← Array.toList_inj]; simpa using hx
          have hat : argTypes = #[t, tx] := by rw [← Array.toList_inj]; simpa using ht
          subst hax; subst hat
          simp only [List.map_cons, List.map_nil, biE, hl] at h
          refine done_run (fun u w' hrun => ?_) (app_sound (P := P) (ty := o.type) hi e1 e2 e3 e4 hk (hev x).1 (hev y).1 h hp)
          unfold execOp
          rw [hop]
          simp only [resolve, Sem.run_bind, Sem.run_pure, Result.andThen_ok, invoke, builtin, List.map_toArray, List.map_cons, List.map_nil, hrun]
        · split at ho
          · rename_i hint
            split at ho
            · rename_i zz hzz
              split at ho
              · rename_i hpos
                simp only [Option.some.injEq, Prod.mk.injEq] at ho
                obtain ⟨rfl, rfl⟩ := ho
                obtain ⟨inf, z, e1, e2, rfl, rfl, e3, e4, e5⟩ := elem_of htab he
                simp only [Option.bind_eq_some_iff] at hzz
                obtain ⟨te, hte, hzz⟩ := hzz
                have hz0 := (find_info htab hte).2.2.2.2.2.2.1
                rw [hz0] at hzz
                have hzv : zz = ofVal z := by
                  unfold tZero at hzz
                  simp only [e2, Option.bind_some, e3, e5, if_true, Option.some.injEq] at hzz
                  exact hzz.symm
                subst hzv
                obtain ⟨kn, hkn⟩ := Option.isSome_iff_exists.1 hint
                rw [(find_info htab hti).2.2.2.2.1] at hkn
                have htx : P.underlying tx = some (.int kn) := by
                  unfold tInt at hkn
                  split at hkn
                  · rename_i hu; simp only [Option.some.injEq] at hkn; rw [hu, hkn]
                  · cases hkn
                have hax : args = #[x, y] := by rw [← Array.toList_inj]; simpa using hx
                have hat : argTypes = #[t, tx] := by rw [← Array.toList_inj]; simpa using ht
                subst hax; subst hat
                simp only [List.map_cons, List.map_nil, biE, hl] at h
                refine done_run (fun u w' hrun => ?_) (appZ_sound (P := P) (ty := o.type) hi e1 htx e2 e3 e4 e5 hpos (hev x).1 (hev y).1 h hp)
                unfold execOp
                rw [hop]
                simp only [resolve, Sem.run_bind, Sem.run_pure, Result.andThen_ok, invoke, builtin, List.map_toArray, List.map_cons, List.map_nil, hrun]
              · cases ho
            · cases ho
          · cases ho
      · cases ho
    · cases ho
  · rename_i args argTypes hop
    split at ho
    · rename_i x t hx ht
      split at ho
      · rename_i hel
        simp only [Option.some.injEq, Prod.mk.injEq] at ho
        obtain ⟨rfl, rfl⟩ := ho
        obtain ⟨⟨sz, by', e⟩, hel⟩ := Option.isSome_iff_exists.1 hel
        obtain ⟨inf, z, e1, _⟩ := elem_of htab hel
        have hax : args = #[x] := by rw [← Array.toList_inj]; simpa using hx
        have hat : argTypes = #[t] := by rw [← Array.toList_inj]; simpa using ht
        subst hax; subst hat
        simp only [List.map_cons, List.map_nil, biE, hl] at h
        refine done_run (fun u w' hrun => ?_) (cap_sound (P := P) (ty := o.type) hi e1 (hev x).1 h hp)
        unfold execOp
        rw [hop]
        simp only [resolve, Sem.run_bind, Sem.run_pure, Result.andThen_ok, invoke, builtin, List.map_toArray, List.map_cons, List.map_nil, hrun]
      · cases ho
    · cases ho
  · rename_i t x _ hop
    split at ho
    · rename_i hel
      simp only [Option.some.injEq, Prod.mk.injEq] at ho
      obtain ⟨rfl, rfl⟩ := ho
      obtain ⟨⟨sz, by', e⟩, hel⟩ := Option.isSome_iff_exists.1 hel
      obtain ⟨inf, z, e1, _⟩ := elem_of htab hel
      simp only [List.map_cons, List.map_nil, biE, hl] at h
      refine done_run (fun u w' hrun => ?_) (isn_sound (P := P) hi e1 x (.const (.slice none 0 0)) (hev x).1 h hp)
      unfold execOp
      rw [hop]
      exact lift_run hrun
    · cases ho
  · rename_i t x _ hop
    split at ho
    · rename_i hel
      simp only [Option.some.injEq, Prod.mk.injEq] at ho
      obtain ⟨rfl, rfl⟩ := ho
      obtain ⟨⟨sz, by', e⟩, hel⟩ := Option.isSome_iff_exists.1 hel
      obtain ⟨inf, z, e1, _⟩ := elem_of htab hel
      simp only [List.map_cons, List.map_nil, biE, hl] at h
      refine done_run (fun u w' hrun => ?_) (isn_sound (P := P) hi e1 x (.const (.slice none 0 0)) (hev x).1 h hp)
      unfold execOp
      rw [hop]
      exact lift_run hrun
    · cases ho
  · rename_i t x y _ _ hop
    split at ho
    · rename_i ks hks
      simp only [Option.some.injEq, Prod.mk.injEq] at ho
      obtain ⟨rfl, rfl⟩ := ho
      simp only [Option.bind_eq_some_iff] at hks
      obtain ⟨ti, hti, hks⟩ := hks
      rw [(find_info htab hti).2.2.2.2.2.2.2.2.2] at hks
      unfold tEqs at hks
      split at hks
      · rename_i hc
        simp only [Bool.and_eq_true, Bool.not_eq_true'] at hc
        simp only [List.map_cons, List.map_nil, biE, hl] at h
        refine done_run (fun u w' hrun => ?_) (eqs_sound (P := P) hi hks hc.1 hc.2 x y (hev x).1 (hev y).1 h hp)
        unfold execOp
        rw [hop]
        exact lift_run hrun
      · cases hks
    · cases ho
  · rename_i t x y _ _ hop
    split at ho
    · rename_i ks hks
      simp only [Option.some.injEq, Prod.mk.injEq] at ho
      obtain ⟨rfl, rfl⟩ := ho
      simp only [Option.bind_eq_some_iff] at hks
      obtain ⟨ti, hti, hks⟩ := hks
      rw [(find_info htab hti).2.2.2.2.2.2.2.2.2] at hks
      unfold tEqs at hks
      split at hks
      · rename_i hc
        simp only [Bool.and_eq_true, Bool.not_eq_true'] at hc
        simp only [List.map_cons, List.map_nil, biE, hl] at h
        refine done_run (fun u w' hrun => ?_) (eqs_sound (P := P) hi hks hc.1 hc.2 x y (hev x).1 (hev y).1 h hp)
        unfold execOp
        rw [hop]
        exact lift_run hrun
      · cases hks
    · cases ho
  · cases ho

theorem ie_sound (htab : TabOk P tab) (hΓ : GOk P Γ) {o : Oper} {a : Act} {ev : Env} {look : Nat → AV} (hl : ∀ x, evX look (ixOf x) = ev x) {nid : Nat} {p : Prop} {v : AV} {up : Upd} (h : ie Γ (opOf tab o.op) nid look μ = some (p, v, up)) (hp : p)
    (hi : Inv w S β μ) (hev : Ev w S β ev a.eval) : OpDone P w S β μ o a v up := by
  have hpure : ∀ op', opOf tab o.op = op' → pureE (pe op' look) = some (p, v, up) → OpDone P w S β μ o a v up := by
    intro op' e h
    subst e
    unfold pureE at h
    split at h
    · rename_i p' v' hpe
      simp only [Option.some.injEq, Prod.mk.injEq] at h
      obtain ⟨rfl, rfl, rfl⟩ := h
      exact done_pure hi hev (pe_of htab hl hpe hp)
    · cases h
  have hpure0 : ∀ op', opOf0 tab o.op = op' → opOf tab o.op = op' → pureE (pe op' look) = some (p, v, up) → OpDone P w S β μ o a v up := fun op' _ e h => hpure op' e h
  clear hpure
  generalize hop' : opOf tab o.op = io at *
  unfold opOf at hop'
  split at hop'
  · rename_i k xs hbi
    subst hop'
    exact done_bi htab hl hi hev hbi h hp
  rename_i hbi; clear hbi
  have hop := hop'
  clear hop'
  unfold ie at h
  split at h
  · exfalso
    unfold opOf0 at hop
    split at hop <;> (try split at hop) <;> (try split at hop) <;> (try split at hop) <;> (try split at hop) <;> cases hop
  · rename_i sz z
    simp only [Option.some.injEq, Prod.mk.injEq] at h
    obtain ⟨rfl, rfl, rfl⟩ := h
    unfold opOf0 at hop
    split at hop <;> (try split at hop) <;> (try split at hop) <;> (try split at hop) <;> (try split at hop) <;> (first | cases hop | skip)
    rename_i ho _ ti hi' z' hz hcl
    obtain ⟨_, hsz, _, _, _, _, hz2, _⟩ := find_info htab hi'
    rw [hz2] at hz
    rw [hsz] at hcl ⊢
    exact done_alloc hp hi ho hz hcl
  · rename_i x
    simp only [Option.some.injEq, Prod.mk.injEq] at h
    obtain ⟨rfl, rfl, rfl⟩ := h
    unfold opOf0 at hop
    split at hop <;> (try split at hop) <;> (try split at hop) <;> (try split at hop) <;> (try split at hop) <;> (first | cases hop | skip)
    rename_i ho
    rw [hl] at hp ⊢
    exact done_box hp.1 hi hev ho hp.2.1 hp.2.2
  · rename_i n g x
    unfold opOf0 at hop
    split at hop <;> (try split at hop) <;> (try split at hop) <;> (try split at hop) <;> (try split at hop) <;> (first | cases hop | skip)
    rename_i ho _ ti hti
    obtain ⟨hk, hsz, hag, _⟩ := find_info htab hti
    rw [hl, hsz, hag] at h
    unfold pureE at h
    split at h
    · rename_i p' v' hpe
      simp only [Option.some.injEq, Prod.mk.injEq] at h
      obtain ⟨rfl, rfl, rfl⟩ := h
      exact done_load hi hev ho hk hpe hp
    · cases h
  · rename_i n x y
    unfold opOf0 at hop
    split at hop <;> (try split at hop) <;> (try split at hop) <;> (try split at hop) <;> (try split at hop) <;> (first | cases hop | skip)
    rename_i ho _ ti hti hpos
    obtain ⟨hk, hsz, hag, _⟩ := find_info htab hti
    rw [hl, hl, hsz] at h
    rw [hsz] at hpos
    exact done_store hi hev ho hk hpos h hp
  · rename_i f xs
    unfold opOf0 at hop
    split at hop <;> (try split at hop) <;> (try split at hop) <;> (try split at hop) <;> (try split at hop) <;> (first | cases hop | skip)
    rename_i ho
    rw [hl, List.map_map] at h
    have e : List.map (evX look ∘ ixOf) = List.map ev := by congr 1; funext x; exact hl x
    rw [e] at h
    exact done_call hΓ hi hev ho h hp
  · exact hpure0 _ hop rfl h
end
end Go.Ax
namespace Go.Ax
open Go

/-! ## abstract states -/
/-- A state, as functions. -/
structure FS where
  lk : Nat → AV
  mm : Look

def fput (d : Option Nat) (v : AV) (lk : Nat → AV) : Nat → AV := match d with
  | some d => fun k => if k = d then v else lk k
  | none => lk
def FS.put (f : FS) (d : Option Nat) (v : AV) : FS := ⟨fput d v f.lk, f.mm⟩
def FS.upd (f : FS) (up : Upd) : FS := ⟨f.lk, Upd.app up f.mm⟩
def FS.mv (f : FS) (φ ψ : Nat → Option Nat) : FS := ⟨fun k => (f.lk k).mv φ, fun j => (ψ j).bind fun i => (f.mm i).map (Ob.mv φ)⟩

def evF (lk : Nat → AV) : Env
  | .tmp t => lk t
  | .const v => constAV v
  | .global g => .lit (.pointer (some ⟨g, 0, none⟩))
  | .func f => .fn f []

/-- A state, as lists. -/
structure AS where
  vs : List (Nat × AV)
  tm : List (Nat × AV)
  mem : List (Nat × Ob)

def setL {α : Type} (k : Nat) (v : α) : List (Nat × α) → List (Nat × α)
  | [] => []
  | (j, u) :: r => if j = k then (j, v) :: r else (j, u) :: setL k v r

def AS.look (s : AS) (k : Nat) : AV :=
  match lookL s.vs k with
  | some v => v
  | none => match lookL s.tm k with
    | some v => v
    | none => .any
def AS.f (s : AS) : FS := ⟨s.look, lookL s.mem⟩

def AS.put (s : AS) (d : Option Nat) (v : AV) : AS :=
  match d with
  | none => s
  | some d => match lookL s.vs d with
    | some _ => { s with vs := setL d v s.vs }
    | none => { s with tm := (d, v) :: s.tm }

def setM : List (Nat × Ob) → List (Nat × Ob) → List (Nat × Ob)
  | [], m => m
  | (k, ob) :: r, m => setM1 k ob (setM r m)
where
  setM1 (k : Nat) (ob : Ob) : List (Nat × Ob) → List (Nat × Ob)
    | [] => [(k, ob)]
    | (j, x) :: r => if j = k then (j, ob) :: r else (j, x) :: setM1 k ob r

def AS.upd (s : AS) (up : Upd) : AS := ⟨s.vs, s.tm, setM up s.mem⟩
def AS.clr (s : AS) : AS := ⟨s.vs, [], s.mem⟩

def mvS (φ : Nat → Option Nat) : List (Nat × AV) → List (Nat × AV)
  | [] => []
  | (j, x) :: r => (j, x.mv φ) :: mvS φ r
def mvM (φ : Nat → Option Nat) : List (Nat × Ob) → List (Nat × Ob)
  | [] => []
  | (i, x) :: r => match φ i with
    | some j => (j, x.mv φ) :: mvM φ r
    | none => mvM φ r
def AS.mv (s : AS) (φ : Nat → Option Nat) : AS := ⟨mvS φ s.vs, mvS φ s.tm, mvM φ s.mem⟩

theorem lookL_setL {α : Type} (k : Nat) (v : α) (l : List (Nat × α)) (i : Nat) : lookL (setL k v l) i = if i = k then (lookL l k).map (fun _ => v) else lookL l i := by
  induction l with
  | nil => simp [setL, lookL]
  | cons p r ih =>
    obtain ⟨j, u⟩ := p
    by_cases e : j = k
    · subst e
      by_cases e2 : i = j
      · subst e2; simp [setL, lookL]
      · have e3 : ¬ j = i := fun h => e2 h.symm
        simp [setL, lookL, e2, e3]
    · simp only [setL, e, if_false, lookL, ih]
      by_cases e2 : i = k
      · subst e2; simp [e]
      · simp only [e2, if_false]

theorem lookL_setM1 (k : Nat) (ob : Ob) (l : List (Nat × Ob)) (i : Nat) : lookL (setM.setM1 k ob l) i = if k = i then some ob else lookL l i := by
  induction l with
  | nil => simp [setM.setM1, lookL]
  | cons p r ih =>
    obtain ⟨j, x⟩ := p
    by_cases e : j = k
    · subst e
      by_cases e2 : j = i
      · subst e2; simp [setM.setM1, lookL]
      · simp [setM.setM1, lookL, e2]
    · simp only [setM.setM1, e, if_false, lookL, ih]
      by_cases e2 : k = i
      · subst e2; simp [e]
      · simp only [e2, if_false]

theorem lookL_setM (ss : List (Nat × Ob)) (m : List (Nat × Ob)) (i : Nat) : lookL (setM ss m) i = match lookL ss i with | some ob => some ob | none => lookL m i := by
  induction ss with
  | nil => rfl
  | cons p r ih =>
    obtain ⟨k, ob⟩ := p
    simp only [setM, lookL_setM1, lookL, ih]
    split <;> rfl


theorem fput_apply (d : Option Nat) (v : AV) (lk : Nat → AV) (k : Nat) : fput d v lk k = if d = some k then v else lk k := by
  cases d with
  | none => simp [fput]
  | some d =>
    simp only [fput, Option.some.injEq]
    by_cases e : k = d
    · subst e; simp
    · have e' : ¬ d = k := fun h => e h.symm
      simp [e, e']

theorem put_look (s : AS) (d : Option Nat) (v : AV) : (s.put d v).look = fput d v s.look := by
  funext k
  cases d with
  | none => rfl
  | some d =>
    simp only [AS.put, fput]
    cases h : lookL s.vs d with
    | some u =>
      simp only [AS.look, lookL_setL]
      by_cases e : k = d
      · subst e; simp [h]
      · simp [e]
    | none =>
      simp only [AS.look, lookL]
      by_cases e : k = d
      · subst e; simp [h]
      · have e' : ¬ d = k := fun h => e h.symm
        simp only [e, e', if_false]

theorem put_mem (s : AS) (d : Option Nat) (v : AV) : (s.put d v).mem = s.mem := by
  cases d with
  | none => rfl
  | some d => simp only [AS.put]; split <;> rfl
theorem put_f (s : AS) (d : Option Nat) (v : AV) : (s.put d v).f = s.f.put d v := by
  simp only [AS.f, FS.put, put_look, put_mem]
theorem upd_f (s : AS) (up : Upd) : (s.upd up).f = s.f.upd up := by
  simp only [AS.f, FS.upd, AS.upd]
  congr 1
  funext i
  rw [lookL_setM]
  rfl

theorem lookL_mvS (φ : Nat → Option Nat) (l : List (Nat × AV)) (i : Nat) : lookL (mvS φ l) i = (lookL l i).map (AV.mv φ) := by
  induction l with
  | nil => rfl
  | cons p r ih => obtain ⟨j, x⟩ := p; simp only [mvS, lookL, ih]; split <;> rfl
theorem lookL_mvM {φ ψ : Nat → Option Nat} (h : ∀ i j, φ i = some j ↔ ψ j = some i) (l : List (Nat × Ob)) (j : Nat) : lookL (mvM φ l) j = (ψ j).bind fun i => (lookL l i).map (Ob.mv φ) := by
  induction l with
  | nil => simp only [mvM, lookL]; cases ψ j <;> rfl
  | cons p r ih =>
    obtain ⟨i, x⟩ := p
    simp only [mvM]
    cases hi : φ i with
    | none =>
      simp only [ih]
      cases hj : ψ j with
      | none => rfl
      | some i' =>
        simp only [Option.bind_some, lookL]
        by_cases e : i = i'
        · subst e; rw [(h i j).2 hj] at hi; cases hi
        · rw [if_neg e]
    | some k =>
      simp only [lookL, ih]
      by_cases e : k = j
      · subst e; rw [if_pos rfl, (h i k).1 hi]; simp
      · rw [if_neg e]
        cases hj : ψ j with
        | none => rfl
        | some i' =>
          simp only [Option.bind_some]
          by_cases e2 : i = i'
          · subst e2; rw [(h i j).2 hj] at hi; injection hi with hi; exact absurd hi.symm e
          · rw [if_neg e2]
theorem mv_f (s : AS) {φ ψ : Nat → Option Nat} (h : ∀ i j, φ i = some j ↔ ψ j = some i) : (s.mv φ).f = s.f.mv φ ψ := by
  simp only [AS.f, FS.mv, AS.mv]
  congr 1
  · funext k
    simp only [AS.look, lookL_mvS]
    cases lookL s.vs k <;> simp
    cases lookL s.tm k <;> simp [AV.mv]
  · funext j
    exact lookL_mvM h s.mem j

/-! ## what a state stands for -/
structure Ctx where
  w : World
  S : Nat → Prop
  O : Nat → Prop
  N : Nat
  /-- objects that stay where they are, under odd names -/
  pin : Nat → Option Blk
  odd : ∀ id bl, pin id = some bl → id % 2 = 1

def RepF (c : Ctx) (f : FS) (a : Act) (w : World) : Prop :=
  ∃ S β, Inv w S β f.mm ∧ (∀ k, rep w S β (f.lk k) (a.tmps.getD k undef) ∧ (f.lk k).plain) ∧ a.tmps.size = c.N ∧ a.defers = [] ∧
    Ext c.w c.S c.O w S ∧ (∀ id bl, β id = some bl → c.O bl.b ∨ c.w.heap.size ≤ bl.b) ∧ (∀ id bl, c.pin id = some bl → β id = some bl)
def RepS (c : Ctx) (s : AS) (a : Act) (w : World) : Prop := RepF c s.f a w

theorem mv_plain {φ : Nat → Option Nat} {x : AV} (h : x.plain) : (x.mv φ).plain := by
  intro v e
  cases x with
  | lit u => exact h v e
  | row id sz lo n => cases e' : φ id <;> simp [AV.mv, e'] at e
  | ptr id i o => cases e' : φ id <;> simp [AV.mv, e'] at e
  | _ => simp [AV.mv] at e

section
variable {P : Program} {c : Ctx}

theorem ev_sound {lk : Nat → AV} {a : Act} {w : World} {S : Nat → Prop} {β : Nat → Option Blk} (h : ∀ k, rep w S β (lk k) (a.tmps.getD k undef) ∧ (lk k).plain) : Ev w S β (evF lk) a.eval := by
  intro x
  cases x with
  | tmp t => exact h t
  | const v =>
    simp only [evF, Act.eval]
    cases v <;> simp only [constAV]
    case agg cs =>
      split
      · rename_i hall
        rw [Array.all_eq_true_iff_forall_mem] at hall
        have h1 : ∀ c ∈ cs.toList, c.oneCell' = true := by simpa using hall
        exact ⟨by simp only [rep]; exact ⟨cs.toList, by simp, h1, reps_map_lit _ h1⟩, fun v e => by cases e⟩
      · exact ⟨by simp [rep], fun v e => by cases e⟩
    case tuple vs => exact ⟨by simp [rep], fun v e => by cases e⟩
    all_goals exact ⟨by simp [rep, Value.oneCell'], fun v e => by cases e; rfl⟩
  | global g => exact ⟨by simp [evF, Act.eval, rep, Value.oneCell'], fun v e => by simp only [evF] at e; injection e with e; subst e; rfl⟩
  | func f => exact ⟨by simp only [evF, Act.eval, rep]; exact ⟨[], by simp, by simp [reps]⟩, fun v e => by simp [evF] at e⟩

theorem getD_put {a : Act} {d : Option Nat} {u : Value} (k : Nat) (hd : ∀ t, d = some t → t < a.tmps.size) : (a.put d u).tmps.getD k undef = if d = some k then u else a.tmps.getD k undef := by
  cases d with
  | none => simp [Act.put]
  | some t =>
    have ht := hd t rfl
    simp only [Act.put, Array.getD_eq_getD_getElem?, Option.some.injEq]
    rw [Array.getElem?_setIfInBounds]
    by_cases e : t = k
    · subst e; simp [ht]
    · simp [e]

/-- A state behind an operation. -/
theorem RepF.step {f : FS} {a : Act} {w : World} {S : Nat → Prop} {β : Nat → Option Blk} {d : Option Nat} {v : AV} {up : Upd} {u : Value} {w' : World} {S' : Nat → Prop} {β' : Nat → Option Blk}
    (hi : Inv w S β f.mm) (hs : ∀ k, rep w S β (f.lk k) (a.tmps.getD k undef) ∧ (f.lk k).plain) (hN : a.tmps.size = c.N) (hd : a.defers = []) (he : Ext c.w c.S c.O w S) (ho : ∀ id bl, β id = some bl → c.O bl.b ∨ c.w.heap.size ≤ bl.b)
    (hpin : ∀ id bl, c.pin id = some bl → β id = some bl) (hdst : ∀ t, d = some t → t < c.N) (h : Done w S β f.mm v up u w' S' β') : RepF c ((f.upd up).put d v) (a.put d u) w' := by
  refine ⟨S', β', h.inv, fun k => ?_, ?_, ?_, ?_, ?_, fun id bl hp => h.keep id bl (hpin id bl hp)⟩
  · show rep w' S' β' (fput d v f.lk k) _ ∧ (fput d v f.lk k).plain
    rw [fput_apply, getD_put k (fun t e => by rw [hN]; exact hdst t e)]
    by_cases e : d = some k
    · simp only [e, if_true]; exact ⟨h.val, h.plain⟩
    · simp only [e, if_false]
      exact ⟨rep_mono (fun b hb => h.ext.sub b hb) (fun id _ bl hb => h.keep id bl hb) (hs k).1, (hs k).2⟩
  · cases d <;> simp [Act.put, hN]
  · cases d <;> simp [Act.put, hd]
  · refine he.trans h.ext ?_
    rintro b hb ⟨id, bl, hbl, rfl⟩
    exact (ho id bl hbl).resolve_right (by omega)
  · intro id bl hbl
    rcases h.own id bl hbl with ⟨id', bl', h1, h2⟩ | h1
    · rw [← h2]; exact ho id' bl' h1
    · exact .inr (Nat.le_trans he.size h1)

/-- A state, its names turned. -/
theorem RepF.mv {f : FS} {a : Act} {w : World} (h : RepF c f a w) (φ ψ : Nat → Option Nat) (hφ : ∀ i j, φ i = some j ↔ ψ j = some i) (hodd : ∀ i, i % 2 = 1 → ψ i = some i) : RepF c (f.mv φ ψ) a w := by
  obtain ⟨S, β, h1, h2, h3, h4, h5, h6, h7⟩ := h
  refine ⟨S, fun j => (ψ j).bind β, h1.mv φ ψ hφ, fun k => ⟨?_, mv_plain (h2 k).2⟩, h3, h4, h5, fun j bl hb => ?_, fun id bl hp => ?_⟩
  · refine (rep_mv_all (w := w) (w' := w) (S := S) (S' := S) (fun b hb => ⟨hb, rfl⟩) φ).1 β _ _ _ (fun id j hj bl hb => ?_) (h2 k).1
    show (ψ j).bind β = some bl
    rw [(hφ id j).1 hj]; exact hb
  · simp only [Option.bind_eq_some_iff] at hb
    obtain ⟨i, _, hb⟩ := hb
    exact h6 i bl hb
  · simp only
    rw [hodd id (c.odd id bl hp)]
    exact h7 id bl hp
end
end Go.Ax
