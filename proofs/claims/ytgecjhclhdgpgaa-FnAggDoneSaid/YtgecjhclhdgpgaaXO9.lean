import Derived.Test.YtgecjhclhdgpgaaXO8
import Derived.Laws.AppendOwn
import Derived.Below
import Derived.RangeFuncRecord
set_option linter.unusedVariables false
set_option linter.unusedSimpArgs false
namespace Go.Ax
open Go
theorem callOk_of {P : Program} {N : FuncId} {us : Array Value} {w : World} {R : Value → World → Prop} (he : (callFunc N us).run P w = .ok (.enter N us) w) (h : Calls P N us w fun e w' => ∃ u, e = .returned u ∧ R u w') : CallOk P N us w R := by
  unfold CallOk
  rw [he]
  exact h
theorem repEls_ints {w : World} {S : Nat → Prop} {g : Nat} : ∀ (l : List Int) (o : Nat), (∀ j, j < l.length → w.cell? ⟨g, o + j, none⟩ = some (.int .i64 (l.getD j 0))) → repEls w S β0 1 (encL Enc.e l) g o
  | [], _, _ => by simp [encL, repEls]
  | x :: l, o, h => by
    rw [encL_cons]
    simp only [repEls]
    refine ⟨rfl, ?_, repEls_ints l (o + 1) fun j hj => ?_⟩
    · have := h 0 (by simp)
      simp only [Nat.add_zero, List.getD_cons_zero] at this
      show repEl w S β0 (.lit (.int .i64 x)) g o
      simp only [repEl]
      exact ⟨_, this, rfl, by simp [rep, Value.oneCell']⟩
    · have := h (j + 1) (by simp; omega)
      rw [List.getD_cons_succ] at this
      rw [← this]; congr 2; omega
theorem ints_repEls {w : World} {S : Nat → Prop} {g : Nat} : ∀ (l : List Int) (o : Nat), repEls w S β0 1 (encL Enc.e l) g o → ∀ j, j < l.length → w.cell? ⟨g, o + j, none⟩ = some (.int .i64 (l[j]?.getD 0))
  | [], _, _, j, hj => by simp at hj
  | x :: l, o, h, j, hj => by
    rw [encL_cons] at h
    simp only [repEls] at h
    obtain ⟨_, h1, h2⟩ := h
    cases j with
    | zero =>
      have h1' : repEl w S β0 (.lit (.int .i64 x)) g o := h1
      simp only [repEl] at h1'
      obtain ⟨v, c1, _, c2⟩ := h1'
      rw [Nat.add_zero, c1, rep_lit' c2]; simp
    | succ j =>
      have := ints_repEls l (o + 1) h2 j (by simpa using hj)
      rw [List.getElem?_cons_succ, ← this]; congr 2; omega
theorem cell_of_cells {w : World} {g : Nat} {cur : Array Value} {ty : TypeId} (h : w.heap[g]? = some (.cells cur ty (0, 0))) (o : Nat) : w.cell? ⟨g, o, none⟩ = cur[o]? := by
  simp [World.cell?, h]
/-- Nothing that lay before has turned. -/
theorem ext_below {w w' : World} {S : Nat → Prop} {O : Nat → Prop} {β : Nat → Option Blk} {μ : Look} (hi : Inv w S β μ) (hb : RowKit.Below w.heap.size w w') : Ext w S O w' S :=
  ⟨hb.os, hb.tape, hb.output, hb.size, fun b h => ⟨h, hb.block b (hi.slt b h)⟩, fun b h _ => hb.block b h, fun b h => .inl h⟩
/-- A row of integers of the call's own is handed back. -/
theorem rowI_done {w w' : World} {S : Nat → Prop} {β : Nat → Option Blk} {μ : Look} {nid : Nat} (hi : Inv w S β μ) (hb : RowKit.Below w.heap.size w w') (hfree : μ nid = none) {l : List Int} {ty : TypeId} {v : Value}
    (hrow : w'.ownsRow w.heap.size ty 1 v l.length (l.map (Value.int .i64))) :
    ∃ S' β', Done w S β μ (.row nid 1 0 l.length) [(nid, ⟨1, encL Enc.e l, true, false⟩)] v w' S' β' := by
  rcases hrow.2 with ⟨rfl, h0⟩ | ⟨g, cap, cur, rfl, hg, hgb, h1, h2, h3, h4⟩
  · obtain rfl : l = [] := List.length_eq_zero_iff.1 h0
    exact nil_fin (ε := Int) (up' := []) hi (by rw [show ([] : Upd) = noUpd from rfl, noUpd_app]; exact hi) (Ext.refl _ _ _) hfree (S' := S) (β' := β) (by simp [rep, Value.oneCell']) (ext_below hi hb)
  · have hfb : β nid = none := (hi.live nid).1 hfree
    let bl : Blk := ⟨g, 0, cap, 1⟩
    have hat : ObAt w' S (upd β nid (some bl)) bl ⟨1, encL Enc.e l, true, false⟩ := by
      refine ⟨rfl, by rw [encL_length]; exact h1, h2, fun _ => ⟨cur, ty, hgb, by show 0 + cap * 1 ≤ _; omega, ?_⟩⟩
      refine repEls_ints l 0 fun j hj => ?_
      rw [cell_of_cells hgb, ← Array.getElem?_toList, Nat.zero_add]
      have h5 : (cur.toList.take (l.length * 1))[j]? = (l.map (Value.int .i64))[j]? := by rw [h4]
      rw [List.getElem?_take_of_lt (by omega)] at h5
      rw [h5]
      simp [List.getD_eq_getElem?_getD, hj]
    have hA := hi.adopt hfree (w' := w') (bl := bl) (ob := ⟨1, encL Enc.e l, true, false⟩) rfl hb.size (fun k hk _ => hb.block k hk) (fun _ h => by have := hi.slt _ h; simp only [bl] at this; omega)
      (fun id o b hm hd hβ hc _ => by have := hi.blt hm hd hβ hc; simp only [bl]; omega) hat
    refine ⟨S, upd β nid (some bl), hA, ?_, plain_row _ _ _ _, ext_below hi hb, ?_, ?_⟩
    · simp only [rep]
      exact ⟨bl, _, upd_same _ _ _, rfl, by show 0 + l.length ≤ cap; omega, rfl, fun _ => rfl⟩
    · intro i b h; rw [upd_ne _ _ (fun e => by rw [e, hfb] at h; cases h)]; exact h
    · intro i b h
      by_cases e : i = nid
      · subst e; rw [upd_same] at h; injection h with h; subst h; exact .inr hg
      · rw [upd_ne _ _ e] at h; exact .inl ⟨i, b, h, rfl⟩
/-- A function value that holds a box of its own is handed back. -/
theorem box_done {w : World} {S : Nat → Prop} {β : Nat → Option Blk} {μ : Look} {nid : Nat} (hi : Inv w S β μ) (hfree : μ nid = none) {f : FuncId} {ty : TypeId} {z : Nat} {xs : List AV} {v : Value} (hx2 : v.oneCell' = true) (hr : rep w S β0 (.sl z xs) v) :
    ∃ S' β', Done w S β μ (.fn f [.ptr nid 0 0]) [(nid, ⟨1, [.sl z xs], true, false⟩)] (.func (.func f) #[] #[.pointer (some ⟨w.heap.size, 0, none⟩)]) (w.alloc (.cells #[v] ty)) S' β' := by
  have hb : RowKit.Below w.heap.size w (w.alloc (.cells #[v] ty)) := (RowKit.Below.refl _ w).alloc (Nat.le_refl _) _
  have hfb : β nid = none := (hi.live nid).1 hfree
  let bl : Blk := ⟨w.heap.size, 0, 1, 1⟩
  have hgb : (w.alloc (.cells #[v] ty)).heap[w.heap.size]? = some (.cells #[v] ty (0, 0)) := World.alloc_heap_new w _
  have hr' : rep (w.alloc (.cells #[v] ty)) S β0 (.sl z xs) v := (rep_mono_all (w := w) (w' := w.alloc (.cells #[v] ty)) (S := S) (S' := S) (fun b h => ⟨h, hb.block b (hi.slt b h)⟩)).1 β0 _ v β0 (fun _ _ _ h => h) hr
  have hat : ObAt (w.alloc (.cells #[v] ty)) S (upd β nid (some bl)) bl ⟨1, [.sl z xs], true, false⟩ := by
    refine ⟨rfl, by simp [bl], by simp [bl, maxLen], fun _ => ⟨_, ty, hgb, by simp [bl], ?_⟩⟩
    simp only [repEls]
    refine ⟨rfl, ?_, trivial⟩
    show repEl _ S β0 (.sl z xs) w.heap.size 0
    simp only [repEl]
    exact ⟨v, by rw [cell_of_cells hgb]; rfl, hx2, hr'⟩
  have hA := hi.adopt hfree (w' := w.alloc (.cells #[v] ty)) (bl := bl) (ob := ⟨1, [.sl z xs], true, false⟩) rfl hb.size (fun k hk _ => hb.block k hk) (fun _ h => by have := hi.slt _ h; simp only [bl] at this; omega)
    (fun id o b hm hd hβ hc _ => by have := hi.blt hm hd hβ hc; simp only [bl]; omega) hat
  refine ⟨S, upd β nid (some bl), hA, ?_, (fun v e => by cases e), ext_below hi hb, ?_, ?_⟩
  · simp only [rep]
    refine ⟨[.pointer (some ⟨w.heap.size, 0, none⟩)], rfl, ?_⟩
    simp only [reps]
    exact ⟨_, [], rfl, by simp only [rep]; exact ⟨bl, upd_same _ _ _, rfl⟩, rfl⟩
  · intro i b h; rw [upd_ne _ _ (fun e => by rw [e, hfb] at h; cases h)]; exact h
  · intro i b h
    by_cases e : i = nid
    · subst e; rw [upd_same] at h; injection h with h; subst h; exact .inr (Nat.le_refl _)
    · rw [upd_ne _ _ e] at h; exact .inl ⟨i, b, h, rfl⟩
end Go.Ax
