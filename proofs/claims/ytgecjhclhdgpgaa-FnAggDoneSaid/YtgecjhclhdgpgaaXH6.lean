import Derived.Test.YtgecjhclhdgpgaaXH1
import Derived.Deep.AppendSrc
set_option linter.unusedVariables false
set_option linter.unusedSimpArgs false
namespace Go.Ax
open Go

section
variable {P : Program} {w : World}

/-- Cells written one by one are a row written at once. -/
theorem setCells_eq_setRow {b o : Nat} {ty : TypeId} {c : Array Value} {vs : List Value} (hc : w.heap[b]? = some (.cells c ty (0, 0))) (hfit : o + vs.length ≤ c.size) (h1 : ∀ u ∈ vs, u.oneCell' = true) :
    w.setCells b o vs = w.setRow b (c.toList.take o ++ vs ++ c.toList.drop (o + vs.length)).toArray := by
  have r1 := run_storeCells_at default b o ty vs 0 c w hc (by simpa using hfit) h1
  have r2 := run_storeCells_cells (P := default) b o vs 0 w (fun j hj => by
    have : o + 0 + j < c.size := by omega
    simp [World.cell?, hc]
    omega) (fun j hj => by simp [World.frozen?, hc]) h1
  rw [r2] at r1
  simp only [Nat.add_zero] at r1
  injection r1
end
end Go.Ax
namespace Go.Ax
open Go

section
variable {P : Program} {w : World} {S : Nat → Prop} {β : Nat → Option Blk} {μ : Look}

theorem repEls_append {β : Nat → Option Blk} {sz b : Nat} (xs ys : List AV) (o : Nat) : repEls w S β sz (xs ++ ys) b o ↔ repEls w S β sz xs b o ∧ repEls w S β sz ys b (o + xs.length * sz) := by
  induction xs generalizing o with
  | nil => simp [repEls]
  | cons x xs ih =>
    simp only [List.cons_append, repEls, ih, List.length_cons, and_assoc]
    rw [show o + sz + xs.length * sz = o + (xs.length + 1) * sz from by rw [Nat.add_mul]; omega]

/-- What a list of elements is in cells. -/
theorem els_cells {β : Nat → Option Blk} {sz b o : Nat} {els : List AV} (h : repEls w S β sz els b o) : ∃ us : List Value, us.length = els.length * sz ∧ reps w S β (els.flatMap AV.cells) us ∧ (∀ u ∈ us, u.oneCell' = true) ∧ (∀ x ∈ els, x.cells.length = sz) ∧
    ∀ j u, us[j]? = some u → w.cell? ⟨b, o + j, none⟩ = some u := by
  obtain ⟨h1, h2⟩ := (repEls_of_cells els o).1 h
  obtain ⟨us, hr, ho, hc⟩ := repCells_at h2
  refine ⟨us, ?_, hr, ho, h1, hc⟩
  rw [reps_length hr]
  clear h h2 hr hc
  induction els with
  | nil => simp
  | cons x xs ih => simp only [List.flatMap_cons, List.length_append, List.length_cons, ih (fun y hy => h1 y (by simp [hy])), h1 x (by simp), Nat.add_mul, Nat.one_mul]; omega
end
end Go.Ax
namespace Go.Ax
open Go

section
variable {P : Program} {w : World} {S : Nat → Prop} {β : Nat → Option Blk} {μ : Look}

theorem Inv.drew (hi : Inv w S β μ) : Inv w.drew S β μ :=
  hi.world (w' := w.drew) (fun b hb => ⟨hb, rfl⟩) (fun id o b hm hd hb hc => ⟨rfl, hi.notS id o b hm hd hb hc⟩) hi.slt

/-- A new row of cells, some of them said. -/
theorem obAt_new {w' : World} {b sz cap : Nat} {cl : Bool} {els : List AV} {us : List Value} {c : Array Value} {ty : TypeId} {o : Nat} (hc : cap ≠ 0 → w'.heap[b]? = some (.cells c ty (0, 0)))
    (hr : reps w' S (βc cl β) (els.flatMap AV.cells) us) (h1 : ∀ u ∈ us, u.oneCell' = true) (hw : ∀ x ∈ els, x.cells.length = sz) (hcap : els.length ≤ cap) (hmax : cap ≤ maxLen) (hsize : cap ≠ 0 → o + cap * sz ≤ c.size)
    (hcell : cap ≠ 0 → ∀ j u, us[j]? = some u → c[o + j]? = some u) : ObAt w' S β ⟨b, o, cap, sz⟩ ⟨sz, els, cl, false⟩ := by
  refine ⟨rfl, hcap, hmax, fun h0 => ⟨c, ty, hc h0, hsize h0, ?_⟩⟩
  rw [repEls_of_cells]
  refine ⟨hw, repCells_of_reps (fun x u h => h) _ us o hr h1 (fun j u hj => ?_)⟩
  simp [World.cell?, hc h0, hcell h0 j u hj]

theorem reps_closed {β' : Nat → Option Blk} {xs : List AV} {us : List Value} (hc : closedL xs = true) (h : reps w S β xs us) : reps w S β' xs us :=
  reps_mono (w := w) (S := S) (fun b hb => ⟨hb, rfl⟩) (fun id hid _ _ => by rw [closedL_has xs hc id] at hid; cases hid) h
theorem reps_βc (cl : Bool) {xs : List AV} {us : List Value} (h : reps w S (βc cl β) xs us) : reps w S β xs us := by
  cases cl with
  | true => exact reps_mono (w := w) (S := S) (fun b hb => ⟨hb, rfl⟩) (fun _ _ _ h => by simp [βc, β0] at h) h
  | false => exact h
theorem reps_βc_of (c c' : Bool) (hcc : c = true → c' = true) {xs : List AV} {us : List Value} (h : reps w S (βc c' β) xs us) : reps w S (βc c β) xs us := by
  cases c with
  | true => rw [hcc rfl] at h; exact h
  | false => exact reps_βc c' h

theorem repEls_drop {β : Nat → Option Blk} {sz b : Nat} : ∀ (lo : Nat) (els : List AV) (o : Nat), repEls w S β sz els b o → lo ≤ els.length → repEls w S β sz (els.drop lo) b (o + lo * sz)
  | 0, els, o, h, _ => by simpa using h
  | lo + 1, [], o, h, hl => by simp at hl
  | lo + 1, x :: xs, o, h, hl => by
    simp only [repEls] at h
    have := repEls_drop lo xs (o + sz) h.2.2 (by simpa using hl)
    simp only [List.drop_succ_cons]
    rw [Nat.add_mul, Nat.one_mul, Nat.add_comm (lo * sz), ← Nat.add_assoc]
    exact this
theorem repEls_take {β : Nat → Option Blk} {sz b : Nat} : ∀ (n : Nat) (els : List AV) (o : Nat), repEls w S β sz els b o → repEls w S β sz (els.take n) b o
  | 0, els, o, h => by simp [repEls]
  | n + 1, [], o, h => by simp [repEls]
  | n + 1, x :: xs, o, h => by
    simp only [repEls] at h
    simp only [List.take_succ_cons, repEls]
    exact ⟨h.1, h.2.1, repEls_take n xs (o + sz) h.2.2⟩

/-- Bytes, as cells. -/
def byteL (s : ByteArray) : List AV := s.data.toList.map fun b => .lit (.int .u8 b.toNat)

/-- The elements of a slice that is read: what is owed, the elements, do they name no object. -/
def srcE (sz : Nat) (x : AV) (lk : Look) : Option (Prop × List AV × Bool) := match x with
  | .sl z xs => some (xs = [] ∨ z = sz, xs, true)
  | .row id z lo m => match lk id with
    | some ob => some (z = sz ∧ (ob.dd = false ∨ ob.cl = false) ∧ lo + m ≤ ob.els.length, (ob.els.drop lo).take m, ob.cl || ob.dd)
    | none => none
  | .lit (.slice none 0 0) => some (True, [], true)
  | .lit (.string s) => some (sz = 1, byteL s, true)
  | .lit (.slice (some _) 0 _) => some (True, [], true)
  | _ => none

/-- The elements of an own slice, as cells. -/
theorem row_cells (hi : Inv w S β μ) {id lo m : Nat} {bl : Blk} {ob : Ob} (hm : μ id = some ob) (hb : β id = some bl) (hrd : ob.dd = false ∨ ob.cl = false) (hle : lo + m ≤ ob.els.length) :
    ∃ us : List Value, us.length = m * bl.sz ∧ reps w S (βc (ob.cl || ob.dd) β) (((ob.els.drop lo).take m).flatMap AV.cells) us ∧ (∀ u ∈ us, u.oneCell' = true) ∧ (∀ x ∈ (ob.els.drop lo).take m, x.cells.length = bl.sz) ∧
    ∀ j u, us[j]? = some u → w.cell? ⟨bl.b, bl.o + lo * bl.sz + j, none⟩ = some u := by
  have key : ∀ β', RowAt w S β' bl ob.els → ∃ us : List Value, us.length = m * bl.sz ∧ reps w S β' (((ob.els.drop lo).take m).flatMap AV.cells) us ∧ (∀ u ∈ us, u.oneCell' = true) ∧ (∀ x ∈ (ob.els.drop lo).take m, x.cells.length = bl.sz) ∧
    ∀ j u, us[j]? = some u → w.cell? ⟨bl.b, bl.o + lo * bl.sz + j, none⟩ = some u := by
    rintro β' ⟨c, ty, _, _, h⟩
    obtain ⟨us, h1, h2, h3, h4, h5⟩ := els_cells (repEls_take m _ _ (repEls_drop lo _ _ h (by omega)))
    refine ⟨us, ?_, h2, h3, h4, h5⟩
    rw [h1]; congr 1
    rw [List.length_take, List.length_drop]; omega
  by_cases hc : bl.cap = 0
  · have hl : ob.els.length ≤ bl.cap := by
      cases hd : ob.dd with
      | false => exact (hi.obs id ob bl hm hd hb).2.1
      | true => exact (hi.fzs id ob bl hm hd (hrd.resolve_left (by rw [hd]; simp)) hb).2.1
    have hm0 : m = 0 := by omega
    subst hm0
    exact ⟨[], by simp, by simp [reps], by simp, by simp, by simp⟩
  · cases hd : ob.dd with
    | false => rw [Bool.or_false]; exact key _ ((hi.obs id ob bl hm hd hb).2.2.2 hc)
    | true => rw [Bool.or_true]; exact key _ ((hi.fzs id ob bl hm hd (hrd.resolve_left (by rw [hd]; simp)) hb).2.2.2 hc).2

theorem srcSlice {size : Nat} {tx : TypeId} (hk : (∃ e', P.underlying tx = some (.slice e')) ∨ P.underlying tx = some .string) (a : Addr) (n c : Nat) (news : List Value) (hl : news.length = n * size) (hnews : ∀ j u, news[j]? = some u → w.cell? (a.add j) = some u)
    (h1 : ∀ u ∈ news, u.oneCell' = true) : Src P size tx (.slice (some a) n c) n news w :=
  ⟨hk, fun _ => rfl, run_firstCells_some w size n a n c news hl hnews, run_firstCells_some w.drew size n a n c news hl (by simpa using hnews), hl, h1⟩
theorem srcNil {size : Nat} {tx : TypeId} (hk : (∃ e', P.underlying tx = some (.slice e')) ∨ P.underlying tx = some .string) (c : Nat) : Src P size tx (.slice none 0 c) 0 [] w :=
  ⟨hk, fun _ => rfl, run_firstCells_none w size 0 0 c, run_firstCells_none w.drew size 0 0 c, by simp, fun _ h => by cases h⟩
theorem srcString {tx : TypeId} (hk : (∃ e', P.underlying tx = some (.slice e')) ∨ P.underlying tx = some .string) (s : ByteArray) : Src P 1 tx (.string s) s.size (byteCells s) w :=
  ⟨hk, fun _ => rfl, firstCells_string s w, firstCells_string s w.drew, by rw [byteCells_length, Nat.mul_one], fun u hu => by
    obtain ⟨_, _, rfl⟩ := List.mem_map.1 hu
    rfl⟩

theorem src_of (hi : Inv w S β μ) {sz : Nat} {x : AV} {u : Value} {tx : TypeId} {p : Prop} {ys : List AV} {cl : Bool} (hk : (∃ e', P.underlying tx = some (.slice e')) ∨ P.underlying tx = some .string) (hx : rep w S β x u) (h : srcE sz x μ = some (p, ys, cl)) (hp : p) :
    ∃ news, Src P sz tx u ys.length news w ∧ reps w S (βc cl β) (ys.flatMap AV.cells) news ∧ (∀ a ∈ ys, a.cells.length = sz) := by
  unfold srcE at h
  split at h
  · rename_i z xs
    simp only [Option.some.injEq, Prod.mk.injEq] at h
    obtain ⟨rfl, rfl, rfl⟩ := h
    simp only [rep] at hx
    obtain ⟨a, cap, rfl, _, hx⟩ := hx
    rcases hx with rfl | ⟨b, o, rfl, _, hx⟩
    · refine ⟨[], ?_, by simp [reps], by simp⟩
      cases a with
      | none => exact srcNil hk cap
      | some a => exact srcSlice hk a 0 cap [] (by simp) (by simp) (by simp)
    · rcases hp with rfl | rfl
      · exact ⟨[], srcSlice hk _ 0 cap [] (by simp) (by simp) (by simp), by simp [reps], by simp⟩
      · obtain ⟨us, h1, h2, h3, h4, h5⟩ := els_cells hx
        exact ⟨us, srcSlice hk _ _ cap us h1 (fun j u hj => by rw [add_addr]; exact h5 j u hj) h3, h2, h4⟩
  · rename_i id z lo m
    split at h
    · rename_i ob hob
      simp only [Option.some.injEq, Prod.mk.injEq] at h
      obtain ⟨rfl, rfl, rfl⟩ := h
      obtain ⟨rfl, hrd, hle⟩ := hp
      simp only [rep] at hx
      obtain ⟨bl, a, hbl, rfl, hcap, rfl, ha⟩ := hx
      obtain ⟨us, h1, h2, h3, h4, h5⟩ := row_cells hi hob hbl hrd hle
      have hlen : ((ob.els.drop lo).take m).length = m := by rw [List.length_take, List.length_drop]; omega
      refine ⟨us, ?_, h2, h4⟩
      rw [hlen]
      by_cases hm : m = 0
      · subst hm
        have : us = [] := List.length_eq_zero_iff.1 (by omega)
        subst this
        cases a with
        | none => exact srcNil hk _
        | some a => exact srcSlice hk a 0 _ [] (by simp) (by simp) (by simp)
      · rw [ha (by omega)]
        exact srcSlice hk _ _ _ us h1 (fun j u hj => by rw [add_addr]; exact h5 j u hj) h3
    · cases h
  · simp only [Option.some.injEq, Prod.mk.injEq] at h
    obtain ⟨rfl, rfl, rfl⟩ := h
    simp only [rep] at hx
    obtain ⟨rfl, _⟩ := hx
    exact ⟨[], srcNil hk 0, by simp [reps], by simp⟩
  · rename_i s
    simp only [Option.some.injEq, Prod.mk.injEq] at h
    obtain ⟨rfl, rfl, rfl⟩ := h
    subst hp
    simp only [rep] at hx
    obtain ⟨rfl, _⟩ := hx
    have hl : (byteL s).length = s.size := by simp [byteL]
    have hb : (byteL s).flatMap AV.cells = (byteCells s).map .lit := by
      simp only [byteL, byteCells, List.map_map]
      induction s.data.toList with
      | nil => rfl
      | cons x xs ih => simp only [List.map_cons, List.flatMap_cons, ih, AV.cells]; rfl
    refine ⟨byteCells s, by rw [hl]; exact srcString hk s, ?_, ?_⟩
    · rw [hb]
      exact reps_map_lit _ (fun v hv => by obtain ⟨_, _, rfl⟩ := List.mem_map.1 hv; rfl)
    · intro a ha
      obtain ⟨_, _, rfl⟩ := List.mem_map.1 ha
      rfl
  · rename_i a c
    simp only [Option.some.injEq, Prod.mk.injEq] at h
    obtain ⟨rfl, rfl, rfl⟩ := h
    obtain rfl := rep_lit' hx
    exact ⟨[], srcSlice hk a 0 c [] (by simp) (by simp) (by simp), by simp [reps], by simp⟩
  · cases h
end
end Go.Ax
namespace Go.Ax
open Go

section
variable {P : Program} {w : World} {S : Nat → Prop} {β : Nat → Option Blk} {μ : Look}

theorem eq_of_room {t tx ty e : TypeId} {inf : TypeInfo} (ht : P.underlying t = some (.slice e)) (hinf : P.info? e = some inf) {base : Option Addr} {n cap m : Nat} {x : Value} (hs : Src P inf.size tx x m [] w) (hroom : n + m ≤ cap) :
    (Builtin.append_ #[t, tx] ty #[.slice base n cap, x]).run P w = .ok (.slice base (n + m) cap) w := by
  have hst : ∀ a : Addr, (storeCells a []).run P w = .ok () w := fun a => by simp [storeCells]
  rcases hs.kind with ⟨e', hk⟩ | hk <;> cases base <;> simp [Builtin.append_, run_underlying ht, run_underlying hk, sizeOf, typeInfo, hinf, hs.len, hroom, hs.cells, hst]

/-- The row grows: a new one. -/
theorem append_grow (hi : Inv w S β μ) {t tx ty e : TypeId} {inf : TypeInfo} {z : Value} (ht : P.underlying t = some (.slice e)) (hinf : P.info? e = some inf) (hz : inf.zero = some z) (hzs : z.cells.size = inf.size)
    {nid : Nat} (hfree : μ nid = none) {base : Option Addr} {n cap m : Nat} {olds news : List Value} (hold : (Builtin.firstCells inf.size n (.slice base n cap)).run P w.drew = .ok olds.toArray w.drew) (holen : olds.length = n * inf.size)
    {x : Value} (hs : Src P inf.size tx x m news w) {els : List AV} {cl : Bool} (hr : reps w S (βc cl β) (els.flatMap AV.cells) (olds ++ news)) (h1 : ∀ u ∈ olds ++ news, u.oneCell' = true) (hw : ∀ a ∈ els, a.cells.length = inf.size) (hlen : els.length = n + m)
    (hg : cap < n + m) (hmax : n + m ≤ maxLen) (hbytes : (n + m) * inf.bytes ≤ 140737488355328) :
    ∃ u w' β', (Builtin.append_ #[t, tx] ty #[.slice base n cap, x]).run P w = .ok u w' ∧ Inv w' S β' (Upd.app [(nid, ⟨inf.size, els, cl, false⟩)] μ) ∧ rep w' S β' (.row nid inf.size 0 (n + m)) u ∧ Ext w S (Own β) w' S ∧
      (∀ id bl, β id = some bl → β' id = some bl) ∧ (∀ id bl, β' id = some bl → Own β bl.b ∨ w.heap.size ≤ bl.b) := by
  have hcm : grownCap w (n + m) cap e ≤ maxLen := grownCap_le_maxLen w (n + m) cap e hmax
  have hge := grownCap_ge w (n + m) cap e
  have hrun := run_append_grow_src (P := P) w t tx ty e inf z ht hinf hz base n cap olds hold x m news hs hg (by simp only [maxLen] at hmax; omega) (growslice_fits hg hbytes)
  have hS : ∀ b, S b → S b ∧ (w.drew.alloc (.cells ((olds ++ news).toArray ++ Builtin.zeroCells z.cells (grownCap w (n + m) cap e - (n + m))) e)).heap[b]? = w.heap[b]? := fun b hb => ⟨hb, Go.RowKit.Below.heap_alloc w.drew _ b (hi.slt b hb)⟩
  obtain ⟨g1, g2, g3, g4⟩ := new_object (hi.drew) hfree inf.size (grownCap w (n + m) cap e) cl els (olds ++ news) ((olds ++ news).toArray ++ Builtin.zeroCells z.cells (grownCap w (n + m) cap e - (n + m))) e
    (reps_mono (w := w) (w' := w.drew) (S := S) (fun b hb => ⟨hb, rfl⟩) (fun _ _ _ h => h) hr) h1 hw (by omega) hcm (by
      simp only [Array.size_append, List.size_toArray, List.length_append, size_zeroCells, hzs, holen, hs.newsLen, ← Nat.add_mul]
      apply Nat.mul_le_mul_right; omega) (fun j u hj => by
      rw [Array.getElem?_append_left (by simpa using (List.getElem?_eq_some_iff.1 hj).1)]
      simpa using hj)
  refine ⟨_, _, _, hrun, g1, ?_, ⟨rfl, rfl, rfl, by simp, hS, fun b hb _ => Go.RowKit.Below.heap_alloc w.drew _ b hb, fun b hb => .inl hb⟩, g3, g4⟩
  simp only [rep]
  refine ⟨_, _, upd_same _ _ _, rfl, by simpa using hge, rfl, fun _ => by rw [Nat.zero_mul]; rfl⟩

/-- There is room. -/
theorem append_place (hi : Inv w S β μ) {t tx ty e : TypeId} {inf : TypeInfo} (ht : P.underlying t = some (.slice e)) (hinf : P.info? e = some inf)
    {nid id lo n m : Nat} (hfree : μ nid = none) {bl : Blk} {ob : Ob} (hm : μ id = some ob) (hd : ob.dd = false) (hbl : β id = some bl) (hsz : bl.sz = inf.size) (hle : lo + n ≤ ob.els.length) {a : Option Addr} (ha : lo < bl.cap → a = some ⟨bl.b, bl.o + lo * bl.sz, none⟩)
    {x : Value} {news : List Value} (hs : Src P inf.size tx x m news w) {ys : List AV} (hr : reps w S (βc ob.cl β) (ys.flatMap AV.cells) news) (hw : ∀ y ∈ ys, y.cells.length = inf.size) (hlen : ys.length = m) (hroom : n + m ≤ bl.cap - lo) :
    ∃ u w' β', (Builtin.append_ #[t, tx] ty #[.slice a n (bl.cap - lo), x]).run P w = .ok u w' ∧ Inv w' S β' (Upd.app [(nid, ⟨inf.size, (ob.els.drop lo).take n ++ ys, ob.cl, false⟩), (id, deadOb inf.size)] μ) ∧ rep w' S β' (.row nid inf.size 0 (n + m)) u ∧ Ext w S (Own β) w' S ∧
      (∀ id bl, β id = some bl → β' id = some bl) ∧ (∀ id bl, β' id = some bl → Own β bl.b ∨ w.heap.size ≤ bl.b) := by
  obtain ⟨g1, g2, g3, g4⟩ := hi.obs id ob bl hm hd hbl
  obtain ⟨olds, o1, o2, o3, o4, o5⟩ := row_cells hi hm hbl (.inl hd) hle
  rw [hd, Bool.or_false] at o2
  rw [hsz] at o1 o4 o5
  have hne : nid ≠ id := fun e => by rw [e, hm] at hfree; cases hfree
  have hfb : β nid = none := (hi.live nid).1 hfree
  let bl' : Blk := ⟨bl.b, bl.o + lo * bl.sz, bl.cap - lo, inf.size⟩
  have hek := hi.kill hbl inf.size
  have hfree' : Upd.app [(id, deadOb inf.size)] μ nid = none := by rw [app_one, if_neg hne]; exact hfree
  have hlive : ∀ i o b, Upd.app [(id, deadOb inf.size)] μ i = some o → o.dd = false → β i = some b → b.cap ≠ 0 → bl'.cap ≠ 0 → b.b ≠ bl'.b := by
    intro i o b h hd' hb hc hc' he
    rw [app_one] at h
    by_cases e : i = id
    · rw [if_pos e] at h; injection h with h; subst h; cases hd'
    · rw [if_neg e] at h
      exact e (hi.inj i id o ob b bl h hd' hm hd hb hbl hc (fun h0 => hc' (by show bl.cap - lo = 0; omega)) he)
  have hβ : ∀ i b, β i = some b → upd β nid (some bl') i = some b := fun i b h => by rw [upd_ne _ _ (fun e => by rw [e, hfb] at h; cases h)]; exact h
  have hown : ∀ i b, upd β nid (some bl') i = some b → Own β b.b ∨ w.heap.size ≤ b.b := by
    intro i b h
    by_cases e : i = nid
    · subst e; rw [upd_same] at h; injection h with h; subst h; exact .inl ⟨id, bl, hbl, rfl⟩
    · rw [upd_ne _ _ e] at h; exact .inl ⟨i, b, h, rfl⟩
  have hwid : ∀ y ∈ (ob.els.drop lo).take n ++ ys, y.cells.length = inf.size := by
    intro y hy
    rcases List.mem_append.1 hy with hy | hy
    · exact o4 y hy
    · exact hw y hy
  have hlen2 : ((ob.els.drop lo).take n ++ ys).length = n + m := by rw [List.length_append, List.length_take, List.length_drop]; omega
  have hreps : ∀ w' : World, (∀ b, S b → S b ∧ w'.heap[b]? = w.heap[b]?) → reps w' S (βc ob.cl (upd β nid (some bl'))) (((ob.els.drop lo).take n ++ ys).flatMap AV.cells) (olds ++ news) := by
    intro w' hS
    rw [List.flatMap_append]
    have hb2 : ∀ i b, βc ob.cl β i = some b → βc ob.cl (upd β nid (some bl')) i = some b := by
      intro i b h
      cases hcl : ob.cl with
      | true => rw [hcl] at h; exact h
      | false => rw [hcl] at h; exact hβ i b h
    exact reps_append (reps_mono hS (fun i _ b h => hb2 i b h) o2) (reps_mono hS (fun i _ b h => hb2 i b h) hr)
  have hones : ∀ u ∈ olds ++ news, u.oneCell' = true := fun u hu => (List.mem_append.1 hu).elim (o3 u) (hs.one u)
  rw [app_cons]
  by_cases hnil : news = []
  · subst hnil
    have hrun := eq_of_room (P := P) (w := w) (ty := ty) ht hinf hs (base := a) hroom
    have hS : ∀ b, S b → S b ∧ w.heap[b]? = w.heap[b]? := fun b hb => ⟨hb, rfl⟩
    refine ⟨_, w, upd β nid (some bl'), hrun, hek.adopt hfree' (w' := w) (bl := bl') rfl (Nat.le_refl _) (fun _ _ _ => rfl) (fun hc => hi.notS id ob bl hm hd hbl (fun h0 => hc (by show bl.cap - lo = 0; omega))) hlive ?_, ?_, Ext.refl _ _ _, hβ, hown⟩
    · by_cases hc : bl'.cap = 0
      · exact obAt_new (c := #[]) (ty := 0) (fun h => absurd hc h) (hreps w hS) hones hwid (by rw [hlen2]; exact hroom) (Nat.le_trans (Nat.sub_le _ _) g3) (fun h => absurd hc h) (fun h => absurd hc h)
      · obtain ⟨c, ty', c1, c2, c3⟩ := g4 (fun h0 => hc (by show bl.cap - lo = 0; omega))
        have hcle : bl.o + lo * bl.sz + (bl.cap - lo) * inf.size ≤ c.size := by
          rw [← hsz, Nat.add_assoc, ← Nat.add_mul]
          have : lo + (bl.cap - lo) = bl.cap := by omega
          rw [this]; exact c2
        refine obAt_new (fun _ => c1) (hreps w hS) hones hwid (by rw [hlen2]; exact hroom) (Nat.le_trans (Nat.sub_le _ _) g3) (fun _ => hcle) (fun _ j u hj => ?_)
        rw [List.append_nil] at hj
        have := o5 j u hj
        rw [← hsz] at this
        simp [World.cell?, c1] at this
        exact this
    · simp only [rep]
      exact ⟨bl', a, upd_same _ _ _, rfl, by simpa using hroom, rfl, fun h => by rw [Nat.zero_mul]; exact ha (by have : 0 < bl.cap - lo := h; omega)⟩
  · have hnl : 0 < news.length := List.length_pos_iff.2 hnil
    have hm0 : 0 < m := by
      rcases Nat.eq_zero_or_pos m with h | h
      · have := hs.newsLen; rw [h] at this; simp at this; exact absurd this hnil
      · exact h
    have hlc : lo < bl.cap := by omega
    have hc0 : bl.cap ≠ 0 := by omega
    obtain ⟨c, ty', c1, c2, c3⟩ := g4 hc0
    have hfit : bl.o + lo * bl.sz + n * inf.size + news.length ≤ c.size := by
      rw [hs.newsLen, ← hsz]
      have h1 : (lo + n + m) * bl.sz ≤ bl.cap * bl.sz := Nat.mul_le_mul_right _ (by omega)
      rw [Nat.add_mul, Nat.add_mul] at h1
      omega
    rw [ha hlc]
    have hrun := run_append_room_src (P := P) w t tx ty e inf ht hinf bl.b (bl.o + lo * bl.sz) n (bl.cap - lo) x m news hs hroom
      (fun j hj => by
        have : bl.o + lo * bl.sz + n * inf.size + j < c.size := by omega
        simp [World.cell?, c1, this]) (fun j hj => by simp [World.frozen?, c1])
    rw [setCells_eq_setRow c1 (by omega) hs.one] at hrun
    have hheap := setRow_heap w bl.b c (c.toList.take (bl.o + lo * bl.sz + n * inf.size) ++ news ++ c.toList.drop (bl.o + lo * bl.sz + n * inf.size + news.length)).toArray ty' (0, 0) c1
    have hoth : ∀ k, k ≠ bl.b → (w.setRow bl.b (c.toList.take (bl.o + lo * bl.sz + n * inf.size) ++ news ++ c.toList.drop (bl.o + lo * bl.sz + n * inf.size + news.length)).toArray).heap[k]? = w.heap[k]? := fun k hk => setRow_other w bl.b k _ hk
    have hsize : (w.setRow bl.b (c.toList.take (bl.o + lo * bl.sz + n * inf.size) ++ news ++ c.toList.drop (bl.o + lo * bl.sz + n * inf.size + news.length)).toArray).heap.size = w.heap.size := by simp
    have hos : (w.setRow bl.b (c.toList.take (bl.o + lo * bl.sz + n * inf.size) ++ news ++ c.toList.drop (bl.o + lo * bl.sz + n * inf.size + news.length)).toArray).os = w.os ∧ (w.setRow bl.b (c.toList.take (bl.o + lo * bl.sz + n * inf.size) ++ news ++ c.toList.drop (bl.o + lo * bl.sz + n * inf.size + news.length)).toArray).tape = w.tape ∧ (w.setRow bl.b (c.toList.take (bl.o + lo * bl.sz + n * inf.size) ++ news ++ c.toList.drop (bl.o + lo * bl.sz + n * inf.size + news.length)).toArray).output = w.output := ⟨rfl, rfl, rfl⟩
    generalize w.setRow bl.b (c.toList.take (bl.o + lo * bl.sz + n * inf.size) ++ news ++ c.toList.drop (bl.o + lo * bl.sz + n * inf.size + news.length)).toArray = W at *
    have hnS := hi.notS id ob bl hm hd hbl hc0
    have hS : ∀ b, S b → S b ∧ W.heap[b]? = w.heap[b]? := fun b hb => ⟨hb, hoth b (fun e => hnS (e ▸ hb))⟩
    refine ⟨_, W, upd β nid (some bl'), hrun, hek.adopt hfree' (w' := W) (bl := bl') rfl (by omega) (fun k _ h => hoth k (h.resolve_right (by show ¬ bl.cap - lo = 0; omega))) (fun _ => hnS) hlive ?_, ?_, ⟨hos.1, hos.2.1, hos.2.2, by omega, hS, fun b _ hn => hoth b (fun e => hn ⟨id, bl, hbl, e.symm⟩), fun b hb => .inl hb⟩, hβ, hown⟩
    · refine obAt_new (fun _ => hheap) (hreps W hS) hones hwid (by rw [hlen2]; exact hroom) (Nat.le_trans (Nat.sub_le _ _) g3) (fun _ => ?_) (fun _ j u hj => ?_)
      · simp only [List.size_toArray, List.length_append, List.length_take, List.length_drop, Array.length_toList]
        have h1 : (lo + (bl.cap - lo)) * bl.sz = bl.cap * bl.sz := by congr 1; omega
        rw [Nat.add_mul, hsz] at h1
        rw [hsz] at hfit c2 ⊢
        omega
      · simp only [List.getElem?_toArray]
        rw [take_mid]
        simp only [List.length_take, Array.length_toList]
        rw [Nat.min_eq_left (by omega)]
        rw [List.getElem?_append] at hj
        by_cases hjl : j < olds.length
        · rw [if_pos hjl] at hj
          rw [if_pos (by omega), List.getElem?_take, if_pos (by omega)]
          have := o5 j u hj
          rw [← hsz] at this
          simpa [World.cell?, c1] using this
        · rw [if_neg hjl] at hj
          have hj2 := (List.getElem?_eq_some_iff.1 hj).1
          rw [if_neg (by omega), if_pos (by omega)]
          rw [show bl.o + lo * bl.sz + j - (bl.o + lo * bl.sz + n * inf.size) = j - olds.length from by omega]
          exact hj
    · simp only [rep]
      exact ⟨bl', _, upd_same _ _ _, rfl, by simpa using hroom, rfl, fun h => by rw [Nat.zero_mul]; rfl⟩

/-- What is appended to. -/
def appE (sz by' : Nat) (nid : Nat) (x y : AV) (lk : Look) : Option (Prop × AV × Upd) := match srcE sz y lk with
  | some (p, ys, cl) => match x with
    | .row id z lo n => match lk id with
      | some ob => some ((p ∧ z = sz ∧ lk nid = none) ∧ (ob.dd = false ∧ lo + n ≤ ob.els.length ∧ (ob.cl = true → cl = true)) ∧ n + ys.length ≤ maxLen ∧ (n + ys.length) * by' ≤ 140737488355328,
          .row nid sz 0 (n + ys.length), [(nid, ⟨sz, (ob.els.drop lo).take n ++ ys, ob.cl, false⟩), (id, deadOb sz)])
      | none => none
    | .lit (.slice none 0 0) => some ((p ∧ lk nid = none) ∧ ys.length ≤ maxLen ∧ ys.length * by' ≤ 140737488355328, .row nid sz 0 ys.length, [(nid, ⟨sz, ys, cl, false⟩)])
    | _ => none
  | none => none
end
end Go.Ax
namespace Go.Ax
open Go

section
variable {P : Program} {w : World} {S : Nat → Prop} {β : Nat → Option Blk} {μ : Look}

theorem plain_row (id sz lo n : Nat) : (AV.row id sz lo n).plain := fun v h => by cases h
theorem plain_sl (sz : Nat) (xs : List AV) : (AV.sl sz xs).plain := fun v h => by cases h

/-- What is run comes to a value. -/
def RunDone (P : Program) (w : World) (S : Nat → Prop) (β : Nat → Option Blk) (μ : Look) (m : Sem Value) (v : AV) (up : Upd) : Prop :=
  ∃ u w' S' β', m.run P w = .ok u w' ∧ Done w S β μ v up u w' S' β'

theorem app_sound (hi : Inv w S β μ) {t tx ty e : TypeId} {inf : TypeInfo} {z : Value} (ht : P.underlying t = some (.slice e)) (hinf : P.info? e = some inf) (hz : inf.zero = some z) (hzs : z.cells.size = inf.size)
    {nid : Nat} {x y v : AV} {ux uy : Value} {p : Prop} {up : Upd} (hk : (∃ e', P.underlying tx = some (.slice e')) ∨ P.underlying tx = some .string) (hx : rep w S β x ux) (hy : rep w S β y uy) (h : appE inf.size inf.bytes nid x y μ = some (p, v, up)) (hp : p) :
    RunDone P w S β μ (Builtin.append_ #[t, tx] ty #[ux, uy]) v up := by
  unfold appE at h
  split at h
  · rename_i q ys cl hsrc
    have src := fun hq => src_of (P := P) hi hk hy hsrc hq
    split at h
    · rename_i id z' lo n
      split at h
      · rename_i ob hob
        simp only [Option.some.injEq, Prod.mk.injEq] at h
        obtain ⟨rfl, rfl, rfl⟩ := h
        obtain ⟨⟨hq, rfl, hfree⟩, ⟨hd, hle, hcl⟩, hmax, hby⟩ := hp
        obtain ⟨news, hs, hr, hw⟩ := src hq
        simp only [rep] at hx
        obtain ⟨bl, a, hbl, rfl, hcap, hsz, ha⟩ := hx
        rw [hsz] at ha
        have hr' : reps w S (βc ob.cl β) (ys.flatMap AV.cells) news := reps_βc_of _ _ hcl hr
        by_cases hroom : n + ys.length ≤ bl.cap - lo
        · obtain ⟨u, w', β', h1, h2, h3, h4, h5, h6⟩ := append_place (P := P) (ty := ty) hi ht hinf hfree hob hd hbl hsz.symm hle ha hs hr' hw rfl hroom
          exact ⟨u, w', S, β', h1, h2, h3, plain_row _ _ _ _, h4, h5, h6⟩
        · obtain ⟨olds, o1, o2, o3, o4, o5⟩ := row_cells hi hob hbl (.inl hd) hle
          rw [hd, Bool.or_false] at o2
          rw [← hsz] at o1 o4 o5
          have hne : nid ≠ id := fun e => by rw [e, hob] at hfree; cases hfree
          have hek := hi.kill hbl inf.size
          have hfree' : Upd.app [(id, deadOb inf.size)] μ nid = none := by rw [app_one, if_neg hne]; exact hfree
          have hl : ((ob.els.drop lo).take n ++ ys).length = n + ys.length := by rw [List.length_append, List.length_take, List.length_drop]; omega
          have hold : (Builtin.firstCells inf.size n (.slice a n (bl.cap - lo))).run P w.drew = .ok olds.toArray w.drew := by
            by_cases hn : n = 0
            · subst hn
              have : olds = [] := List.length_eq_zero_iff.1 (by omega)
              subst this
              cases a with
              | none => exact run_firstCells_none _ _ _ _ _
              | some a => exact run_firstCells_some _ _ 0 a 0 _ [] (by simp) (by simp)
            · have hlen := (hi.obs id ob bl hob hd hbl).2.1
              rw [ha (by omega)]
              exact run_firstCells_some w.drew _ n _ n _ olds o1 (fun j u hj => by rw [add_addr, ← hsz]; exact o5 j u hj)
          obtain ⟨u, w', β', h1, h2, h3, h4, h5, h6⟩ := append_grow (P := P) (ty := ty) hek ht hinf hz hzs hfree' hold o1 hs (els := (ob.els.drop lo).take n ++ ys) (cl := ob.cl) (by rw [List.flatMap_append]; exact reps_append o2 hr')
            (fun u hu => (List.mem_append.1 hu).elim (o3 u) (hs.one u)) (fun y hy => (List.mem_append.1 hy).elim (o4 y) (hw y)) hl (by omega) hmax hby
          rw [← app_cons] at h2
          exact ⟨u, w', S, β', h1, h2, h3, plain_row _ _ _ _, h4, h5, h6⟩
      · cases h
    · simp only [Option.some.injEq, Prod.mk.injEq] at h
      obtain ⟨rfl, rfl, rfl⟩ := h
      obtain ⟨⟨hq, hfree⟩, hmax, hby⟩ := hp
      obtain ⟨news, hs, hr, hw⟩ := src hq
      simp only [rep] at hx
      obtain ⟨rfl, _⟩ := hx
      by_cases hm : ys.length = 0
      · have hys : ys = [] := List.length_eq_zero_iff.1 hm
        subst hys
        have hn : news = [] := List.length_eq_zero_iff.1 (by have := hs.newsLen; simpa using this)
        subst hn
        have hrun := eq_of_room (P := P) (w := w) (ty := ty) ht hinf hs (base := none) (n := 0) (cap := 0) (by simp)
        have hfb : β nid = none := (hi.live nid).1 hfree
        refine ⟨_, w, S, upd β nid (some ⟨w.heap.size, 0, 0, inf.size⟩), hrun, hi.adopt hfree (w' := w) (bl := ⟨w.heap.size, 0, 0, inf.size⟩) rfl (Nat.le_refl _) (fun _ _ _ => rfl) (fun h => absurd rfl h) (fun _ _ _ _ _ _ _ h => absurd rfl h) ⟨rfl, by simp, by simp, fun h => absurd rfl h⟩, ?_, plain_row _ _ _ _, Ext.refl _ _ _, ?_, ?_⟩
        · simp only [rep]; exact ⟨_, _, upd_same _ _ _, rfl, by simp, rfl, fun h => by simp at h⟩
        · intro i b h; rw [upd_ne _ _ (fun e => by rw [e, hfb] at h; cases h)]; exact h
        · intro i b h
          by_cases e : i = nid
          · subst e; rw [upd_same] at h; injection h with h; subst h; exact .inr (Nat.le_refl _)
          · rw [upd_ne _ _ e] at h; exact .inl ⟨i, b, h, rfl⟩
      · obtain ⟨u, w', β', h1, h2, h3, h4, h5, h6⟩ := append_grow (P := P) (ty := ty) hi ht hinf hz hzs hfree (base := none) (n := 0) (cap := 0) (olds := []) (run_firstCells_none _ _ _ _ _) (by simp) hs (els := ys) (cl := cl) (by simpa using hr)
          (by simpa using hs.one) hw (by omega) (by omega) (by omega) (by simpa using hby)
        rw [Nat.zero_add] at h3
        exact ⟨u, w', S, β', h1, h2, h3, plain_row _ _ _ _, h4, h5, h6⟩
    · cases h
  · cases h
end
end Go.Ax
