import Derived.Test.YtgecjhclhdgpgaaXH
set_option linter.unusedVariables false
set_option linter.unusedSimpArgs false
namespace Go.Ax
open Go

section
variable {P : Program} {w : World} {S : Nat → Prop} {β : Nat → Option Blk} {μ : Look}

def setUpd (id : Nat) (ob : Ob) : Upd := [(id, ob)]

theorem setUpd_app (id : Nat) (ob : Ob) (μ : Look) (k : Nat) : Upd.app (setUpd id ob) μ k = if k = id then some ob else μ k := app_one id ob μ k

/-- An object's cells are written anew. -/
theorem write_object (hi : Inv w S β μ) {id : Nat} {bl : Blk} {ob0 : Ob} (hm0 : μ id = some ob0) (hd0 : ob0.dd = false) (hbl : β id = some bl) (hc0 : bl.cap ≠ 0) (w' : World) (hw : w'.os = w.os ∧ w'.tape = w.tape ∧ w'.output = w.output ∧ w'.heap.size = w.heap.size)
    (hother : ∀ k, k ≠ bl.b → w'.heap[k]? = w.heap[k]?) (c' : Array Value) (ty : TypeId) (hc : w'.heap[bl.b]? = some (.cells c' ty (0, 0))) (cl : Bool) (els : List AV) (hcap : els.length ≤ bl.cap) (hsz : bl.o + bl.cap * bl.sz ≤ c'.size)
    (hels : repEls w' S (βc cl β) bl.sz els bl.b bl.o) :
    Inv w' S β (Upd.app (setUpd id ⟨bl.sz, els, cl, false⟩) μ) ∧ Ext w S (Own β) w' S := by
  have hS : ∀ b, S b → S b ∧ w'.heap[b]? = w.heap[b]? := fun b hb => ⟨hb, hother b (fun e => hi.notS id ob0 bl hm0 hd0 hbl hc0 (e ▸ hb))⟩
  refine ⟨?_, ⟨hw.1, hw.2.1, hw.2.2.1, by rw [hw.2.2.2]; exact Nat.le_refl _, hS, fun b _ hn => hother b (fun e => hn ⟨id, bl, hbl, e.symm⟩), fun b hb => .inl hb⟩⟩
  have := hi.put id bl ⟨bl.sz, els, cl, false⟩ hS (fun b h => by rw [hbl] at h; injection h with h; exact h.symm)
    (fun i o b hne hm hd hb hc => ⟨hother _ (fun e => hne (hi.inj i id o ob0 b bl hm hd hm0 hd0 hb hbl hc hc0 e)), hi.notS i o b hm hd hb hc⟩) (fun b hb => by rw [hw.2.2.2]; exact hi.slt b hb)
    (fun _ => ⟨⟨rfl, hcap, (hi.obs id ob0 bl hm0 hd0 hbl).2.2.1, fun _ => ⟨c', ty, hc, hsz, by rw [upd_id hbl]; exact hels⟩⟩, fun hc => ⟨hi.notS id ob0 bl hm0 hd0 hbl hc, fun i o b hne hm hd hb hc' e => hne (hi.inj i id o ob0 b bl hm hd hm0 hd0 hb hbl hc' hc e)⟩⟩) (fun h => by cases h)
  rwa [upd_id hbl] at this

theorem repEls_set {sz : Nat} {els : List AV} {b o i : Nat} {w' : World} (y : AV) (hi : i < els.length) (hy : y.cells.length = sz) (hel : repEl w' S β y b (o + i * sz))
    (hold : ∀ j x, j ≠ i → els[j]? = some x → repEl w' S β x b (o + j * sz)) (hw : ∀ x ∈ els, x.cells.length = sz) : repEls w' S β sz (els.set i y) b o := by
  induction els generalizing o i with
  | nil => simp at hi
  | cons x xs ih =>
    cases i with
    | zero =>
      simp only [List.set_cons_zero, repEls]
      refine ⟨hy, by simpa using hel, ?_⟩
      have : ∀ (ys : List AV) (o' : Nat), (∀ j z, ys[j]? = some z → repEl w' S β z b (o' + j * sz)) → (∀ z ∈ ys, z.cells.length = sz) → repEls w' S β sz ys b o' := by
        intro ys
        induction ys with
        | nil => intros; simp [repEls]
        | cons z zs ihz =>
          intro o' h1 h2
          simp only [repEls]
          refine ⟨h2 z (by simp), by simpa using h1 0 z (by simp), ihz (o' + sz) (fun j u hu => ?_) (fun u hu => h2 u (by simp [hu]))⟩
          have := h1 (j + 1) u (by simpa using hu)
          rwa [Nat.add_mul, Nat.one_mul, Nat.add_comm (j * sz), ← Nat.add_assoc] at this
      refine this xs (o + sz) (fun j z hz => ?_) (fun z hz => hw z (by simp [hz]))
      have := hold (j + 1) z (by omega) (by simpa using hz)
      rwa [Nat.add_mul, Nat.one_mul, Nat.add_comm (j * sz), ← Nat.add_assoc] at this
    | succ i =>
      simp only [List.set_cons_succ, repEls]
      refine ⟨hw x (by simp), by simpa using hold 0 x (by omega) (by simp), ih (o := o + sz) (by simpa using hi) ?_ (fun j z hj hz => ?_) (fun z hz => hw z (by simp [hz]))⟩
      · rwa [Nat.add_mul, Nat.one_mul, Nat.add_comm (i * sz), ← Nat.add_assoc] at hel
      · have := hold (j + 1) z (by omega) (by simpa using hz)
        rwa [Nat.add_mul, Nat.one_mul, Nat.add_comm (j * sz), ← Nat.add_assoc] at this

theorem repEls_widths {sz : Nat} {els : List AV} {b o : Nat} (h : repEls w S β sz els b o) : ∀ x ∈ els, x.cells.length = sz := ((repEls_of_cells els o).1 h).1

theorem load_object (hi : Inv w S β μ) {id i o : Nat} {bl : Blk} {ob : Ob} {x v : AV} {t : TypeId} (hbl : β id = some bl) (hob : μ id = some ob) (hdd : ob.dd = false ∨ ob.cl = false) (hx : ob.els[i]? = some x) (ht : tKnown P t = true)
    (h : partOf x o (tSize P t) (tAgg P t) (· = v)) : ∃ u, (loadVar t ⟨bl.b, bl.o + i * bl.sz + o, none⟩).run P w = .ok u w ∧ rep w S β v u := by
  have hlt : i < ob.els.length := (List.getElem?_eq_some_iff.1 hx).1
  cases hd : ob.dd with
  | false =>
    obtain ⟨g1, g2, g3, g4⟩ := hi.obs id ob bl hob hd hbl
    obtain ⟨c0, ty0, g4, g5, g6⟩ := g4 (by omega)
    obtain ⟨u, hu, hr⟩ := run_loadVar_part ht (repEls_get g6 i x hx).2 h
    refine ⟨u, hu, ?_⟩
    cases hcl : ob.cl with
    | true => rw [hcl] at hr; exact rep_of_closed β hr
    | false => rw [hcl] at hr; exact hr
  | true =>
    obtain ⟨g1, g2, g3, g4⟩ := hi.fzs id ob bl hob hd (hdd.resolve_left (by rw [hd]; simp)) hbl
    obtain ⟨_, c0, ty0, g4, g5, g6⟩ := g4 (by omega)
    obtain ⟨u, hu, hr⟩ := run_loadVar_part ht (repEls_get g6 i x hx).2 h
    exact ⟨u, hu, rep_of_closed β hr⟩

theorem run_storeVar {t : TypeId} {i : TypeInfo} (hinfo : P.info? t = some i) {b o : Nat} {c : Array Value} {ty : TypeId} (hc : w.heap[b]? = some (.cells c ty (0, 0))) (u : Value) (hu : u.cells.size = i.size) (hfit : o + i.size ≤ c.size) (h1 : ∀ v ∈ u.cells.toList, v.oneCell' = true) :
    (storeVar t ⟨b, o, none⟩ u).run P w = .ok () (w.setRow b (c.toList.take o ++ u.cells.toList ++ c.toList.drop (o + i.size)).toArray) := by
  have := run_storeCells_at P b o ty u.cells.toList 0 c w hc (by simpa [hu] using hfit) h1
  simp only [Nat.add_zero, Array.length_toList, hu] at this
  simp only [storeVar, Sem.run_bind, run_sizeOf hinfo, Result.andThen_ok, hu, ne_eq, not_true_eq_false, if_false, this]

theorem putPart_cells (x v : AV) (o n : Nat) (hx : o + n ≤ x.cells.length) (hn : v.cells.length = n) (hag : (∃ cs, x = .agg cs) ∨ (v.cells = [v] ∧ 0 < n)) : (putPart x o v n).cells = x.cells.take o ++ v.cells ++ x.cells.drop (o + n) := by
  cases x with
  | agg cs => simp [putPart, AV.cells]
  | _ =>
    rcases hag with ⟨cs, h⟩ | ⟨h, hn0⟩
    · cases h
    · simp only [AV.cells, List.length_cons, List.length_nil] at hx
      have ho : o = 0 := by omega
      have hn1 : n = 1 := by omega
      subst ho; subst hn1
      simp [putPart, AV.cells]

theorem take_mid {α : Type} (l m r : List α) (j : Nat) : (l ++ m ++ r)[j]? = if j < l.length then l[j]? else if j < l.length + m.length then m[j - l.length]? else r[j - l.length - m.length]? := by
  simp only [List.getElem?_append, List.length_append, Nat.sub_sub]
  by_cases h1 : j < l.length
  · simp [h1, show j < l.length + m.length by omega]
  · by_cases h2 : j < l.length + m.length <;> simp [h1, h2]

theorem store_object (hi : Inv w S β μ) {id i o n : Nat} {bl : Blk} {ob : Ob} {x v : AV} {u : Value} {t : TypeId} (hbl : β id = some bl) (hob : μ id = some ob) (hdd : ob.dd = false) (hx : ob.els[i]? = some x) (ht : tKnown P t = true)
    (hv : reps w S (βc ob.cl β) v.cells u.cells.toList) (h1 : ∀ c ∈ u.cells.toList, c.oneCell' = true) (hn : v.cells.length = n) (hnt : tSize P t = n) (hfit : o + n ≤ x.cells.length) (hag : (∃ cs, x = .agg cs) ∨ (v.cells = [v] ∧ 0 < n)) :
    ∃ w', (storeVar t ⟨bl.b, bl.o + i * bl.sz + o, none⟩ u).run P w = .ok () w' ∧ Inv w' S β (Upd.app (setUpd id ⟨bl.sz, ob.els.set i (putPart x o v n), ob.cl, false⟩) μ) ∧ Ext w S (Own β) w' S := by
  obtain ⟨g1, g2, g3, g4⟩ := hi.obs id ob bl hob hdd hbl
  have hilt : i < ob.els.length := (List.getElem?_eq_some_iff.1 hx).1
  have hc0 : bl.cap ≠ 0 := by omega
  obtain ⟨c, ty, g4, g5, g6⟩ := g4 hc0
  obtain ⟨inf, d, hinf, hd, hsz⟩ := info_of_known ht
  have hlen := reps_length hv
  simp only [Array.length_toList] at hlen
  have hus : u.cells.size = inf.size := by omega
  have hxw := (repEls_get g6 i x hx).1
  have hwid := repEls_widths g6
  have hmul : (i + 1) * bl.sz ≤ bl.cap * bl.sz := Nat.mul_le_mul_right _ (by omega)
  rw [Nat.add_mul, Nat.one_mul] at hmul
  have hrun := run_storeVar (P := P) (w := w) hinf g4 u hus (o := bl.o + i * bl.sz + o) (by omega) h1
  refine ⟨_, hrun, ?_⟩
  have hheap := setRow_heap w bl.b c (c.toList.take (bl.o + i * bl.sz + o) ++ u.cells.toList ++ c.toList.drop (bl.o + i * bl.sz + o + inf.size)).toArray ty (0, 0) g4
  have hcsz : bl.o + i * bl.sz + o + n ≤ c.size := by omega
  have hS : ∀ b, S b → S b ∧ (w.setRow bl.b (c.toList.take (bl.o + i * bl.sz + o) ++ u.cells.toList ++ c.toList.drop (bl.o + i * bl.sz + o + inf.size)).toArray).heap[b]? = w.heap[b]? :=
    fun b hb => ⟨hb, setRow_other w bl.b b _ (fun e => hi.notS id ob bl hob hdd hbl hc0 (e ▸ hb))⟩
  have hrep : ∀ x u, rep w S β x u → rep (w.setRow bl.b (c.toList.take (bl.o + i * bl.sz + o) ++ u.cells.toList ++ c.toList.drop (bl.o + i * bl.sz + o + inf.size)).toArray) S β x u → True := fun _ _ _ _ => trivial
  generalize hW : w.setRow bl.b (c.toList.take (bl.o + i * bl.sz + o) ++ u.cells.toList ++ c.toList.drop (bl.o + i * bl.sz + o + inf.size)).toArray = W at *
  have hcell : ∀ j : Nat, W.cell? ⟨bl.b, j, none⟩ = (c.toList.take (bl.o + i * bl.sz + o) ++ u.cells.toList ++ c.toList.drop (bl.o + i * bl.sz + o + inf.size))[j]? := by
    intro j
    simp [World.cell?, hheap]
  have hold : ∀ j : Nat, w.cell? ⟨bl.b, j, none⟩ = c.toList[j]? := by intro j; simp [World.cell?, g4]
  have hcell' : ∀ j : Nat, W.cell? ⟨bl.b, j, none⟩ = if j < bl.o + i * bl.sz + o then c.toList[j]? else if j < bl.o + i * bl.sz + o + n then u.cells.toList[j - (bl.o + i * bl.sz + o)]? else c.toList[j]? := by
    intro j
    rw [hcell, take_mid]
    simp only [List.length_take, Array.length_toList]
    rw [Nat.min_eq_left (by omega)]
    split
    · rename_i h; rw [List.getElem?_take, if_pos h]
    · rw [show bl.o + i * bl.sz + o + u.cells.size = bl.o + i * bl.sz + o + n from by omega]
      split
      · rfl
      · rename_i h2 h3
        rw [List.getElem?_drop]
        congr 1
        omega
  have mono : ∀ x u, rep w S (βc ob.cl β) x u → rep W S (βc ob.cl β) x u := fun x u h => rep_mono hS (fun _ _ _ h => h) h
  have hels : repEls W S (βc ob.cl β) bl.sz (ob.els.set i (putPart x o v n)) bl.b bl.o := by
    refine repEls_set _ hilt ?_ ?_ ?_ hwid
    · rw [putPart_cells x v o n hfit hn hag]
      simp only [List.length_append, List.length_take, List.length_drop]
      omega
    · rw [repEl_cells, putPart_cells x v o n hfit hn hag]
      have hxel := (repEls_get g6 i x hx).2
      rw [repEl_cells] at hxel
      obtain ⟨us, hr, hone, hc⟩ := repCells_at hxel
      have hul := reps_length hr
      refine repCells_of_reps mono _ (us.take o ++ u.cells.toList ++ us.drop (o + n)) _ (reps_append (reps_append (reps_take hr o) hv) (reps_drop hr _)) ?_ ?_
      · intro y hy
        simp only [List.mem_append] at hy
        rcases hy with (hy | hy) | hy
        · exact hone y (List.mem_of_mem_take hy)
        · exact h1 y hy
        · exact hone y (List.mem_of_mem_drop hy)
      · intro j y hj
        rw [take_mid] at hj
        simp only [List.length_take, Array.length_toList] at hj
        rw [Nat.min_eq_left (by omega)] at hj
        rw [hcell']
        by_cases h2 : j < o
        · rw [if_pos h2] at hj
          rw [List.getElem?_take, if_pos h2] at hj
          rw [if_pos (by omega), ← hold]
          exact hc j y hj
        · rw [if_neg h2] at hj
          by_cases h3 : j < o + n
          · rw [if_pos (by omega)] at hj
            rw [if_neg (by omega), if_pos (by omega)]
            rw [show bl.o + i * bl.sz + j - (bl.o + i * bl.sz + o) = j - o from by omega]
            exact hj
          · rw [if_neg (by omega)] at hj
            rw [List.getElem?_drop] at hj
            rw [if_neg (by omega), if_neg (by omega), ← hold]
            have := hc _ y hj
            rw [show bl.o + i * bl.sz + j = bl.o + i * bl.sz + (o + n + (j - o - u.cells.size)) from by omega]
            exact this
    · intro j z hne hz
      obtain ⟨hzw, hzel⟩ := repEls_get g6 j z hz
      have hjlt : j < ob.els.length := (List.getElem?_eq_some_iff.1 hz).1
      rw [repEl_cells] at hzel ⊢
      obtain ⟨us, hr, hone, hc⟩ := repCells_at hzel
      have hul := reps_length hr
      refine repCells_of_reps mono _ us _ hr hone ?_
      intro k y hk
      have hklt : k < us.length := (List.getElem?_eq_some_iff.1 hk).1
      rw [hcell']
      have hcase : bl.o + j * bl.sz + k < bl.o + i * bl.sz + o ∨ bl.o + i * bl.sz + o + n ≤ bl.o + j * bl.sz + k := by
        rcases Nat.lt_or_gt_of_ne hne with h | h
        · left
          have : (j + 1) * bl.sz ≤ i * bl.sz := Nat.mul_le_mul_right _ h
          rw [Nat.add_mul, Nat.one_mul] at this
          omega
        · right
          have : (i + 1) * bl.sz ≤ j * bl.sz := Nat.mul_le_mul_right _ h
          rw [Nat.add_mul, Nat.one_mul] at this
          omega
      rcases hcase with h | h
      · rw [if_pos h, ← hold]; exact hc k y hk
      · rw [if_neg (by omega), if_neg (by omega), ← hold]; exact hc k y hk
  refine write_object hi hob hdd hbl hc0 W ⟨by rw [← hW]; rfl, by rw [← hW]; rfl, by rw [← hW]; rfl, by rw [← hW]; simp⟩ (fun k hk => by rw [← hW]; exact setRow_other w bl.b k _ hk) _ ty hheap ob.cl _ (by simpa using g2) ?_ hels
  simp only [List.size_toArray, List.length_append, List.length_take, List.length_drop, Array.length_toList]
  omega

end
end Go.Ax
namespace Go.Ax
open Go

section
variable {w : World} {S : Nat → Prop} {β : Nat → Option Blk} {μ : Look}

def deadOb (sz : Nat) : Ob := ⟨sz, [], true, true⟩
def froz (ob : Ob) : Ob := ⟨ob.sz, ob.els, false, true⟩

/-- Nothing more is known of an object. -/
theorem Inv.kill (hi : Inv w S β μ) {id : Nat} {bl : Blk} (hb : β id = some bl) (sz : Nat) : Inv w S β (Upd.app [(id, deadOb sz)] μ) := by
  have := hi.put id bl (deadOb sz) (w' := w) (S' := S) (fun b hb => ⟨hb, rfl⟩) (fun b h => by rw [hb] at h; injection h with h; exact h.symm) (fun id o b _ hm hd hb hc => ⟨rfl, hi.notS id o b hm hd hb hc⟩) hi.slt (fun h => by cases h) (fun _ h => by cases h)
  rwa [upd_id hb] at this

/-- A block that nothing else uses becomes an object. -/
theorem Inv.adopt (hi : Inv w S β μ) {nid : Nat} (hfree : μ nid = none) {w' : World} {bl : Blk} {ob : Ob} (hdd : ob.dd = false) (hsize : w.heap.size ≤ w'.heap.size) (hother : ∀ k, k < w.heap.size → (k ≠ bl.b ∨ bl.cap = 0) → w'.heap[k]? = w.heap[k]?)
    (hS : bl.cap ≠ 0 → ¬ S bl.b) (hlive : ∀ id o b, μ id = some o → o.dd = false → β id = some b → b.cap ≠ 0 → bl.cap ≠ 0 → b.b ≠ bl.b) (hat : ObAt w' S (upd β nid (some bl)) bl ob) :
    Inv w' S (upd β nid (some bl)) (Upd.app [(nid, ob)] μ) := by
  have hfb : β nid = none := (hi.live nid).1 hfree
  have hk : ∀ k, k < w.heap.size → (bl.cap ≠ 0 → k ≠ bl.b) → w'.heap[k]? = w.heap[k]? := by
    intro k hk h
    by_cases hc : bl.cap = 0
    · exact hother k hk (.inr hc)
    · exact hother k hk (.inl (h hc))
  refine hi.put nid bl ob (fun b hb => ⟨hb, hk b (hi.slt b hb) (fun hc e => hS hc (e ▸ hb))⟩) (fun b h => by rw [hfb] at h; cases h) (fun id o b _ hm hd hb hc => ⟨hk _ (hi.blt hm hd hb hc) (fun hc' => hlive id o b hm hd hb hc hc'), hi.notS id o b hm hd hb hc⟩)
    (fun b hb => Nat.lt_of_lt_of_le (hi.slt b hb) hsize) (fun _ => ⟨hat, fun hc => ⟨hS hc, fun id o b _ hm hd hb hc' => hlive id o b hm hd hb hc' hc⟩⟩) (fun h => by rw [hdd] at h; cases h)

/-- The blocks that are stable when an object stands still. -/
def SF (S : Nat → Prop) (bl : Blk) (b : Nat) : Prop := S b ∨ (bl.cap ≠ 0 ∧ b = bl.b)

/-- An object stands still from here on. -/
theorem Inv.freeze (hi : Inv w S β μ) {id : Nat} {bl : Blk} {ob : Ob} (hm : μ id = some ob) (hd : ob.dd = false) (hcl : ob.cl = true) (hb : β id = some bl) : Inv w (SF S bl) β (Upd.app [(id, froz ob)] μ) := by
  have hS : ∀ b, S b → SF S bl b ∧ w.heap[b]? = w.heap[b]? := fun b hb => ⟨.inl hb, rfl⟩
  have := hi.put id bl (froz ob) (w' := w) (S' := SF S bl) hS (fun b h => by rw [hb] at h; injection h with h; exact h.symm)
    (fun id' o b hne hm' hd' hb' hc => ⟨rfl, fun h => h.elim (hi.notS id' o b hm' hd' hb' hc) (fun ⟨hc', he⟩ => hne (hi.inj id' id o ob b bl hm' hd' hm hd hb' hb hc hc' he))⟩)
    (fun b hs => hs.elim (hi.slt b) (fun ⟨hc, he⟩ => he ▸ hi.blt hm hd hb hc)) (fun h => by cases h) (fun _ _ => by
      obtain ⟨g1, g2, g3, g4⟩ := hi.obs id ob bl hm hd hb
      refine ⟨g1, g2, g3, fun hc => ⟨.inr ⟨hc, rfl⟩, ?_⟩⟩
      have := g4 hc
      rw [hcl] at this
      exact this.mono hS rfl (fun _ _ _ h => h))
  rwa [upd_id hb] at this

theorem ext_freeze {id : Nat} {bl : Blk} {ob : Ob} (hb : β id = some bl) : Ext w S (Own β) w (SF S bl) :=
  ⟨rfl, rfl, rfl, Nat.le_refl _, fun b hb => ⟨.inl hb, rfl⟩, fun _ _ _ => rfl, fun b h => h.elim .inl (fun ⟨_, he⟩ => .inr (.inl ⟨id, bl, hb, he.symm⟩))⟩
end
end Go.Ax
