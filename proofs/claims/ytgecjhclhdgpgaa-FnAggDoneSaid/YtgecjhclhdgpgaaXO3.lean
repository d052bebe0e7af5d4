import Derived.Test.YtgecjhclhdgpgaaXO2
set_option linter.unusedVariables false
set_option linter.unusedSimpArgs false
namespace Go.Ax
open Go

/-! ## contracts -/
/-- A function of its arguments alone; what it is given stands still from here on, since the answer may share it. -/
def pureT {α ρ : Type} [EncA α] [EncR ρ] (pre : α → Prop) (f : α → ρ) : Ct := fun _ as lk => match EncA.ds (frzL lk as) with
  | some a => match fzUpd lk (namesL as) with
    | some up => some (pre a, EncR.r (f a), up)
    | none => none
  | none => none
/-- The same; the answer shares nothing. -/
def flatT {α ρ : Type} [EncA α] [EncR ρ] (pre : α → Prop) (f : α → ρ) : Ct := fun _ as lk => match EncA.ds (frzL lk as) with
  | some a => some (pre a, EncR.r (f a), [])
  | none => none
/-- It hands back a row of its own. -/
def rowT {α ε : Type} [EncA α] [Enc ε] (pre : α → Prop) (f : α → List ε) : Ct := fun nid as lk => match EncA.ds (frzL lk as) with
  | some a => match fzUpd lk (namesL as) with
    | some up => some (pre a ∧ lk nid = none, .row nid (Enc.w ε) 0 (f a).length, (nid, ⟨Enc.w ε, encL Enc.e (f a), true, false⟩) :: up)
    | none => none
  | none => none
/-- It hands back an object of its own. -/
def newT {α γ : Type} [EncA α] [Enc γ] (pre : α → Prop) (f : α → γ) : Ct := fun nid as lk => match EncA.ds (frzL lk as) with
  | some a => match fzUpd lk (namesL as) with
    | some up => some (pre a ∧ lk nid = none, .ptr nid 0 0, (nid, ⟨Enc.w γ, [Enc.e (f a)], false, false⟩) :: up)
    | none => none
  | none => none
/-- It turns the object that its first argument points to. -/
def ptrT {γ α ρ : Type} [Enc γ] [EncA α] [EncR ρ] (pre : γ → α → Prop) (f : γ → α → ρ × γ) : Ct := fun _ as lk => match as with
  | .ptr id 0 0 :: rest => match lk id with
    | some ⟨sz, [x], false, false⟩ => match Enc.d x, EncA.ds (frzL lk rest), fzUpd lk (namesL rest) with
      | some c, some a, some up => some (pre c a, EncR.r (f c a).1, (id, ⟨sz, [Enc.e (f c a).2], false, false⟩) :: up)
      | _, _, _ => none
    | _ => none
  | _ => none

section
variable {P : Program} {Γ : Cts} {tab : TT}

/-- The blocks that are stable behind a call. -/
def SB (S : Nat → Prop) (n : Nat) (T : Nat → Prop) (b : Nat) : Prop := S b ∨ (T b ∧ n ≤ b)

theorem args_sound {α : Type} [EncA α] {w : World} {S : Nat → Prop} {β : Nat → Option Blk} {μ : Look} (hi : Inv w S β μ) {as : List AV} {us : List Value} (hr : reps w S β as us) {a : α} {up : Upd} (hd : EncA.ds (frzL μ as) = some a) (hf : fzUpd μ (namesL as) = some up) :
    ∃ S', Inv w S' β (Upd.app up μ) ∧ Ext w S (Own β) w S' ∧ reps w S' β0 (EncA.es a) us := by
  obtain ⟨S', h1, h2, h3, h4⟩ := fz_sound hi _ up hf
  exact ⟨S', h1, h3, wkL_rep β0 _ _ us (EncA.ed _ a hd) (frzL_reps' hi h2 as us (fun id ob bl hid => h4 id ob bl (hasL_names as id hid)) hr)⟩

/-- A world that has gone on beside the caller's objects. -/
theorem Inv.beside {w w' : World} {S T : Nat → Prop} {β : Nat → Option Blk} {μ : Look} (hi : Inv w S β μ) (hsz : w.heap.size ≤ w'.heap.size) (hblk : ∀ b, b < w.heap.size → w'.heap[b]? = w.heap[b]?) (hT : ∀ b, T b → b < w'.heap.size) : Inv w' (SB S w.heap.size T) β μ :=
  hi.world (fun b hb => ⟨.inl hb, hblk b (hi.slt b hb)⟩) (fun id o b hm hd hb hc => ⟨hblk _ (hi.blt hm hd hb hc), fun h => h.elim (hi.notS id o b hm hd hb hc) (fun h => by have := hi.blt hm hd hb hc; omega)⟩)
    (fun b hb => hb.elim (fun h => Nat.lt_of_lt_of_le (hi.slt b h) hsz) (fun h => hT b h.1))

theorem ext_beside {w w' : World} {S T S' O : Nat → Prop} (h : Ext w S (fun _ => False) w' S') : Ext w S O w' (SB S w.heap.size T) :=
  ⟨h.os, h.tape, h.output, h.size, fun b hb => ⟨.inl hb, (h.sub b hb).2⟩, fun b hb _ => h.keep b hb (fun h => h), fun b hb => hb.imp id (fun h => .inr h.2)⟩

theorem sound_pure (htab : TabOk P tab) (hΓ : GOk P Γ) {N : FuncId} {fn : Func} {code : Code} (hf : FnAt P tab N fn code) (keep : List Nat) {α ρ : Type} [EncA α] [EncR ρ] (pre : α → Prop) (f : α → ρ) (hn : ∀ a : α, (EncA.es a).length ≤ fn.ntmps)
    (h : ∀ a : α, pre a → bndL (EncA.es a) → run Γ [.code (comp tab code)] (initS (EncA.es a) keep []) (postX (fn.results.toList.map (rixOf tab)) fun v s => wk (frz (lookL s.mem) v) (EncR.r (f a)))) : SoundC P N (pureT pre f) := by
  refine ⟨?_, fun nid as μ μ' h => by simp only [pureT]; rw [frzL_congr as (fun id hid => h id (by simp [foot, hid])), fzUpd_congr _ (fun id hid => h id (by simp [foot, hid]))]⟩
  intro nid as us w S β μ p v up hi hr hp hc hpp
  simp only [pureT] at hc
  split at hc
  · rename_i a ha
    split at hc
    · rename_i up' hu
      simp only [Option.some.injEq, Prod.mk.injEq] at hc
      obtain ⟨rfl, rfl, rfl⟩ := hc
      obtain ⟨S1, h1, h2, h3⟩ := args_sound hi hr ha hu
      refine (body_plain htab hΓ hf keep h1.slt h3 (EncA.pl a) (hn a) (h a hpp (rep_bnd_all.2.2.2.2 _ _ _ h3))).mono ?_
      rintro u w' ⟨s, S', β', v, hv, g1, g2, g3, g4⟩
      have hfr := wk_rep β0 _ _ u hv (frz_rep g1 v u g2)
      have hge : ∀ b, SO S' β' (lookL s.mem) b → S1 b ∨ w.heap.size ≤ b := by
        rintro b (hb | ⟨id, ob, bl, _, _, hbl, _, rfl⟩)
        · exact (g3.fresh b hb).imp id (fun h => h.resolve_left (fun h => h))
        · exact .inr (g4 id bl hbl)
      have hrr : rep w' (SB S1 w.heap.size (SO S' β' (lookL s.mem))) β (EncR.r (f a)) u :=
        rep_mono (w := w') (fun b hb => ⟨(hge b hb).imp id (fun h => ⟨hb, h⟩), rfl⟩) (fun _ _ bl h => by simp [β0] at h) hfr
      have hblk : ∀ b, b < w.heap.size → w'.heap[b]? = w.heap[b]? := fun b hb => g3.keep b hb (fun h => h)
      exact ⟨_, β, h1.beside g3.size hblk (SO_lt g1), hrr, EncR.pl _, h2.trans (ext_beside g3) (fun _ _ h => h), fun _ _ h => h, fun id bl h => .inl ⟨id, bl, h, rfl⟩⟩
    · cases hc
  · cases hc

theorem sound_flat (htab : TabOk P tab) (hΓ : GOk P Γ) {N : FuncId} {fn : Func} {code : Code} (hf : FnAt P tab N fn code) (keep : List Nat) {α ρ : Type} [EncA α] [EncR ρ] (pre : α → Prop) (f : α → ρ) (hn : ∀ a : α, (EncA.es a).length ≤ fn.ntmps) (hflat : ∀ a : α, (EncR.r (f a)).flat = true)
    (h : ∀ a : α, pre a → bndL (EncA.es a) → run Γ [.code (comp tab code)] (initS (EncA.es a) keep []) (postX (fn.results.toList.map (rixOf tab)) fun v s => wk (frz (lookL s.mem) v) (EncR.r (f a)))) : SoundC P N (flatT pre f) := by
  refine ⟨?_, fun nid as μ μ' h => by simp only [flatT]; rw [frzL_congr as (fun id hid => h id (by simp [foot, hid]))]⟩
  intro nid as us w S β μ p v up hi hr hp hc hpp
  simp only [flatT] at hc
  split at hc
  · rename_i a ha
    simp only [Option.some.injEq, Prod.mk.injEq] at hc
    obtain ⟨rfl, rfl, rfl⟩ := hc
    have h3 : reps w (SO S β μ) β0 (EncA.es a) us := wkL_rep β0 _ _ us (EncA.ed _ a ha) (frzL_reps hi as us hr)
    refine (body_plain htab hΓ hf keep (SO_lt hi) h3 (EncA.pl a) (hn a) (h a hpp (rep_bnd_all.2.2.2.2 _ _ _ h3))).mono ?_
    rintro u w' ⟨s, S', β', v, hv, g1, g2, g3, g4⟩
    have hfr := wk_rep β0 _ _ u hv (frz_rep g1 v u g2)
    have hrr : rep w' (SB S w.heap.size (fun _ => False)) β (EncR.r (f a)) u := flat_rep _ _ hfr (hflat a)
    have hblk : ∀ b, b < w.heap.size → w'.heap[b]? = w.heap[b]? := fun b hb => g3.keep b hb (fun h => h)
    refine ⟨_, β, by rw [show ([] : Upd) = noUpd from rfl, noUpd_app]; exact hi.beside g3.size hblk (fun _ h => h.elim), hrr, EncR.pl _, ?_, fun _ _ h => h, fun id bl h => .inl ⟨id, bl, h, rfl⟩⟩
    exact ⟨g3.os, g3.tape, g3.output, g3.size, fun b hb => ⟨.inl hb, hblk b (hi.slt b hb)⟩, fun b hb _ => hblk b hb, fun b hb => hb.imp id (fun h => .inr h.2)⟩
  · cases hc

/-- What a row that is handed back must be. -/
def rowPost {ε : Type} [Enc ε] (l : List ε) (v : AV) (s : AS) : Prop := match v with
  | .row j z lo n => match lookL s.mem j with
    | some ob => (z = Enc.w ε ∧ lo = 0 ∧ n = l.length) ∧ (ob.cl = true ∧ ob.dd = false ∧ n ≤ ob.els.length) ∧ wkL (ob.els.take n) (encL Enc.e l)
    | none => False
  | _ => False
/-- What a pointer that is handed back must be. -/
def newPost {γ : Type} [Enc γ] (c : γ) (v : AV) (s : AS) : Prop := match v with
  | .ptr j 0 0 => match lookL s.mem j with
    | some ob => (ob.sz = Enc.w γ ∧ ob.dd = false) ∧ match ob.els with
      | [x] => wk (frz (lookL s.mem) x) (Enc.e c)
      | _ => False
    | none => False
  | _ => False

theorem encL_closed {ε : Type} [Enc ε] (l : List ε) : closedL (encL Enc.e l) = true := by
  induction l with
  | nil => rfl
  | cons a l ih => simp only [encL_cons, closedL, Enc.cl, ih, Bool.and_self]

theorem sound_row (htab : TabOk P tab) (hΓ : GOk P Γ) {N : FuncId} {fn : Func} {code : Code} (hf : FnAt P tab N fn code) (keep : List Nat) {α ε : Type} [EncA α] [Enc ε] (pre : α → Prop) (f : α → List ε) (hn : ∀ a : α, (EncA.es a).length ≤ fn.ntmps)
    (h : ∀ a : α, pre a → bndL (EncA.es a) → run Γ [.code (comp tab code)] (initS (EncA.es a) keep []) (postX (fn.results.toList.map (rixOf tab)) (rowPost (f a)))) : SoundC P N (rowT pre f) := by
  refine ⟨?_, fun nid as μ μ' h => by simp only [rowT]; rw [frzL_congr as (fun id hid => h id (by simp [foot, hid])), fzUpd_congr _ (fun id hid => h id (by simp [foot, hid])), h nid (by simp [foot])]⟩
  intro nid as us w S β μ p v up hi hr hp hc hpp
  simp only [rowT] at hc
  split at hc
  · rename_i a ha
    split at hc
    · rename_i up' hu
      simp only [Option.some.injEq, Prod.mk.injEq] at hc
      obtain ⟨rfl, rfl, rfl⟩ := hc
      obtain ⟨hpp, hfree⟩ := hpp
      obtain ⟨S1, h1, h2, h3⟩ := args_sound hi hr ha hu
      have hfree1 : Upd.app up' μ nid = none := by
        have hb := (hi.live nid).1 hfree
        exact (h1.live nid).2 hb
      refine (body_plain htab hΓ hf keep h1.slt h3 (EncA.pl a) (hn a) (h a hpp (rep_bnd_all.2.2.2.2 _ _ _ h3))).mono ?_
      rintro u w' ⟨s, S', β', v, hv, g1, g2, g3, g4⟩
      unfold rowPost at hv
      split at hv
      · rename_i j z lo n
        split at hv
        · rename_i ob hob
          obtain ⟨⟨rfl, rfl, rfl⟩, ⟨hcl, hdd, hle⟩, hw⟩ := hv
          simp only [rep] at g2
          obtain ⟨bl, ad, hbl, rfl, hcap, hsz, had⟩ := g2
          obtain ⟨k1, k2, k3, k4⟩ := g1.obs j ob bl hob hdd hbl
          have hblk : ∀ b, b < w.heap.size → w'.heap[b]? = w.heap[b]? := fun b hb => g3.keep b hb (fun h => h)
          have hnew := g4 j bl hbl
          have hS' : ∀ b, S' b → SB S1 w.heap.size (fun b => S' b ∧ (bl.cap ≠ 0 → b ≠ bl.b)) b ∧ w'.heap[b]? = w'.heap[b]? := by
            intro b hb
            refine ⟨?_, rfl⟩
            rcases g3.fresh b hb with h | h | h
            · exact .inl h
            · exact h.elim
            · exact .inr ⟨⟨hb, fun hc e => g1.notS j ob bl hob hdd hbl hc (e ▸ hb)⟩, h⟩
          have hI := h1.beside (T := fun b => S' b ∧ (bl.cap ≠ 0 → b ≠ bl.b)) g3.size hblk (fun b hb => g1.slt b hb.1)
          have hat : ObAt w' (SB S1 w.heap.size (fun b => S' b ∧ (bl.cap ≠ 0 → b ≠ bl.b))) (upd β nid (some bl)) bl ⟨Enc.w ε, encL Enc.e (f a), true, false⟩ := by
            refine ⟨hsz, by rw [encL_length]; omega, k3, fun hc => ?_⟩
            obtain ⟨c, ty, c1, c2, c3⟩ := k4 hc
            rw [hcl] at c3
            refine ⟨c, ty, c1, c2, ?_⟩
            exact (rep_mono_all hS').2.2.2.1 β0 _ _ _ _ rfl β0 (fun _ _ _ h => h) (wkEls_rep β0 _ _ _ _ _ hw (repEls_take _ _ _ c3))
          have hA := hI.adopt hfree1 (w' := w') (bl := bl) (ob := ⟨Enc.w ε, encL Enc.e (f a), true, false⟩) rfl (Nat.le_refl _) (fun _ _ _ => rfl)
            (fun hc h => h.elim (fun h => by have := h1.slt _ h; omega) (fun h => h.1.2 hc rfl)) (fun id o b hm hd hb hc _ e => by have := h1.blt hm hd hb hc; omega) hat
          have hfb : β nid = none := (hi.live nid).1 hfree
          refine ⟨_, upd β nid (some bl), by rw [app_cons]; exact hA, ?_, plain_row _ _ _ _, h2.trans (ext_beside g3) (fun _ _ h => h), ?_, ?_⟩
          · simp only [rep]
            exact ⟨bl, ad, upd_same _ _ _, rfl, hcap, hsz, had⟩
          · intro i b h; rw [upd_ne _ _ (fun e => by rw [e, hfb] at h; cases h)]; exact h
          · intro i b h
            by_cases e : i = nid
            · subst e; rw [upd_same] at h; injection h with h; subst h; exact .inr hnew
            · rw [upd_ne _ _ e] at h; exact .inl ⟨i, b, h, rfl⟩
        · exact hv.elim
      · exact hv.elim
    · cases hc
  · cases hc

theorem frz_cells (lk : Look) (x : AV) : (frz lk x).cells = frzL lk x.cells := by
  cases x with
  | agg cs => simp [frz, AV.cells]
  | row id z lo n =>
    simp only [AV.cells, frzL, frz]
    cases lk id with
    | none => rfl
    | some ob =>
      simp only
      by_cases hc : rdable ob.cl ob.dd = true ∧ lo + n ≤ ob.els.length
      · simp only [hc, and_self, if_true]
      · simp only [if_neg hc]
  | _ => simp [frz, AV.cells, frzL]
theorem cells_has (x : AV) (id : Nat) (h : hasL id x.cells = true) : x.has id = true := by
  cases x <;> simp_all [AV.cells, hasL, AV.has]
/-- An object's only element, read with its own slices as they are. -/
theorem el_frz {w : World} {S S2 : Nat → Prop} {β : Nat → Option Blk} {μ : Look} (hi : Inv w S β μ) (hS : ∀ b, S b → S2 b) {x : AV} {b o : Nat} (F : ∀ id ob bl, x.has id = true → μ id = some ob → rdable ob.cl ob.dd = true → β id = some bl → bl.cap ≠ 0 → S2 bl.b)
    (h : repEl w S β x b o) : repEl w S2 β0 (frz μ x) b o := by
  rw [repEl_cells] at h ⊢
  obtain ⟨us, h1, h2, h3⟩ := repCells_at h
  rw [frz_cells]
  exact repCells_of_reps (fun _ _ h => h) _ us o (frzL_reps' hi hS _ us (fun id ob bl hid => F id ob bl (cells_has x id hid)) h1) h2 h3
/-- An object of one element, closed: its block apart. -/
theorem one_object {w : World} {S : Nat → Prop} {β : Nat → Option Blk} {μ : Look} (hi : Inv w S β μ) {j : Nat} {ob : Ob} {bl : Blk} {x : AV} (hob : μ j = some ob) (hdd : ob.dd = false) (hx : ob.els = [x]) (hbl : β j = some bl) :
    bl.cap ≠ 0 ∧ ob.sz = bl.sz ∧ bl.cap ≤ maxLen ∧ bl.b < w.heap.size ∧ ∃ c ty, w.heap[bl.b]? = some (.cells c ty (0, 0)) ∧ bl.o + bl.cap * bl.sz ≤ c.size ∧ repEl w (fun b => SO S β μ b ∧ b ≠ bl.b) β0 (frz μ x) bl.b bl.o := by
  obtain ⟨k1, k2, k3, k4⟩ := hi.obs j ob bl hob hdd hbl
  have hc0 : bl.cap ≠ 0 := by rw [hx] at k2; simp at k2; omega
  obtain ⟨c, ty, c1, c2, c3⟩ := k4 hc0
  refine ⟨hc0, k1, k3, hi.blt hob hdd hbl hc0, c, ty, c1, c2, ?_⟩
  rw [hx] at c3
  simp only [repEls, and_true] at c3
  have hS : ∀ b, S b → SO S β μ b ∧ b ≠ bl.b := fun b hb => ⟨.inl hb, fun e => hi.notS j ob bl hob hdd hbl hc0 (e ▸ hb)⟩
  cases hcl : ob.cl with
  | true =>
    rw [hcl] at c3
    have hn : ∀ id, x.has id = true → False := by
      intro id hid
      rw [repEl_cells] at c3
      have : hasL id x.cells = true := by
        cases x <;> simp_all [AV.cells, hasL, AV.has]
      exact rep_live.2.2.1 β0 _ _ _ id this c3.2 rfl
    have c4 : repEl w S β x bl.b bl.o := by
      rw [repEl_cells] at c3 ⊢
      exact repCells_mono (w := w) (S := S) (fun b hb => ⟨hb, rfl⟩) rfl (fun _ _ _ h => by simp [βc, β0] at h) c3.2
    exact el_frz hi hS (fun id _ _ hid => (hn id hid).elim) c4
  | false =>
    rw [hcl] at c3
    refine el_frz hi hS (fun id ob' bl' hid hm hr hb hc => ⟨.inr ⟨id, ob', bl', hm, hr, hb, hc, rfl⟩, fun e => ?_⟩) c3.2
    cases hd : ob'.dd with
    | false =>
      have := hi.inj id j ob' ob bl' bl hm hd hob hdd hb hbl hc hc0 e
      subst this
      rw [hob] at hm; injection hm with hm; subst hm
      rw [hcl, hd] at hr; cases hr
    | true =>
      have hcl' : ob'.cl = false := by cases h : ob'.cl <;> simp_all [rdable]
      have := ((hi.fzs id ob' bl' hm hd hcl' hb).2.2.2 hc).1
      exact hi.notS j ob bl hob hdd hbl hc0 (e ▸ this)

theorem sound_new (htab : TabOk P tab) (hΓ : GOk P Γ) {N : FuncId} {fn : Func} {code : Code} (hf : FnAt P tab N fn code) (keep : List Nat) {α γ : Type} [EncA α] [Enc γ] (pre : α → Prop) (f : α → γ) (hn : ∀ a : α, (EncA.es a).length ≤ fn.ntmps)
    (h : ∀ a : α, pre a → bndL (EncA.es a) → run Γ [.code (comp tab code)] (initS (EncA.es a) keep []) (postX (fn.results.toList.map (rixOf tab)) (newPost (f a)))) : SoundC P N (newT pre f) := by
  refine ⟨?_, fun nid as μ μ' h => by simp only [newT]; rw [frzL_congr as (fun id hid => h id (by simp [foot, hid])), fzUpd_congr _ (fun id hid => h id (by simp [foot, hid])), h nid (by simp [foot])]⟩
  intro nid as us w S β μ p v up hi hr hp hc hpp
  simp only [newT] at hc
  split at hc
  · rename_i a ha
    split at hc
    · rename_i up' hu
      simp only [Option.some.injEq, Prod.mk.injEq] at hc
      obtain ⟨rfl, rfl, rfl⟩ := hc
      obtain ⟨hpp, hfree⟩ := hpp
      obtain ⟨S1, h1, h2, h3⟩ := args_sound hi hr ha hu
      have hfree1 : Upd.app up' μ nid = none := by
        have hb := (hi.live nid).1 hfree
        exact (h1.live nid).2 hb
      refine (body_plain htab hΓ hf keep h1.slt h3 (EncA.pl a) (hn a) (h a hpp (rep_bnd_all.2.2.2.2 _ _ _ h3))).mono ?_
      rintro u w' ⟨s, S', β', v, hv, g1, g2, g3, g4⟩
      unfold newPost at hv
      split at hv
      · rename_i j
        split at hv
        · rename_i ob hob
          obtain ⟨⟨hosz, hdd⟩, hv⟩ := hv
          split at hv
          · rename_i x hx
            simp only [rep] at g2
            obtain ⟨bl, hbl, rfl⟩ := g2
            obtain ⟨hc0, k1, k3, k4, c, ty, c1, c2, c3⟩ := one_object g1 hob hdd hx hbl
            have hblk : ∀ b, b < w.heap.size → w'.heap[b]? = w.heap[b]? := fun b hb => g3.keep b hb (fun h => h)
            have hnew := g4 j bl hbl
            let T : Nat → Prop := fun b => SO S' β' (lookL s.mem) b ∧ b ≠ bl.b
            have hI := h1.beside (T := T) g3.size hblk (fun b hb => SO_lt g1 b hb.1)
            have hat : ObAt w' (SB S1 w.heap.size T) (upd β nid (some bl)) bl ⟨Enc.w γ, [Enc.e (f a)], false, false⟩ := by
              refine ⟨by rw [← k1]; exact hosz.symm, by simp; omega, k3, fun _ => ⟨c, ty, c1, c2, ?_⟩⟩
              simp only [repEls, and_true]
              refine ⟨by rw [Enc.wd, ← k1]; exact hosz.symm, ?_⟩
              have c4 := wkEl_rep β0 _ _ _ _ hv c3
              rw [repEl_cells] at c4 ⊢
              refine repCells_mono (w := w') (S := fun b => SO S' β' (lookL s.mem) b ∧ b ≠ bl.b) (fun b hb => ⟨?_, rfl⟩) rfl (fun _ _ _ h => by simp [β0] at h) c4
              rcases hb with ⟨hb | ⟨id, ob', bl', q1, q2, q3, q4, rfl⟩, hne⟩
              · rcases g3.fresh b hb with h | h | h
                · exact .inl h
                · exact h.elim
                · exact .inr ⟨⟨.inl hb, hne⟩, h⟩
              · exact .inr ⟨⟨.inr ⟨id, ob', bl', q1, q2, q3, q4, rfl⟩, hne⟩, g4 id bl' q3⟩
            have hA := hI.adopt hfree1 (w' := w') (bl := bl) (ob := ⟨Enc.w γ, [Enc.e (f a)], false, false⟩) rfl (Nat.le_refl _) (fun _ _ _ => rfl)
              (fun hc h => h.elim (fun h => by have := h1.slt _ h; omega) (fun h => h.1.2 rfl)) (fun id o b hm hd hb hc _ e => by have := h1.blt hm hd hb hc; omega) hat
            have hfb : β nid = none := (hi.live nid).1 hfree
            refine ⟨_, upd β nid (some bl), by rw [app_cons]; exact hA, ?_, plain_ptr _ _ _, h2.trans (ext_beside g3) (fun _ _ h => h), ?_, ?_⟩
            · simp only [rep]
              exact ⟨bl, upd_same _ _ _, rfl⟩
            · intro i b h; rw [upd_ne _ _ (fun e => by rw [e, hfb] at h; cases h)]; exact h
            · intro i b h
              by_cases e : i = nid
              · subst e; rw [upd_same] at h; injection h with h; subst h; exact .inr hnew
              · rw [upd_ne _ _ e] at h; exact .inl ⟨i, b, h, rfl⟩
          · exact hv.elim
        · exact hv.elim
      · exact hv.elim
    · cases hc
  · cases hc
/-- What a function that turns its first argument's object must leave. -/
def ptrPost {γ ρ : Type} [Enc γ] [EncR ρ] (q : ρ × γ) (v : AV) (s : AS) : Prop := wk (frz (lookL s.mem) v) (EncR.r q.1) ∧ match lookL s.mem 1 with
  | some ob => (ob.sz = Enc.w γ ∧ ob.dd = false ∧ ob.cl = false) ∧ match ob.els with
    | [x] => wk (frz (lookL s.mem) x) (Enc.e q.2)
    | _ => False
  | none => False

theorem sound_ptr (htab : TabOk P tab) (hΓ : GOk P Γ) {N : FuncId} {fn : Func} {code : Code} (hf : FnAt P tab N fn code) (keep : List Nat) {γ α ρ : Type} [Enc γ] [EncA α] [EncR ρ] (pre : γ → α → Prop) (f : γ → α → ρ × γ) (hn : ∀ a : α, (EncA.es a).length + 1 ≤ fn.ntmps)
    (h : ∀ (c : γ) (a : α), pre c a → bndL (EncA.es a) → (Enc.e c).bnd → run Γ [.code (comp tab code)] (initS (.ptr 1 0 0 :: EncA.es a) keep [(1, ⟨Enc.w γ, [Enc.e c], false, false⟩)]) (postX (fn.results.toList.map (rixOf tab)) (ptrPost (f c a)))) : SoundC P N (ptrT pre f) := by
  refine ⟨?_, ?_⟩
  · intro nid as us w S β μ p v up hi hr hp hc hpp
    unfold ptrT at hc
    split at hc
    · rename_i id rest
      split at hc
      · rename_i sz x hob
        split at hc
        · rename_i c a up' hdc hda hu
          simp only [Option.some.injEq, Prod.mk.injEq] at hc
          obtain ⟨rfl, rfl, rfl⟩ := hc
          simp only [reps] at hr
          obtain ⟨u0, us, rfl, hptr, hr⟩ := hr
          simp only [rep] at hptr
          obtain ⟨bl, hbl, rfl⟩ := hptr
          obtain ⟨S1, h1, h2, h3⟩ := args_sound hi hr hda hu
          have hnot : lookL up' id = none := by
            cases hl : lookL up' id with
            | none => rfl
            | some o =>
              exfalso
              have key : ∀ (l : List Nat) (up : Upd), fzUpd μ l = some up → lookL up id = none := by
                intro l
                induction l with
                | nil => intro up h; simp only [fzUpd, Option.some.injEq] at h; subst h; rfl
                | cons i r ih =>
                  intro up h
                  simp only [fzUpd] at h
                  split at h
                  · exact ih up h
                  · split at h
                    · rename_i ob' hob'
                      split at h
                      · rename_i up2 hr2
                        split at h
                        · rename_i hcl hdd
                          simp only [Option.some.injEq] at h
                          subst h
                          have hne : i ≠ id := by
                            rintro rfl
                            rw [hob] at hob'; injection hob' with hob'; subst hob'
                            cases hcl
                          simp only [lookL, hne, if_false]
                          exact ih up2 hr2
                        · simp only [Option.some.injEq] at h; subst h; exact ih up2 hr2
                        · cases h
                      · cases h
                    · cases h
              rw [key _ _ hu] at hl; cases hl
          have hob1 : Upd.app up' μ id = some ⟨sz, [x], false, false⟩ := by simp only [Upd.app, hnot, hob]
          obtain ⟨k1, k2, k3, k4⟩ := h1.obs id _ bl hob1 rfl hbl
          simp only at k1
          simp only [List.length_cons, List.length_nil] at k2
          have hc0 : bl.cap ≠ 0 := by omega
          obtain ⟨cc, ty, c1, c2, c3⟩ := k4 hc0
          simp only [repEls, and_true] at c3
          have hwx := Enc.ed x c hdc
          have hxcl := wk_closed _ _ hwx (Enc.cl c)
          have c4 : repEl w S1 β0 (Enc.e c) bl.b bl.o := by
            refine wkEl_rep β0 _ _ _ _ hwx ?_
            have := c3.2
            rw [repEl_cells] at this ⊢
            exact repCells_mono (w := w) (S := S1) (fun b hb => ⟨hb, rfl⟩) rfl (fun id hid _ _ => by rw [closed_cells hxcl id] at hid; cases hid) this
          have hwz : Enc.w γ = bl.sz := by rw [← Enc.wd c, wkL_len _ _ (wk_cells hwx)]; exact c3.1
          let β1 : Nat → Option Blk := upd β0 1 (some bl)
          have hi1 : Inv w S1 β1 (lookL [(1, ⟨Enc.w γ, [Enc.e c], false, false⟩)]) := by
            have h0 := inv_none (w := w) h1.slt
            have := h0.put 1 bl ⟨Enc.w γ, [Enc.e c], false, false⟩ (w' := w) (S' := S1) (fun b hb => ⟨hb, rfl⟩) (fun b h => by simp [β0] at h) (fun i o b _ hm => by simp [lookL] at hm) h1.slt
              (fun _ => ⟨⟨hwz, by simp; omega, k3, fun _ => ⟨cc, ty, c1, c2, by
                simp only [repEls, and_true]
                refine ⟨by rw [Enc.wd]; exact hwz, ?_⟩
                rw [repEl_cells] at c4 ⊢
                exact repCells_mono (w := w) (S := S1) (fun b hb => ⟨hb, rfl⟩) rfl (fun _ _ _ h => by simp [β0] at h) c4⟩⟩, fun hc => ⟨h1.notS id _ bl hob1 rfl hbl hc, fun i o b _ hm => by simp [lookL] at hm⟩⟩) (fun h => by cases h)
            have e : Upd.app [(1, (⟨Enc.w γ, [Enc.e c], false, false⟩ : Ob))] (lookL []) = lookL [(1, ⟨Enc.w γ, [Enc.e c], false, false⟩)] := by
              funext k; simp only [Upd.app, lookL]; split <;> rename_i h <;> simp_all
            rw [e] at this
            exact this
          have hβ1 : β1 1 = some bl := upd_same _ _ _
          have hr1 : reps w S1 β1 (.ptr 1 0 0 :: EncA.es a) (.pointer (some ⟨bl.b, bl.o + 0 * bl.sz + 0, none⟩) :: us) := by
            simp only [reps]
            refine ⟨_, _, rfl, by simp only [rep]; exact ⟨bl, hβ1, rfl⟩, ?_⟩
            exact reps_mono (w := w) (S := S1) (fun b hb => ⟨hb, rfl⟩) (fun _ _ _ h => by simp [β0] at h) h3
          have hbe : (Enc.e c).bnd := rep_bnd_all.2.1 _ _ _ _ c4
          refine (body_sound htab hΓ hf keep [(1, ⟨Enc.w γ, [Enc.e c], false, false⟩)] (pin := β1) hi1 (fun i b hb => ?_) hr1 (fun y hy => ?_) (by simpa using hn a) (h c a hpp (rep_bnd_all.2.2.2.2 _ _ _ h3) hbe)).mono ?_
          · by_cases e : i = 1
            · subst e; exact ⟨rfl, hb⟩
            · simp only [β1, upd_ne _ _ e, β0] at hb; cases hb
          · cases hy with
            | head => exact plain_ptr _ _ _
            | tail _ hy => exact EncA.pl a y hy
          · rintro u w' ⟨s, S', β', v, hv, g1, g2, g3, g4, g5⟩
            have hO : ∀ b, Own β1 b ↔ b = bl.b := by
              intro b
              constructor
              · rintro ⟨i, b', h, rfl⟩
                by_cases e : i = 1
                · subst e; rw [hβ1] at h; injection h with h; rw [h]
                · simp only [β1, upd_ne _ _ e, β0] at h; cases h
              · rintro rfl; exact ⟨1, bl, hβ1, rfl⟩
            have hb1 : β' 1 = some bl := g5 1 bl hβ1
            obtain ⟨hv1, hv2⟩ := hv
            split at hv2
            · rename_i ob' hob'
              obtain ⟨⟨q1, q2, q3⟩, hv2⟩ := hv2
              split at hv2
              · rename_i x' hx'
                obtain ⟨_, m1, m2, m3, c', ty', m4, m5, m6⟩ := one_object g1 hob' q2 hx' hb1
                have hblk : ∀ b, b < w.heap.size → b ≠ bl.b → w'.heap[b]? = w.heap[b]? := fun b hb hne => g3.keep b hb (fun h => hne ((hO b).1 h))
                let T : Nat → Prop := fun b => SO S' β' (lookL s.mem) b ∧ b ≠ bl.b
                have hlt : bl.b < w.heap.size := h1.blt hob1 rfl hbl hc0
                have hns : ¬ S1 bl.b := h1.notS id _ bl hob1 rfl hbl hc0
                have hTS : ∀ b, SO S' β' (lookL s.mem) b → b ≠ bl.b → SB S1 w.heap.size T b := by
                  intro b hb hne
                  have hb0 := hb
                  rcases hb with hb | ⟨i, o, b', p1, p2, p3, p4, rfl⟩
                  · rcases g3.fresh b hb with h | h | h
                    · exact .inl h
                    · exact absurd ((hO b).1 h) hne
                    · exact .inr ⟨⟨hb0, hne⟩, h⟩
                  · rcases g4 i b' p3 with h | h
                    · exact absurd ((hO _).1 h) hne
                    · exact .inr ⟨⟨hb0, hne⟩, h⟩
                have hSB : ∀ b, S1 b → SB S1 w.heap.size T b ∧ w'.heap[b]? = w.heap[b]? := fun b hb => ⟨.inl hb, hblk b (h1.slt b hb) (fun e => hns (e ▸ hb))⟩
                have hA := h1.put id bl ⟨sz, [Enc.e (f c a).2], false, false⟩ (w' := w') (S' := SB S1 w.heap.size T) hSB (fun b h => by rw [hbl] at h; injection h with h; exact h.symm)
                  (fun i o b hne hm hd hb hc => ⟨hblk _ (h1.blt hm hd hb hc) (fun e => hne (h1.inj i id o _ b bl hm hd hob1 rfl hb hbl hc hc0 e)), fun h => h.elim (h1.notS i o b hm hd hb hc) (fun h => by have := h1.blt hm hd hb hc; omega)⟩)
                  (fun b hb => hb.elim (fun h => Nat.lt_of_lt_of_le (h1.slt b h) g3.size) (fun h => SO_lt g1 b h.1.1))
                  (fun _ => ⟨⟨k1, by simp; omega, k3, fun _ => ⟨c', ty', m4, m5, by
                    simp only [repEls, and_true]
                    refine ⟨by rw [Enc.wd]; exact hwz, ?_⟩
                    have m7 := wkEl_rep β0 _ _ _ _ hv2 m6
                    rw [repEl_cells] at m7 ⊢
                    exact repCells_mono (w := w') (S := fun b => SO S' β' (lookL s.mem) b ∧ b ≠ bl.b) (fun b hb => ⟨hTS b hb.1 hb.2, rfl⟩) rfl (fun _ _ _ h => by simp [β0] at h) m7⟩⟩,
                    fun _ => ⟨fun h => h.elim hns (fun h => h.1.2 rfl), fun i o b hne hm hd hb hc e => hne (h1.inj i id o _ b bl hm hd hob1 rfl hb hbl hc hc0 e)⟩⟩) (fun h => by cases h)
                rw [upd_id hbl] at hA
                have hfr : rep w' (SB S1 w.heap.size T) β0 (EncR.r (f c a).1) u := by
                  refine wk_rep β0 _ _ u hv1 (frz_rep' g1 (fun b hb => hTS b (.inl hb) (fun e => g1.notS 1 ob' bl hob' q2 hb1 hc0 (e ▸ hb))) v u (fun i o b hid hm hrd hb hc => hTS _ (.inr ⟨i, o, b, hm, hrd, hb, hc, rfl⟩) (fun e => ?_)) g2)
                  cases hd : o.dd with
                  | false =>
                    have := g1.inj i 1 o ob' b bl hm hd hob' q2 hb hb1 hc hc0 e
                    subst this
                    rw [hob'] at hm; injection hm with hm; subst hm
                    rw [q2, q3] at hrd; cases hrd
                  | true =>
                    have hcl' : o.cl = false := by cases h : o.cl <;> simp_all [rdable]
                    have := ((g1.fzs i o b hm hd hcl' hb).2.2.2 hc).1
                    exact g1.notS 1 ob' bl hob' q2 hb1 hc0 (e ▸ this)
                refine ⟨_, β, by rw [app_cons]; exact hA, rep_mono (w := w') (S := SB S1 w.heap.size T) (fun b hb => ⟨hb, rfl⟩) (fun _ _ bl h => by simp [β0] at h) hfr, EncR.pl _, h2.trans ?_ (fun b hb h => (h : Own β b)), fun _ _ h => h, fun i b h => .inl ⟨i, b, h, rfl⟩⟩
                exact ⟨g3.os, g3.tape, g3.output, g3.size, hSB, fun b hb hn => hblk b hb (fun e => hn ⟨id, bl, hbl, e.symm⟩), fun b hb => hb.imp (fun h => h) (fun h => .inr h.2)⟩
              · exact hv2.elim
            · exact hv2.elim
        · cases hc
      · cases hc
    · cases hc
  · intro nid as μ μ' h
    unfold ptrT
    cases as with
    | nil => rfl
    | cons x rest =>
      cases x with
      | ptr id i o =>
        have hid : μ id = μ' id := h id (by simp [foot, namesL, AV.names])
        have hr : ∀ k ∈ namesL rest, μ k = μ' k := fun k hk => h k (by simp [foot, namesL, AV.names, hk])
        cases i <;> cases o <;> simp only [hid, frzL_congr rest hr, fzUpd_congr _ hr]
      | _ => rfl
end
end Go.Ax
