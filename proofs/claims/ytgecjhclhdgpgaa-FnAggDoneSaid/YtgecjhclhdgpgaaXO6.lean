import Derived.Test.YtgecjhclhdgpgaaXO5
set_option linter.unusedVariables false
set_option linter.unusedSimpArgs false
namespace Go.Ax
open Go

/-- It turns the object that its first argument points to, and hands back a row of its own. -/
def ptrRowT {γ α ε : Type} [Enc γ] [EncA α] [Enc ε] (pre : γ → α → Prop) (f : γ → α → List ε × γ) : Ct := fun nid as lk => match as with
  | .ptr id 0 0 :: rest => match lk id with
    | some ⟨sz, [x], false, false⟩ => match Enc.d x, EncA.ds (frzL lk rest), fzUpd lk (namesL rest) with
      | some c, some a, some up => some (pre c a ∧ lk nid = none, .row nid (Enc.w ε) 0 (f c a).1.length, (nid, ⟨Enc.w ε, encL Enc.e (f c a).1, true, false⟩) :: (id, ⟨sz, [Enc.e (f c a).2], false, false⟩) :: up)
      | _, _, _ => none
    | _ => none
  | _ => none
/-- All but one object. -/
def hidJ (j : Nat) (lk : Look) : Look := fun id => if id = j then none else lk id
def nameOf : AV → Nat
  | .row j _ _ _ => j
  | _ => 0
def ptrRowPost {γ ε : Type} [Enc γ] [Enc ε] (q : List ε × γ) (v : AV) (s : AS) : Prop := rowPost q.1 v s ∧ match lookL s.mem 1 with
  | some ob => (ob.sz = Enc.w γ ∧ ob.dd = false ∧ ob.cl = false) ∧ match ob.els with
    | [x] => wk (frz (hidJ (nameOf v) (lookL s.mem)) x) (Enc.e q.2)
    | _ => False
  | none => False

section
variable {P : Program} {Γ : Cts} {tab : TT}
theorem sound_ptrRow (htab : TabOk P tab) (hΓ : GOk P Γ) {N : FuncId} {fn : Func} {code : Code} (hf : FnAt P tab N fn code) (keep : List Nat) {γ α ε : Type} [Enc γ] [EncA α] [Enc ε] (pre : γ → α → Prop) (f : γ → α → List ε × γ) (hn : ∀ a : α, (EncA.es a).length + 1 ≤ fn.ntmps)
    (h : ∀ (c : γ) (a : α), pre c a → bndL (EncA.es a) → (Enc.e c).bnd → run Γ [.code (comp tab code)] (initS (.ptr 1 0 0 :: EncA.es a) keep [(1, ⟨Enc.w γ, [Enc.e c], false, false⟩)]) (postX (fn.results.toList.map (rixOf tab)) (ptrRowPost (f c a)))) : SoundC P N (ptrRowT pre f) := by
  refine ⟨?_, ?_⟩
  · intro nid as us w S β μ p v up hi hr hp hc hpp
    unfold ptrRowT at hc
    split at hc
    · rename_i id rest
      split at hc
      · rename_i sz x hob
        split at hc
        · rename_i c a up' hdc hda hu
          simp only [Option.some.injEq, Prod.mk.injEq] at hc
          obtain ⟨rfl, rfl, rfl⟩ := hc
          obtain ⟨hpp, hfree⟩ := hpp
          simp only [reps] at hr
          obtain ⟨u0, us, rfl, hptr, hr⟩ := hr
          simp only [rep] at hptr
          obtain ⟨bl, hbl, rfl⟩ := hptr
          obtain ⟨S1, h1, h2, h3⟩ := args_sound hi hr hda hu
          have hnot : lookL up' id = none := by
            cases hl : lookL up' id with
            | none => rfl
            | some o =>
              exfalso
              have key : ∀ (l : List Nat) (up : Upd), fzUpd μ l = some up → lookL up id = none := by
                intro l
                induction l with
                | nil => intro up h; simp only [fzUpd, Option.some.injEq] at h; subst h; rfl
                | cons i r ih =>
                  intro up h
                  simp only [fzUpd] at h
                  split at h
                  · exact ih up h
                  · split at h
                    · rename_i ob' hob'
                      split at h
                      · rename_i up2 hr2
                        split at h
                        · rename_i hcl hdd
                          simp only [Option.some.injEq] at h
                          subst h
                          have hne : i ≠ id := by
                            rintro rfl
                            rw [hob] at hob'; injection hob' with hob'; subst hob'
                            cases hcl
                          simp only [lookL, hne, if_false]
                          exact ih up2 hr2
                        · simp only [Option.some.injEq] at h; subst h; exact ih up2 hr2
                        · cases h
                      · cases h
                    · cases h
              rw [key _ _ hu] at hl; cases hl
          have hob1 : Upd.app up' μ id = some ⟨sz, [x], false, false⟩ := by simp only [Upd.app, hnot, hob]
          obtain ⟨k1, k2, k3, k4⟩ := h1.obs id _ bl hob1 rfl hbl
          simp only at k1
          simp only [List.length_cons, List.length_nil] at k2
          have hc0 : bl.cap ≠ 0 := by omega
          obtain ⟨cc, ty, c1, c2, c3⟩ := k4 hc0
          simp only [repEls, and_true] at c3
          have hwx := Enc.ed x c hdc
          have hxcl := wk_closed _ _ hwx (Enc.cl c)
          have c4 : repEl w S1 β0 (Enc.e c) bl.b bl.o := by
            refine wkEl_rep β0 _ _ _ _ hwx ?_
            have := c3.2
            rw [repEl_cells] at this ⊢
            exact repCells_mono (w := w) (S := S1) (fun b hb => ⟨hb, rfl⟩) rfl (fun id hid _ _ => by rw [closed_cells hxcl id] at hid; cases hid) this
          have hwz : Enc.w γ = bl.sz := by rw [← Enc.wd c, wkL_len _ _ (wk_cells hwx)]; exact c3.1
          let β1 : Nat → Option Blk := upd β0 1 (some bl)
          have hi1 : Inv w S1 β1 (lookL [(1, ⟨Enc.w γ, [Enc.e c], false, false⟩)]) := by
            have h0 := inv_none (w := w) h1.slt
            have := h0.put 1 bl ⟨Enc.w γ, [Enc.e c], false, false⟩ (w' := w) (S' := S1) (fun b hb => ⟨hb, rfl⟩) (fun b h => by simp [β0] at h) (fun i o b _ hm => by simp [lookL] at hm) h1.slt
              (fun _ => ⟨⟨hwz, by simp; omega, k3, fun _ => ⟨cc, ty, c1, c2, by
                simp only [repEls, and_true]
                refine ⟨by rw [Enc.wd]; exact hwz, ?_⟩
                rw [repEl_cells] at c4 ⊢
                exact repCells_mono (w := w) (S := S1) (fun b hb => ⟨hb, rfl⟩) rfl (fun _ _ _ h => by simp [β0] at h) c4⟩⟩, fun hc => ⟨h1.notS id _ bl hob1 rfl hbl hc, fun i o b _ hm => by simp [lookL] at hm⟩⟩) (fun h => by cases h)
            have e : Upd.app [(1, (⟨Enc.w γ, [Enc.e c], false, false⟩ : Ob))] (lookL []) = lookL [(1, ⟨Enc.w γ, [Enc.e c], false, false⟩)] := by
              funext k; simp only [Upd.app, lookL]; split <;> rename_i h <;> simp_all
            rw [e] at this
            exact this
          have hβ1 : β1 1 = some bl := upd_same _ _ _
          have hr1 : reps w S1 β1 (.ptr 1 0 0 :: EncA.es a) (.pointer (some ⟨bl.b, bl.o + 0 * bl.sz + 0, none⟩) :: us) := by
            simp only [reps]
            refine ⟨_, _, rfl, by simp only [rep]; exact ⟨bl, hβ1, rfl⟩, ?_⟩
            exact reps_mono (w := w) (S := S1) (fun b hb => ⟨hb, rfl⟩) (fun _ _ _ h => by simp [β0] at h) h3
          have hbe : (Enc.e c).bnd := rep_bnd_all.2.1 _ _ _ _ c4
          refine (body_sound htab hΓ hf keep [(1, ⟨Enc.w γ, [Enc.e c], false, false⟩)] (pin := β1) hi1 (fun i b hb => ?_) hr1 (fun y hy => ?_) (by simpa using hn a) (h c a hpp (rep_bnd_all.2.2.2.2 _ _ _ h3) hbe)).mono ?_
          · by_cases e : i = 1
            · subst e; exact ⟨rfl, hb⟩
            · simp only [β1, upd_ne _ _ e, β0] at hb; cases hb
          · cases hy with
            | head => exact plain_ptr _ _ _
            | tail _ hy => exact EncA.pl a y hy
          · rintro u w' ⟨s, S', β', v, hv, g1, g2, g3, g4, g5⟩
            have hO : ∀ b, Own β1 b ↔ b = bl.b := by
              intro b
              constructor
              · rintro ⟨i, b', h, rfl⟩
                by_cases e : i = 1
                · subst e; rw [hβ1] at h; injection h with h; rw [h]
                · simp only [β1, upd_ne _ _ e, β0] at h; cases h
              · rintro rfl; exact ⟨1, bl, hβ1, rfl⟩
            have hb1 : β' 1 = some bl := g5 1 bl hβ1
            obtain ⟨hv1, hv2⟩ := hv
            split at hv2
            · rename_i ob' hob'
              obtain ⟨⟨q1, q2, q3⟩, hv2⟩ := hv2
              split at hv2
              · rename_i x' hx'
                unfold rowPost at hv1
                split at hv1
                · rename_i j z lo n
                  split at hv1
                  · rename_i oj hoj
                    obtain ⟨⟨rfl, rfl, rfl⟩, ⟨hcj, hdj, hlj⟩, hwj⟩ := hv1
                    simp only [rep] at g2
                    obtain ⟨bj, aj, hbj, rfl, hcapj, hszj, haj⟩ := g2
                    obtain ⟨y1, y2, y3, y4⟩ := g1.obs j oj bj hoj hdj hbj
                    have hj1 : j ≠ 1 := by
                      rintro rfl
                      rw [hob'] at hoj; injection hoj with hoj; subst hoj
                      rw [q3] at hcj; cases hcj
                    have hjb : bj.cap ≠ 0 → bj.b ≠ bl.b := fun hc e => hj1 (g1.inj j 1 oj ob' bj bl hoj hdj hob' q2 hbj hb1 hc hc0 e)
                    have hjn : bj.cap ≠ 0 → w.heap.size ≤ bj.b := fun hc => (g4 j bj hbj).resolve_left (fun h => hjb hc ((hO _).1 h))
                    obtain ⟨_, m1, m2, m3, c', ty', m4, m5, m6⟩ := one_object g1 hob' q2 hx' hb1
                    have hblk : ∀ b, b < w.heap.size → b ≠ bl.b → w'.heap[b]? = w.heap[b]? := fun b hb hne => g3.keep b hb (fun h => hne ((hO b).1 h))
                    -- what the object reads is no part of the row
                    let T : Nat → Prop := fun b => SO S' β' (lookL s.mem) b ∧ b ≠ bl.b ∧ (bj.cap ≠ 0 → b ≠ bj.b)
                    have hlt : bl.b < w.heap.size := h1.blt hob1 rfl hbl hc0
                    have hns : ¬ S1 bl.b := h1.notS id _ bl hob1 rfl hbl hc0
                    have hTS : ∀ b, SO S' β' (lookL s.mem) b → b ≠ bl.b → (bj.cap ≠ 0 → b ≠ bj.b) → SB S1 w.heap.size T b := by
                      intro b hb hne hne2
                      have hb0 := hb
                      rcases hb with hb | ⟨i, o, b', p1, p2, p3, p4, rfl⟩
                      · rcases g3.fresh b hb with h | h | h
                        · exact .inl h
                        · exact absurd ((hO b).1 h) hne
                        · exact .inr ⟨⟨hb0, hne, hne2⟩, h⟩
                      · rcases g4 i b' p3 with h | h
                        · exact absurd ((hO _).1 h) hne
                        · exact .inr ⟨⟨hb0, hne, hne2⟩, h⟩
                    have hSB : ∀ b, S1 b → SB S1 w.heap.size T b ∧ w'.heap[b]? = w.heap[b]? := fun b hb => ⟨.inl hb, hblk b (h1.slt b hb) (fun e => hns (e ▸ hb))⟩
                    have hS'T : ∀ b, S' b → SB S1 w.heap.size T b := fun b hb => hTS b (.inl hb) (fun e => g1.notS 1 ob' bl hob' q2 hb1 hc0 (e ▸ hb)) (fun hc e => g1.notS j oj bj hoj hdj hbj hc (e ▸ hb))
                    have m6' : repEl w' (SB S1 w.heap.size T) β0 (Enc.e (f c a).2) bl.b bl.o := by
                      refine wkEl_rep β0 _ _ _ _ hv2 ?_
                      obtain ⟨_, _, _, k4'⟩ := g1.obs 1 ob' bl hob' q2 hb1
                      obtain ⟨_, _, _, _, k5⟩ := k4' hc0
                      rw [hx', q3] at k5
                      simp only [repEls, and_true] at k5
                      have k6 : repEl w' S' β' x' bl.b bl.o := k5.2
                      rw [repEl_cells] at k6 ⊢
                      obtain ⟨us', z1, z2, z3⟩ := repCells_at k6
                      rw [frz_cells]
                      refine repCells_of_reps (fun _ _ h => h) _ us' _ (frzL_repsH g1 hS'T (fun i o h => by unfold hidJ at h; split at h; cases h; exact h) _ us' (fun i o b hid hm hrd hb hc => ?_) z1) z2 z3
                      unfold hidJ at hm
                      split at hm
                      · cases hm
                      · rename_i hij
                        refine hTS _ (.inr ⟨i, o, b, hm, hrd, hb, hc, rfl⟩) (fun e => ?_) (fun hcj' e => ?_)
                        · cases hd : o.dd with
                          | false =>
                            have := g1.inj i 1 o ob' b bl hm hd hob' q2 hb hb1 hc hc0 e
                            subst this
                            rw [hob'] at hm; injection hm with hm; subst hm
                            rw [q2, q3] at hrd; cases hrd
                          | true =>
                            have hcl' : o.cl = false := by cases h : o.cl <;> simp_all [rdable]
                            have := ((g1.fzs i o b hm hd hcl' hb).2.2.2 hc).1
                            exact g1.notS 1 ob' bl hob' q2 hb1 hc0 (e ▸ this)
                        · cases hd : o.dd with
                          | false => exact hij (g1.inj i j o oj b bj hm hd hoj hdj hb hbj hc hcj' e)
                          | true =>
                            have hcl' : o.cl = false := by cases h : o.cl <;> simp_all [rdable]
                            have := ((g1.fzs i o b hm hd hcl' hb).2.2.2 hc).1
                            exact g1.notS j oj bj hoj hdj hbj hcj' (e ▸ this)
                    have hA := h1.put id bl ⟨sz, [Enc.e (f c a).2], false, false⟩ (w' := w') (S' := SB S1 w.heap.size T) hSB (fun b h => by rw [hbl] at h; injection h with h; exact h.symm)
                      (fun i o b hne hm hd hb hc => ⟨hblk _ (h1.blt hm hd hb hc) (fun e => hne (h1.inj i id o _ b bl hm hd hob1 rfl hb hbl hc hc0 e)), fun h => h.elim (h1.notS i o b hm hd hb hc) (fun h => by have := h1.blt hm hd hb hc; omega)⟩)
                      (fun b hb => hb.elim (fun h => Nat.lt_of_lt_of_le (h1.slt b h) g3.size) (fun h => SO_lt g1 b h.1.1))
                      (fun _ => ⟨⟨k1, by simp; omega, k3, fun _ => ⟨c', ty', m4, m5, by
                        simp only [repEls, and_true]
                        refine ⟨by rw [Enc.wd]; exact hwz, ?_⟩
                        rw [repEl_cells] at m6' ⊢
                        exact repCells_mono (w := w') (S := SB S1 w.heap.size T) (fun b hb => ⟨hb, rfl⟩) rfl (fun _ _ _ h => by simp [β0] at h) m6'⟩⟩,
                        fun _ => ⟨fun h => h.elim hns (fun h => h.1.2.1 rfl), fun i o b hne hm hd hb hc e => hne (h1.inj i id o _ b bl hm hd hob1 rfl hb hbl hc hc0 e)⟩⟩) (fun h => by cases h)
                    rw [upd_id hbl] at hA
                    have hne : nid ≠ id := fun e => by rw [e, hob] at hfree; cases hfree
                    have hfb : β nid = none := (hi.live nid).1 hfree
                    have hfree2 : Upd.app [(id, (⟨sz, [Enc.e (f c a).2], false, false⟩ : Ob))] (Upd.app up' μ) nid = none := by
                      rw [app_one, if_neg hne]; exact (h1.live nid).2 hfb
                    have hB := hA.adopt hfree2 (w' := w') (bl := bj) (ob := ⟨Enc.w ε, encL Enc.e (f c a).1, true, false⟩) rfl (Nat.le_refl _) (fun _ _ _ => rfl)
                      (fun hc h => h.elim (fun h => by have := h1.slt _ h; have := hjn hc; omega) (fun h => h.1.2.2 hc rfl))
                      (fun i o b hm hd hb hc hc2 e => by
                        have hlt2 : b.b < w.heap.size := by
                          rw [app_one] at hm
                          by_cases ei : i = id
                          · subst ei; rw [hbl] at hb; injection hb with hb; subst hb; exact hlt
                          · rw [if_neg ei] at hm; exact h1.blt hm hd hb hc
                        have := hjn hc2; omega)
                      ⟨hszj, by rw [encL_length]; omega, y3, fun hc => by
                        have y5 := y4 hc
                        rw [hcj] at y5
                        exact (RowAt.mono (fun b hb => ⟨hS'T b hb, rfl⟩) rfl (fun _ _ _ h => h) y5).elim (fun cc ⟨ty, n1, n2, n3⟩ => ⟨cc, ty, n1, n2, wkEls_rep β0 _ _ _ _ _ hwj (repEls_take _ _ _ n3)⟩)⟩
                    refine ⟨_, upd β nid (some bj), by rw [app_cons, app_cons (up := up')]; exact hB, ?_, plain_row _ _ _ _, h2.trans ?_ (fun b hb h => (h : Own β b)), ?_, ?_⟩
                    · simp only [rep]; exact ⟨bj, aj, upd_same _ _ _, rfl, hcapj, hszj, haj⟩
                    · exact ⟨g3.os, g3.tape, g3.output, g3.size, hSB, fun b hb hn => hblk b hb (fun e => hn ⟨id, bl, hbl, e.symm⟩), fun b hb => hb.imp (fun h => h) (fun h => .inr h.2)⟩
                    · intro i b h; rw [upd_ne _ _ (fun e => by rw [e, hfb] at h; cases h)]; exact h
                    · intro i b h
                      by_cases e : i = nid
                      · subst e; rw [upd_same] at h; injection h with h; subst h
                        rcases g4 j _ hbj with h | h
                        · exact .inl ⟨id, bl, hbl, ((hO _).1 h).symm⟩
                        · exact .inr h
                      · rw [upd_ne _ _ e] at h; exact .inl ⟨i, b, h, rfl⟩
                  · exact hv1.elim
                · exact hv1.elim
              · exact hv2.elim
            · exact hv2.elim
        · cases hc
      · cases hc
    · cases hc
  · intro nid as μ μ' h
    unfold ptrRowT
    cases as with
    | nil => rfl
    | cons x rest =>
      cases x with
      | ptr id i o =>
        have hid : μ id = μ' id := h id (by simp [foot, namesL, AV.names])
        have hr : ∀ k ∈ namesL rest, μ k = μ' k := fun k hk => h k (by simp [foot, namesL, AV.names, hk])
        cases i <;> cases o <;> simp only [hid, frzL_congr rest hr, fzUpd_congr _ hr, h nid (by simp [foot])]
      | _ => rfl
end
end Go.Ax
