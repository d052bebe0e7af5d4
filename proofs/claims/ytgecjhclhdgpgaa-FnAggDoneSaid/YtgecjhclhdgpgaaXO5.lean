import Derived.Test.YtgecjhclhdgpgaaXO3
set_option linter.unusedVariables false
set_option linter.unusedSimpArgs false
namespace Go.Ax
open Go

/-- It turns the row that its first argument is. -/
def rmT {ε α ρ : Type} [Enc ε] [EncA α] [EncR ρ] (pre : List ε → α → Prop) (f : List ε → α → ρ × List ε) : Ct := fun _ as lk => match as with
  | .row id z 0 n :: rest => match lk id with
    | some ⟨sz, els, true, false⟩ => match decL Enc.d (els.take n), EncA.ds (frzL lk rest), fzUpd lk (namesL rest) with
      | some l, some a, some up => some ((z = Enc.w ε ∧ n ≤ els.length ∧ (namesL rest).elem id = false) ∧ pre l a, EncR.r (f l a).1, (id, ⟨sz, encL Enc.e (f l a).2, true, false⟩) :: up)
      | _, _, _ => none
    | _ => none
  | _ => none

/-- All but the first object. -/
def hid1 (lk : Look) : Look := fun id => if id = 1 then none else lk id
def rmPost {ε ρ : Type} [Enc ε] [EncR ρ] (q : ρ × List ε) (v : AV) (s : AS) : Prop := wk (frz (hid1 (lookL s.mem)) v) (EncR.r q.1) ∧ match lookL s.mem 1 with
  | some ob => (ob.cl = true ∧ ob.dd = false) ∧ wkL ob.els (encL Enc.e q.2)
  | none => False

theorem fzUpd_not {μ : Look} {id : Nat} : ∀ (l : List Nat) (up : Upd), l.elem id = false → fzUpd μ l = some up → lookL up id = none := by
  intro l up hn h
  cases hl : lookL up id with
  | none => rfl
  | some o =>
    have := fzUpd_keys h id (by rw [hl]; simp)
    simp [this] at hn

section
variable {P : Program} {Γ : Cts} {tab : TT}
theorem sound_rm (htab : TabOk P tab) (hΓ : GOk P Γ) {N : FuncId} {fn : Func} {code : Code} (hf : FnAt P tab N fn code) (keep : List Nat) {ε α ρ : Type} [Enc ε] [EncA α] [EncR ρ] (pre : List ε → α → Prop) (f : List ε → α → ρ × List ε) (hn : ∀ a : α, (EncA.es a).length + 1 ≤ fn.ntmps)
    (hlen : ∀ l a, pre l a → l.length ≤ maxLen → bndL (EncA.es a) → (f l a).2.length = l.length)
    (h : ∀ (l : List ε) (a : α), pre l a → l.length ≤ maxLen → bndL (EncA.es a) → run Γ [.code (comp tab code)] (initS (.row 1 (Enc.w ε) 0 l.length :: EncA.es a) keep [(1, ⟨Enc.w ε, encL Enc.e l, true, false⟩)]) (postX (fn.results.toList.map (rixOf tab)) (rmPost (f l a)))) : SoundC P N (rmT pre f) := by
  refine ⟨?_, ?_⟩
  · intro nid as us w S β μ p v up hi hr hp hc hpp
    unfold rmT at hc
    split at hc
    · rename_i id z n rest
      split at hc
      · rename_i sz els hob
        split at hc
        · rename_i l a up' hdl hda hu
          simp only [Option.some.injEq, Prod.mk.injEq] at hc
          obtain ⟨rfl, rfl, rfl⟩ := hc
          obtain ⟨⟨rfl, hle, hne⟩, hpp⟩ := hpp
          simp only [reps] at hr
          obtain ⟨u0, us, rfl, hrow, hr⟩ := hr
          simp only [rep] at hrow
          obtain ⟨bl, ad, hbl, rfl, hcap, hzz, had⟩ := hrow
          obtain ⟨S1, h1, h2, h3⟩ := args_sound hi hr hda hu
          have hob1 : Upd.app up' μ id = some ⟨sz, els, true, false⟩ := by simp only [Upd.app, fzUpd_not _ _ hne hu, hob]
          obtain ⟨k1, k2, k3, k4⟩ := h1.obs id _ bl hob1 rfl hbl
          simp only at k1 k2
          have hwl := decL_wk _ _ hdl
          have hll : l.length = n := by
            have := wkL_len _ _ hwl
            rw [encL_length, List.length_take] at this
            omega
          have hmax : l.length ≤ maxLen := by omega
          have hwz : Enc.w ε = bl.sz := hzz
          have hrow1 : bl.cap ≠ 0 → RowAt w S1 β0 bl (encL Enc.e l) := by
            intro hc0
            obtain ⟨cc, ty, c1, c2, c3⟩ := k4 hc0
            exact ⟨cc, ty, c1, c2, wkEls_rep β0 _ _ _ _ _ hwl (repEls_take _ _ _ c3)⟩
          have hnS : bl.cap ≠ 0 → ¬ S1 bl.b := fun hc => h1.notS id _ bl hob1 rfl hbl hc
          obtain ⟨bl1, e1, e2, e3, e4⟩ : ∃ bl1 : Blk, bl1.sz = bl.sz ∧ bl1.cap = bl.cap ∧ (bl.cap ≠ 0 → bl1 = bl) ∧ (bl.cap = 0 → bl1.b = w.heap.size) := by
            by_cases hc : bl.cap = 0
            · exact ⟨⟨w.heap.size, 0, 0, bl.sz⟩, rfl, hc.symm, fun h => absurd hc h, fun _ => rfl⟩
            · exact ⟨bl, rfl, rfl, fun _ => rfl, fun h => absurd h hc⟩
          let β1 : Nat → Option Blk := upd β0 1 (some bl1)
          have hβ1 : β1 1 = some bl1 := upd_same _ _ _
          have hi1 : Inv w S1 β1 (lookL [(1, ⟨Enc.w ε, encL Enc.e l, true, false⟩)]) := by
            have h0 := inv_none (w := w) h1.slt
            have := h0.put 1 bl1 ⟨Enc.w ε, encL Enc.e l, true, false⟩ (w' := w) (S' := S1) (fun b hb => ⟨hb, rfl⟩) (fun b h => by simp [β0] at h) (fun i o b _ hm => by simp [lookL] at hm) h1.slt
              (fun _ => ⟨⟨by rw [e1]; exact hwz, by rw [encL_length, e2]; omega, by rw [e2]; exact k3, fun hc => by rw [e2] at hc; rw [e3 hc]; exact hrow1 hc⟩, fun hc => ⟨by rw [e2] at hc; rw [e3 hc]; exact hnS hc, fun i o b _ hm => by simp [lookL] at hm⟩⟩) (fun h => by cases h)
            have e : Upd.app [(1, (⟨Enc.w ε, encL Enc.e l, true, false⟩ : Ob))] (lookL []) = lookL [(1, ⟨Enc.w ε, encL Enc.e l, true, false⟩)] := by
              funext k; simp only [Upd.app, lookL]; split <;> rename_i h <;> simp_all
            rw [e] at this
            exact this
          have hr1 : reps w S1 β1 (.row 1 (Enc.w ε) 0 l.length :: EncA.es a) (.slice ad n (bl.cap - 0) :: us) := by
            simp only [reps]
            refine ⟨_, _, rfl, by simp only [rep]; exact ⟨bl1, ad, hβ1, by rw [hll, e2], by omega, by rw [e1]; exact hwz, fun h => by rw [e2] at h; rw [e3 (by omega)]; exact had h⟩, ?_⟩
            exact reps_mono (w := w) (S := S1) (fun b hb => ⟨hb, rfl⟩) (fun _ _ _ h => by simp [β0] at h) h3
          refine (body_sound htab hΓ hf keep [(1, ⟨Enc.w ε, encL Enc.e l, true, false⟩)] (pin := β1) hi1 (fun i b hb => ?_) hr1 (fun y hy => ?_) (by simpa using hn a) (h l a hpp hmax (rep_bnd_all.2.2.2.2 _ _ _ h3))).mono ?_
          · by_cases e : i = 1
            · subst e; exact ⟨rfl, hb⟩
            · simp only [β1, upd_ne _ _ e, β0] at hb; cases hb
          · cases hy with
            | head => exact plain_row _ _ _ _
            | tail _ hy => exact EncA.pl a y hy
          · rintro u w' ⟨s, S', β', v, hv, g1, g2, g3, g4, g5⟩
            have hO : ∀ b, Own β1 b ↔ b = bl1.b := by
              intro b
              constructor
              · rintro ⟨i, b', h, rfl⟩
                by_cases e : i = 1
                · subst e; rw [hβ1] at h; injection h with h; rw [h]
                · simp only [β1, upd_ne _ _ e, β0] at h; cases h
              · rintro rfl; exact ⟨1, bl1, hβ1, rfl⟩
            have hb1 : β' 1 = some bl1 := g5 1 bl1 hβ1
            obtain ⟨hv1, hv2⟩ := hv
            split at hv2
            · rename_i ob' hob'
              obtain ⟨⟨q2, q3⟩, hv2⟩ := hv2
              obtain ⟨m1, m2, m3, m4⟩ := g1.obs 1 ob' bl1 hob' q3 hb1
              have hfl := hlen l a hpp hmax (rep_bnd_all.2.2.2.2 _ _ _ h3)
              have hoe : ob'.els.length = n := by have := wkL_len _ _ hv2; rw [encL_length] at this; omega
              have hblk : ∀ b, b < w.heap.size → (bl.cap ≠ 0 → b ≠ bl.b) → w'.heap[b]? = w.heap[b]? := fun b hb hne => g3.keep b hb (fun h => by
                have := (hO b).1 h
                by_cases hc : bl.cap = 0
                · rw [e4 hc] at this; omega
                · rw [e3 hc] at this; exact hne hc this)
              let T : Nat → Prop := fun b => SO S' β' (lookL s.mem) b ∧ (bl.cap ≠ 0 → b ≠ bl.b)
              have hTS : ∀ b, SO S' β' (lookL s.mem) b → (bl.cap ≠ 0 → b ≠ bl.b) → SB S1 w.heap.size T b := by
                intro b hb hne
                have hb0 := hb
                have own : Own β1 b → SB S1 w.heap.size T b := fun h => by
                  have := (hO b).1 h
                  by_cases hc : bl.cap = 0
                  · rw [e4 hc] at this; exact .inr ⟨⟨hb0, hne⟩, by omega⟩
                  · rw [e3 hc] at this; exact absurd this (hne hc)
                rcases hb with hb | ⟨i, o, b', p1, p2, p3, p4, rfl⟩
                · rcases g3.fresh b hb with h | h | h
                  · exact .inl h
                  · exact own h
                  · exact .inr ⟨⟨hb0, hne⟩, h⟩
                · rcases g4 i b' p3 with h | h
                  · exact own h
                  · exact .inr ⟨⟨hb0, hne⟩, h⟩
              have hSB : ∀ b, S1 b → SB S1 w.heap.size T b ∧ w'.heap[b]? = w.heap[b]? := fun b hb => ⟨.inl hb, hblk b (h1.slt b hb) (fun hc e => hnS hc (e ▸ hb))⟩
              have hS'T : ∀ b, S' b → SB S1 w.heap.size T b := fun b hb => hTS b (.inl hb) (fun hc e => g1.notS 1 ob' bl1 hob' q3 hb1 (by rw [e2]; exact hc) (by rw [e3 hc]; exact e ▸ hb))
              have hA := h1.put id bl ⟨sz, encL Enc.e (f l a).2, true, false⟩ (w' := w') (S' := SB S1 w.heap.size T) hSB (fun b h => by rw [hbl] at h; injection h with h; exact h.symm)
                (fun i o b hne hm hd hb hc => ⟨hblk _ (h1.blt hm hd hb hc) (fun hc0 e => hne (h1.inj i id o _ b bl hm hd hob1 rfl hb hbl hc hc0 e)), fun h => h.elim (h1.notS i o b hm hd hb hc) (fun h => by have := h1.blt hm hd hb hc; omega)⟩)
                (fun b hb => hb.elim (fun h => Nat.lt_of_lt_of_le (h1.slt b h) g3.size) (fun h => SO_lt g1 b h.1.1))
                (fun _ => ⟨⟨k1, by rw [encL_length]; omega, k3, fun hc => by
                  have m5 := m4 (by rw [e2]; exact hc)
                  rw [q2, e3 hc] at m5
                  exact (RowAt.mono (fun b hb => ⟨hS'T b hb, rfl⟩) rfl (fun _ _ _ h => h) m5).elim (fun c ⟨ty, n1, n2, n3⟩ => ⟨c, ty, n1, n2, wkEls_rep β0 _ _ _ _ _ hv2 n3⟩)⟩,
                  fun hc0 => ⟨fun h => h.elim (hnS hc0) (fun h => h.1.2 hc0 rfl), fun i o b hne hm hd hb hc e => hne (h1.inj i id o _ b bl hm hd hob1 rfl hb hbl hc hc0 e)⟩⟩) (fun h => by cases h)
              rw [upd_id hbl] at hA
              have hfr : rep w' (SB S1 w.heap.size T) β0 (EncR.r (f l a).1) u := by
                refine wk_rep β0 _ _ u hv1 (frz_repH g1 hS'T (fun i o h => by unfold hid1 at h; split at h; cases h; exact h) v u (fun i o b hid hm hrd hb hc => ?_) g2)
                unfold hid1 at hm
                split at hm
                · cases hm
                · rename_i hi1
                  refine hTS _ (.inr ⟨i, o, b, hm, hrd, hb, hc, rfl⟩) (fun hc0 e => ?_)
                  have hc1 : bl1.cap ≠ 0 := by rw [e2]; exact hc0
                  have e' : b.b = bl1.b := by rw [e3 hc0]; exact e
                  cases hd : o.dd with
                  | false => exact hi1 (g1.inj i 1 o ob' b bl1 hm hd hob' q3 hb hb1 hc hc1 e')
                  | true =>
                    have hcl' : o.cl = false := by cases h : o.cl <;> simp_all [rdable]
                    have := ((g1.fzs i o b hm hd hcl' hb).2.2.2 hc).1
                    exact g1.notS 1 ob' bl1 hob' q3 hb1 hc1 (e' ▸ this)
              refine ⟨_, β, by rw [app_cons]; exact hA, rep_mono (w := w') (S := SB S1 w.heap.size T) (fun b hb => ⟨hb, rfl⟩) (fun _ _ bl h => by simp [β0] at h) hfr, EncR.pl _, h2.trans ?_ (fun b hb h => (h : Own β b)), fun _ _ h => h, fun i b h => .inl ⟨i, b, h, rfl⟩⟩
              exact ⟨g3.os, g3.tape, g3.output, g3.size, hSB, fun b hb hn => hblk b hb (fun _ e => hn ⟨id, bl, hbl, e.symm⟩), fun b hb => hb.imp (fun h => h) (fun h => .inr h.2)⟩
            · exact hv2.elim
        · cases hc
      · cases hc
    · cases hc
  · intro nid as μ μ' h
    unfold rmT
    cases as with
    | nil => rfl
    | cons x rest =>
      cases x with
      | row id z lo n =>
        have hid : μ id = μ' id := h id (by simp [foot, namesL, AV.names])
        have hr : ∀ k ∈ namesL rest, μ k = μ' k := fun k hk => h k (by simp [foot, namesL, AV.names, hk])
        cases lo <;> simp only [hid, frzL_congr rest hr, fzUpd_congr _ hr]
      | _ => rfl
end
end Go.Ax
