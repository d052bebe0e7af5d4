import Derived.Test.YtgecjhclhdgpgaaXO3
set_option linter.unusedVariables false
set_option linter.unusedSimpArgs false
namespace Go.Ax
open Go
section
variable {P : Program} {Γ : Cts} {tab : TT}
/-- A call that hands back a row of its own. -/
theorem row_fin {w : World} {S S1 : Nat → Prop} {β : Nat → Option Blk} {μ : Look} {up' : Upd} {nid : Nat} {ε : Type} [Enc ε] {l : List ε} (hi : Inv w S β μ) (h1 : Inv w S1 β (Upd.app up' μ)) (h2 : Ext w S (Own β) w S1) (hfree : μ nid = none)
    {u : Value} {w' : World} {s : AS} {S' : Nat → Prop} {β' : Nat → Option Blk} {v : AV} (hv : rowPost l v s) (g1 : Inv w' S' β' (lookL s.mem)) (g2 : rep w' S' β' v u) (g3 : Ext w S1 (fun _ => False) w' S') (g4 : ∀ id bl, β' id = some bl → w.heap.size ≤ bl.b) :
    ∃ S' β', Done w S β μ (.row nid (Enc.w ε) 0 l.length) ((nid, ⟨Enc.w ε, encL Enc.e l, true, false⟩) :: up') u w' S' β' := by
  have hfree1 : Upd.app up' μ nid = none := by
    have hb := (hi.live nid).1 hfree
    exact (h1.live nid).2 hb
  unfold rowPost at hv
  split at hv
  · rename_i j z lo n
    split at hv
    · rename_i ob hob
      obtain ⟨⟨rfl, rfl, rfl⟩, ⟨hcl, hdd, hle⟩, hw⟩ := hv
      simp only [rep] at g2
      obtain ⟨bl, ad, hbl, rfl, hcap, hsz, had⟩ := g2
      obtain ⟨k1, k2, k3, k4⟩ := g1.obs j ob bl hob hdd hbl
      have hblk : ∀ b, b < w.heap.size → w'.heap[b]? = w.heap[b]? := fun b hb => g3.keep b hb (fun h => h)
      have hnew := g4 j bl hbl
      have hS' : ∀ b, S' b → SB S1 w.heap.size (fun b => S' b ∧ (bl.cap ≠ 0 → b ≠ bl.b)) b ∧ w'.heap[b]? = w'.heap[b]? := by
        intro b hb
        refine ⟨?_, rfl⟩
        rcases g3.fresh b hb with h | h | h
        · exact .inl h
        · exact h.elim
        · exact .inr ⟨⟨hb, fun hc e => g1.notS j ob bl hob hdd hbl hc (e ▸ hb)⟩, h⟩
      have hI := h1.beside (T := fun b => S' b ∧ (bl.cap ≠ 0 → b ≠ bl.b)) g3.size hblk (fun b hb => g1.slt b hb.1)
      have hat : ObAt w' (SB S1 w.heap.size (fun b => S' b ∧ (bl.cap ≠ 0 → b ≠ bl.b))) (upd β nid (some bl)) bl ⟨Enc.w ε, encL Enc.e l, true, false⟩ := by
        refine ⟨hsz, by rw [encL_length]; omega, k3, fun hc => ?_⟩
        obtain ⟨c, ty, c1, c2, c3⟩ := k4 hc
        rw [hcl] at c3
        refine ⟨c, ty, c1, c2, ?_⟩
        exact (rep_mono_all hS').2.2.2.1 β0 _ _ _ _ rfl β0 (fun _ _ _ h => h) (wkEls_rep β0 _ _ _ _ _ hw (repEls_take _ _ _ c3))
      have hA := hI.adopt hfree1 (w' := w') (bl := bl) (ob := ⟨Enc.w ε, encL Enc.e l, true, false⟩) rfl (Nat.le_refl _) (fun _ _ _ => rfl)
        (fun hc h => h.elim (fun h => by have := h1.slt _ h; omega) (fun h => h.1.2 hc rfl)) (fun id o b hm hd hb hc _ e => by have := h1.blt hm hd hb hc; omega) hat
      have hfb : β nid = none := (hi.live nid).1 hfree
      refine ⟨_, upd β nid (some bl), by rw [app_cons]; exact hA, ?_, plain_row _ _ _ _, h2.trans (ext_beside g3) (fun _ _ h => h), ?_, ?_⟩
      · simp only [rep]
        exact ⟨bl, ad, upd_same _ _ _, rfl, hcap, hsz, had⟩
      · intro i b h; rw [upd_ne _ _ (fun e => by rw [e, hfb] at h; cases h)]; exact h
      · intro i b h
        by_cases e : i = nid
        · subst e; rw [upd_same] at h; injection h with h; subst h; exact .inr hnew
        · rw [upd_ne _ _ e] at h; exact .inl ⟨i, b, h, rfl⟩
    · exact hv.elim
  · exact hv.elim
/-- A call that hands back nil, taken for a row without room. -/
theorem nil_fin {w : World} {S S1 : Nat → Prop} {β : Nat → Option Blk} {μ : Look} {up' : Upd} {nid : Nat} {ε : Type} [Enc ε] (hi : Inv w S β μ) (h1 : Inv w S1 β (Upd.app up' μ)) (h2 : Ext w S (Own β) w S1) (hfree : μ nid = none)
    {u : Value} {w' : World} {S' : Nat → Prop} {β' : Nat → Option Blk} (g2 : rep w' S' β' (.lit (.slice none 0 0)) u) (g3 : Ext w S1 (fun _ => False) w' S') :
    ∃ S' β', Done w S β μ (.row nid (Enc.w ε) 0 0) ((nid, ⟨Enc.w ε, [], true, false⟩) :: up') u w' S' β' := by
  have hfb := (hi.live nid).1 hfree
  have hfree1 : Upd.app up' μ nid = none := (h1.live nid).2 hfb
  obtain rfl := rep_lit' g2
  have hblk : ∀ b, b < w.heap.size → w'.heap[b]? = w.heap[b]? := fun b hb => g3.keep b hb (fun h => h)
  have hI := h1.beside (T := fun _ => False) g3.size hblk (fun b hb => hb.elim)
  let bl : Blk := ⟨w'.heap.size, 0, 0, Enc.w ε⟩
  have hA := hI.adopt hfree1 (w' := w') (bl := bl) (ob := ⟨Enc.w ε, [], true, false⟩) rfl (Nat.le_refl _) (fun _ _ _ => rfl) (fun h => absurd rfl h) (fun _ _ _ _ _ _ _ h => absurd rfl h) ⟨rfl, by simp, by simp [bl], fun h => absurd rfl h⟩
  refine ⟨_, upd β nid (some bl), by rw [app_cons]; exact hA, ?_, plain_row _ _ _ _, h2.trans (ext_beside g3) (fun _ _ h => h), ?_, ?_⟩
  · simp only [rep]; exact ⟨bl, none, upd_same _ _ _, rfl, by simp [bl], rfl, fun h => by simp [bl] at h⟩
  · intro i b h; rw [upd_ne _ _ (fun e => by rw [e, hfb] at h; cases h)]; exact h
  · intro i b h
    by_cases e : i = nid
    · subst e; rw [upd_same] at h; injection h with h; subst h; exact .inr g3.size
    · rw [upd_ne _ _ e] at h; exact .inl ⟨i, b, h, rfl⟩

/-- A function that asks whether its slice is nil, and hands back a row. -/
theorem sound_row3 (htab : TabOk P tab) (hΓ : GOk P Γ) {N : FuncId} {fn : Func} {code : Code} (hf : FnAt P tab N fn code) (keep : List Nat) {ε ε' : Type} [Enc ε] [Enc ε'] (pre : List ε → Prop) (f : List ε → List ε') (hn : 1 ≤ fn.ntmps) (hnil : f [] = [])
    (r1 : ∀ l : List ε, pre l → 0 < l.length → bndL (EncA.es l) → run Γ [.code (comp tab code)] (initS [.sl (Enc.w ε) (encL Enc.e l)] keep []) (postX (fn.results.toList.map (rixOf tab)) (rowPost (f l))))
    (r2 : ∀ cap : Nat, run Γ [.code (comp tab code)] (initS [.lit (.slice none 0 cap)] keep []) (postX (fn.results.toList.map (rixOf tab)) fun v _ => v = .lit (.slice none 0 0)))
    (r3 : ∀ (a : Addr) (cap : Nat), run Γ [.code (comp tab code)] (initS [.lit (.slice (some a) 0 cap)] keep []) (postX (fn.results.toList.map (rixOf tab)) (rowPost ([] : List ε')))) : SoundC P N (rowT pre f) := by
  refine ⟨?_, fun nid as μ μ' h => by simp only [rowT]; rw [frzL_congr as (fun id hid => h id (by simp [foot, hid])), fzUpd_congr _ (fun id hid => h id (by simp [foot, hid])), h nid (by simp [foot])]⟩
  intro nid as us w S β μ p v up hi hr hp hc hpp
  simp only [rowT] at hc
  split at hc
  · rename_i l ha
    split at hc
    · rename_i up' hu
      simp only [Option.some.injEq, Prod.mk.injEq] at hc
      obtain ⟨rfl, rfl, rfl⟩ := hc
      obtain ⟨hpp, hfree⟩ := hpp
      obtain ⟨S1, h1, h2, h3⟩ := args_sound hi hr ha hu
      by_cases hl : 0 < l.length
      · refine (body_plain htab hΓ hf keep h1.slt h3 (EncA.pl l) hn (r1 l hpp hl (rep_bnd_all.2.2.2.2 _ _ _ h3))).mono ?_
        rintro u w' ⟨s, S', β', v, hv, g1, g2, g3, g4⟩
        exact row_fin hi h1 h2 hfree hv g1 g2 g3 g4
      · have hl0 : l = [] := List.length_eq_zero_iff.1 (by omega)
        subst hl0
        rw [hnil]
        have h3' : reps w S1 β0 [Enc.e ([] : List ε)] us := h3
        simp only [reps] at h3'
        obtain ⟨u, us', rfl, h4, rfl⟩ := h3'
        have h4' : rep w S1 β0 (.sl (Enc.w ε) []) u := h4
        simp only [rep] at h4'
        obtain ⟨a, cap, rfl, hcap, _⟩ := h4'
        have hlit : ∀ v : Value, v.oneCell' = true → reps w S1 β0 [.lit v] [v] := fun v hv => by simp only [reps]; exact ⟨v, [], rfl, by simp only [rep]; exact ⟨trivial, hv⟩, rfl⟩
        cases a with
        | none =>
          refine (body_plain htab hΓ hf keep h1.slt (hlit _ rfl) (fun x hx => by simp only [List.mem_singleton] at hx; subst hx; intro v e; cases e; rfl) hn (r2 cap)).mono ?_
          rintro u w' ⟨s, S', β', v, rfl, g1, g2, g3, g4⟩
          exact nil_fin hi h1 h2 hfree g2 g3
        | some ad =>
          refine (body_plain htab hΓ hf keep h1.slt (hlit _ rfl) (fun x hx => by simp only [List.mem_singleton] at hx; subst hx; intro v e; cases e; rfl) hn (r3 ad cap)).mono ?_
          rintro u w' ⟨s, S', β', v, hv, g1, g2, g3, g4⟩
          exact row_fin hi h1 h2 hfree hv g1 g2 g3 g4
    · cases hc
  · cases hc
end
end Go.Ax
