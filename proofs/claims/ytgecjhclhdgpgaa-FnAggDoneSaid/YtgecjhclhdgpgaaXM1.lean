import Derived.Test.YtgecjhclhdgpgaaXO6
set_option linter.unusedVariables false
set_option linter.unusedSimpArgs false
namespace Go.Ax
open Go

section
variable {Γ : Cts}

theorem io_mono {o : IOp} {s : AS} {K K' : AS → Prop} (h : io Γ o s K) (hk : ∀ s, K s → K' s) : io Γ o s K' := by
  unfold io at h ⊢
  split at h
  · exact ⟨h.1, hk _ h.2⟩
  · exact h.elim
theorem io_det {o : IOp} {s : AS} {K : AS → Prop} (h : io Γ o s K) : ∃ s', K s' ∧ io Γ o s (· = s') := by
  unfold io at h ⊢
  split at h
  · exact ⟨_, h.2, h.1, rfl⟩
  · exact h.elim
theorem ig_mono {o : IOp} {s : AS} {K K' : AS → Prop} (h : ig Γ o s K) (hk : ∀ s, K s → K' s) : ig Γ o s K' := by
  unfold ig at h ⊢
  split at h
  · exact io_mono h hk
  · rename_i t want hg
    split at h
    · rename_i b hb
      cases want <;> cases b <;> simp only [onB_true, onB_false] at h ⊢ <;> first | exact hk _ h | exact io_mono h hk
    · exact hk _ h
    · exact h.elim
theorem ig_det {o : IOp} {s : AS} {K : AS → Prop} (h : ig Γ o s K) : ∃ s', K s' ∧ ig Γ o s (· = s') := by
  unfold ig at h ⊢
  split at h
  · exact io_det h
  · rename_i t want hg
    split at h
    · rename_i b hb
      cases want <;> cases b <;> simp only [onB_true, onB_false] at h ⊢ <;> first | exact ⟨_, h, rfl⟩ | exact io_det h
    · exact ⟨_, h, rfl⟩
    · exact h.elim
theorem iOps_mono : ∀ (l : List IOp) (s : AS) (K K' : AS → Prop), iOps Γ l s K → (∀ s, K s → K' s) → iOps Γ l s K'
  | [], s, K, K', h, hk => hk s h
  | o :: r, s, K, K', h, hk => ig_mono (K := fun s => iOps Γ r s K) h (fun s' h' => iOps_mono r s' K K' h' hk)
theorem iOps_det : ∀ (l : List IOp) (s : AS) (K : AS → Prop), iOps Γ l s K → ∃ s', K s' ∧ iOps Γ l s (· = s')
  | [], s, K, h => ⟨s, h, rfl⟩
  | o :: r, s, K, h => by
    obtain ⟨s1, h1, h2⟩ := ig_det (K := fun s => iOps Γ r s K) h
    obtain ⟨s2, h3, h4⟩ := iOps_det r s1 K h1
    exact ⟨s2, h3, ig_mono h2 (fun t ht => by subst ht; exact h4)⟩
theorem iOpsD_mono : ∀ (l : List IOp) (lg : Lg) (s : AS) (K K' : AS → Prop), iOpsD Γ l lg s K → (∀ s, K s → K' s) → iOpsD Γ l lg s K'
  | [], lg, s, K, K', h, hk => hk s h
  | o :: r, lg, s, K, K', h, hk => by
    simp only [iOpsD] at h ⊢
    split at h
    · exact ig_mono h (fun s' h' => iOpsD_mono r _ s' K K' h' hk)
    · exact ⟨h.1, ig_mono h.2 (fun s' h' => iOpsD_mono r _ s' K K' h' hk)⟩
theorem iOpsD_det : ∀ (l : List IOp) (lg : Lg) (s : AS) (K : AS → Prop), iOpsD Γ l lg s K → ∃ s', K s' ∧ iOpsD Γ l lg s (· = s')
  | [], lg, s, K, h => ⟨s, h, rfl⟩
  | o :: r, lg, s, K, h => by
    simp only [iOpsD] at h ⊢
    split at h
    · obtain ⟨s1, h1, h2⟩ := ig_det h
      obtain ⟨s2, h3, h4⟩ := iOpsD_det r _ s1 K h1
      exact ⟨s2, h3, ig_mono h2 (fun t ht => by subst ht; exact h4)⟩
    · obtain ⟨s1, h1, h2⟩ := ig_det h.2
      obtain ⟨s2, h3, h4⟩ := iOpsD_det r _ s1 K h1
      exact ⟨s2, h3, h.1, ig_mono h2 (fun t ht => by subst ht; exact h4)⟩

theorem iCode_mono : ∀ (c : IC) (s : AS) (Q Q' : Ex → AS → Prop), iCode Γ c s Q → (∀ e s, Q e s → Q' e s) → iCode Γ c s Q'
  | .skip, s, Q, Q', h, hq => hq _ _ h
  | .reg false fg ops, s, Q, Q', h, hq => iOps_mono _ _ _ _ h (fun s => hq .normal s)
  | .reg true fg ops, s, Q, Q', h, hq => iOpsD_mono _ _ _ _ _ h (fun s => hq .normal s)
  | .seq a b, s, Q, Q', h, hq => iCode_mono a s _ _ h (fun e s h => by
    cases e with
    | normal => exact iCode_mono b s _ _ h hq
    | exit id => exact hq _ _ h
    | ret => exact hq _ _ h)
  | .cond c x y, s, Q, Q', h, hq => by
    simp only [iCode] at h ⊢
    split at h
    · exact ⟨fun hb => iCode_mono x s _ _ (h.1 hb) hq, fun hb => iCode_mono y s _ _ (h.2 hb) hq⟩
    · exact h.elim
  | .block id c, s, Q, Q', h, hq => iCode_mono c s _ _ h (fun e s h => by
    cases e with
    | normal => exact hq _ _ h
    | exit n => simp only [xBlock] at h ⊢; split <;> rename_i hn <;> simp only [hn, if_true, if_false] at h <;> exact hq _ _ h
    | ret => exact hq _ _ h)
  | .exit id, s, Q, Q', h, hq => hq _ _ h
  | .ret, s, Q, Q', h, hq => hq _ _ h
  | .bad, s, Q, Q', h, hq => h.elim
  | .loop c, s, Q, Q', h, hq => by
    obtain ⟨I, n, s0, h1, h2, h3⟩ := h
    refine ⟨I, n, s0, h1, h2, fun n s hI => iCode_mono c s _ _ (h3 n s hI) (fun e s h => ?_)⟩
    cases e with
    | normal => exact h
    | exit id => exact hq _ _ h
    | ret => exact hq _ _ h

theorem iCode_det : ∀ (c : IC) (s : AS) (Q : Ex → AS → Prop), iCode Γ c s Q → ∃ e s', Q e s' ∧ iCode Γ c s (fun e' t => e' = e ∧ t = s')
  | .skip, s, Q, h => ⟨_, _, h, rfl, rfl⟩
  | .reg false fg ops, s, Q, h => by
    obtain ⟨s', h1, h2⟩ := iOps_det _ _ _ h
    exact ⟨.normal, s', h1, iOps_mono _ _ _ _ h2 (fun t ht => ⟨rfl, ht⟩)⟩
  | .reg true fg ops, s, Q, h => by
    obtain ⟨s', h1, h2⟩ := iOpsD_det _ _ _ _ h
    exact ⟨.normal, s', h1, iOpsD_mono _ _ _ _ _ h2 (fun t ht => ⟨rfl, ht⟩)⟩
  | .seq a b, s, Q, h => by
    obtain ⟨e, s1, h1, h2⟩ := iCode_det a s _ h
    cases e with
    | normal =>
      obtain ⟨e2, s2, h3, h4⟩ := iCode_det b s1 Q h1
      exact ⟨e2, s2, h3, iCode_mono a s _ _ h2 (fun e t ⟨he, ht⟩ => by subst he; subst ht; exact h4)⟩
    | exit id => exact ⟨_, s1, h1, iCode_mono a s _ _ h2 (fun e t ⟨he, ht⟩ => by subst he; subst ht; exact ⟨rfl, rfl⟩)⟩
    | ret => exact ⟨_, s1, h1, iCode_mono a s _ _ h2 (fun e t ⟨he, ht⟩ => by subst he; subst ht; exact ⟨rfl, rfl⟩)⟩
  | .cond c x y, s, Q, h => by
    simp only [iCode] at h ⊢
    split at h
    · rename_i b hb
      cases b with
      | true =>
        obtain ⟨e, s', h1, h2⟩ := iCode_det x s Q (h.1 rfl)
        exact ⟨e, s', h1, by rw [onB_true]; exact h2⟩
      | false =>
        obtain ⟨e, s', h1, h2⟩ := iCode_det y s Q (h.2 rfl)
        exact ⟨e, s', h1, by rw [onB_false]; exact h2⟩
    · exact h.elim
  | .block id c, s, Q, h => by
    obtain ⟨e, s1, h1, h2⟩ := iCode_det c s _ h
    cases e with
    | normal => exact ⟨_, s1, h1, iCode_mono c s _ _ h2 (fun e t ⟨he, ht⟩ => by subst he; subst ht; exact ⟨rfl, rfl⟩)⟩
    | exit n =>
      simp only [xBlock] at h1
      by_cases hn : n = id
      · rw [if_pos hn] at h1
        exact ⟨_, s1, h1, iCode_mono c s _ _ h2 (fun e t ⟨he, ht⟩ => by subst he; subst ht; show (if n = id then _ else _); rw [if_pos hn]; exact ⟨rfl, rfl⟩)⟩
      · rw [if_neg hn] at h1
        exact ⟨_, s1, h1, iCode_mono c s _ _ h2 (fun e t ⟨he, ht⟩ => by subst he; subst ht; show (if n = id then _ else _); rw [if_neg hn]; exact ⟨rfl, rfl⟩)⟩
    | ret => exact ⟨_, s1, h1, iCode_mono c s _ _ h2 (fun e t ⟨he, ht⟩ => by subst he; subst ht; exact ⟨rfl, rfl⟩)⟩
  | .exit id, s, Q, h => ⟨_, _, h, rfl, rfl⟩
  | .ret, s, Q, h => ⟨_, _, h, rfl, rfl⟩
  | .bad, s, Q, h => h.elim
  | .loop c, s, Q, h => by
    obtain ⟨I, n, s0, h1, h2, h3⟩ := h
    have key : ∀ (n : Nat) (s : AS), I n s → ∃ e s', Q e s' ∧ ∃ (J : Nat → AS → Prop) (m : Nat), J m s ∧ ∀ m t, J m t → iCode Γ c t (xThen (fun s' => ∃ n' s'', n' < m ∧ Le s'.clr s'' ∧ J n' s'') (fun e' t => e' = e ∧ t = s')) := by
      intro n
      induction n using Nat.strongRecOn with
      | ind n ih =>
        intro s hI
        obtain ⟨e, s1, h4, h5⟩ := iCode_det c s _ (h3 n s hI)
        cases e with
        | normal =>
          obtain ⟨n', s2, hlt, hle, hI'⟩ := h4
          obtain ⟨e, s', h6, J, m, h7, h8⟩ := ih n' hlt s2 hI'
          refine ⟨e, s', h6, fun k t => J k t ∨ (k = m + 1 ∧ t = s), m + 1, .inr ⟨rfl, rfl⟩, ?_⟩
          rintro k t (hJ | ⟨rfl, rfl⟩)
          · refine iCode_mono c t _ _ (h8 k t hJ) (fun e t h => ?_)
            cases e with
            | normal => obtain ⟨n', s'', g1, g2, g3⟩ := h; exact ⟨n', s'', g1, g2, .inl g3⟩
            | exit id => exact h
            | ret => exact h
          · refine iCode_mono c _ _ _ h5 (fun e t ⟨he, ht⟩ => ?_)
            subst he; subst ht
            exact ⟨m, s2, by omega, hle, .inl h7⟩
        | exit id =>
          refine ⟨_, s1, h4, fun k t => t = s, 0, rfl, ?_⟩
          rintro k t rfl
          exact iCode_mono c _ _ _ h5 (fun e t ⟨he, ht⟩ => by subst he; subst ht; exact ⟨rfl, rfl⟩)
        | ret =>
          refine ⟨_, s1, h4, fun k t => t = s, 0, rfl, ?_⟩
          rintro k t rfl
          exact iCode_mono c _ _ _ h5 (fun e t ⟨he, ht⟩ => by subst he; subst ht; exact ⟨rfl, rfl⟩)
    obtain ⟨e, s', h6, J, m, h7, h8⟩ := key n s0 h2
    exact ⟨e, s', h6, J, m, s0, h1, h7, h8⟩

/-- What a run gives it gives once. -/
theorem run_det {c : IC} {s : AS} {rs : List RIx} {ρ : Type} {Φ : ρ → AV → AS → Prop} (h : run Γ [.code c] s (postX rs fun v s' => ∃ r, Φ r v s')) : ∃ r, run Γ [.code c] s (postX rs (Φ r)) := by
  have h' : iCode Γ c s (postX rs fun v s' => ∃ r, Φ r v s') := run_code c h
  obtain ⟨e, s', h1, h2⟩ := iCode_det c s _ h'
  cases e with
  | normal =>
    simp only [postX, resK] at h1
    split at h1
    · rename_i p vs hr
      obtain ⟨hp, r, hΦ⟩ := h1
      refine ⟨r, ?_⟩
      show iCode Γ c s _
      refine iCode_mono c s _ _ h2 (fun e t ⟨he, ht⟩ => ?_)
      subst he; subst ht
      simp only [kq, postX, resK, hr]
      exact ⟨hp, hΦ⟩
    · exact h1.elim
  | exit id => exact h1.elim
  | ret =>
    simp only [postX, resK] at h1
    split at h1
    · rename_i p vs hr
      obtain ⟨hp, r, hΦ⟩ := h1
      refine ⟨r, ?_⟩
      show iCode Γ c s _
      refine iCode_mono c s _ _ h2 (fun e t ⟨he, ht⟩ => ?_)
      subst he; subst ht
      simp only [kq, postX, resK, hr]
      exact ⟨hp, hΦ⟩
    · exact h1.elim
end

section
variable {Γ : Cts}
theorem run_code' {c : IC} {s : AS} {rs : List RIx} {K K' : AV → AS → Prop} (h : run Γ [.code c] s (postX rs K)) (hk : ∀ v s, K v s → K' v s) : run Γ [.code c] s (postX rs K') := by
  have h' : iCode Γ c s (postX rs K) := run_code c h
  show iCode Γ c s _
  refine iCode_mono c s _ _ h' (fun e t he => ?_)
  cases e with
  | exit id => exact he.elim
  | _ =>
    simp only [kq, postX, resK] at he ⊢
    split at he
    · exact ⟨he.1, hk _ _ he.2⟩
    · exact he.elim
theorem run_some {c : IC} {s : AS} {rs : List RIx} {K : AV → AS → Prop} {p : Prop} (h : run Γ [.code c] s (postX rs K)) (hk : ∀ v s, K v s → p) : p := by
  have h' : iCode Γ c s (postX rs K) := run_code c h
  obtain ⟨e, s', h1, _⟩ := iCode_det c s _ h'
  cases e with
  | exit id => exact h1.elim
  | _ =>
    simp only [postX, resK] at h1
    split at h1
    · exact hk _ _ h1.2
    · exact h1.elim
end

section
variable {P : Program} {Γ : Cts} {tab : TT}

theorem exF {α ρ : Type} [Inhabited ρ] {D : α → Prop} {Φ : α → ρ → Prop} (h : ∀ a, D a → ∃ r, Φ a r) : ∃ f : α → ρ, ∀ a, D a → Φ a (f a) := by
  refine ⟨fun a => (open Classical in if hd : D a then Classical.choose (h a hd) else default), fun a hd => ?_⟩
  simp only [hd, dif_pos]
  exact Classical.choose_spec (h a hd)

theorem ex_pure (htab : TabOk P tab) (hΓ : GOk P Γ) {N : FuncId} {fn : Func} {code : Code} (hf : FnAt P tab N fn code) (keep : List Nat) {α ρ : Type} [EncA α] [EncR ρ] [Inhabited ρ] (pre : α → Prop) (Φ : α → ρ → Prop) (hn : ∀ a : α, (EncA.es a).length ≤ fn.ntmps)
    (h : ∀ a : α, pre a → bndL (EncA.es a) → run Γ [.code (comp tab code)] (initS (EncA.es a) keep []) (postX (fn.results.toList.map (rixOf tab)) fun v s => ∃ r, Φ a r ∧ wk (frz (lookL s.mem) v) (EncR.r r))) :
    ∃ f : α → ρ, (∀ a, pre a → bndL (EncA.es a) → Φ a (f a)) ∧ SoundC P N (pureT pre f) := by
  obtain ⟨f, hF⟩ := exF (D := fun a : α => pre a ∧ bndL (EncA.es a)) (fun a hd => run_det (h a hd.1 hd.2))
  refine ⟨f, fun a hp hb => ?_, sound_pure htab hΓ hf keep pre f hn (fun a hp hb => run_code' (hF a ⟨hp, hb⟩) (fun v s h => h.2))⟩
  exact run_some (hF a ⟨hp, hb⟩) (fun v s h => h.1)
theorem ex_flat (htab : TabOk P tab) (hΓ : GOk P Γ) {N : FuncId} {fn : Func} {code : Code} (hf : FnAt P tab N fn code) (keep : List Nat) {α ρ : Type} [EncA α] [EncR ρ] [Inhabited ρ] (pre : α → Prop) (Φ : α → ρ → Prop) (hn : ∀ a : α, (EncA.es a).length ≤ fn.ntmps) (hflat : ∀ r : ρ, (EncR.r r).flat = true)
    (h : ∀ a : α, pre a → bndL (EncA.es a) → run Γ [.code (comp tab code)] (initS (EncA.es a) keep []) (postX (fn.results.toList.map (rixOf tab)) fun v s => ∃ r, Φ a r ∧ wk (frz (lookL s.mem) v) (EncR.r r))) :
    ∃ f : α → ρ, (∀ a, pre a → bndL (EncA.es a) → Φ a (f a)) ∧ SoundC P N (flatT pre f) := by
  obtain ⟨f, hF⟩ := exF (D := fun a : α => pre a ∧ bndL (EncA.es a)) (fun a hd => run_det (h a hd.1 hd.2))
  refine ⟨f, fun a hp hb => ?_, sound_flat htab hΓ hf keep pre f hn (fun a => hflat _) (fun a hp hb => run_code' (hF a ⟨hp, hb⟩) (fun v s h => h.2))⟩
  exact run_some (hF a ⟨hp, hb⟩) (fun v s h => h.1)
theorem ex_row (htab : TabOk P tab) (hΓ : GOk P Γ) {N : FuncId} {fn : Func} {code : Code} (hf : FnAt P tab N fn code) (keep : List Nat) {α ε : Type} [EncA α] [Enc ε] (pre : α → Prop) (Φ : α → List ε → Prop) (hn : ∀ a : α, (EncA.es a).length ≤ fn.ntmps)
    (h : ∀ a : α, pre a → bndL (EncA.es a) → run Γ [.code (comp tab code)] (initS (EncA.es a) keep []) (postX (fn.results.toList.map (rixOf tab)) fun v s => ∃ r, Φ a r ∧ rowPost r v s)) :
    ∃ f : α → List ε, (∀ a, pre a → bndL (EncA.es a) → Φ a (f a)) ∧ SoundC P N (rowT pre f) := by
  obtain ⟨f, hF⟩ := exF (D := fun a : α => pre a ∧ bndL (EncA.es a)) (fun a hd => run_det (h a hd.1 hd.2))
  refine ⟨f, fun a hp hb => ?_, sound_row htab hΓ hf keep pre f hn (fun a hp hb => run_code' (hF a ⟨hp, hb⟩) (fun v s h => h.2))⟩
  exact run_some (hF a ⟨hp, hb⟩) (fun v s h => h.1)
theorem ex_ptr (htab : TabOk P tab) (hΓ : GOk P Γ) {N : FuncId} {fn : Func} {code : Code} (hf : FnAt P tab N fn code) (keep : List Nat) {γ α ρ : Type} [Enc γ] [EncA α] [EncR ρ] [Inhabited ρ] [Inhabited γ] (pre : γ → α → Prop) (Φ : γ → α → ρ × γ → Prop) (hn : ∀ a : α, (EncA.es a).length + 1 ≤ fn.ntmps)
    (h : ∀ (c : γ) (a : α), pre c a → bndL (EncA.es a) → (Enc.e c).bnd → run Γ [.code (comp tab code)] (initS (.ptr 1 0 0 :: EncA.es a) keep [(1, ⟨Enc.w γ, [Enc.e c], false, false⟩)]) (postX (fn.results.toList.map (rixOf tab)) fun v s => ∃ r, Φ c a r ∧ ptrPost r v s)) :
    ∃ f : γ → α → ρ × γ, (∀ c a, pre c a → bndL (EncA.es a) → (Enc.e c).bnd → Φ c a (f c a)) ∧ SoundC P N (ptrT pre f) := by
  obtain ⟨f, hF⟩ := exF (D := fun q : γ × α => pre q.1 q.2 ∧ bndL (EncA.es q.2) ∧ (Enc.e q.1).bnd) (fun q hd => run_det (h q.1 q.2 hd.1 hd.2.1 hd.2.2))
  refine ⟨fun c a => f (c, a), fun c a hp hb hc => ?_, sound_ptr htab hΓ hf keep pre (fun c a => f (c, a)) hn (fun c a hp hb hc => run_code' (hF (c, a) ⟨hp, hb, hc⟩) (fun v s h => h.2))⟩
  exact run_some (hF (c, a) ⟨hp, hb, hc⟩) (fun v s h => h.1)
theorem ex_ptrRow (htab : TabOk P tab) (hΓ : GOk P Γ) {N : FuncId} {fn : Func} {code : Code} (hf : FnAt P tab N fn code) (keep : List Nat) {γ α ε : Type} [Enc γ] [EncA α] [Enc ε] [Inhabited γ] (pre : γ → α → Prop) (Φ : γ → α → List ε × γ → Prop) (hn : ∀ a : α, (EncA.es a).length + 1 ≤ fn.ntmps)
    (h : ∀ (c : γ) (a : α), pre c a → bndL (EncA.es a) → (Enc.e c).bnd → run Γ [.code (comp tab code)] (initS (.ptr 1 0 0 :: EncA.es a) keep [(1, ⟨Enc.w γ, [Enc.e c], false, false⟩)]) (postX (fn.results.toList.map (rixOf tab)) fun v s => ∃ r, Φ c a r ∧ ptrRowPost r v s)) :
    ∃ f : γ → α → List ε × γ, (∀ c a, pre c a → bndL (EncA.es a) → (Enc.e c).bnd → Φ c a (f c a)) ∧ SoundC P N (ptrRowT pre f) := by
  obtain ⟨f, hF⟩ := exF (D := fun q : γ × α => pre q.1 q.2 ∧ bndL (EncA.es q.2) ∧ (Enc.e q.1).bnd) (fun q hd => run_det (h q.1 q.2 hd.1 hd.2.1 hd.2.2))
  refine ⟨fun c a => f (c, a), fun c a hp hb hc => ?_, sound_ptrRow htab hΓ hf keep pre (fun c a => f (c, a)) hn (fun c a hp hb hc => run_code' (hF (c, a) ⟨hp, hb, hc⟩) (fun v s h => h.2))⟩
  exact run_some (hF (c, a) ⟨hp, hb, hc⟩) (fun v s h => h.1)
theorem ex_rm (htab : TabOk P tab) (hΓ : GOk P Γ) {N : FuncId} {fn : Func} {code : Code} (hf : FnAt P tab N fn code) (keep : List Nat) {ε α ρ : Type} [Enc ε] [EncA α] [EncR ρ] [Inhabited ρ] (pre : List ε → α → Prop) (Φ : List ε → α → ρ × List ε → Prop) (hn : ∀ a : α, (EncA.es a).length + 1 ≤ fn.ntmps)
    (hlen : ∀ l a r, Φ l a r → r.2.length = l.length)
    (h : ∀ (l : List ε) (a : α), pre l a → l.length ≤ maxLen → bndL (EncA.es a) → run Γ [.code (comp tab code)] (initS (.row 1 (Enc.w ε) 0 l.length :: EncA.es a) keep [(1, ⟨Enc.w ε, encL Enc.e l, true, false⟩)]) (postX (fn.results.toList.map (rixOf tab)) fun v s => ∃ r, Φ l a r ∧ rmPost r v s)) :
    ∃ f : List ε → α → ρ × List ε, (∀ l a, pre l a → l.length ≤ maxLen → bndL (EncA.es a) → Φ l a (f l a)) ∧ SoundC P N (rmT pre f) := by
  obtain ⟨f, hF⟩ := exF (D := fun q : List ε × α => pre q.1 q.2 ∧ q.1.length ≤ maxLen ∧ bndL (EncA.es q.2)) (fun q hd => run_det (h q.1 q.2 hd.1 hd.2.1 hd.2.2))
  have hp : ∀ l a, pre l a → l.length ≤ maxLen → bndL (EncA.es a) → Φ l a (f (l, a)) := fun l a hp hb hc => run_some (hF (l, a) ⟨hp, hb, hc⟩) (fun v s h => h.1)
  exact ⟨fun l a => f (l, a), hp, sound_rm htab hΓ hf keep pre (fun l a => f (l, a)) hn (fun l a h1 h2 h3 => hlen l a _ (hp l a h1 h2 h3)) (fun l a hp hb hc => run_code' (hF (l, a) ⟨hp, hb, hc⟩) (fun v s h => h.2))⟩
end
end Go.Ax
