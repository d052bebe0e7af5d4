import Derived.Test.YtgecjhclhdgpgaaXLF
import Derived.Deep.LoopGhost
import Derived.KernelRfl
set_option linter.unusedVariables false
set_option linter.unusedSimpArgs false
namespace Go.Ax
open Go

inductive Ex where
  | normal
  | exit (id : Nat)
  | ret

/-- What a state says, another one says too. -/
def Le (s s' : AS) : Prop := ∀ (c : Ctx) (a : Act) (w : World), RepS c s a w → RepS c s' a w
theorem Le.refl (s : AS) : Le s s := fun _ _ _ h => h
theorem Le.trans {s s' s'' : AS} (h : Le s s') (h' : Le s' s'') : Le s s'' := fun c a w hs => h' c a w (h c a w hs)
theorem Le.of_eq {s s' : AS} (h : s = s') : Le s s' := h ▸ Le.refl s

def xThen (next : AS → Prop) (Q : Ex → AS → Prop) : Ex → AS → Prop
  | .normal, s => next s
  | e, s => Q e s
def xBlock (id : Nat) (Q : Ex → AS → Prop) : Ex → AS → Prop
  | .exit n, s => if n = id then Q .normal s else Q (.exit n) s
  | e, s => Q e s

def iCode (Γ : Cts) : IC → AS → (Ex → AS → Prop) → Prop
  | .skip, s, Q => Q .normal s
  | .reg false fg ops, s, Q => iOps Γ ops (s.clr.forget fg) (Q .normal)
  | .reg true fg ops, s, Q => iOpsD Γ ops [] (s.clr.forget fg) (Q .normal)
  | .seq a b, s, Q => iCode Γ a s (xThen (fun s => iCode Γ b s Q) Q)
  | .cond c x y, s, Q => match evX s.look c with
    | .lit (.bool b) => onB b (iCode Γ x s Q) (iCode Γ y s Q)
    | _ => False
  | .block id c, s, Q => iCode Γ c s (xBlock id Q)
  | .exit id, s, Q => Q (.exit id) s
  | .ret, s, Q => Q .ret s
  | .loop c, s, Q => ∃ (I : Nat → AS → Prop) (n : Nat) (s0 : AS), Le s.clr s0 ∧ I n s0 ∧ ∀ n s, I n s → iCode Γ c s (xThen (fun s' => ∃ n' s'', n' < n ∧ Le s'.clr s'' ∧ I n' s'') Q)
  | .bad, _, _ => False

/-- Each operation writes a slot that is there. -/
def codeFits (N : Nat) : Code → Bool
  | .region _ ops _ => ops.toList.all fun o => match o.dst with | some t => decide (t < N) | none => true
  | .seq a b | .cond _ a b => codeFits N a && codeFits N b
  | .block _ c | .loop c => codeFits N c
  | _ => true

def liftQ (c : Ctx) (Q : Ex → AS → Prop) : Exit → Act → World → Prop
  | .normal, a, w => ∃ s, Q .normal s ∧ RepS c s a w
  | .exit id, a, w => ∃ s, Q (.exit id) s ∧ RepS c s a w
  | .ret, a, w => ∃ s, Q .ret s ∧ RepS c s a w
  | _, _, _ => False

section
variable {P : Program} {c : Ctx} {Γ : Cts} {tab : TT}
theorem iOps_sound (htab : TabOk P tab) (hΓ : GOk P Γ) (ops : Array Oper) (fg : List Nat) {Q : Exit → Act → World → Prop} : ∀ (l : List Oper) (s : AS) (K : AS → Prop) (a : Act) (w : World),
    (∀ o ∈ l, ∀ t, o.dst = some t → t < c.N) → iOps Γ (l.map fun o => setH fg (compOp tab ops o)) s K → RepS c s a w →
    (∀ s' a' w', K s' → RepS c s' a' w' → Q .normal a' w') → wpList P ops Q l a w
  | [], s, K, a, w, _, h, hs, hq => hq s a w h hs
  | o :: r, s, K, a, w, hd, h, hs, hq => by
    have ih : ∀ s' a' w', iOps Γ (r.map fun o => setH fg (compOp tab ops o)) s' K → RepS c s' a' w' → wpList P ops Q r a' w' := fun s' a' w' h' hs' =>
      iOps_sound htab hΓ ops fg r s' K a' w' (fun o' ho' => hd o' (by simp [ho'])) h' hs' hq
    have hdo : ∀ t, o.dst = some t → t < c.N := hd o (by simp)
    simp only [List.map_cons, iOps, ig] at h
    unfold wpList
    cases hg : o.guard with
    | none =>
      have e : setH fg (compOp tab ops o) = setH fg ⟨o.dst, nidOf o.dst, none, opOf tab o.op, (homeOf tab o).map fun h => (h, []), none, []⟩ := by simp only [compOp, hg]
      rw [e] at h
      simp only [setH] at h
      rw [if_pos (by simp [Region.wanted, hg])]
      exact .inl (io_sound htab hΓ hdo h hs (fun s' a' w' hk hr => ih s' a' w' hk hr))
    | some g =>
      obtain ⟨j, want⟩ := g
      cases hjt : slotOf ops j with
      | none =>
        have e : setH fg (compOp tab ops o) = setH fg ⟨o.dst, 0, none, .bad, none, none, []⟩ := by simp only [compOp, hg, hjt]
        rw [e] at h
        exact (io_bad rfl h).elim
      | some t =>
        have e : setH fg (compOp tab ops o) = setH fg ⟨o.dst, nidOf o.dst, some (t, want), opOf tab o.op, (homeOf tab o).map fun h => (h, []), none, []⟩ := by simp only [compOp, hg, hjt]
        rw [e] at h
        simp only [setH] at h
        unfold slotOf at hjt
        obtain ⟨S, β, h1, h2, h3⟩ := hs
        have hty : ∀ b, a.tmps.getD t undef = .bool b → yielded ops a.tmps j = some b := by
          intro b hb
          simp only [yielded, hjt, Option.bind_some]
          simp only [Array.getD_eq_getD_getElem?] at hb
          cases hx : a.tmps[t]? with
          | none => rw [hx] at hb; simp [undef] at hb
          | some x => rw [hx] at hb; simp only [Option.getD_some] at hb; rw [hb]
        have htn : a.tmps.getD t undef = undef → yielded ops a.tmps j = none := by
          intro hb
          simp only [yielded, hjt, Option.bind_some]
          simp only [Array.getD_eq_getD_getElem?] at hb
          cases hx : a.tmps[t]? with
          | none => rfl
          | some x => rw [hx] at hb; simp only [Option.getD_some] at hb; rw [hb]; rfl
        split at h
        · rename_i b hb
          have hy := hty b (rep_bool ((show s.f.lk t = _ from hb) ▸ (h2 t).1))
          cases want <;> cases b <;> simp only [onB_true, onB_false] at h
          · rw [if_pos (by simp [Region.wanted, hg, hy])]
            exact .inl (io_sound htab hΓ hdo h (RepS.put_same ⟨S, β, h1, h2, h3⟩ hb) (fun s' a' w' hk hr => ih s' a' w' hk hr))
          · rw [if_neg (by simp [Region.wanted, hg, hy])]
            exact ih _ _ _ h (RepS.put_skip (RepS.put_same ⟨S, β, h1, h2, h3⟩ hb) hdo)
          · rw [if_neg (by simp [Region.wanted, hg, hy])]
            exact ih _ _ _ h (RepS.put_skip (RepS.put_same ⟨S, β, h1, h2, h3⟩ hb) hdo)
          · rw [if_pos (by simp [Region.wanted, hg, hy])]
            exact .inl (io_sound htab hΓ hdo h (RepS.put_same ⟨S, β, h1, h2, h3⟩ hb) (fun s' a' w' hk hr => ih s' a' w' hk hr))
        · rename_i hb
          have hy := htn (rep_skip ((show s.f.lk t = _ from hb) ▸ (h2 t).1))
          rw [if_neg (by simp [Region.wanted, hg, hy])]
          exact ih _ _ _ h (RepS.put_skip ⟨S, β, h1, h2, h3⟩ hdo)
        · exact h.elim

theorem iCode_sound (htab : TabOk P tab) (hΓ : GOk P Γ) (hm : P.follows .mixedOrders = true) : ∀ (code : Code) (Q : Ex → AS → Prop) (s : AS) (a : Act) (w : World), codeFits c.N code = true → drawsOk tab code = true → iCode Γ (comp tab code) s Q → RepS c s a w → code.wp P (liftQ c Q) a w
  | .skip, Q, s, a, w, _, _, h, hs => wp_skip ⟨s, h, hs⟩
  | .region id ops true, Q, s, a, w, hf, hr, h, hs => by
      simp only [drawsOk, Bool.and_eq_true] at hr
      refine draw_sound htab hΓ hm ?_ hr.1 hr.2 (K := Q .normal) h (hs.clr.forget _) (fun s' a' w' hq hr => ⟨s', hq, hr⟩)
      intro o ho t ht
      simp only [codeFits, List.all_eq_true] at hf
      have := hf o (by simpa using ho)
      rw [ht] at this
      simpa using this
  | .region id ops false, Q, s, a, w, hf, hr, h, hs => by
      simp only [comp, compReg, iCode, regOps, Bool.false_eq_true, if_false, List.map_map] at h
      refine wp_region_list ?_
      refine iOps_sound htab hΓ ops _ ops.toList _ (Q .normal) a w ?_ h (hs.clr.forget _) (fun s' a' w' hq hr => ⟨s', hq, hr⟩)
      intro o ho t ht
      simp only [codeFits, List.all_eq_true] at hf
      have := hf o ho
      rw [ht] at this
      simpa using this
  | .seq x y, Q, s, a, w, hf, hr, h, hs => by
    simp only [codeFits, Bool.and_eq_true] at hf
    simp only [drawsOk, Bool.and_eq_true] at hr
    refine wp_seq (wp_mono (iCode_sound htab hΓ hm x _ s a w hf.1 hr.1 h hs) ?_)
    intro e a' w' hq
    cases e with
    | normal => obtain ⟨s', hq, hrs⟩ := hq; exact iCode_sound htab hΓ hm y Q s' a' w' hf.2 hr.2 hq hrs
    | exit id => obtain ⟨s', hq, hr⟩ := hq; exact ⟨s', hq, hr⟩
    | ret => obtain ⟨s', hq, hr⟩ := hq; exact ⟨s', hq, hr⟩
    | goto l => exact hq
    | panic ch => exact hq
    | outgrown => exact hq
  | .cond x t e, Q, s, a, w, hf, hr, h, hs => by
    simp only [codeFits, Bool.and_eq_true] at hf
    simp only [drawsOk, Bool.and_eq_true] at hr
    simp only [comp, iCode, evX_ixOf] at h
    split at h
    · rename_i b hb
      have hs' := hs
      obtain ⟨S, β, h1, h2, h3⟩ := hs
      have hv := (ev_sound h2 x).1
      rw [show evF s.f.lk x = _ from hb] at hv
      refine wp_cond_split (rep_bool hv) (fun hbt => ?_) (fun hbf => ?_)
      · exact iCode_sound htab hΓ hm t Q s a w hf.1 hr.1 (h.1 hbt) hs'
      · exact iCode_sound htab hΓ hm e Q s a w hf.2 hr.2 (h.2 hbf) hs'
    · exact h.elim
  | .block id x, Q, s, a, w, hf, hr, h, hs => by
    refine wp_block (wp_mono (iCode_sound htab hΓ hm x _ s a w hf hr h hs) ?_)
    intro e a' w' hq
    cases e with
    | normal => exact hq
    | exit n =>
      obtain ⟨s', hq, hr⟩ := hq
      simp only [xBlock] at hq
      simp only [Exit.inBlock]
      split
      · rename_i e; rw [if_pos e] at hq; exact ⟨s', hq, hr⟩
      · rename_i e; rw [if_neg e] at hq; exact ⟨s', hq, hr⟩
    | ret => exact hq
    | goto l => exact hq
    | panic ch => exact hq
    | outgrown => exact hq
  | .exit id, Q, s, a, w, _, _, h, hs => wp_exit ⟨s, h, hs⟩
  | .ret, Q, s, a, w, _, _, h, hs => wp_ret ⟨s, h, hs⟩
  | .loop x, Q, s, a, w, hf, hr, h, hs => by
    obtain ⟨I, m, s0, hle, h0, hrd⟩ := h
    refine wp_loop_ghost (fun n a w => ∃ s, I n s ∧ RepS c s a w) m ⟨s0, h0, hle _ _ _ hs.clr⟩ ?_
    rintro n a w ⟨s, hI, hs⟩
    refine wp_mono (iCode_sound htab hΓ hm x _ s a w hf hr (hrd n s hI) hs) ?_
    intro e a' w' hq
    cases e with
    | normal => obtain ⟨s', ⟨n', s'', hlt, hle, hq⟩, hr⟩ := hq; exact ⟨n', hlt, s'', hq, hle _ _ _ hr.clr⟩
    | exit n => exact hq
    | ret => exact hq
    | goto l => exact hq
    | panic ch => exact hq
    | outgrown => exact hq
end
end Go.Ax
namespace Go.Ax
open Go

inductive Fr where
  | ops (l : List IOp)
  | opsD (lg : Lg) (l : List IOp)
  | code (c : IC)
  | block (id : Nat)

def kq (Γ : Cts) : List Fr → (Ex → AS → Prop) → Ex → AS → Prop
  | [], Q => Q
  | .ops l :: k, Q => xThen (fun s => iOps Γ l s (kq Γ k Q .normal)) (kq Γ k Q)
  | .opsD lg l :: k, Q => xThen (fun s => iOpsD Γ l lg s (kq Γ k Q .normal)) (kq Γ k Q)
  | .code c :: k, Q => xThen (fun s => iCode Γ c s (kq Γ k Q)) (kq Γ k Q)
  | .block id :: k, Q => xBlock id (kq Γ k Q)

/-- The machine: what is still to be done, and a state. -/
def run (Γ : Cts) (k : List Fr) (s : AS) (Q : Ex → AS → Prop) : Prop := kq Γ k Q .normal s

def rK (Γ : Cts) (x : Res) (h : Option (Nat × List Nat)) (d : Option Nat) (fr : Fr) (k : List Fr) (s : AS) (Q : Ex → AS → Prop) : Prop :=
  match x with
  | some (p, v, up) => p ∧ run Γ (fr :: k) (((s.upd up).put d v).hom h d) Q
  | none => False

def gK (Γ : Cts) (x : AV) (t : Nat) (want : Bool) (fr1 fr2 : Fr) (d : Option Nat) (k : List Fr) (s : AS) (Q : Ex → AS → Prop) : Prop :=
  match x with
  | .lit (.bool b) => match want with
    | true => onB b (run Γ (fr1 :: k) (s.put (some t) (.lit (.bool true))) Q) (run Γ (fr2 :: k) ((s.put (some t) (.lit (.bool false))).put d skipV) Q)
    | false => onB b (run Γ (fr2 :: k) ((s.put (some t) (.lit (.bool true))).put d skipV) Q) (run Γ (fr1 :: k) (s.put (some t) (.lit (.bool false))) Q)
  | .tup [] => run Γ (fr2 :: k) (s.put d skipV) Q
  | _ => False

def cK (Γ : Cts) (x : AV) (a b : IC) (k : List Fr) (s : AS) (Q : Ex → AS → Prop) : Prop :=
  match x with
  | .lit (.bool t) => onB t (run Γ (.code a :: k) s Q) (run Γ (.code b :: k) s Q)
  | _ => False

/-- To the end of a block. -/
def toExit (Γ : Cts) (id : Nat) : List Fr → AS → (Ex → AS → Prop) → Prop
  | [], s, Q => Q (.exit id) s
  | .block j :: k, s, Q => if id = j then run Γ k s Q else toExit Γ id k s Q
  | _ :: k, s, Q => toExit Γ id k s Q

section
variable {Γ : Cts} {k : List Fr} {s : AS} {Q : Ex → AS → Prop}

theorem kq_exit (id : Nat) : ∀ k, kq Γ k Q (.exit id) s = toExit Γ id k s Q
  | [] => rfl
  | .block j :: k => by
    simp only [kq, xBlock, toExit]
    split
    · rfl
    · exact kq_exit id k
  | .ops l :: k => kq_exit id k
  | .opsD lg l :: k => kq_exit id k
  | .code c :: k => kq_exit id k
theorem kq_ret : ∀ k, kq Γ k Q .ret s = Q .ret s
  | [] => rfl
  | .block j :: k => kq_ret k
  | .ops l :: k => kq_ret k
  | .opsD lg l :: k => kq_ret k
  | .code c :: k => kq_ret k

theorem r_end : run Γ [] s Q = Q .normal s := (rfl)
theorem r_block (id : Nat) : run Γ (.block id :: k) s Q = run Γ k s Q := (rfl)
theorem r_nil : run Γ (.ops [] :: k) s Q = run Γ k s Q := (rfl)
theorem r_op (d : Option Nat) (n : Nat) (op : Ix) (h : Option (Nat × List Nat)) (fl : Option Nat) (us : List Nat) (r : List IOp) : run Γ (.ops (⟨d, n, none, op, h, fl, us⟩ :: r) :: k) s Q = rK Γ (ie Γ op n s.look (lookL s.mem)) h d (.ops r) k s Q := (rfl)
theorem r_g (d : Option Nat) (n t : Nat) (want : Bool) (op : Ix) (h : Option (Nat × List Nat)) (fl : Option Nat) (us : List Nat) (r : List IOp) : run Γ (.ops (⟨d, n, some (t, want), op, h, fl, us⟩ :: r) :: k) s Q = gK Γ (s.look t) t want (.ops (⟨d, n, none, op, h, fl, us⟩ :: r)) (.ops r) d k s Q := by
  simp only [run, kq, xThen, iOps, ig, gK]
  split <;> rename_i h <;> simp only [h]
  · cases want <;> rfl
theorem r_nilD (lg : Lg) : run Γ (.opsD lg [] :: k) s Q = run Γ k s Q := (rfl)
theorem r_opD (lg : Lg) (d : Option Nat) (n : Nat) (op : Ix) (h : Option (Nat × List Nat)) (us : List Nat) (r : List IOp) : run Γ (.opsD lg (⟨d, n, none, op, h, none, us⟩ :: r) :: k) s Q = rK Γ (ie Γ op n s.look (lookL s.mem)) h d (.opsD lg r) k s Q := (rfl)
theorem r_gD (lg : Lg) (d : Option Nat) (n t : Nat) (want : Bool) (op : Ix) (h : Option (Nat × List Nat)) (us : List Nat) (r : List IOp) : run Γ (.opsD lg (⟨d, n, some (t, want), op, h, none, us⟩ :: r) :: k) s Q = gK Γ (s.look t) t want (.opsD lg (⟨d, n, none, op, h, none, us⟩ :: r)) (.opsD lg r) d k s Q := by
  simp only [run, kq, xThen, iOpsD, ig, gK]
  split <;> rename_i h <;> simp only [h]
  · cases want <;> rfl
theorem r_flD (lg : Lg) (d : Option Nat) (n i : Nat) (g : Option (Nat × Bool)) (op : Ix) (h : Option (Nat × List Nat)) (us : List Nat) (r : List IOp) : run Γ (.opsD lg (⟨d, n, g, op, h, some i, us⟩ :: r) :: k) s Q =
    (lgOk us n (idsOf op s.look) (ksOf (ie Γ op n s.look (lookL s.mem))) lg = true ∧ run Γ (.opsD ((i, n, idsOf op s.look, ksOf (ie Γ op n s.look (lookL s.mem))) :: lg) (⟨d, n, g, op, h, none, us⟩ :: r) :: k) s Q) := rfl
theorem r_skip : run Γ (.code .skip :: k) s Q = run Γ k s Q := (rfl)
theorem r_reg (fg : List Nat) (ops : List IOp) : run Γ (.code (.reg false fg ops) :: k) s Q = run Γ (.ops ops :: k) (s.clr.forget fg) Q := (rfl)
theorem r_draw (fg : List Nat) (ops : List IOp) : run Γ (.code (.reg true fg ops) :: k) s Q = run Γ (.opsD [] ops :: k) (s.clr.forget fg) Q := (rfl)
theorem r_seq (a b : IC) : run Γ (.code (.seq a b) :: k) s Q = run Γ (.code a :: .code b :: k) s Q := (rfl)
theorem r_cond (c : IX) (a b : IC) : run Γ (.code (.cond c a b) :: k) s Q = cK Γ (evX s.look c) a b k s Q := (rfl)
theorem r_blk (id : Nat) (a : IC) : run Γ (.code (.block id a) :: k) s Q = run Γ (.code a :: .block id :: k) s Q := (rfl)
theorem r_exit (id : Nat) : run Γ (.code (.exit id) :: k) s Q = toExit Γ id k s Q := by
  show iCode Γ (.exit id) s (kq Γ k Q) = _
  exact kq_exit id k
theorem r_ret : run Γ (.code .ret :: k) s Q = Q .ret s := by
  show iCode Γ .ret s (kq Γ k Q) = _
  exact kq_ret k
theorem run_code (c : IC) (h : run Γ [.code c] s Q) : iCode Γ c s Q := h

theorem rK_some (p : Prop) (v : AV) (up : Upd) (h : Option (Nat × List Nat)) (d : Option Nat) (fr : Fr) : rK Γ (some (p, v, up)) h d fr k s Q = (p ∧ run Γ (fr :: k) (((s.upd up).put d v).hom h d) Q) := (rfl)
theorem rK_someT (v : AV) (up : Upd) (h : Option (Nat × List Nat)) (d : Option Nat) (fr : Fr) : rK Γ (some (True, v, up)) h d fr k s Q = run Γ (fr :: k) (((s.upd up).put d v).hom h d) Q := by rw [rK_some, true_and]
theorem rK_pure (p : Prop) (v : AV) (h : Option (Nat × List Nat)) (d : Option Nat) (fr : Fr) : rK Γ (pureE (some (p, v))) h d fr k s Q = (p ∧ run Γ (fr :: k) ((s.put d v).hom h d) Q) := (rfl)
theorem rK_pureT (v : AV) (h : Option (Nat × List Nat)) (d : Option Nat) (fr : Fr) : rK Γ (pureE (some (True, v))) h d fr k s Q = run Γ (fr :: k) ((s.put d v).hom h d) Q := by
  rw [rK_pure, true_and]
theorem rK_none (h : Option (Nat × List Nat)) (d : Option Nat) (fr : Fr) : rK Γ none h d fr k s Q = False := (rfl)
theorem rK_pureN (h : Option (Nat × List Nat)) (d : Option Nat) (fr : Fr) : rK Γ (pureE none) h d fr k s Q = False := (rfl)
theorem hom_none (d : Option Nat) : s.hom none d = s := (rfl)
theorem hom_some (h : Nat) (fg : List Nat) (d : Nat) : s.hom (some (h, fg)) (some d) = homK s h fg (s.look d) := (rfl)
theorem homK_row (h : Nat) (fg : List Nat) (id sz lo n : Nat) : homK s h fg (.row id sz lo n) = if (inFg fg id && h % 2 == 0 && !(id == h)) then s.mv (renM id h) else s := (rfl)
theorem homK_sl (h sz : Nat) (fg : List Nat) (xs : List AV) : homK s h fg (.sl sz xs) = s := (rfl)
theorem homK_lit (h : Nat) (fg : List Nat) (v : Value) : homK s h fg (.lit v) = s := (rfl)
theorem homK_any (h : Nat) (fg : List Nat) : homK s h fg .any = s := (rfl)

/-- A loop: an invariant over typed things. -/
def loopQ {α : Type} (f : α → AS) (I : α → Prop) (m : α → Nat) (x : α) (Q : Ex → AS → Prop) : Ex → AS → Prop :=
  xThen (fun s' => ∃ y, m y < m x ∧ I y ∧ Le s'.clr (f y)) Q
theorem r_loop {c : IC} {α : Type} (f : α → AS) (I : α → Prop) (m : α → Nat) (x0 : α) (h0 : Le s.clr (f x0)) (hI : I x0)
    (round : ∀ x, I x → run Γ [.code c] (f x) (loopQ f I m x (kq Γ k Q))) : run Γ (.code (.loop c) :: k) s Q := by
  show iCode Γ (.loop c) s (kq Γ k Q)
  refine ⟨fun n s => ∃ x, m x = n ∧ I x ∧ s = f x, m x0, f x0, h0, ⟨x0, rfl, hI, rfl⟩, ?_⟩
  rintro n s ⟨x, rfl, hx, rfl⟩
  have e : (fun s' : AS => ∃ n' s'', n' < m x ∧ Le s'.clr s'' ∧ ∃ y, m y = n' ∧ I y ∧ s'' = f y) = fun s' => ∃ y, m y < m x ∧ I y ∧ Le s'.clr (f y) := by
    funext s'
    apply propext
    constructor
    · rintro ⟨n', s'', hlt, hle, y, rfl, hy, rfl⟩; exact ⟨y, hlt, hy, hle⟩
    · rintro ⟨y, hlt, hy, hle⟩; exact ⟨_, _, hlt, hle, y, rfl, hy, rfl⟩
  rw [e]
  exact round x hx
theorem loopQ_normal {α : Type} {f : α → AS} {I : α → Prop} {m : α → Nat} {x : α} : loopQ f I m x Q .normal s = ∃ y, m y < m x ∧ I y ∧ Le s.clr (f y) := (rfl)
theorem loopQ_exit {α : Type} {f : α → AS} {I : α → Prop} {m : α → Nat} {x : α} (id : Nat) : loopQ f I m x (kq Γ k Q) (.exit id) s = toExit Γ id k s Q := kq_exit id k
theorem loopQ_ret {α : Type} {f : α → AS} {I : α → Prop} {m : α → Nat} {x : α} : loopQ f I m x (kq Γ k Q) .ret s = Q .ret s := kq_ret k
end

/-! ## evaluation -/
section
variable {Γ : Cts} {k : List Fr} {s : AS} {Q : Ex → AS → Prop}
theorem gK_sym (b : Bool) (t : Nat) (fr1 fr2 : Fr) (d : Option Nat) : gK Γ (.lit (.bool b)) t true fr1 fr2 d k s Q = onB b (run Γ (fr1 :: k) (s.put (some t) (.lit (.bool true))) Q) (run Γ (fr2 :: k) ((s.put (some t) (.lit (.bool false))).put d skipV) Q) := (rfl)
theorem gK_symF (b : Bool) (t : Nat) (fr1 fr2 : Fr) (d : Option Nat) : gK Γ (.lit (.bool b)) t false fr1 fr2 d k s Q = onB b (run Γ (fr2 :: k) ((s.put (some t) (.lit (.bool true))).put d skipV) Q) (run Γ (fr1 :: k) (s.put (some t) (.lit (.bool false))) Q) := (rfl)
theorem gK_skip (w : Bool) (t : Nat) (fr1 fr2 : Fr) (d : Option Nat) : gK Γ (.tup []) t w fr1 fr2 d k s Q = run Γ (fr2 :: k) (s.put d skipV) Q := (rfl)
theorem cK_sym (b : Bool) (x y : IC) : cK Γ (.lit (.bool b)) x y k s Q = onB b (run Γ (.code x :: k) s Q) (run Γ (.code y :: k) s Q) := (rfl)

def lookO (x : Option AV) (y : AV) : AV := match x with | some v => v | none => y
def lookO' (x : Option AV) : AV := match x with | some v => v | none => .any
def putO (x : Option AV) (d : Nat) (v : AV) (vs tm : List (Nat × AV)) (mem : List (Nat × Ob)) : AS := match x with
    | some _ => ⟨setL d v vs, tm, mem⟩
    | none => ⟨vs, (d, v) :: tm, mem⟩
theorem look_mk (vs tm : List (Nat × AV)) (mem : List (Nat × Ob)) (i : Nat) : (AS.mk vs tm mem).look i = lookO (lookL vs i) (lookO' (lookL tm i)) := by
  unfold AS.look; cases lookL vs i <;> simp [lookO]; cases lookL tm i <;> simp [lookO']
theorem put_none (v : AV) : s.put none v = s := (rfl)
theorem put_mk (vs tm : List (Nat × AV)) (mem : List (Nat × Ob)) (d : Nat) (v : AV) : (AS.mk vs tm mem).put (some d) v = putO (lookL vs d) d v vs tm mem := by
  simp only [AS.put, putO]
  cases lookL vs d <;> rfl
theorem upd_mk (vs tm : List (Nat × AV)) (mem : List (Nat × Ob)) (up : Upd) : (AS.mk vs tm mem).upd up = ⟨vs, tm, setM up mem⟩ := (rfl)
theorem mv_mk (vs tm : List (Nat × AV)) (mem : List (Nat × Ob)) (φ : Nat → Option Nat) : (AS.mk vs tm mem).mv φ = ⟨mvS φ vs, mvS φ tm, mvM φ mem⟩ := (rfl)
theorem forget_mk (vs tm : List (Nat × AV)) (mem : List (Nat × Ob)) (fg : List Nat) : (AS.mk vs tm mem).forget fg = if liveFg fg mem then ⟨mvS (fgM fg) vs, mvS (fgM fg) tm, mvM (fgM fg) mem⟩ else ⟨vs, tm, mem⟩ := (rfl)
theorem forget_nil (s : AS) : s.forget [] = s := by
  have : ∀ l : List (Nat × Ob), liveFg [] l = false := by
    intro l
    induction l with
    | nil => rfl
    | cons p r ih => obtain ⟨i, x⟩ := p; simp [liveFg, inFg, ih]
  unfold AS.forget; rw [this, if_neg (by simp)]
theorem clr_mk (vs tm : List (Nat × AV)) (mem : List (Nat × Ob)) : (AS.mk vs tm mem).clr = ⟨vs, [], mem⟩ := (rfl)
theorem ksOf_some (p : Prop) (v : AV) (up : Upd) : ksOf (some (p, v, up)) = up.map (·.1) := (rfl)
theorem ksOf_none : ksOf none = [] := (rfl)
theorem ksOf_pureE (x : Option (Prop × AV)) : ksOf (pureE x) = [] := by cases x <;> rfl
theorem elem_cons (a : Nat) (x : Nat) (l : List Nat) : List.elem a (x :: l) = (a == x || List.elem a l) := by simp only [List.elem]; cases a == x <;> rfl
end

attribute [go_sem] r_end r_block r_nil r_op r_g r_nilD r_opD r_gD r_flD idsOf ksOf_some ksOf_none ksOf_pureE lgOk noClash foot Ix.opnd AV.names namesL List.all_nil List.all_cons r_skip r_reg r_draw r_seq r_cond r_blk r_exit r_ret rK_some rK_someT rK_pure rK_pureT rK_none rK_pureN loopQ_normal loopQ_exit loopQ_ret gK_sym gK_symF gK_skip cK_sym
  hom_none hom_some homK_row homK_sl homK_lit homK_any
  look_mk put_mk put_none upd_mk mv_mk clr_mk forget_nil forget_mk lookO lookO' putO lookL setL setM setM.setM1 mvS mvM AV.mv mvL Ob.mv fgM renM inFg liveFg toExit skipV
  evX ie biE bsE mksE slcE slsE slcRow appE eqsE isnE appZE capE eqAs eqA lowE highE intE okParts okPart srcE deadOb froz AV.isSlice closedL_append pe pickE binE unE convE nilcE fadE fldE sidxE extE lenE slenE minE maxE part? fillE stE callE mkB mkI
  AV.cells AV.isAny AV.isTup AV.isAgg AV.noLit AV.closed closedL setUpd putPart
attribute [go_sem ↓] onB_true onB_false
attribute [go_sem] Option.map_some Option.map_none Option.isSome_some Option.isSome_none Option.isNone_some Option.isNone_none List.map_nil List.map_cons List.append_nil List.nil_append List.cons_append and_true true_and List.elem_nil elem_cons
  List.length_cons List.length_nil
attribute [go_sem] Nat.reduceAdd Nat.reduceSub Nat.reduceMul Nat.reduceDiv Nat.reduceEqDiff Nat.reduceMod Nat.reduceBEq reduceIte reduceCtorEq Bool.false_eq_true Bool.not_true Bool.not_false Bool.or_false Bool.false_or Bool.true_or Bool.or_true Bool.and_true Bool.and_false Bool.true_and Bool.false_and
end Go.Ax
