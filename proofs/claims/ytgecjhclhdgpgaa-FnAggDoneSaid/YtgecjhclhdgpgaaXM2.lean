import Derived.Test.YtgecjhclhdgpgaaXM1
set_option linter.unusedVariables false
set_option linter.unusedSimpArgs false
namespace Go.Ax
open Go

/-! ## what a state says, weaker -/
theorem Le.ext {s s' : AS} (h : s.f = s'.f) : Le s s' := fun c a w hs => by unfold RepS at *; rw [← h]; exact hs

/-- These names are kept. -/
def kpM (ks : List Nat) (id : Nat) : Option Nat := if ks.elem id || id % 2 == 1 then some id else none
theorem kpM_iff (ks : List Nat) (i j : Nat) : kpM ks i = some j ↔ kpM ks j = some i := by
  unfold kpM
  constructor <;> intro h <;> split at h <;> simp only [Option.some.injEq, reduceCtorEq] at h <;> subst h <;> simp_all
/-- What is not named is forgotten. -/
theorem Le.gc (ks : List Nat) (s : AS) : Le s (s.mv (kpM ks)) := by
  intro c a w hs
  unfold RepS at *
  rw [mv_f s (kpM_iff ks)]
  exact hs.mv (kpM ks) (kpM ks) (kpM_iff ks) (fun i hi => by simp [kpM, hi])

def wkO : Option Ob → Option Ob → Prop
  | none, none => True
  | some a, some b => (a.sz = b.sz ∧ a.cl = b.cl ∧ a.dd = b.dd) ∧ wkL a.els b.els
  | _, _ => False
theorem wk_lit {x : AV} {v : Value} (h : wk x (.lit v)) : x = .lit v := by
  cases x with
  | lit u =>
    simp only [wk] at h
    rcases h with h | ⟨_, _, h⟩
    · exact h.symm
    · cases h
  | agg a => simp only [wk] at h; obtain ⟨_, h, _⟩ := h; cases h
  | tup a => simp only [wk] at h; obtain ⟨_, h, _⟩ := h; cases h
  | sl z a => simp only [wk] at h; obtain ⟨_, _, h, _⟩ := h; cases h
  | _ => simp only [wk] at h; cases h
theorem RowAt.wk {w : World} {S : Nat → Prop} {β : Nat → Option Blk} {bl : Blk} {xs ys : List AV} (h : wkL xs ys) (hr : RowAt w S β bl xs) : RowAt w S β bl ys := by
  obtain ⟨c, ty, h1, h2, h3⟩ := hr
  exact ⟨c, ty, h1, h2, wkEls_rep β _ _ _ _ _ h h3⟩
theorem Le.wk {s s' : AS} (hv : ∀ k, wk (s.look k) (s'.look k) ∨ s'.look k = .any) (hm : ∀ id, wkO (lookL s.mem id) (lookL s'.mem id)) : Le s s' := by
  rintro c a w ⟨S, β, h1, h2, h3⟩
  have key : ∀ id ob, lookL s'.mem id = some ob → ∃ ob0, lookL s.mem id = some ob0 ∧ (ob0.sz = ob.sz ∧ ob0.cl = ob.cl ∧ ob0.dd = ob.dd) ∧ wkL ob0.els ob.els := by
    intro id ob h
    have := hm id
    rw [h] at this
    cases h0 : lookL s.mem id with
    | none => rw [h0] at this; exact this.elim
    | some ob0 => rw [h0] at this; exact ⟨ob0, rfl, this⟩
  refine ⟨S, β, ⟨fun id => ?_, fun id ob bl h hd hb => ?_, fun id ob bl h hd hcl hb => ?_, fun i j oi oj bi bj hmi hdi hmj hdj => ?_, fun id ob bl h hd => ?_, h1.slt⟩, fun k => ?_, h3⟩
  · have := hm id
    rw [← h1.live id]
    show lookL s'.mem id = none ↔ lookL s.mem id = none
    cases h : lookL s'.mem id <;> cases h0 : lookL s.mem id <;> simp_all [wkO]
  · obtain ⟨ob0, q1, ⟨q2, q3, q4⟩, q5⟩ := key id ob h
    obtain ⟨g1, g2, g3, g4⟩ := h1.obs id ob0 bl q1 (by rw [q4]; exact hd) hb
    exact ⟨by rw [← q2]; exact g1, by rw [wkL_len _ _ q5]; exact g2, g3, fun hc => by rw [← q3]; exact (g4 hc).wk q5⟩
  · obtain ⟨ob0, q1, ⟨q2, q3, q4⟩, q5⟩ := key id ob h
    obtain ⟨g1, g2, g3, g4⟩ := h1.fzs id ob0 bl q1 (by rw [q4]; exact hd) (by rw [q3]; exact hcl) hb
    exact ⟨by rw [← q2]; exact g1, by rw [wkL_len _ _ q5]; exact g2, g3, fun hc => ⟨(g4 hc).1, (g4 hc).2.wk q5⟩⟩
  · obtain ⟨o1, q1, ⟨_, _, q4⟩, _⟩ := key i oi hmi
    obtain ⟨o2, r1, ⟨_, _, r4⟩, _⟩ := key j oj hmj
    exact h1.inj i j o1 o2 bi bj q1 (by rw [q4]; exact hdi) r1 (by rw [r4]; exact hdj)
  · obtain ⟨o1, q1, ⟨_, _, q4⟩, _⟩ := key id ob h
    exact h1.notS id o1 bl q1 (by rw [q4]; exact hd)
  · obtain ⟨g1, g2⟩ := h2 k
    rcases hv k with h | h
    · exact ⟨wk_rep β _ _ _ h g1, fun v e => g2 v (wk_lit (by rw [← e]; exact h))⟩
    · show rep w S β (s'.look k) _ ∧ (s'.look k).plain
      rw [h]; exact ⟨by simp [rep], plain_any⟩

def wkVs : List (Nat × AV) → List (Nat × AV) → Prop
  | [], [] => True
  | (i, x) :: r, (j, y) :: t => i = j ∧ (y = .any ∨ wk x y) ∧ wkVs r t
  | _, _ => False
def wkMs : List (Nat × Ob) → List (Nat × Ob) → Prop
  | [], [] => True
  | (i, a) :: r, (j, b) :: t => i = j ∧ wkO (some a) (some b) ∧ wkMs r t
  | _, _ => False
theorem wkVs_look : ∀ (l l' : List (Nat × AV)) (k : Nat), wkVs l l' → match lookL l k, lookL l' k with | none, none => True | some x, some y => y = .any ∨ wk x y | _, _ => False
  | [], [], k, _ => by simp [lookL]
  | (i, x) :: r, (j, y) :: t, k, h => by
    simp only [wkVs] at h
    obtain ⟨rfl, h1, h2⟩ := h
    simp only [lookL]
    split
    · rename_i hh; split at hh <;> simp_all
    all_goals (have := wkVs_look r t k h2; split at * <;> simp_all)
  | [], _ :: _, _, h => h.elim
  | _ :: _, [], _, h => h.elim
theorem wkMs_look : ∀ (l l' : List (Nat × Ob)) (k : Nat), wkMs l l' → wkO (lookL l k) (lookL l' k)
  | [], [], k, _ => by simp [lookL, wkO]
  | (i, x) :: r, (j, y) :: t, k, h => by
    simp only [wkMs] at h
    obtain ⟨rfl, h1, h2⟩ := h
    simp only [lookL]
    split
    · exact h1
    · exact wkMs_look r t k h2
  | [], _ :: _, _, h => h.elim
  | _ :: _, [], _, h => h.elim
theorem Le.list {vs vs' : List (Nat × AV)} {mem mem' : List (Nat × Ob)} (hv : wkVs vs vs') (hm : wkMs mem mem') : Le ⟨vs, [], mem⟩ ⟨vs', [], mem'⟩ := by
  refine Le.wk (fun k => ?_) (fun id => wkMs_look mem mem' id hm)
  have := wkVs_look vs vs' k hv
  unfold AS.look
  simp only [lookL]
  split at this
  · rename_i h1 h2; simp only [h1, h2]; exact .inr trivial
  · rename_i h1 h2; simp only [h1, h2]; exact this.symm
  · exact this.elim
theorem wkO_self (a : Ob) : wkO (some a) (some a) = True := eq_true ⟨⟨rfl, rfl, rfl⟩, wkL_refl _⟩

/-- A slice that is nil becomes a row of its own. -/
theorem Le.nil (v sz : Nat) {s : AS} (hv : s.look v = .lit (.slice none 0 0)) (hfree : lookL s.mem (32 * (v + 1)) = none) :
    Le s ((s.upd [(32 * (v + 1), ⟨sz, [], true, false⟩)]).put (some v) (.row (32 * (v + 1)) sz 0 0)) := by
  rintro c a w ⟨S, β, h1, h2, h3, h4, h5, h6, h7⟩
  have hfb : β (32 * (v + 1)) = none := (h1.live _).1 hfree
  let bl : Blk := ⟨w.heap.size, 0, 0, sz⟩
  have hA := h1.adopt hfree (w' := w) (bl := bl) (ob := ⟨sz, [], true, false⟩) rfl (Nat.le_refl _) (fun _ _ _ => rfl) (fun h => absurd rfl h) (fun _ _ _ _ _ _ _ h => absurd rfl h) ⟨rfl, by simp, by simp [bl], fun h => absurd rfl h⟩
  have hβ : ∀ i b, β i = some b → upd β (32 * (v + 1)) (some bl) i = some b := fun i b h => by rw [upd_ne _ _ (fun e => by rw [e, hfb] at h; cases h)]; exact h
  unfold RepS
  rw [put_f, upd_f]
  refine ⟨S, upd β (32 * (v + 1)) (some bl), hA, fun k => ?_, h3, h4, h5, fun i b h => ?_, fun i b h => hβ i b (h7 i b h)⟩
  · show rep w S _ (fput (some v) _ s.look k) _ ∧ (fput (some v) _ s.look k).plain
    rw [fput_apply]
    have hk := h2 k
    split
    · rename_i e
      injection e with e; subst e
      rw [show s.f.lk v = .lit (.slice none 0 0) from hv] at hk
      have hu := rep_lit' hk.1
      rw [hu]
      exact ⟨by simp only [rep]; exact ⟨bl, none, upd_same _ _ _, rfl, by simp [bl], rfl, fun h => by simp [bl] at h⟩, plain_row _ _ _ _⟩
    · exact ⟨rep_mono (w := w) (S := S) (fun b hb => ⟨hb, rfl⟩) (fun id _ b hb => hβ id b hb) hk.1, hk.2⟩
  · by_cases e : i = 32 * (v + 1)
    · subst e; rw [upd_same] at h; injection h with h; subst h; exact .inr (Ext.size h5)
    · rw [upd_ne _ _ e] at h; exact h6 i b h
end Go.Ax
