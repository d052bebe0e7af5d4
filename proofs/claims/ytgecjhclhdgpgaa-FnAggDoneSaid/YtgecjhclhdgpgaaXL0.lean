import Derived.Test.YtgecjhclhdgpgaaXK
import Derived.KernelRfl
set_option linter.unusedVariables false
set_option linter.unusedSimpArgs false
namespace Go.Ax
open Go

/-! ## the code, compiled -/
structure IOp where
  d : Option Nat
  n : Nat
  g : Option (Nat × Bool)
  op : Ix
  /-- a slice is given to a variable: its own name, and the region's passing ones -/
  h : Option (Nat × List Nat)
  /-- in a region that draws its order: this operation's number, if it touches objects -/
  fl : Option Nat
  /-- and those before it that it is not ordered with -/
  us : List Nat

inductive IC where
  | skip
  | ret
  | bad
  | reg (draw : Bool) (fg : List Nat) (ops : List IOp)
  | seq (a b : IC)
  | cond (c : IX) (a b : IC)
  | block (id : Nat) (a : IC)
  | loop (a : IC)
  | exit (id : Nat)

def nidOf : Option Nat → Nat
  | some d => 32 * (d + 1)
  | none => 0

def slotOf (ops : Array Oper) (j : Nat) : Option Nat := (ops[j]?).bind (·.dst)

def BK.mem : BK → Bool
  | .bs _ | .mks _ _ _ | .app _ _ | .appZ _ _ _ | .slc _ .hm => true
  | _ => false
def Ix.makes : Ix → Bool
  | .bi k _ => k.mem
  | .alloc _ _ | .box _ | .call _ _ => true
  | _ => false

/-- Is a slice given to a variable? -/
def homeOf (tab : TT) (o : Oper) : Option Nat :=
  match o.op, o.dst with
  | .assign (.tmp _), some v => match tab.find o.type with
    | some ti => if ti.elem.isSome then some (32 * (v + 1)) else none
    | none => none
  | _, _ => none

def compOp (tab : TT) (ops : Array Oper) (o : Oper) : IOp :=
  match o.guard with
  | none => ⟨o.dst, nidOf o.dst, none, opOf tab o.op, (homeOf tab o).map fun h => (h, []), none, []⟩
  | some (j, want) => match slotOf ops j with
    | some t => ⟨o.dst, nidOf o.dst, some (t, want), opOf tab o.op, (homeOf tab o).map fun h => (h, []), none, []⟩
    | none => ⟨o.dst, 0, none, .bad, none, none, []⟩

/-- The numbers under which a region makes objects. -/
def fgOf : List IOp → List Nat
  | [] => []
  | o :: r => match o.op.makes, o.d with
    | true, some d => (d + 1) :: fgOf r
    | _, _ => fgOf r

/-- It may look at objects. -/
def Ix.mem : Ix → Bool
  | .bi k _ => k.mem
  | .alloc _ _ | .box _ | .ld _ _ _ | .st _ _ _ | .call _ _ => true
  | _ => false
def Ix.isLd : Ix → Bool
  | .ld _ _ _ => true
  | _ => false

def setH (fg : List Nat) (o : IOp) : IOp := ⟨o.d, o.n, o.g, o.op, o.h.map fun h => (h.1, fg), o.fl, o.us⟩
/-! which operations on objects are not ordered -/
abbrev Acc := List (Nat × Bool × Bool × List Nat)
def addNew (a : List Nat) : List Nat → List Nat
  | [] => a
  | x :: r => if a.elem x then addNew a r else addNew (x :: a) r
def ancStep (m : Option (Bool × Bool × List Nat)) (i : Nat) (a : List Nat) : List Nat := match m with
  | some (true, _, l) => addNew (addNew a l) [i]
  | some (false, _, l) => addNew a l
  | none => a
def ancOf (acc : Acc) : List Edge → List Nat
  | [] => []
  | e :: r => if Region.binds .any e then ancStep (lookL acc e.on) e.on (ancOf acc r) else ancOf acc r
def usOf (isLd : Bool) (anc : List Nat) : Acc → List Nat
  | [] => []
  | (i, m, l, _) :: r => if m && !(l && isLd) && !anc.elem i then i :: usOf isLd anc r else usOf isLd anc r
def usL : List Oper → List IOp → Nat → Acc → List (List Nat)
  | o :: r, p :: l, j, acc => (if p.op.mem then usOf p.op.isLd (ancOf acc o.after.toList) acc else []) :: usL r l (j + 1) ((j, p.op.mem, p.op.isLd, ancOf acc o.after.toList) :: acc)
  | _, _, _, _ => []
def setFl (all : List Nat) : List IOp → List (List Nat) → Nat → List IOp
  | o :: l, u :: us, j => ⟨o.d, o.n, o.g, o.op, o.h, if u.isEmpty && !all.elem j then none else some j, u⟩ :: setFl all l us (j + 1)
  | l, _, _ => l
def flagL (us : List (List Nat)) (l : List IOp) : List IOp := setFl us.flatten l us 0

def regOps (draw : Bool) (ops : List Oper) (l : List IOp) : List IOp := if draw then flagL (usL ops l 0 []) l else l
def compReg (draw : Bool) (ops : List Oper) (l : List IOp) : IC := .reg draw (fgOf l) (regOps draw ops (l.map (setH (fgOf l))))

def comp (tab : TT) : Code → IC
  | .skip => .skip
  | .region _ ops draw => compReg draw ops.toList (ops.toList.map (compOp tab ops))
  | .seq a b => .seq (comp tab a) (comp tab b)
  | .cond c a b => .cond (ixOf c) (comp tab a) (comp tab b)
  | .block id a => .block id (comp tab a)
  | .loop a => .loop (comp tab a)
  | .exit id => .exit id
  | .ret => .ret
  | _ => .bad

/-! ## what it does -/
def skipV : AV := .tup []

/-- Two ways, by a truth value. -/
def onB (b : Bool) (p q : Prop) : Prop := (b = true → p) ∧ (b = false → q)
theorem onB_true (p q : Prop) : onB true p q = p := by simp [onB]
theorem onB_false (p q : Prop) : onB false p q = q := by simp [onB]

def inFg (fg : List Nat) (id : Nat) : Bool := id % 2 == 0 && fg.elem (id / 32)
/-- Forget what a region will make. -/
def fgM (fg : List Nat) (id : Nat) : Option Nat := if inFg fg id then none else some id
/-- An object under a variable's name. -/
def renM (i h id : Nat) : Option Nat := if id = i then some h else if id = h then none else some id
theorem fgM_iff (fg : List Nat) (i j : Nat) : fgM fg i = some j ↔ fgM fg j = some i := by
  unfold fgM
  constructor <;> intro h <;> split at h <;> simp only [Option.some.injEq, reduceCtorEq] at h <;> subst h <;> simp_all
theorem renM_iff {i h : Nat} (hne : i ≠ h) (a b : Nat) : renM i h a = some b ↔ renM h i b = some a := by
  unfold renM
  constructor <;> intro hh
  · split at hh
    · simp only [Option.some.injEq] at hh; subst hh; simp_all
    · split at hh
      · cases hh
      · simp only [Option.some.injEq] at hh; subst hh; simp_all
  · split at hh
    · simp only [Option.some.injEq] at hh; subst hh; simp_all
    · split at hh
      · cases hh
      · simp only [Option.some.injEq] at hh; subst hh; simp_all
theorem fgM_odd (fg : List Nat) (i : Nat) (h : i % 2 = 1) : fgM fg i = some i := by
  simp [fgM, inFg, h]
theorem renM_odd {i h : Nat} (hi : i % 2 = 0) (hh : h % 2 = 0) (k : Nat) (hk : k % 2 = 1) : renM h i k = some k := by
  unfold renM
  rw [if_neg (by intro e; omega), if_neg (by intro e; omega)]

def liveFg (fg : List Nat) : List (Nat × Ob) → Bool
  | [] => false
  | (i, _) :: r => inFg fg i || liveFg fg r
def AS.forget (fg : List Nat) (s : AS) : AS := if liveFg fg s.mem then s.mv (fgM fg) else s
/-- A slice that was made under a passing name gets the variable's. -/
def homK (s : AS) (h : Nat) (fg : List Nat) (x : AV) : AS :=
  match x with
  | .row id _ _ _ => if (inFg fg id && h % 2 == 0 && !(id == h)) then s.mv (renM id h) else s
  | _ => s
def AS.hom (h : Option (Nat × List Nat)) (d : Option Nat) (s : AS) : AS :=
  match h, d with
  | some (h, fg), some d => homK s h fg (s.look d)
  | _, _ => s
def FS.hom (h : Option (Nat × List Nat)) (d : Option Nat) (f : FS) : FS :=
  match h, d with
  | some (h, fg), some d => match f.lk d with
    | .row id _ _ _ => if (inFg fg id && h % 2 == 0 && !(id == h)) then f.mv (renM id h) (renM h id) else f
    | _ => f
  | _, _ => f

def io (Γ : Cts) (o : IOp) (s : AS) (K : AS → Prop) : Prop :=
  match ie Γ o.op o.n s.look (lookL s.mem) with
  | some (p, v, up) => p ∧ K (((s.upd up).put o.d v).hom o.h o.d)
  | none => False

def ig (Γ : Cts) (o : IOp) (s : AS) (K : AS → Prop) : Prop :=
  match o.g with
  | none => io Γ o s K
  | some (t, want) => match s.look t with
    | .lit (.bool b) => match want with
      | true => onB b (io Γ o (s.put (some t) (.lit (.bool true))) K) (K ((s.put (some t) (.lit (.bool false))).put o.d skipV))
      | false => onB b (K ((s.put (some t) (.lit (.bool true))).put o.d skipV)) (io Γ o (s.put (some t) (.lit (.bool false))) K)
    | .tup [] => K (s.put o.d skipV)
    | _ => False

def iOps (Γ : Cts) : List IOp → AS → (AS → Prop) → Prop
  | [], s, K => K s
  | o :: r, s, K => ig Γ o s fun s => iOps Γ r s K

theorem rep_bool {w : World} {S : Nat → Prop} {β : Nat → Option Blk} {b : Bool} {u : Value} (h : rep w S β (.lit (.bool b)) u) : u = .bool b := by simp only [rep] at h; exact h.1
theorem rep_skip {w : World} {S : Nat → Prop} {β : Nat → Option Blk} {u : Value} (h : rep w S β (.tup []) u) : u = undef := by
  simp only [rep] at h
  obtain ⟨us, rfl, h⟩ := h
  simp only [reps] at h
  subst h; rfl

section
variable {P : Program} {c : Ctx} {Γ : Cts} {tab : TT}

theorem evX_ixOf (lk : Nat → AV) (x : Operand) : evX lk (ixOf x) = evF lk x := by cases x <;> rfl

theorem RepS.put_same {s : AS} {a : Act} {w : World} {t : Nat} {v : AV} (h : RepS c s a w) (hv : s.look t = v) : RepS c (s.put (some t) v) a w := by
  obtain ⟨S, β, h1, h2, h3⟩ := h
  unfold RepS
  rw [put_f]
  refine ⟨S, β, h1, fun k => ?_, h3⟩
  simp only [FS.put, fput_apply]
  by_cases e : some t = some k
  · rw [if_pos e]; injection e with e; subst e; rw [← hv]; exact h2 t
  · rw [if_neg e]; exact h2 k

theorem RepS.put_skip {s : AS} {a : Act} {w : World} {d : Option Nat} (h : RepS c s a w) (hd : ∀ t, d = some t → t < c.N) : RepS c (s.put d skipV) (a.put d undef) w := by
  obtain ⟨S, β, h1, h2, h3, h4, h5⟩ := h
  unfold RepS
  rw [put_f]
  refine ⟨S, β, h1, fun k => ?_, ?_, ?_, h5⟩
  · simp only [FS.put, fput_apply]
    rw [getD_put k (fun t e => by rw [h3]; exact hd t e)]
    by_cases e : d = some k
    · rw [if_pos e, if_pos e]; exact ⟨by simp only [skipV, rep]; exact ⟨[], rfl, by simp [reps]⟩, fun v e => by cases e⟩
    · rw [if_neg e, if_neg e]; exact h2 k
  · cases d <;> simp [Act.put, h3]
  · cases d <;> simp [Act.put, h4]

theorem RepS.clr {s : AS} {a : Act} {w : World} (h : RepS c s a w) : RepS c s.clr a w := by
  obtain ⟨S, β, h1, h2, h3⟩ := h
  refine ⟨S, β, h1, fun k => ?_, h3⟩
  have e : s.clr.f.lk k = (match lookL s.vs k with | some v => v | none => .any) := rfl
  rw [e]
  have := h2 k
  simp only [AS.f] at this
  unfold AS.look at this
  cases hv : lookL s.vs k with
  | some v => rw [hv] at this; exact this
  | none => exact ⟨by simp [rep], plain_any⟩

theorem RepS.forget {s : AS} {a : Act} {w : World} (h : RepS c s a w) (fg : List Nat) : RepS c (s.forget fg) a w := by
  unfold AS.forget
  split
  · unfold RepS
    rw [mv_f s (fgM_iff fg)]
    exact RepF.mv h _ _ (fgM_iff fg) (fgM_odd fg)
  · exact h

theorem hom_f (s : AS) (h : Option (Nat × List Nat)) (d : Option Nat) : (s.hom h d).f = s.f.hom h d := by
  unfold AS.hom FS.hom
  split
  · rename_i h' fg d'
    unfold homK
    show _ = match s.look d' with | .row id _ _ _ => _ | _ => _
    split
    · split
      · rename_i hc
        simp only [Bool.and_eq_true, beq_iff_eq, Bool.not_eq_true', beq_eq_false_iff_ne, ne_eq] at hc
        exact mv_f s (renM_iff hc.2)
      · rfl
    · rfl
  · rfl

theorem RepF.hom {f : FS} {a : Act} {w : World} (h : RepF c f a w) (ho : Option (Nat × List Nat)) (d : Option Nat) : RepF c (f.hom ho d) a w := by
  unfold FS.hom
  split
  · rename_i h' fg d'
    split
    · split
      · rename_i hc
        simp only [Bool.and_eq_true, beq_iff_eq, Bool.not_eq_true', beq_eq_false_iff_ne, ne_eq, inFg] at hc
        exact RepF.mv h _ _ (renM_iff hc.2) (fun k hk => renM_odd hc.1.1.1 hc.1.2 k hk)
      · exact h
    · exact h
  · exact h

theorem io_sound (htab : TabOk P tab) (hΓ : GOk P Γ) {o : Oper} {n : Nat} {g : Option (Nat × Bool)} {hh : Option (Nat × List Nat)} {fl : Option Nat} {us : List Nat} {s : AS} {a : Act} {w : World} {K : AS → Prop} (hd : ∀ t, o.dst = some t → t < c.N) (h : io Γ ⟨o.dst, n, g, opOf tab o.op, hh, fl, us⟩ s K) (hs : RepS c s a w)
    {next : Act → World → Prop} {Q : Exit → Act → World → Prop} (hn : ∀ s' a' w', K s' → RepS c s' a' w' → next a' w') : o.wp P a w next Q := by
  obtain ⟨S, β, h1, h2, h3, h4, h5, h6, h7⟩ := hs
  unfold io at h
  simp only at h
  split at h
  · rename_i p v up he
    refine ie_sound htab hΓ (evX_ixOf s.look) he h.1 h1 (ev_sound h2) next Q (fun u w' S' β' hdone => hn _ _ _ h.2 ?_)
    unfold RepS
    rw [hom_f, put_f, upd_f]
    refine RepF.hom ?_ _ _
    exact RepF.step h1 h2 h3 h4 h5 h6 h7 hd hdone
  · exact h.elim

theorem io_bad {o : IOp} {s : AS} {K : AS → Prop} (hb : o.op = .bad) (h : io Γ o s K) : False := by
  unfold io at h
  rw [hb] at h
  simp [ie, pureE, pe] at h

end
end Go.Ax
