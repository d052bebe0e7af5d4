import Derived.Orders
import Derived.Below
import Derived.Laws.AppendOwn
import Derived.Laws.Cells
set_option linter.unusedVariables false
set_option linter.unusedSimpArgs false
namespace Go.Ax
open Go

/-- Abstract values. -/
inductive AV where
  | lit (v : Value)
  | any
  | agg (cs : List AV)
  | sl (sz : Nat) (xs : List AV)
  | row (id sz lo n : Nat)
  | ptr (id i o : Nat)
  | rp (x : AV) (o : Nat)
  | fn (f : FuncId) (caps : List AV)
  | tup (vs : List AV)
  deriving Inhabited

def AV.cells : AV → List AV
  | .agg cs => cs
  | x => [x]

/-- An object of the call's own: elements of sz cells. -/
structure Ob where
  sz : Nat
  els : List AV
  /-- its elements name no object -/
  cl : Bool
  /-- nothing is known of it -/
  dd : Bool

/-- Where an object lies. -/
structure Blk where
  b : Nat
  o : Nat
  cap : Nat
  sz : Nat
  deriving Inhabited

def β0 : Nat → Option Blk := fun _ => none

/-- What an object's elements may name. -/
def βc (cl : Bool) (β : Nat → Option Blk) : Nat → Option Blk := if cl then β0 else β

section
variable (w : World) (S : Nat → Prop)

mutual
def rep (β : Nat → Option Blk) : AV → Value → Prop
  | .lit v, u => u = v ∧ v.oneCell' = true
  | .any, _ => True
  | .agg cs, u => ∃ us : List Value, u = .agg us.toArray ∧ (∀ c ∈ us, c.oneCell' = true) ∧ reps β cs us
  | .sl sz xs, u => ∃ a cap, u = .slice a xs.length cap ∧ (xs.length ≤ cap ∧ cap ≤ maxLen) ∧ (xs = [] ∨ ∃ b o, a = some ⟨b, o, none⟩ ∧ S b ∧ repEls β0 sz xs b o)
  | .row id sz lo n, u => ∃ bl a, β id = some bl ∧ u = .slice a n (bl.cap - lo) ∧ lo + n ≤ bl.cap ∧ sz = bl.sz ∧ (lo < bl.cap → a = some ⟨bl.b, bl.o + lo * sz, none⟩)
  | .ptr id i o, u => ∃ bl, β id = some bl ∧ u = .pointer (some ⟨bl.b, bl.o + i * bl.sz + o, none⟩)
  | .rp x o, u => ∃ b k, S b ∧ repEl β0 x b k ∧ u = .pointer (some ⟨b, k + o, none⟩)
  | .fn f caps, u => ∃ us : List Value, u = .func (.func f) #[] us.toArray ∧ reps β caps us
  | .tup vs, u => ∃ us : List Value, u = .tuple us.toArray ∧ reps β vs us
termination_by x _ => (SizeOf.sizeOf x, 0)
def reps (β : Nat → Option Blk) : List AV → List Value → Prop
  | [], us => us = []
  | x :: xs, us => ∃ v vs, us = v :: vs ∧ rep β x v ∧ reps β xs vs
termination_by x _ => (SizeOf.sizeOf x, 0)
def repCells (β : Nat → Option Blk) : List AV → Nat → Nat → Prop
  | [], _, _ => True
  | x :: xs, b, o => (∃ v, w.cell? ⟨b, o, none⟩ = some v ∧ v.oneCell' = true ∧ rep β x v) ∧ repCells β xs b (o + 1)
termination_by x _ _ => (SizeOf.sizeOf x, 0)
def repEl (β : Nat → Option Blk) : AV → Nat → Nat → Prop
  | .agg cs, b, o => repCells β cs b o
  | x, b, o => ∃ v, w.cell? ⟨b, o, none⟩ = some v ∧ v.oneCell' = true ∧ rep β x v
termination_by x _ _ => (SizeOf.sizeOf x, 1)
def repEls (β : Nat → Option Blk) : Nat → List AV → Nat → Nat → Prop
  | _, [], _, _ => True
  | sz, x :: xs, b, o => x.cells.length = sz ∧ repEl β x b o ∧ repEls β sz xs b (o + sz)
termination_by _ x _ _ => (SizeOf.sizeOf x, 0)
end
end

mutual
def AV.has (k : Nat) : AV → Bool
  | .row id _ _ _ | .ptr id _ _ => id == k
  | .agg cs | .tup cs | .fn _ cs => hasL k cs
  | _ => false
def hasL (k : Nat) : List AV → Bool
  | [] => false
  | x :: xs => x.has k || hasL k xs
end

theorem repEl_cells (w : World) (S : Nat → Prop) (β : Nat → Option Blk) (x : AV) (b o : Nat) : repEl w S β x b o ↔ repCells w S β x.cells b o := by
  cases x <;> simp [repEl, repCells, AV.cells]

/-- What a reading leans on: the stable blocks are as they were, the objects that it names lie where they lay. -/
theorem rep_mono_all {w w' : World} {S S' : Nat → Prop} (hS : ∀ b, S b → S' b ∧ w'.heap[b]? = w.heap[b]?) :
    (∀ (β : Nat → Option Blk) (x : AV) (u : Value), ∀ β', (∀ id, x.has id = true → ∀ bl, β id = some bl → β' id = some bl) → rep w S β x u → rep w' S' β' x u) ∧
    (∀ (β : Nat → Option Blk) (x : AV) (b o : Nat), w'.heap[b]? = w.heap[b]? → ∀ β', (∀ id, x.has id = true → ∀ bl, β id = some bl → β' id = some bl) → repEl w S β x b o → repEl w' S' β' x b o) ∧
    (∀ (β : Nat → Option Blk) (xs : List AV) (b o : Nat), w'.heap[b]? = w.heap[b]? → ∀ β', (∀ id, hasL id xs = true → ∀ bl, β id = some bl → β' id = some bl) → repCells w S β xs b o → repCells w' S' β' xs b o) ∧
    (∀ (β : Nat → Option Blk) (sz : Nat) (xs : List AV) (b o : Nat), w'.heap[b]? = w.heap[b]? → ∀ β', (∀ id, hasL id xs = true → ∀ bl, β id = some bl → β' id = some bl) → repEls w S β sz xs b o → repEls w' S' β' sz xs b o) ∧
    (∀ (β : Nat → Option Blk) (xs : List AV) (us : List Value), ∀ β', (∀ id, hasL id xs = true → ∀ bl, β id = some bl → β' id = some bl) → reps w S β xs us → reps w' S' β' xs us) := by
  apply rep.mutual_induct (motive1 := fun β x u => ∀ β', (∀ id, x.has id = true → ∀ bl, β id = some bl → β' id = some bl) → rep w S β x u → rep w' S' β' x u)
    (motive2 := fun β x b o => w'.heap[b]? = w.heap[b]? → ∀ β', (∀ id, x.has id = true → ∀ bl, β id = some bl → β' id = some bl) → repEl w S β x b o → repEl w' S' β' x b o)
    (motive3 := fun β xs b o => w'.heap[b]? = w.heap[b]? → ∀ β', (∀ id, hasL id xs = true → ∀ bl, β id = some bl → β' id = some bl) → repCells w S β xs b o → repCells w' S' β' xs b o)
    (motive4 := fun β sz xs b o => w'.heap[b]? = w.heap[b]? → ∀ β', (∀ id, hasL id xs = true → ∀ bl, β id = some bl → β' id = some bl) → repEls w S β sz xs b o → repEls w' S' β' sz xs b o)
    (motive5 := fun β xs us => ∀ β', (∀ id, hasL id xs = true → ∀ bl, β id = some bl → β' id = some bl) → reps w S β xs us → reps w' S' β' xs us)
  case case1 => intro β v u β' hb h; simpa [rep] using h
  case case2 => intro β u β' hb h; simp [rep]
  case case3 =>
    intro β cs u ih β' hb h
    simp only [rep] at h ⊢
    obtain ⟨us, rfl, h1, h⟩ := h
    exact ⟨us, rfl, h1, ih us β' (fun id h => hb id (by simpa [AV.has] using h)) h⟩
  case case4 =>
    intro β sz xs u ih β' hb h
    simp only [rep] at h ⊢
    obtain ⟨a, cap, rfl, hc, h⟩ := h
    refine ⟨a, cap, rfl, hc, h.imp id ?_⟩
    rintro ⟨b, o, rfl, hs, h⟩
    exact ⟨b, o, rfl, (hS b hs).1, ih b o (hS b hs).2 β0 (fun _ _ _ h => h) h⟩
  case case5 =>
    intro β id sz lo n u β' hb h
    simp only [rep] at h ⊢
    obtain ⟨bl, a, e, h⟩ := h
    exact ⟨bl, a, hb id (by simp [AV.has]) bl e, h⟩
  case case6 =>
    intro β id i o u β' hb h
    simp only [rep] at h ⊢
    obtain ⟨bl, e, h⟩ := h
    exact ⟨bl, hb id (by simp [AV.has]) bl e, h⟩
  case case7 =>
    intro β x o u ih β' hb h
    simp only [rep] at h ⊢
    obtain ⟨b, k, hs, h, rfl⟩ := h
    exact ⟨b, k, (hS b hs).1, ih b k (hS b hs).2 β0 (fun _ _ _ h => h) h, rfl⟩
  case case8 =>
    intro β f caps u ih β' hb h
    simp only [rep] at h ⊢
    obtain ⟨us, rfl, h⟩ := h
    exact ⟨us, rfl, ih us β' (fun id h => hb id (by simpa [AV.has] using h)) h⟩
  case case9 =>
    intro β vs u ih β' hb h
    simp only [rep] at h ⊢
    obtain ⟨us, rfl, h⟩ := h
    exact ⟨us, rfl, ih us β' (fun id h => hb id (by simpa [AV.has] using h)) h⟩
  case case10 =>
    intro β cs b o ih he β' hb h
    simp only [repEl] at h ⊢
    exact ih he β' (fun id h => hb id (by simpa [AV.has] using h)) h
  case case11 =>
    intro β x b o hx ih he β' hb h
    rw [repEl] at h ⊢
    · obtain ⟨v, hc, h1, h⟩ := h
      exact ⟨v, by rw [World.cell?_of_block (w := w) he]; exact hc, h1, ih v β' hb h⟩
    · exact hx
    · exact hx
  case case12 => intro β b o he β' hb h; simp [repCells]
  case case13 =>
    intro β x xs b o ih1 ih2 he β' hb h
    simp only [repCells] at h ⊢
    obtain ⟨⟨v, hc, h1, h⟩, h2⟩ := h
    exact ⟨⟨v, by rw [World.cell?_of_block (w := w) he]; exact hc, h1, ih1 v β' (fun id h => hb id (by simp [hasL, h])) h⟩, ih2 he β' (fun id h => hb id (by simp [hasL, h])) h2⟩
  case case14 => intro β sz b o he β' hb h; simp [repEls]
  case case15 =>
    intro β sz x xs b o ih1 ih2 he β' hb h
    simp only [repEls] at h ⊢
    exact ⟨h.1, ih1 he β' (fun id h => hb id (by simp [hasL, h])) h.2.1, ih2 he β' (fun id h => hb id (by simp [hasL, h])) h.2.2⟩
  case case16 => intro β us β' hb h; simpa [reps] using h
  case case17 =>
    intro β x xs us ih1 ih2 β' hb h
    simp only [reps] at h ⊢
    obtain ⟨v, vs, rfl, h1, h2⟩ := h
    exact ⟨v, vs, rfl, ih1 v β' (fun id h => hb id (by simp [hasL, h])) h1, ih2 vs β' (fun id h => hb id (by simp [hasL, h])) h2⟩

theorem rep_mono {w w' : World} {S S' : Nat → Prop} (hS : ∀ b, S b → S' b ∧ w'.heap[b]? = w.heap[b]?) {β β' : Nat → Option Blk} {x : AV} {u : Value} (hb : ∀ id, x.has id = true → ∀ bl, β id = some bl → β' id = some bl) (h : rep w S β x u) : rep w' S' β' x u := (rep_mono_all hS).1 β x u β' hb h
theorem repCells_mono {w w' : World} {S S' : Nat → Prop} (hS : ∀ b, S b → S' b ∧ w'.heap[b]? = w.heap[b]?) {β β' : Nat → Option Blk} {xs : List AV} {b o : Nat} (he : w'.heap[b]? = w.heap[b]?) (hb : ∀ id, hasL id xs = true → ∀ bl, β id = some bl → β' id = some bl) (h : repCells w S β xs b o) : repCells w' S' β' xs b o := (rep_mono_all hS).2.2.1 β xs b o he β' hb h
theorem repEls_mono {w w' : World} {S S' : Nat → Prop} (hS : ∀ b, S b → S' b ∧ w'.heap[b]? = w.heap[b]?) {β β' : Nat → Option Blk} {sz : Nat} {xs : List AV} {b o : Nat} (he : w'.heap[b]? = w.heap[b]?) (hb : ∀ id, hasL id xs = true → ∀ bl, β id = some bl → β' id = some bl) (h : repEls w S β sz xs b o) : repEls w' S' β' sz xs b o := (rep_mono_all hS).2.2.2.1 β sz xs b o he β' hb h
theorem reps_mono {w w' : World} {S S' : Nat → Prop} (hS : ∀ b, S b → S' b ∧ w'.heap[b]? = w.heap[b]?) {β β' : Nat → Option Blk} {xs : List AV} {us : List Value} (hb : ∀ id, hasL id xs = true → ∀ bl, β id = some bl → β' id = some bl) (h : reps w S β xs us) : reps w' S' β' xs us := (rep_mono_all hS).2.2.2.2 β xs us β' hb h

/-- A reading that names no object holds whatever objects there are. -/
theorem rep_of_closed {w : World} {S : Nat → Prop} {x : AV} {u : Value} (β : Nat → Option Blk) (h : rep w S β0 x u) : rep w S β x u :=
  rep_mono (fun b hb => ⟨hb, rfl⟩) (fun id _ bl e => by simp [β0] at e) h

/-- What is named is there. -/
theorem rep_live {w : World} {S : Nat → Prop} :
    (∀ (β : Nat → Option Blk) (x : AV) (u : Value), ∀ id, x.has id = true → rep w S β x u → β id ≠ none) ∧
    (∀ (β : Nat → Option Blk) (x : AV) (b o : Nat), True) ∧ (∀ (β : Nat → Option Blk) (x : List AV) (b o : Nat), ∀ id, hasL id x = true → repCells w S β x b o → β id ≠ none) ∧ (∀ (β : Nat → Option Blk) (sz : Nat) (x : List AV) (b o : Nat), True) ∧
    (∀ (β : Nat → Option Blk) (xs : List AV) (us : List Value), ∀ id, hasL id xs = true → reps w S β xs us → β id ≠ none) := by
  apply rep.mutual_induct (motive1 := fun β x u => ∀ id, x.has id = true → rep w S β x u → β id ≠ none)
    (motive2 := fun β x b o => True) (motive3 := fun β x b o => ∀ id, hasL id x = true → repCells w S β x b o → β id ≠ none) (motive4 := fun β sz x b o => True)
    (motive5 := fun β xs us => ∀ id, hasL id xs = true → reps w S β xs us → β id ≠ none)
  case case5 =>
    intro β id sz lo n u k hk h
    simp only [rep] at h
    obtain ⟨bl, a, e, h⟩ := h
    simp [AV.has] at hk; subst hk; simp [e]
  case case6 =>
    intro β id i o u k hk h
    simp only [rep] at h
    obtain ⟨bl, e, h⟩ := h
    simp [AV.has] at hk; subst hk; simp [e]
  case case3 => intro β cs u ih id hk h; simp only [rep] at h; obtain ⟨us, rfl, _, h⟩ := h; exact ih us id (by simpa [AV.has] using hk) h
  case case8 => intro β f cs u ih id hk h; simp only [rep] at h; obtain ⟨us, rfl, h⟩ := h; exact ih us id (by simpa [AV.has] using hk) h
  case case9 => intro β cs u ih id hk h; simp only [rep] at h; obtain ⟨us, rfl, h⟩ := h; exact ih us id (by simpa [AV.has] using hk) h
  case case17 =>
    intro β x xs us ih1 ih2 id hk h
    simp only [reps] at h
    obtain ⟨v, vs, rfl, h1, h2⟩ := h
    simp only [hasL, Bool.or_eq_true] at hk
    exact hk.elim (fun hk => ih1 v id hk h1) (fun hk => ih2 vs id hk h2)
  case case13 =>
    intro β x xs b o ih1 ih2 id hk h
    simp only [repCells] at h
    obtain ⟨⟨v, _, _, h1⟩, h2⟩ := h
    simp only [hasL, Bool.or_eq_true] at hk
    exact hk.elim (fun hk => ih1 v id hk h1) (fun hk => ih2 id hk h2)
  all_goals (intros; simp_all [AV.has, hasL])
end Go.Ax
namespace Go.Ax
open Go

/-! ## types -/
def tSize (P : Program) (t : TypeId) : Nat := ((P.info? t).map (·.size)).getD 0
def tBytes (P : Program) (t : TypeId) : Nat := ((P.info? t).map (·.bytes)).getD 0
def tKnown (P : Program) (t : TypeId) : Bool := (P.info? t).isSome && (P.underlying t).isSome
def tAgg (P : Program) (t : TypeId) : Bool := match P.underlying t with | some (.struct _) | some (.array _ _) => true | _ => false
def tElem (P : Program) (t : TypeId) : Option TypeId := match P.underlying t with | some (.slice e) => some e | _ => none
def tString (P : Program) (t : TypeId) : Bool := match P.underlying t with | some .string => true | _ => false
def tInt (P : Program) (t : TypeId) : Option IntKind := match P.underlying t with | some (.int k) => some k | _ => none
/-- Of a struct's field: where it begins, how many cells it has, is it a struct or an array. -/
def tField (P : Program) (t : TypeId) (f : Nat) : Option (Nat × Nat × Bool) :=
  match P.underlying t with
  | some (.struct fs) => match fs[f]? with
    | some x => if tKnown P x.type && tSize P x.type != 0 then some (x.offset, tSize P x.type, tAgg P x.type) else none
    | none => none
  | _ => none
def ofVal : Value → AV
  | .agg cs => .agg (cs.toList.map .lit)
  | v => .lit v
def tZero (P : Program) (t : TypeId) : Option AV := match (P.info? t).bind (·.zero) with
  | some z => if z.cells.all (·.oneCell') then some (ofVal z) else none
  | none => none

/-! ## states -/
abbrev Env := Operand → AV
abbrev Look := Nat → Option Ob
def nilS : AV := .lit (.slice none 0 0)
def mkI (n : Int) : AV := .lit (.int .i64 n)
def mkB (b : Bool) : AV := .lit (.bool b)

/-- A part of an element: from cell o on, as a value of a type of so many cells. -/
def partOf (x : AV) (o n : Nat) (agg : Bool) (K : AV → Prop) : Prop :=
  if agg then match x with
    | .agg cs => o + n ≤ cs.length ∧ K (.agg ((cs.drop o).take n))
    | _ => False
  else match x with
    | .agg cs => match cs.drop o with
      | c :: _ => K c
      | [] => False
    | y => o = 0 ∧ K y

def putPart (x : AV) (o : Nat) (v : AV) (n : Nat) : AV :=
  match x with
  | .agg cs => .agg (cs.take o ++ v.cells ++ cs.drop (o + n))
  | _ => v

def elAt (xs : List AV) (i : Int) (K : AV → Prop) : Prop := 0 ≤ i ∧ ∃ x, xs[i.toNat]? = some x ∧ K x

def eqLit : Value → Value → Option Bool
  | .int _ a, .int _ b => some (a == b)
  | .bool a, .bool b => some (a == b)
  | .string a, .string b => some (a.toList == b.toList)
  | _, _ => none

def tBool (P : Program) (t : TypeId) : Bool := match P.underlying t with | some .bool => true | _ => false
def bin (P : Program) (t : TypeId) (op : BinOp) (x y : AV) (K : AV → Prop) : Prop :=
  match x, y with
  | .lit (.int k a), .lit (.int k' b) =>
    match op with
    | .shl => 0 ≤ b ∧ K (.lit (.int k (k.wrap (a * 2 ^ min b.toNat k.bits))))
    | .shr => 0 ≤ b ∧ K (.lit (.int k (a.fdiv (2 ^ min b.toNat k.bits))))
    | .add => k = k' ∧ K (.lit (.int k (k.wrap (a + b))))
    | .sub => k = k' ∧ K (.lit (.int k (k.wrap (a - b))))
    | .mul => k = k' ∧ K (.lit (.int k (k.wrap (a * b))))
    | .quo => k = k' ∧ b ≠ 0 ∧ K (.lit (.int k (k.wrap (a.tdiv b))))
    | .rem => k = k' ∧ b ≠ 0 ∧ K (.lit (.int k (a.tmod b)))
    | .and => k = k' ∧ K (.lit (.int k (k.wrap (BitVec.ofInt k.bits a &&& BitVec.ofInt k.bits b).toNat)))
    | .or => k = k' ∧ K (.lit (.int k (k.wrap (BitVec.ofInt k.bits a ||| BitVec.ofInt k.bits b).toNat)))
    | .xor => k = k' ∧ K (.lit (.int k (k.wrap (BitVec.ofInt k.bits a ^^^ BitVec.ofInt k.bits b).toNat)))
    | .andNot => k = k' ∧ K (.lit (.int k (k.wrap (BitVec.ofInt k.bits a &&& ~~~ (BitVec.ofInt k.bits b)).toNat)))
    | .eql => k = k' ∧ K (mkB (a == b))
    | .neq => k = k' ∧ K (mkB (a != b))
    | .lss => k = k' ∧ K (mkB (decide (a < b)))
    | .leq => k = k' ∧ K (mkB (decide (a ≤ b)))
    | .gtr => k = k' ∧ K (mkB (decide (a > b)))
    | .geq => k = k' ∧ K (mkB (decide (a ≥ b)))
  | .lit (.bool a), .lit (.bool b) => match op with
    | .eql => tBool P t = true ∧ K (mkB (a == b))
    | .neq => tBool P t = true ∧ K (mkB (!(a == b)))
    | _ => False
  | .lit (.string a), .lit (.string b) => match op with
    | .add => ((a.size + b.size : Nat) : Int) ≤ IntKind.i64.max ∧ K (.lit (.string (a ++ b)))
    | .eql => K (mkB (a.toList == b.toList))
    | .neq => K (mkB (!(a.toList == b.toList)))
    | _ => False
  | _, _ => False

def un (op : UnOp) (x : AV) (K : AV → Prop) : Prop :=
  match op, x with
  | .not, .lit (.bool b) => K (mkB (!b))
  | .neg, .lit (.int k n) => K (.lit (.int k (k.wrap (0 - n))))
  | .xor, .lit (.int k n) => K (.lit (.int k (k.wrap (BitVec.ofInt k.bits (if k.signed then -1 else k.max) ^^^ BitVec.ofInt k.bits n).toNat)))
  | _, _ => False

def AV.isAny : AV → Bool | .any => true | _ => false
def AV.isAgg : AV → Bool | .agg _ => true | _ => false
mutual
/-- It names no object. -/
def AV.closed : AV → Bool
  | .row _ _ _ _ | .ptr _ _ _ => false
  | .agg cs | .tup cs | .fn _ cs => closedL cs
  | _ => true
def closedL : List AV → Bool
  | [] => true
  | x :: xs => x.closed && closedL xs
end
def AV.noLit : AV → Bool | .lit _ => false | _ => true
def AV.isTup : AV → Bool | .tup _ => true | _ => false
/-- A struct type's fields: offset and size. -/
def tPlaces (P : Program) (t : TypeId) : Option (List (Nat × Nat)) :=
  match P.underlying t with
  | some (.struct fields) => fields.toList.mapM (fun f => (P.info? f.type).map fun i => (f.offset, i.size))
  | _ => none
def fillAV (ps : List (Nat × Nat)) (ev : Env) : List (Nat × Operand) → List AV → Option (List AV)
  | [], cs => some cs
  | (f, x) :: r, cs => match ps[f]? with
    | some (o, n) => if (ev x).isAny = false ∧ (ev x).isTup = false ∧ (ev x).cells.length = n ∧ o + n ≤ cs.length then fillAV ps ev r (cs.take o ++ (ev x).cells ++ cs.drop (o + n)) else none
    | none => none

def minL : List AV → Option Int
  | [.lit (.int .i64 a)] => some a
  | .lit (.int .i64 a) :: r => (minL r).map fun b => if b < a then b else a
  | _ => none

def lenAV (P : Program) (t : TypeId) (x : AV) (K : AV → Prop) : Prop :=
  if tString P t then match x with
    | .lit (.string s) => K (mkI s.size)
    | _ => False
  else (tElem P t).isSome = true ∧ match x with
    | .lit (.slice _ n _) => K (mkI n)
    | .sl _ xs => K (mkI xs.length)
    | .row _ _ _ n => K (mkI n)
    | _ => False

/-- The operations that neither read nor write an object. -/
def px (P : Program) (op : Op) (ev : Env) (K : AV → Prop) : Prop :=
  match op with
  | .move x | .assign x => K (ev x)
  | .pick c a b => match ev c with
    | .lit (.bool true) => K (ev a)
    | .lit (.bool false) => K (ev b)
    | _ => False
  | .nilCheck x => match ev x with
    | .ptr id i o => K (.ptr id i o)
    | .rp x o => K (.rp x o)
    | .lit (.pointer (some a)) => K (.lit (.pointer (some a)))
    | _ => False
  | .build t parts => match tZero P t, tPlaces P t with
    | some (.agg z), some ps => match fillAV ps ev parts.toList z with
      | some cs => K (.agg cs)
      | none => False
    | _, _ => False
  | .binOp op t x y _ => bin P t op (ev x) (ev y) K
  | .unOp op _ x => un op (ev x) K
  | .convert s d x => tKnown P s = true ∧ match tInt P d, ev x with
    | some k, .lit (.int _ n) => K (.lit (.int k (k.wrap n)))
    | _, _ => False
  | .fieldAddr t x f => match tField P t f, ev x with
    | some (o, _, _), .ptr id i p => K (.ptr id i (p + o))
    | some (o, _, _), .rp x p => K (.rp x (p + o))
    | _, _ => False
  | .field t x f => match tField P t f with
    | some (o, n, g) => match ev x with
      | .agg cs => partOf (.agg cs) o n g K
      | _ => False
    | none => False
  | .indexAddr t x i => match tElem P t, ev i with
    | some e, .lit (.int _ n) => match ev x with
      | .sl sz xs => tKnown P e = true ∧ sz = tSize P e ∧ elAt xs n fun y => K (.rp y 0)
      | .row id sz lo m => tKnown P e = true ∧ sz = tSize P e ∧ 0 ≤ n ∧ n < m ∧ K (.ptr id (lo + n.toNat) 0)
      | _ => False
    | _, _ => False
  | .index t x i => tString P t = true ∧ match ev x, ev i with
    | .lit (.string s), .lit (.int _ n) => 0 ≤ n ∧ ∃ b, s.data.toList[n.toNat]? = some b ∧ K (.lit (.int .u8 b.toNat))
    | _, _ => False
  | .extract x i => match ev x with
    | .tup vs => match vs.drop i with
      | v :: _ => K v
      | [] => False
    | _ => False
  | .load t x => tKnown P t = true ∧ match ev x with
    | .rp y o => partOf y o (tSize P t) (tAgg P t) K
    | _ => False
  | .makeFunc (.func f) first caps => first = #[] ∧ K (.fn f (caps.toList.map ev))
  | .call { callee := .builtin .len, args, argTypes } => match args.toList, argTypes.toList with
    | [x], [t] => lenAV P t (ev x) K
    | _, _ => False
  | .call { callee := .builtin .min, args, .. } => match args.toList.map ev with
    | [.lit (.int .i64 a), .lit (.int .i64 b)] => K (mkI (if b < a then b else a))
    | _ => False
  | .call { callee := .builtin .max, args, .. } => match args.toList.map ev with
    | [.lit (.int .i64 a), .lit (.int .i64 b)] => K (mkI (if b > a then b else a))
    | _ => False
  | _ => False
end Go.Ax
