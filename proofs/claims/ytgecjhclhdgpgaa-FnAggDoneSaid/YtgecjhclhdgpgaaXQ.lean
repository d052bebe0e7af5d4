import Derived.Test.YtgecjhclhdgpgaaXM2
import Derived.Test.YtgecjhclhdgpgaaXO4
import Derived.Test.YtgecjhclhdgpgaaXO7
import Derived.Test.YtgecjhclhdgpgaaXO8
set_option linter.unusedVariables false
set_option linter.unusedSimpArgs false
namespace Go.Ax
open Go

section
variable {Γ : Cts} {k : List Fr} {s : AS} {Q : Ex → AS → Prop}
theorem and_imp_eq {a b c : Prop} (h : a → (b = c)) : (a ∧ b) = (a ∧ c) := by
  apply propext
  constructor
  · rintro ⟨h1, h2⟩; exact ⟨h1, (h h1) ▸ h2⟩
  · rintro ⟨h1, h2⟩; exact ⟨h1, (h h1).symm ▸ h2⟩
theorem rK_idx {α : Type} [Inhabited α] (f : α → AV) (l : List α) (sz z : Nat) (kk : IntKind) (n : Int) (h : Option (Nat × List Nat)) (d : Option Nat) (fr : Fr) :
    rK Γ (pureE (idxE sz (.sl z (encL f l)) (.lit (.int kk n)))) h d fr k s Q = ((z = sz ∧ 0 ≤ n ∧ n.toNat < l.length) ∧ run Γ (fr :: k) ((s.put d (.rp (f (l.getD n.toNat default)) 0)).hom h d) Q) := by
  simp only [idxE, rK_pure, encL_length]
  exact and_imp_eq (fun h => by rw [encL_getD f l _ h.2.2])
theorem idxE_row (sz id z lo m : Nat) (kk : IntKind) (n : Int) : idxE sz (.row id z lo m) (.lit (.int kk n)) = some (z = sz ∧ 0 ≤ n ∧ n < m, .ptr id (lo + n.toNat) 0) := (rfl)
theorem postX_ret (rs : List RIx) (K : AV → AS → Prop) : postX rs K .ret s = resK (resE s rs) s K := (rfl)
theorem postX_normal (rs : List RIx) (K : AV → AS → Prop) : postX rs K .normal s = resK (resE s rs) s K := (rfl)

/-- A load out of an object. -/
def ldAt (els : List AV) (i o n : Nat) (g : Bool) (c : Prop) : Option (Prop × AV) := (part? (els.getD i .any) o n g).map fun v => (c ∧ i < els.length, v)
theorem ldE_ptr (n : Nat) (g : Bool) (id i o : Nat) (lk : Look) : ldE n g (.ptr id i o) lk = match lk id with | some ob => ldAt ob.els i o n g (ob.dd = false ∨ ob.cl = false) | none => none := (rfl)
theorem ldE_rp (n : Nat) (g : Bool) (y : AV) (o : Nat) (lk : Look) : ldE n g (.rp y o) lk = (part? y o n g).map fun v => (True, v) := (rfl)
theorem ldAt_zero (x : AV) (xs : List AV) (o n : Nat) (g : Bool) (c : Prop) : ldAt (x :: xs) 0 o n g c = (part? x o n g).map fun v => (c, v) := by
  simp [ldAt]
theorem ldAt_succ (x : AV) (xs : List AV) (i o n : Nat) (g : Bool) (c : Prop) : ldAt (x :: xs) (i + 1) o n g c = ldAt xs i o n g c := by
  simp [ldAt]
theorem rK_ldAt {α : Type} [Inhabited α] (f : α → AV) (l : List α) (i o n : Nat) (g : Bool) (c : Prop) (h : Option (Nat × List Nat)) (d : Option Nat) (fr : Fr) :
    rK Γ (pureE (ldAt (encL f l) i o n g c)) h d fr k s Q = ((c ∧ i < l.length) ∧ rK Γ (pureE ((part? (f (l.getD i default)) o n g).map fun v => (True, v))) h d fr k s Q) := by
  unfold ldAt
  by_cases hi : i < l.length
  · rw [encL_getD f l i hi, encL_length]
    cases part? (f (l.getD i default)) o n g with
    | none => simp [rK_pureN]
    | some v => simp [rK_pure]
  · cases hp : part? ((encL f l).getD i .any) o n g with
    | none => simp [hi, rK_pureN]
    | some v => simp [hi, rK_pure, encL_length]
end

/-! ## typed values, read off -/
theorem e_int (n : Int) : (Enc.e n : AV) = .lit (.int .i64 n) := (rfl)
theorem e_bool (b : Bool) : (Enc.e b : AV) = .lit (.bool b) := (rfl)
theorem e_str (b : ByteArray) : (Enc.e b : AV) = .lit (.string b) := (rfl)
theorem e_u64 (b : U64) : (Enc.e b : AV) = .lit (.int .u64 b.n) := (rfl)
theorem e_u8 (b : U8) : (Enc.e b : AV) = .lit (.int .u8 b.n) := (rfl)
theorem e_list {α : Type} [Enc α] (l : List α) : (Enc.e l : AV) = .sl (Enc.w α) (encL Enc.e l) := (rfl)
theorem w_int : Enc.w Int = 1 := (rfl)
theorem w_bool : Enc.w Bool = 1 := (rfl)
theorem w_str : Enc.w ByteArray = 1 := (rfl)
theorem w_u64 : Enc.w U64 = 1 := (rfl)
theorem w_u8 : Enc.w U8 = 1 := (rfl)
theorem w_list {α : Type} [Enc α] : Enc.w (List α) = 1 := (rfl)
theorem d_int (n : Int) : (Enc.d (.lit (.int .i64 n)) : Option Int) = some n := (rfl)
theorem d_bool (n : Bool) : (Enc.d (.lit (.bool n)) : Option Bool) = some n := (rfl)
theorem d_str (n : ByteArray) : (Enc.d (.lit (.string n)) : Option ByteArray) = some n := (rfl)
theorem d_u64 (n : Int) : (Enc.d (.lit (.int .u64 n)) : Option U64) = some ⟨n⟩ := (rfl)
theorem d_u8 (n : Int) : (Enc.d (.lit (.int .u8 n)) : Option U8) = some ⟨n⟩ := (rfl)
theorem d_list {α : Type} [Enc α] (z : Nat) (xs : List AV) : (Enc.d (.sl z xs) : Option (List α)) = decS z xs := (rfl)
theorem d_nil {α : Type} [Enc α] : (Enc.d (.lit (.slice none 0 0)) : Option (List α)) = some [] := (rfl)
theorem decS_if {α : Type} [Enc α] (z : Nat) (xs : List AV) : (decS z xs : Option (List α)) = if z = Enc.w α then decL Enc.d xs else (match xs with | [] => some [] | _ :: _ => none) := (rfl)
theorem decL_nil {α : Type} (d : AV → Option α) : decL d [] = some [] := (rfl)
theorem decL_cons {α : Type} (d : AV → Option α) (x : AV) (xs : List AV) : decL d (x :: xs) = (match d x with | some a => (match decL d xs with | some l => some (a :: l) | none => none) | none => none) := (rfl)
theorem es_one {α : Type} [Enc α] (a : α) : EncA.es a = [Enc.e a] := (rfl)
theorem es_unit (a : Unit) : EncA.es a = [] := (rfl)
theorem es_pair {α β : Type} [Enc α] [EncA β] (a : α × β) : EncA.es a = Enc.e a.1 :: EncA.es a.2 := (rfl)
theorem ds_one {α : Type} [Enc α] (x : AV) : (EncA.ds [x] : Option α) = Enc.d x := (rfl)
theorem ds_unit : (EncA.ds [] : Option Unit) = some () := (rfl)
theorem ds_pair {α β : Type} [Enc α] [EncA β] (x : AV) (r : List AV) : (EncA.ds (x :: r) : Option (α × β)) = (match Enc.d x with | some a => (match EncA.ds r with | some b => some (a, b) | none => none) | none => none) := (rfl)
theorem r_one {α : Type} [Enc α] (a : α) : (EncR.r a : AV) = Enc.e a := (rfl)
theorem r_unit (a : Unit) : (EncR.r a : AV) = .tup [] := (rfl)
theorem r_pair {α β : Type} [Enc α] [EncA β] (a : α × β) : (EncR.r a : AV) = .tup (EncA.es a) := (rfl)
theorem closed_e {α : Type} [Enc α] (a : α) : (Enc.e a).closed = true := Enc.cl a
theorem closed_encL {α : Type} [Enc α] (l : List α) : closedL (encL Enc.e l) = true := encL_closed l
theorem wk_self (x : AV) : wk x x = True := eq_true (wk_refl x)
theorem wkL_self (x : List AV) : wkL x x = True := eq_true (wkL_refl x)
theorem wk_int (k : IntKind) (a b : Int) : wk (.lit (.int k a)) (.lit (.int k b)) = (a = b) := by
  simp only [wk]; apply propext; constructor
  · rintro (h | ⟨h, _⟩)
    · injection h with h; injection h with _ h; exact h.symm
    · cases h
  · rintro rfl; exact .inl rfl
theorem wk_bool (a b : Bool) : wk (.lit (.bool a)) (.lit (.bool b)) = (a = b) := by
  simp only [wk]; apply propext; constructor
  · rintro (h | ⟨h, _⟩)
    · injection h with h; injection h with h; exact h.symm
    · cases h
  · rintro rfl; exact .inl rfl
theorem wk_str (a b : ByteArray) : wk (.lit (.string a)) (.lit (.string b)) = (a = b) := by
  simp only [wk]; apply propext; constructor
  · rintro (h | ⟨h, _⟩)
    · injection h with h; injection h with h; exact h.symm
    · cases h
  · rintro rfl; exact .inl rfl
theorem wk_agg (a b : List AV) : wk (.agg a) (.agg b) = wkL a b := by
  simp only [wk]; apply propext; constructor
  · rintro ⟨b', h, h'⟩; injection h with h; subst h; exact h'
  · exact fun h => ⟨b, rfl, h⟩
theorem wk_tup (a b : List AV) : wk (.tup a) (.tup b) = wkL a b := by
  simp only [wk]; apply propext; constructor
  · rintro ⟨b', h, h'⟩; injection h with h; subst h; exact h'
  · exact fun h => ⟨b, rfl, h⟩
theorem wk_sl (z : Nat) (a b : List AV) : wk (.sl z a) (.sl z b) = wkL a b := by
  simp only [wk]; apply propext; constructor
  · rintro ⟨z', b', h, _, h'⟩; injection h with _ h; subst h; exact h'
  · exact fun h => ⟨z, b, rfl, .inl rfl, h⟩
theorem wk_nil (z : Nat) (b : List AV) : wk (.lit (.slice none 0 0)) (.sl z b) = (b = []) := by
  simp only [wk]; apply propext; constructor
  · rintro (h | ⟨_, z', h⟩)
    · cases h
    · injection h with _ h
  · rintro rfl; exact .inr ⟨trivial, z, rfl⟩
theorem wkL_nil : wkL [] [] = True := eq_true (by simp [wkL])
theorem wkL_cons (x y : AV) (xs ys : List AV) : wkL (x :: xs) (y :: ys) = (wk x y ∧ wkL xs ys) := by
  simp only [wkL]; apply propext; constructor
  · rintro ⟨y', ys', h, h1, h2⟩; injection h with h h'; subst h; subst h'; exact ⟨h1, h2⟩
  · rintro ⟨h1, h2⟩; exact ⟨y, ys, rfl, h1, h2⟩
theorem wkL_of {α : Type} [Enc α] {l l' : List α} (h : l = l') : wkL (encL Enc.e l) (encL Enc.e l') := h ▸ wkL_refl _

theorem wkO_mk (sz sz' : Nat) (els els' : List AV) (cl cl' dd dd' : Bool) : wkO (some ⟨sz, els, cl, dd⟩) (some ⟨sz', els', cl', dd'⟩) = ((sz = sz' ∧ cl = cl' ∧ dd = dd') ∧ wkL els els') := (rfl)
/-- A load out of a literal of numbers. -/
def ldI (acc : List Int) (xs : List AV) (i o n : Nat) (g : Bool) (c : Prop) : Option (Prop × AV) := ldAt (encL Enc.e acc ++ xs) i o n g c
theorem ldAt_ints (a : Int) (xs : List AV) (i : Int) (o n : Nat) (g : Bool) (c : Prop) : ldAt (.lit (.int .i64 a) :: xs) i.toNat o n g c = ldI [a] xs i.toNat o n g c := (rfl)
theorem ldI_cons (acc : List Int) (a : Int) (xs : List AV) (i o n : Nat) (g : Bool) (c : Prop) : ldI acc (.lit (.int .i64 a) :: xs) i o n g c = ldI (acc ++ [a]) xs i o n g c := by
  unfold ldI; simp [encL, Enc.e]
theorem ldI_nil (acc : List Int) (i o n : Nat) (g : Bool) (c : Prop) : ldI acc [] i o n g c = ldAt (encL Enc.e acc) i o n g c := by
  unfold ldI; simp
theorem bnd_ints (l : List Int) : bndL (encL Enc.e l) := by
  induction l with
  | nil => trivial
  | cons a l ih => exact ⟨trivial, ih⟩
theorem bnd_u8 (l : List U8) : bndL (encL Enc.e l) := by
  induction l with
  | nil => trivial
  | cons a l ih => exact ⟨trivial, ih⟩
theorem wrap_in {n : Int} (h : -9223372036854775808 ≤ n) (h' : n ≤ 9223372036854775807) : IntKind.i64.wrap n = n := by rw [IntKind.wrap_i64]; omega
theorem wrap_u64 {n : Int} (h : 0 ≤ n) (h' : n ≤ 18446744073709551615) : IntKind.u64.wrap n = n := by simp only [IntKind.wrap, IntKind.bits, IntKind.signed]; simp; omega
theorem tmod_nn {a b : Int} (h : 0 ≤ a) : a.tmod b = a % b := Int.tmod_eq_emod_of_nonneg h
theorem tdiv_nn {a b : Int} (h : 0 ≤ a) : a.tdiv b = a / b := Int.tdiv_eq_ediv_of_nonneg h
theorem getD_mem {α : Type} [Inhabited α] {P : α → Prop} {l : List α} (h : ∀ b ∈ l, P b) {i : Nat} (hi : i < l.length) : P (l.getD i default) := by
  rw [List.getD_eq_getElem?_getD, List.getElem?_eq_getElem hi]; exact h _ (List.getElem_mem hi)
theorem onB_intro {b : Bool} {p q : Prop} (h : b = true → p) (h' : b = false → q) : onB b p q := ⟨h, h'⟩
theorem onB_dec {c : Prop} [Decidable c] {p q : Prop} (h : c → p) (h' : ¬ c → q) : onB (decide c) p q := ⟨fun e => h (of_decide_eq_true e), fun e => h' (of_decide_eq_false e)⟩
theorem onB_ndec {c : Prop} [Decidable c] {p q : Prop} (h : ¬ c → p) (h' : c → q) : onB (!decide c) p q := ⟨fun e => h (by simpa using e), fun e => h' (by simpa using e)⟩
theorem rdable_tf : rdable true false = true := (rfl)
theorem rdable_ft : rdable false true = true := (rfl)
theorem rdable_tt : rdable true true = false := (rfl)
theorem rdable_ff : rdable false false = false := (rfl)
attribute [go_sem] rK_idx idxE_row encL_length postX_ret postX_normal initS initV keepV resE rixOf resK one frz frzL Option.bind_some
attribute [go_sem] Int.toNat_natCast

attribute [go_sem] List.take_length Nat.zero_add Nat.le_refl true_or or_true false_implies implies_true ne_eq not_false_eq_true Nat.reduceLeDiff Nat.lt_irrefl Int.reduceEq not_true_eq_false Nat.reduceLT List.getElem?_cons_zero List.getElem?_cons_succ List.getD_cons_zero List.getD_cons_succ List.set_cons_zero List.set_cons_succ List.take_succ_cons List.drop_succ_cons ldE_ptr ldE_rp ldAt_zero ldAt_succ rK_ldAt e_int e_bool e_str e_u64 e_u8 e_list w_int w_bool w_str w_u64 w_u8 w_list d_int d_bool d_str d_u64 d_u8 d_list d_nil decS_if decL_nil decL_cons decL_append decL_encL es_one es_unit es_pair ds_one ds_unit ds_pair r_one r_unit r_pair
  closed_e closed_encL wk_self wkL_self wk_int wk_bool wk_str wk_agg wk_tup wk_sl wk_nil wkL_nil wkL_cons rdable_tf rdable_ft rdable_tt rdable_ff pureT flatT rowT newT ptrT rowPost newPost ptrPost ptrRowT ptrRowPost rmT rmPost hid1 hidJ nameOf fzUpd froz List.drop_zero List.take_zero List.take_nil List.drop_nil
  ldAt_ints ldI_cons ldI_nil kpM wkVs wkMs wkO_mk encL_take encL_drop encL_append encL_rep
theorem GOk.nil {P : Program} : GOk P [] := fun N C h => by simp [lookL] at h
theorem GOk.cons {P : Program} {N : Nat} {C : Ct} {Γ : Cts} (h : SoundC P N C) (hr : GOk P Γ) : GOk P ((N, C) :: Γ) := by
  intro M D hM
  simp only [lookL] at hM
  split at hM
  · rename_i e; injection hM with hM; subst e; subst hM; exact h
  · exact hr M D hM
end Go.Ax
