import Derived.Test.YtgecjhclhdgpgaaXH7
import Derived.Laws.StructEq
import Derived.Lib.SliceRun
import Derived.Lib.LazyBuf
import Derived.Lib.AppendZeros
set_option linter.unusedVariables false
set_option linter.unusedSimpArgs false
namespace Go.Ax
open Go

/-- What a cell holds. -/
inductive LK where
  | i
  | b
  | s
def eqV : LK → Value → Value → Option Bool
  | .i, .int k a, .int k' b => if k = k' then some (decide (a = b)) else none
  | .b, .bool a, .bool b => some (decide (a = b))
  | .s, .string a, .string b => some (decide (a = b))
  | _, _, _ => none
def eqVs : List LK → List Value → List Value → Option Bool
  | [], [], [] => some true
  | k :: ks, x :: xs, y :: ys => match eqV k x y with
    | some a => match eqVs ks xs ys with
      | some b => some (a && b)
      | none => none
    | none => none
  | _, _, _ => none

theorem eqVs_split : ∀ (k1 k2 : List LK) (a b c d : List Value) (r : Bool), a.length = k1.length → b.length = k1.length → eqVs (k1 ++ k2) (a ++ c) (b ++ d) = some r → ∃ r1 r2, eqVs k1 a b = some r1 ∧ eqVs k2 c d = some r2 ∧ r = (r1 && r2)
  | [], k2, [], [], c, d, r, _, _, h => ⟨true, r, rfl, h, by simp⟩
  | k :: k1, k2, x :: a, y :: b, c, d, r, hl, hl2, h => by
    simp only [List.cons_append, eqVs] at h
    cases h1 : eqV k x y with
    | none => rw [h1] at h; cases h
    | some q =>
      rw [h1] at h; simp only at h
      cases h2 : eqVs (k1 ++ k2) (a ++ c) (b ++ d) with
      | none => rw [h2] at h; cases h
      | some q2 =>
        rw [h2] at h
        simp only [Option.some.injEq] at h
        obtain ⟨r1, r2, e1, e2, rfl⟩ := eqVs_split k1 k2 a b c d q2 (by simpa using hl) (by simpa using hl2) h2
        exact ⟨q && r1, r2, by simp [eqVs, h1, e1], e2, by rw [← h, Bool.and_assoc]⟩

/-- Its parts lie one behind the other. -/
def fieldsL (P : Program) (rec : TypeId → Option (List LK)) : List Field → Nat → Option (List LK)
  | [], _ => some []
  | f :: r, o => if f.offset == o && f.name != "_" && tKnown P f.type then match rec f.type, fieldsL P rec r (o + tSize P f.type) with
      | some a, some b => some (a ++ b)
      | _, _ => none
    else none
/-- What the cells of a type hold. -/
def tLeaves (P : Program) : Nat → TypeId → Option (List LK)
  | 0, _ => none
  | d + 1, t => match P.underlying t with
    | some (.int _) => if tSize P t == 1 then some [.i] else none
    | some .bool => if tSize P t == 1 then some [.b] else none
    | some .string => if tSize P t == 1 then some [.s] else none
    | some (.struct fs) => if P.stoodInHeld t then none else match fieldsL P (tLeaves P d) fs.toList 0 with
      | some l => if l.length == tSize P t then some l else none
      | none => none
    | _ => none

def ofCells (P : Program) (t : TypeId) (xs : List Value) : Value := if tAgg P t then .agg xs.toArray else xs.headD default

section
variable {P : Program} {w : World}

theorem part_cells {t : TypeId} (hk : tKnown P t = true) {xs : List Value} {o : Nat} (hle : o + tSize P t ≤ xs.length) (h1 : tAgg P t = false → tSize P t = 1) : (part t xs.toArray o).run P w = .ok (ofCells P t ((xs.drop o).take (tSize P t))) w := by
  obtain ⟨i, d, hi, hd, hsz⟩ := info_of_known hk
  unfold part ofCells
  simp only [Sem.run_bind, run_isAgg hd, Result.andThen_ok]
  by_cases hg : tAgg P t = true
  · simp only [hg, if_true]
    simp only [Sem.run_bind, run_sizeOf hi, Result.andThen_ok, Sem.run_pure, hsz]
    congr 2
    simp [List.extract_eq_take_drop]
  · have hs := h1 (by simpa using hg)
    simp only [hg, Bool.false_eq_true, if_false]
    rw [hs] at hle ⊢
    have hlt : o < xs.length := by omega
    have e : (xs.drop o).take 1 = [xs[o]] := by rw [List.drop_eq_getElem_cons hlt, List.take_succ_cons, List.take_zero]
    rw [e]
    have : xs.toArray[o]? = some xs[o] := by simp [hlt]
    simp [this]

theorem leaves_size {d : Nat} {t : TypeId} {l : List LK} (h : tLeaves P d t = some l) : l.length = tSize P t := by
  cases d with
  | zero => simp [tLeaves] at h
  | succ d =>
    unfold tLeaves at h
    split at h
    · split at h <;> simp_all <;> (subst h; rfl)
    · split at h <;> simp_all <;> (subst h; rfl)
    · split at h <;> simp_all <;> (subst h; rfl)
    · split at h
      · cases h
      · split at h
        · split at h <;> simp_all
        · cases h
    · cases h

theorem eqv_agg {t : TypeId} {d : Nat} {l : List LK} (h : tLeaves P d t = some l) : tAgg P t = false → tSize P t = 1 := by
  cases d with
  | zero => simp [tLeaves] at h
  | succ d =>
    intro ha
    unfold tLeaves at h
    unfold tAgg at ha
    split at h
    · split at h <;> simp_all
    · split at h <;> simp_all
    · split at h <;> simp_all
    · rename_i fs hu; rw [hu] at ha; cases ha
    · cases h

theorem equalIn_flat : ∀ (d D : Nat) (t : TypeId) (ks : List LK) (xs ys : List Value) (b : Bool), d ≤ D → tLeaves P d t = some ks → xs.length = tSize P t → ys.length = tSize P t → eqVs ks xs ys = some b →
    (Op.equalIn D t (ofCells P t xs) (ofCells P t ys)).run P w = .ok b w := by
  intro d
  induction d with
  | zero => intro D t ks xs ys b _ h; simp [tLeaves] at h
  | succ d ih =>
    intro D t ks xs ys b hD h hx hy he
    obtain ⟨D, rfl⟩ : ∃ m, D = m + 1 := ⟨D - 1, by omega⟩
    unfold tLeaves at h
    have leaf : ∀ k, ks = [k] → tSize P t = 1 → ∃ x y, xs = [x] ∧ ys = [y] ∧ eqV k x y = some b := by
      intro k hk h1
      subst hk
      rw [h1] at hx hy
      obtain ⟨x, rfl⟩ := List.length_eq_one_iff.1 hx
      obtain ⟨y, rfl⟩ := List.length_eq_one_iff.1 hy
      refine ⟨x, y, rfl, rfl, ?_⟩
      simp only [eqVs] at he
      cases hxy : eqV k x y with
      | none => rw [hxy] at he; cases he
      | some q => rw [hxy] at he; simpa using he
    split at h
    · rename_i k hu
      split at h
      · rename_i h1
        simp only [Option.some.injEq] at h
        obtain ⟨x, y, rfl, rfl, hxy⟩ := leaf _ h.symm (by simpa using h1)
        have hg : tAgg P t = false := by unfold tAgg; rw [hu]
        simp only [ofCells, hg, Bool.false_eq_true, if_false, List.headD_cons]
        unfold eqV at hxy
        split at hxy
        · split at hxy
          · rename_i hkk; subst hkk
            simp only [Option.some.injEq] at hxy
            rw [run_equalIn_int w D t _ _ _ _ hu, ← hxy]
            rfl
          · cases hxy
        · rename_i e; cases e
        · rename_i e; cases e
        · cases hxy
      · cases h
    · rename_i hu
      split at h
      · rename_i h1
        simp only [Option.some.injEq] at h
        obtain ⟨x, y, rfl, rfl, hxy⟩ := leaf _ h.symm (by simpa using h1)
        have hg : tAgg P t = false := by unfold tAgg; rw [hu]
        simp only [ofCells, hg, Bool.false_eq_true, if_false, List.headD_cons]
        unfold eqV at hxy
        split at hxy
        · rename_i e; cases e
        · simp only [Option.some.injEq] at hxy
          rw [run_equalIn_bool' w D t _ _ hu, ← hxy]
          rfl
        · rename_i e; cases e
        · cases hxy
      · cases h
    · rename_i hu
      split at h
      · rename_i h1
        simp only [Option.some.injEq] at h
        obtain ⟨x, y, rfl, rfl, hxy⟩ := leaf _ h.symm (by simpa using h1)
        have hg : tAgg P t = false := by unfold tAgg; rw [hu]
        simp only [ofCells, hg, Bool.false_eq_true, if_false, List.headD_cons]
        unfold eqV at hxy
        split at hxy
        · rename_i e; cases e
        · rename_i e; cases e
        · rename_i a b' _
          simp only [Option.some.injEq] at hxy
          rw [run_equalIn_string w D t _ _ hu, ← hxy, ← beq_toListBytes]
          congr 1
          by_cases hab : a = b'
          · subst hab; rw [beq_toListBytes]; simp
          · simp only [hab, decide_false]
            rw [beq_toListBytes, beq_eq_false_iff_ne]
            intro e
            rw [ByteArray.toList_eq, ByteArray.toList_eq] at e
            have e' := Array.toList_inj.1 e
            cases a; cases b'; simp_all
        · cases hxy
      · cases h
    · rename_i fs hu
      split at h
      · cases h
      · rename_i hst
        split at h
        · rename_i l hl
          split at h
          · rename_i hlen
            simp only [Option.some.injEq] at h
            subst h
            have hlen : l.length = tSize P t := by simpa using hlen
            have hg : tAgg P t = true := by unfold tAgg; rw [hu]
            have hfo : P.fieldsOf t = fs := by simp [Program.fieldsOf, hu]
            simp only [ofCells, hg, if_true]
            rw [run_equalIn_struct w D t _ _ (by rw [hfo]; exact hu) (by simpa using hst), hfo]
            have key : ∀ (fl : List Field) (o : Nat) (ks : List LK) (b : Bool), fieldsL P (tLeaves P d) fl o = some ks → o + ks.length = tSize P t → eqVs ks (xs.drop o) (ys.drop o) = some b → (Op.eqFields D xs.toArray ys.toArray fl).run P w = .ok b w := by
              intro fl
              induction fl with
              | nil =>
                intro o ks b ho hle hb
                simp only [fieldsL, Option.some.injEq] at ho
                subst ho
                simp only [List.length_nil, Nat.add_zero] at hle
                rw [List.drop_eq_nil_of_le (by omega), List.drop_eq_nil_of_le (by omega)] at hb
                simp only [eqVs, Option.some.injEq] at hb
                subst hb
                simp [Op.eqFields]
              | cons f r ihr =>
                intro o ks b ho hle hb
                simp only [fieldsL] at ho
                split at ho
                · rename_i hc
                  simp only [Bool.and_eq_true, beq_iff_eq, bne_iff_ne, ne_eq] at hc
                  obtain ⟨⟨ho', hn⟩, hk⟩ := hc
                  split at ho
                  · rename_i k1 k2 hrec hr
                    simp only [Option.some.injEq] at ho
                    subst ho; subst ho'
                    have hs1 := leaves_size hrec
                    have h1 := eqv_agg hrec
                    simp only [List.length_append] at hle
                    simp only [Op.eqFields]
                    rw [if_pos hn]
                    simp only [Sem.run_bind, part_cells hk (xs := xs) (o := f.offset) (by omega) h1, part_cells hk (xs := ys) (o := f.offset) (by omega) h1, Result.andThen_ok]
                    have ex : xs.drop f.offset = (xs.drop f.offset).take (tSize P f.type) ++ xs.drop (f.offset + tSize P f.type) := by rw [← List.drop_drop, List.take_append_drop]
                    have ey : ys.drop f.offset = (ys.drop f.offset).take (tSize P f.type) ++ ys.drop (f.offset + tSize P f.type) := by rw [← List.drop_drop, List.take_append_drop]
                    rw [ex, ey] at hb
                    obtain ⟨r1, r2, e1, e2, rfl⟩ := eqVs_split _ _ _ _ _ _ _ (by simp only [List.length_take, List.length_drop]; omega) (by simp only [List.length_take, List.length_drop]; omega) hb
                    rw [ih D f.type _ _ _ r1 (by omega) hrec (by simp only [List.length_take, List.length_drop]; omega) (by simp only [List.length_take, List.length_drop]; omega) e1]
                    simp only [Result.andThen_ok]
                    cases r1 with
                    | false => simp
                    | true => simp only [Bool.not_true, Bool.false_eq_true, if_false, Bool.true_and]; exact ihr _ k2 r2 hr (by omega) e2
                  · cases ho
                · cases ho
            exact key _ 0 l b hl (by omega) (by simpa using he)
          · cases h
        · cases h
    · cases h
end

/-! ## over abstract values -/
def eqA : LK → AV → AV → Option Bool
  | .i, .lit (.int k a), .lit (.int k' b) => if k = k' then some (decide (a = b)) else none
  | .b, .lit (.bool a), .lit (.bool b) => some (decide (a = b))
  | .s, .lit (.string a), .lit (.string b) => some (decide (a = b))
  | _, _, _ => none
def eqAs : List LK → List AV → List AV → Option Bool
  | [], [], [] => some true
  | k :: ks, x :: xs, y :: ys => match eqA k x y with
    | some a => match eqAs ks xs ys with
      | some b => some (a && b)
      | none => none
    | none => none
  | _, _, _ => none
def eqsE (ks : List LK) (neg : Bool) (x y : AV) : Option (Prop × AV × Upd) := match x, y with
  | .agg xs, .agg ys => match eqAs ks xs ys with
    | some b => some (True, .lit (.bool (if neg then !b else b)), [])
    | none => none
  | _, _ => none

section
variable {P : Program} {w : World} {S : Nat → Prop} {β : Nat → Option Blk} {μ : Look}
theorem eqAs_vals : ∀ (ks : List LK) (xs ys : List AV) (us vs : List Value) (b : Bool), reps w S β xs us → reps w S β ys vs → eqAs ks xs ys = some b → eqVs ks us vs = some b ∧ us.length = ks.length ∧ vs.length = ks.length
  | [], [], [], us, vs, b, hx, hy, h => by
    simp only [reps] at hx hy; subst hx; subst hy; exact ⟨h, rfl, rfl⟩
  | k :: ks, x :: xs, y :: ys, us, vs, b, hx, hy, h => by
    simp only [reps] at hx hy
    obtain ⟨u, us, rfl, hu, hx⟩ := hx
    obtain ⟨v, vs, rfl, hv, hy⟩ := hy
    simp only [eqAs] at h
    cases h1 : eqA k x y with
    | none => rw [h1] at h; cases h
    | some q =>
      rw [h1] at h; simp only at h
      cases h2 : eqAs ks xs ys with
      | none => rw [h2] at h; cases h
      | some q2 =>
        rw [h2] at h
        obtain ⟨e1, e2, e3⟩ := eqAs_vals ks xs ys us vs q2 hx hy h2
        have hq : eqV k u v = some q := by
          unfold eqA at h1
          split at h1
          · obtain rfl := rep_lit' hu; obtain rfl := rep_lit' hv; exact h1
          · obtain rfl := rep_lit' hu; obtain rfl := rep_lit' hv; exact h1
          · obtain rfl := rep_lit' hu; obtain rfl := rep_lit' hv; exact h1
          · cases h1
        exact ⟨by simp only [eqVs, hq, e1]; exact h, by simp [e2], by simp [e3]⟩
  | [], _ :: _, _, _, _, _, _, _, h => by simp [eqAs] at h
  | [], [], _ :: _, _, _, _, _, _, h => by simp [eqAs] at h
  | _ :: _, [], _, _, _, _, _, _, h => by simp [eqAs] at h
  | _ :: _, _ :: _, [], _, _, _, _, _, h => by simp [eqAs] at h

theorem eqs_sound (hi : Inv w S β μ) {t : TypeId} {ks : List LK} (hl : tLeaves P 8 t = some ks) (hg : tAgg P t = true) (hq : P.eqGuardType P.depth t = false) {neg : Bool} {x y v : AV} {ux uy : Value} (ox oy : Operand) (hx : rep w S β x ux) (hy : rep w S β y uy) {p : Prop} {up : Upd}
    (h : eqsE ks neg x y = some (p, v, up)) (hp : p) : RunDone P w S β μ (do eqGuard (if neg then .neq else .eql) t ox oy ux uy; binOp (if neg then .neq else .eql) t ux uy) v up := by
  unfold eqsE at h
  split at h
  · rename_i xs ys
    split at h
    · rename_i b hb
      simp only [Option.some.injEq, Prod.mk.injEq] at h
      obtain ⟨rfl, rfl, rfl⟩ := h
      simp only [rep] at hx hy
      obtain ⟨us, rfl, _, hx⟩ := hx
      obtain ⟨vs, rfl, _, hy⟩ := hy
      obtain ⟨e1, e2, e3⟩ := eqAs_vals ks xs ys us vs b hx hy hb
      have hsz := leaves_size hl
      have he := equalIn_flat (w := w) 8 10000 t ks us vs b (by omega) hl (by omega) (by omega) e1
      simp only [ofCells, hg, if_true] at he
      refine ⟨.bool (if neg then !b else b), w, S, β, ?_, Done.pure hi (rep_lit _) (rep_plain (rep_lit (w := w) (S := S) (β := β) _))⟩
      cases neg with
      | true => simp only [if_true, Sem.run_bind, run_eqGuard_agg w _ t ox oy _ _ hq, Result.andThen_ok, run_neq_struct, he]
      | false => simp only [Bool.false_eq_true, if_false, Sem.run_bind, run_eqGuard_agg w _ t ox oy _ _ hq, Result.andThen_ok, run_eql_struct, he]
    · cases h
  · cases h

/-! ## is a slice nil? -/
def isnE (neg : Bool) (x : AV) : Option (Prop × AV × Upd) := match x with
  | .lit (.slice none _ _) => some (True, .lit (.bool !neg), [])
  | .lit (.slice (some _) _ _) => some (True, .lit (.bool neg), [])
  | .sl _ xs => some (0 < xs.length, .lit (.bool neg), [])
  | .row _ _ _ n => some (0 < n, .lit (.bool neg), [])
  | _ => none
theorem isn_sound (hi : Inv w S β μ) {t e : TypeId} (ht : P.underlying t = some (.slice e)) {neg : Bool} {x v : AV} {ux : Value} (ox oy : Operand) (hx : rep w S β x ux) {p : Prop} {up : Upd}
    (h : isnE neg x = some (p, v, up)) (hp : p) : RunDone P w S β μ (do eqGuard (if neg then .neq else .eql) t ox oy ux (.slice none 0 0); binOp (if neg then .neq else .eql) t ux (.slice none 0 0)) v up := by
  have key : ∀ (a : Option Addr) (n c : Nat), (do eqGuard (if neg then .neq else .eql) t ox oy (.slice a n c) (.slice none 0 0); binOp (if neg then .neq else .eql) t (.slice a n c) (.slice none 0 0) : Sem Value).run P w = .ok (.bool (if neg then !a.isNone else a.isNone)) w := by
    intro a n c
    have hg : ∀ op, (eqGuard op t ox oy (.slice a n c) (.slice none 0 0)).run P w = .ok () w := fun op => by unfold eqGuard; cases op <;> simp
    cases neg with
    | true => simp only [if_true, Sem.run_bind, hg, Result.andThen_ok, run_neq_slice_nil w t e a n c ht]
    | false => simp only [Bool.false_eq_true, if_false, Sem.run_bind, hg, Result.andThen_ok, Go.Lib.run_eql_slice_nil w t e a n c 0 0 ht]
  have fin : ∀ (a : Option Addr) (n c : Nat) (b : Bool), ux = .slice a n c → (if neg then !a.isNone else a.isNone) = b → RunDone P w S β μ (do eqGuard (if neg then .neq else .eql) t ox oy ux (.slice none 0 0); binOp (if neg then .neq else .eql) t ux (.slice none 0 0)) (.lit (.bool b)) [] := by
    rintro a n c b rfl rfl
    exact ⟨_, w, S, β, key a n c, Done.pure hi (rep_lit _) (rep_plain (rep_lit (w := w) (S := S) (β := β) _))⟩
  unfold isnE at h
  split at h
  · rename_i n c
    simp only [Option.some.injEq, Prod.mk.injEq] at h
    obtain ⟨rfl, rfl, rfl⟩ := h
    exact fin none n c _ (rep_lit' hx) (by cases neg <;> rfl)
  · rename_i a n c
    simp only [Option.some.injEq, Prod.mk.injEq] at h
    obtain ⟨rfl, rfl, rfl⟩ := h
    exact fin (some a) n c _ (rep_lit' hx) (by cases neg <;> rfl)
  · rename_i z xs
    simp only [Option.some.injEq, Prod.mk.injEq] at h
    obtain ⟨rfl, rfl, rfl⟩ := h
    simp only [rep] at hx
    obtain ⟨a, cap, rfl, _, hx⟩ := hx
    rcases hx with rfl | ⟨b, o, rfl, _⟩
    · simp at hp
    · exact fin _ _ _ _ rfl (by cases neg <;> rfl)
  · rename_i id z lo n
    simp only [Option.some.injEq, Prod.mk.injEq] at h
    obtain ⟨rfl, rfl, rfl⟩ := h
    simp only [rep] at hx
    obtain ⟨bl, a, _, rfl, hcap, _, ha⟩ := hx
    refine fin _ _ _ _ rfl ?_
    rw [ha (by omega)]
    cases neg <;> rfl
  · cases h

/-! ## append of make -/
def appZE (sz by' : Nat) (zv : AV) (nid : Nat) (x m : AV) (lk : Look) : Option (Prop × AV × Upd) := match x, m with
  | .lit (.slice none 0 0), .lit (.int _ k) => some ((lk nid = none ∧ 0 < k) ∧ k ≤ 9223372036854775807 ∧ k * by' ≤ 140737488355328, .row nid sz 0 k.toNat, [(nid, ⟨sz, List.replicate k.toNat zv, true, false⟩)])
  | _, _ => none
theorem replicate_facts (z : Value) (sz : Nat) (hzs : z.cells.size = sz) (hz1 : z.cells.all (·.oneCell') = true) (k : Nat) :
    (List.replicate k (ofVal z)).flatMap AV.cells = ((List.replicate k z).flatMap (·.cells.toList)).map .lit ∧ ((List.replicate k z).flatMap (·.cells.toList)).length = k * sz ∧
    (∀ (j : Nat) (u : Value), ((List.replicate k z).flatMap (·.cells.toList))[j]? = some u → z.cells.toList[j % z.cells.size]? = some u) ∧ (∀ u ∈ (List.replicate k z).flatMap (·.cells.toList), u.oneCell' = true) := by
  refine ⟨?_, ?_, ?_, ?_⟩
  · induction k with
    | zero => rfl
    | succ k ih => simp only [List.replicate_succ, List.flatMap_cons, ih, List.map_append, ofVal_cells]
  · induction k with
    | zero => simp
    | succ k ih => simp only [List.replicate_succ, List.flatMap_cons, List.length_append, ih, Array.length_toList, hzs, Nat.add_mul, Nat.one_mul]; omega
  · induction k with
    | zero => intro j u h; simp at h
    | succ k ih =>
      intro j u h
      simp only [List.replicate_succ, List.flatMap_cons, List.getElem?_append, Array.length_toList] at h
      split at h
      · rename_i hlt; rw [Nat.mod_eq_of_lt hlt]; exact h
      · rename_i hge
        have := ih _ _ h
        rwa [Nat.mod_eq_sub_mod (by omega)]
  · intro u hu
    obtain ⟨y, hy, hu⟩ := List.mem_flatMap.1 hu
    rw [List.mem_replicate] at hy
    rw [Array.all_eq_true_iff_forall_mem] at hz1
    exact hz1 u (by rw [hy.2] at hu; simpa using hu)

theorem appZ_sound (hi : Inv w S β μ) {t tx ty e : TypeId} {inf : TypeInfo} {z : Value} {kn : IntKind} (ht : P.underlying t = some (.slice e)) (htx : P.underlying tx = some (.int kn)) (hinf : P.info? e = some inf) (hz : inf.zero = some z) (hzs : z.cells.size = inf.size) (hz1 : z.cells.all (·.oneCell') = true) (hs0 : 0 < inf.size)
    {nid : Nat} {x y v : AV} {ux uy : Value} {p : Prop} {up : Upd} (hx : rep w S β x ux) (hy : rep w S β y uy) (h : appZE inf.size inf.bytes (ofVal z) nid x y μ = some (p, v, up)) (hp : p) :
    RunDone P w S β μ (Builtin.append_ #[t, tx] ty #[ux, uy]) v up := by
  unfold appZE at h
  split at h
  · rename_i kk k
    simp only [Option.some.injEq, Prod.mk.injEq] at h
    obtain ⟨rfl, rfl, rfl⟩ := h
    obtain ⟨⟨hfree, h0⟩, h63, hby⟩ := hp
    obtain rfl := rep_lit' hx
    obtain rfl := rep_lit' hy
    obtain ⟨n, rfl⟩ : ∃ n : Nat, k = n := ⟨k.toNat, by omega⟩
    simp only [Int.toNat_natCast]
    have hby' : n * inf.bytes ≤ 140737488355328 := by
      have : ((n * inf.bytes : Nat) : Int) ≤ 140737488355328 := by rw [Int.natCast_mul]; exact hby
      omega
    have hrun := Go.Lib.run_append_nil_zeros (P := P) w t tx ty e inf z kk kn ht htx hinf hz n (by omega) hs0 h63 (by omega)
    obtain ⟨r1, r2, r3, r4⟩ := replicate_facts z inf.size hzs hz1 n
    have hge := grownCap_ge w n 0 e
    have hcm : grownCap w n 0 e ≤ maxLen := grownCap_le_maxLen w n 0 e (by simp only [maxLen]; omega)
    obtain ⟨g1, g2, g3, g4⟩ := new_object (hi.drew) hfree inf.size (grownCap w n 0 e) true (List.replicate n (ofVal z)) ((List.replicate n z).flatMap (·.cells.toList)) (Builtin.zeroCells z.cells n ++ Builtin.zeroCells z.cells (grownCap w n 0 e - n)) e
      (by rw [r1]; exact reps_map_lit _ r4) r4 (by intro x hx; rw [(List.mem_replicate.1 hx).2, ofVal_cells]; simpa using hzs) (by simpa using hge) hcm (by
        simp only [Array.size_append, size_zeroCells, hzs, ← Nat.add_mul]
        apply Nat.mul_le_mul_right; omega) (by
        intro j u hj
        have hjl := (List.getElem?_eq_some_iff.1 hj).1
        rw [r2] at hjl
        rw [Array.getElem?_append_left (by rw [size_zeroCells, hzs]; exact hjl)]
        have := madeCells_get z.cells n (n * z.cells.size) j (by rw [hzs]; exact hjl) rfl
        exact this.trans (r3 _ _ hj))
    have hS : ∀ b, S b → S b ∧ (w.drew.alloc (.cells (Builtin.zeroCells z.cells n ++ Builtin.zeroCells z.cells (grownCap w n 0 e - n)) e)).heap[b]? = w.heap[b]? := fun b hb => ⟨hb, Go.RowKit.Below.heap_alloc w.drew _ b (hi.slt b hb)⟩
    refine ⟨_, _, S, _, hrun, g1, ?_, plain_row _ _ _ _, ⟨rfl, rfl, rfl, by simp, hS, fun b hb _ => Go.RowKit.Below.heap_alloc w.drew _ b hb, fun b hb => .inl hb⟩, g3, g4⟩
    simp only [rep]
    exact ⟨_, _, upd_same _ _ _, rfl, by simpa using hge, rfl, fun _ => by simp⟩
  · cases h

/-! ## cap of nil -/
def capE (x : AV) : Option (Prop × AV × Upd) := match x with
  | .lit (.slice none 0 0) => some (True, .lit (.int .i64 0), [])
  | _ => none
theorem cap_sound (hi : Inv w S β μ) {t e ty : TypeId} (ht : P.underlying t = some (.slice e)) {x v : AV} {ux : Value} (hx : rep w S β x ux) {p : Prop} {up : Upd} (h : capE x = some (p, v, up)) (hp : p) : RunDone P w S β μ (Builtin.cap_ #[t] ty #[ux]) v up := by
  unfold capE at h
  split at h
  · simp only [Option.some.injEq, Prod.mk.injEq] at h
    obtain ⟨rfl, rfl, rfl⟩ := h
    obtain rfl := rep_lit' hx
    have he : P.elem t = e := by simp [Program.elem, ht]
    exact ⟨_, w, S, β, run_cap_slice w t ty none 0 0 (by rw [he]; exact ht), Done.pure hi (rep_lit _) (rep_plain (rep_lit (w := w) (S := S) (β := β) _))⟩
  · cases h
end
end Go.Ax
namespace Go.Ax
open Go

/-- What an operation or a call gives: what is owed, the value, what has turned. -/
abbrev Res := Option (Prop × AV × Upd)
abbrev Ct := Nat → List AV → Look → Res

/-- A call of function N ends with a value and a world. -/
def CallOk (P : Program) (N : FuncId) (us : Array Value) (w : World) (R : Value → World → Prop) : Prop :=
  match (callFunc N us).run P w with
  | .ok (.enter f args) w1 => Calls P f args w1 fun e w' => ∃ u, e = .returned u ∧ R u w'
  | .ok (.value u) w1 => R u w1
  | _ => False

mutual
/-- The objects that a value names. -/
def AV.names : AV → List Nat
  | .row id _ _ _ | .ptr id _ _ => [id]
  | .agg cs | .tup cs | .fn _ cs => namesL cs
  | _ => []
def namesL : List AV → List Nat
  | [] => []
  | x :: xs => x.names ++ namesL xs
end
/-- What an operation may look at: what its arguments name, and its own numbers. -/
def foot (n : Nat) (ids : List Nat) (id : Nat) : Bool := id == n || (id % 2 == 0 && id / 32 == n / 32) || ids.elem id

structure SoundC (P : Program) (N : FuncId) (C : Ct) : Prop where
  ok : ∀ nid as us w S β μ p v up, Inv w S β μ → reps w S β as us → (∀ x ∈ as, x.plain) → C nid as μ = some (p, v, up) → p →
    CallOk P N us.toArray w fun u w' => ∃ S' β', Done w S β μ v up u w' S' β'
  loc : ∀ nid as μ μ', (∀ id, foot nid (namesL as) id = true → μ id = μ' id) → C nid as μ = C nid as μ'

abbrev Cts := List (Nat × Ct)
def GOk (P : Program) (Γ : Cts) : Prop := ∀ N C, lookL Γ N = some C → SoundC P N C

/-! ## types, read once -/
structure TI where
  size : Nat
  bytes : Nat
  agg : Bool
  /-- of a slice's elements: cells, bytes, their type -/
  elem : Option (Nat × Nat × Nat)
  str : Bool
  int : Option IntKind
  bool : Bool
  fields : List (Option (Nat × Nat × Bool))
  zero : Option AV
  places : Option (List (Nat × Nat))
  /-- what its cells hold, if it can be compared -/
  eqs : Option (List LK)

def tZok (P : Program) (e : TypeId) : Bool := match (P.info? e).bind (·.zero) with
  | some z => z.cells.size == tSize P e && z.cells.all (·.oneCell')
  | none => false
def tEqs (P : Program) (t : TypeId) : Option (List LK) := if tAgg P t && !(P.eqGuardType P.depth t) then tLeaves P 8 t else none
def tiOf (P : Program) (t : TypeId) : TI :=
  ⟨tSize P t, tBytes P t, tAgg P t, (tElem P t).bind fun e => if tKnown P e && tZok P e then some (tSize P e, tBytes P e, e) else none, tString P t, tInt P t, tBool P t,
   (match P.underlying t with | some (.struct fs) => (List.range fs.size).map (tField P t) | _ => []), tZero P t, tPlaces P t, tEqs P t⟩

inductive TT where
  | leaf
  | node (l : TT) (k : Nat) (v : TI) (r : TT)
def TT.find : TT → Nat → Option TI
  | .leaf, _ => none
  | .node l k v r, t => if t < k then l.find t else if t = k then some v else r.find t
inductive TS where
  | leaf
  | node (l : TS) (k : Nat) (r : TS)
def TS.fill (P : Program) : TS → TT
  | .leaf => .leaf
  | .node l k r => if tKnown P k then .node (l.fill P) k (tiOf P k) (r.fill P) else .leaf
theorem TS.find_fill {P : Program} : ∀ (ts : TS) (t : Nat) (v : TI), (ts.fill P).find t = some v → tKnown P t = true ∧ v = tiOf P t
  | .leaf, t, v, h => by simp [TS.fill, TT.find] at h
  | .node l k r, t, v, h => by
    simp only [TS.fill] at h
    split at h
    · rename_i hk
      simp only [TT.find] at h
      split at h
      · exact TS.find_fill l t v h
      · split at h
        · rename_i e; subst e; simp only [Option.some.injEq] at h; exact ⟨hk, h.symm⟩
        · exact TS.find_fill r t v h
    · simp [TT.find] at h

def TabOk (P : Program) (tab : TT) : Prop := ∀ t v, tab.find t = some v → tKnown P t = true ∧ v = tiOf P t

/-! ## operations, their types resolved -/
inductive IX where
  | v (t : Nat)
  | c (x : AV)

/-- A slice expression's bounds. -/
inductive SK where
  | n
  | l
  | h
  | lh
  | hm
/-- Built in. -/
inductive BK where
  | bs (sz : Nat)
  | mks (sz by' : Nat) (z : AV)
  | slc (sz : Nat) (k : SK)
  | sls (k : SK)
  | app (sz by' : Nat)
  | eqs (ks : List LK) (neg : Bool)
  | isn (neg : Bool)
  | appZ (sz by' : Nat) (z : AV)
  | cap0

inductive Ix where
  | bi (k : BK) (xs : List IX)
  | mv (x : IX)
  | pick (c a b : IX)
  | bin (op : BinOp) (tb : Bool) (x y : IX)
  | un (op : UnOp) (x : IX)
  | conv (k : IntKind) (x : IX)
  | nilc (x : IX)
  | build (ps : List (Nat × Nat × IX)) (z : List AV)
  | fad (o : Nat) (x : IX)
  | fld (o n : Nat) (g : Bool) (x : IX)
  | idx (sz : Nat) (x i : IX)
  | sidx (x i : IX)
  | ext (i : Nat) (x : IX)
  | ld (n : Nat) (g : Bool) (x : IX)
  | len (x : IX)
  | slen (x : IX)
  | min (x y : IX)
  | max (x y : IX)
  | mkf (f : Nat) (cs : List IX)
  | alloc (sz : Nat) (z : AV)
  | box (x : IX)
  | st (n : Nat) (x y : IX)
  | call (f : IX) (xs : List IX)
  | bad

def constAV : Value → AV
  | .agg cs => if cs.all (·.oneCell') then .agg (cs.toList.map .lit) else .any
  | .tuple _ => .any
  | v => .lit v

def ixOf : Operand → IX
  | .tmp t => .v t
  | .const v => .c (constAV v)
  | .global g => .c (.lit (.pointer (some ⟨g, 0, none⟩)))
  | .func f => .c (.fn f [])

def placeOf (ps : List (Nat × Nat)) : List (Nat × Operand) → Option (List (Nat × Nat × IX))
  | [] => some []
  | (f, x) :: r => match ps[f]?, placeOf ps r with
    | some (o, n), some l => some ((o, n, ixOf x) :: l)
    | _, _ => none

def seqOk : Nat → List (Nat × Operand) → Bool
  | _, [] => true
  | i, (j, _) :: r => i == j && seqOk (i + 1) r
def slcK (lo hi mx : Option Operand) : Option (SK × List IX) := match lo, hi, mx with
  | none, none, none => some (.n, [])
  | some l, none, none => some (.l, [ixOf l])
  | none, some h, none => some (.h, [ixOf h])
  | some l, some h, none => some (.lh, [ixOf l, ixOf h])
  | none, some h, some m => some (.hm, [ixOf h, ixOf m])
  | _, _, _ => none

def biOf (tab : TT) (op : Op) : Option (BK × List IX) :=
  match op with
  | .buildSlice t len parts => match (tab.find t).bind (·.elem) with
    | some (sz, _, _) => if seqOk 0 parts.toList && parts.size == len && decide (len ≤ 2 ^ 24) && decide (len * sz ≤ 2 ^ 24) then some (.bs sz, parts.toList.map fun x => ixOf x.2) else none
    | none => none
  | .makeSlice t l c => match (tab.find t).bind (·.elem) with
    | some (sz, by', e) => match (tab.find e).bind (·.zero) with
      | some z => some (.mks sz by' z, [ixOf l, ixOf c])
      | none => none
    | none => none
  | .slice t x lo hi mx => match tab.find t, slcK lo hi mx with
    | some ti, some (k, r) => if ti.str then (if mx.isNone then some (.sls k, ixOf x :: r) else none) else match ti.elem with
      | some (sz, _, _) => some (.slc sz k, ixOf x :: r)
      | none => none
    | _, _ => none
  | .call { callee := .builtin .append, args, argTypes } => match args.toList, argTypes.toList with
    | [x, y], [t, tx] => match (tab.find t).bind (·.elem), tab.find tx with
      | some (sz, by', e), some ti => if ti.elem.isSome || ti.str then some (.app sz by', [ixOf x, ixOf y]) else if ti.int.isSome then match (tab.find e).bind (·.zero) with
          | some z => if 0 < sz then some (.appZ sz by' z, [ixOf x, ixOf y]) else none
          | none => none
        else none
      | _, _ => none
    | _, _ => none
  | .call { callee := .builtin .cap, args, argTypes } => match args.toList, argTypes.toList with
    | [x], [t] => if ((tab.find t).bind (·.elem)).isSome then some (.cap0, [ixOf x]) else none
    | _, _ => none
  | .binOp .eql t x (.const (.slice none 0 0)) _ => if ((tab.find t).bind (·.elem)).isSome then some (.isn false, [ixOf x]) else none
  | .binOp .neq t x (.const (.slice none 0 0)) _ => if ((tab.find t).bind (·.elem)).isSome then some (.isn true, [ixOf x]) else none
  | .binOp .eql t x y _ => match (tab.find t).bind (·.eqs) with
    | some ks => some (.eqs ks false, [ixOf x, ixOf y])
    | none => none
  | .binOp .neq t x y _ => match (tab.find t).bind (·.eqs) with
    | some ks => some (.eqs ks true, [ixOf x, ixOf y])
    | none => none
  | _ => none

def opOf0 (tab : TT) (op : Op) : Ix :=
  match op with
  | .move x | .assign x => .mv (ixOf x)
  | .pick c a b => .pick (ixOf c) (ixOf a) (ixOf b)
  | .nilCheck x => .nilc (ixOf x)
  | .build t parts => match tab.find t with
    | some i => match i.zero, i.places with
      | some (.agg z), some ps => match placeOf ps parts.toList with
        | some l => .build l z
        | none => .bad
      | _, _ => .bad
    | none => .bad
  | .binOp op t x y _ => .bin op ((tab.find t).any (·.bool)) (ixOf x) (ixOf y)
  | .unOp op _ x => .un op (ixOf x)
  | .convert s d x => match tab.find s, tab.find d with
    | some _, some i => match i.int with
      | some k => .conv k (ixOf x)
      | none => .bad
    | _, _ => .bad
  | .fieldAddr t x f => match tab.find t with
    | some i => match i.fields[f]? with
      | some (some (o, _, _)) => .fad o (ixOf x)
      | _ => .bad
    | none => .bad
  | .field t x f => match tab.find t with
    | some i => match i.fields[f]? with
      | some (some (o, n, g)) => .fld o n g (ixOf x)
      | _ => .bad
    | none => .bad
  | .indexAddr t x i => match tab.find t with
    | some ti => match ti.elem with
      | some (sz, _, _) => .idx sz (ixOf x) (ixOf i)
      | none => .bad
    | none => .bad
  | .index t x i => match tab.find t with
    | some ti => if ti.str then .sidx (ixOf x) (ixOf i) else .bad
    | none => .bad
  | .extract x i => .ext i (ixOf x)
  | .load t x => match tab.find t with
    | some ti => .ld ti.size ti.agg (ixOf x)
    | none => .bad
  | .makeFunc (.func f) first caps => if first.size = 0 then .mkf f (caps.toList.map ixOf) else .bad
  | .alloc t => match tab.find t with
    | some ti => match ti.zero with
      | some z => if z.cells.length = ti.size then .alloc ti.size z else .bad
      | none => .bad
    | none => .bad
  | .box _ x => .box (ixOf x)
  | .store t x y => match tab.find t with
    | some ti => if 0 < ti.size then .st ti.size (ixOf x) (ixOf y) else .bad
    | none => .bad
  | .call { callee := .builtin .len, args, argTypes } => match args.toList, argTypes.toList with
    | [x], [t] => match tab.find t with
      | some ti => if ti.str then .slen (ixOf x) else if ti.elem.isSome then .len (ixOf x) else .bad
      | none => .bad
    | _, _ => .bad
  | .call { callee := .builtin .min, args, .. } => match args.toList with
    | [x, y] => .min (ixOf x) (ixOf y)
    | _ => .bad
  | .call { callee := .builtin .max, args, .. } => match args.toList with
    | [x, y] => .max (ixOf x) (ixOf y)
    | _ => .bad
  | .call { callee := .value f, args, .. } => .call (ixOf f) (args.toList.map ixOf)
  | _ => .bad

def opOf (tab : TT) (op : Op) : Ix := match biOf tab op with
  | some (k, xs) => .bi k xs
  | none => opOf0 tab op

/-! ## what they give -/
def evX (look : Nat → AV) : IX → AV
  | .v t => look t
  | .c x => x

def part? (x : AV) (o n : Nat) (agg : Bool) : Option AV :=
  if agg then match x with
    | .agg cs => if o + n ≤ cs.length then some (.agg ((cs.drop o).take n)) else none
    | _ => none
  else match x with
    | .agg cs => cs[o]?
    | y => if o = 0 then some y else none

/-! by bits -/
def bAnd (k : IntKind) (a b : Int) : Int := k.wrap (BitVec.ofInt k.bits a &&& BitVec.ofInt k.bits b).toNat
def bOr (k : IntKind) (a b : Int) : Int := k.wrap (BitVec.ofInt k.bits a ||| BitVec.ofInt k.bits b).toNat
def bXor (k : IntKind) (a b : Int) : Int := k.wrap (BitVec.ofInt k.bits a ^^^ BitVec.ofInt k.bits b).toNat
def bAndNot (k : IntKind) (a b : Int) : Int := k.wrap (BitVec.ofInt k.bits a &&& ~~~ (BitVec.ofInt k.bits b)).toNat
def bNot (k : IntKind) (n : Int) : Int := k.wrap (BitVec.ofInt k.bits (if k.signed then -1 else k.max) ^^^ BitVec.ofInt k.bits n).toNat
def binE (op : BinOp) (tb : Bool) (x y : AV) : Option (Prop × AV) :=
  match x, y with
  | .lit (.int k a), .lit (.int k' b) =>
    match op with
    | .shl => some (0 ≤ b, .lit (.int k (k.wrap (a * 2 ^ Nat.min b.toNat k.bits))))
    | .shr => some (0 ≤ b, .lit (.int k (a.fdiv (2 ^ Nat.min b.toNat k.bits))))
    | .add => some (k = k', .lit (.int k (k.wrap (a + b))))
    | .sub => some (k = k', .lit (.int k (k.wrap (a - b))))
    | .mul => some (k = k', .lit (.int k (k.wrap (a * b))))
    | .quo => some (k = k' ∧ b ≠ 0, .lit (.int k (k.wrap (a.tdiv b))))
    | .rem => some (k = k' ∧ b ≠ 0, .lit (.int k (a.tmod b)))
    | .and => some (k = k', .lit (.int k (bAnd k a b)))
    | .or => some (k = k', .lit (.int k (bOr k a b)))
    | .xor => some (k = k', .lit (.int k (bXor k a b)))
    | .andNot => some (k = k', .lit (.int k (bAndNot k a b)))
    | .eql => some (k = k', mkB (decide (a = b)))
    | .neq => some (k = k', mkB (!decide (a = b)))
    | .lss => some (k = k', mkB (decide (a < b)))
    | .leq => some (k = k', mkB (decide (a ≤ b)))
    | .gtr => some (k = k', mkB (decide (b < a)))
    | .geq => some (k = k', mkB (decide (b ≤ a)))
  | .lit (.bool a), .lit (.bool b) => if tb then match op with
    | .eql => some (True, mkB (a == b))
    | .neq => some (True, mkB (a != b))
    | _ => none else none
  | .lit (.string a), .lit (.string b) => match op with
    | .add => some (((a.size + b.size : Nat) : Int) ≤ IntKind.i64.max, .lit (.string (a ++ b)))
    | .eql => some (True, mkB (decide (a = b)))
    | .neq => some (True, mkB (!decide (a = b)))
    | _ => none
  | _, _ => none

def unE (op : UnOp) (x : AV) : Option (Prop × AV) :=
  match op, x with
  | .not, .lit (.bool b) => some (True, mkB (!b))
  | .neg, .lit (.int k n) => some (True, .lit (.int k (k.wrap (0 - n))))
  | .xor, .lit (.int k n) => some (True, .lit (.int k (bNot k n)))
  | _, _ => none

def fillE (look : Nat → AV) : List (Nat × Nat × IX) → List AV → Option (List AV)
  | [], cs => some cs
  | (o, n, x) :: r, cs => if (evX look x).isAny = false ∧ (evX look x).isTup = false ∧ (evX look x).cells.length = n ∧ o + n ≤ cs.length then fillE look r (cs.take o ++ (evX look x).cells ++ cs.drop (o + n)) else none

def pickE (c a b : AV) : Option (Prop × AV) := match c with
  | .lit (.bool true) => some (True, a)
  | .lit (.bool false) => some (True, b)
  | _ => none
def convE (k : IntKind) (x : AV) : Option (Prop × AV) := match x with
  | .lit (.int _ n) => some (True, .lit (.int k (k.wrap n)))
  | _ => none
def nilcE (x : AV) : Option (Prop × AV) := match x with
  | .ptr id i o => some (True, .ptr id i o)
  | .rp x o => some (True, .rp x o)
  | .lit (.pointer (some a)) => some (True, .lit (.pointer (some a)))
  | _ => none
def fadE (o : Nat) (x : AV) : Option (Prop × AV) := match x with
  | .ptr id i p => some (True, .ptr id i (p + o))
  | .rp x p => some (True, .rp x (p + o))
  | _ => none
def fldE (o n : Nat) (g : Bool) (x : AV) : Option (Prop × AV) := match x with
  | .agg cs => (part? (.agg cs) o n g).map fun v => (True, v)
  | _ => none
def idxE (sz : Nat) (x i : AV) : Option (Prop × AV) := match x, i with
  | .sl z xs, .lit (.int _ n) => some (z = sz ∧ 0 ≤ n ∧ n.toNat < xs.length, .rp (xs.getD n.toNat .any) 0)
  | .row id z lo m, .lit (.int _ n) => some (z = sz ∧ 0 ≤ n ∧ n < m, .ptr id (lo + n.toNat) 0)
  | _, _ => none
def sidxE (x i : AV) : Option (Prop × AV) := match x, i with
  | .lit (.string s), .lit (.int _ n) => some (0 ≤ n ∧ n.toNat < s.size, .lit (.int .u8 (s.data.toList.getD n.toNat 0).toNat))
  | _, _ => none
def extE (i : Nat) (x : AV) : Option (Prop × AV) := match x with
  | .tup vs => vs[i]?.map fun v => (True, v)
  | _ => none
def lenE (x : AV) : Option (Prop × AV) := match x with
  | .lit (.slice _ n _) => some (True, mkI n)
  | .sl _ xs => some (True, mkI xs.length)
  | .row _ _ _ n => some (True, mkI n)
  | _ => none
def slenE (x : AV) : Option (Prop × AV) := match x with
  | .lit (.string s) => some (True, mkI s.size)
  | _ => none
def minE (x y : AV) : Option (Prop × AV) := match x, y with
  | .lit (.int .i64 a), .lit (.int .i64 b) => some (True, mkI (if b < a then b else a))
  | _, _ => none
def maxE (x y : AV) : Option (Prop × AV) := match x, y with
  | .lit (.int .i64 a), .lit (.int .i64 b) => some (True, mkI (if b > a then b else a))
  | _, _ => none

/-- Without an object. -/
def pe (op : Ix) (look : Nat → AV) : Option (Prop × AV) :=
  match op with
  | .mv x => some (True, evX look x)
  | .pick c a b => pickE (evX look c) (evX look a) (evX look b)
  | .bin op tb x y => binE op tb (evX look x) (evX look y)
  | .un op x => unE op (evX look x)
  | .conv k x => convE k (evX look x)
  | .nilc x => nilcE (evX look x)
  | .build ps z => (fillE look ps z).map fun cs => (True, .agg cs)
  | .fad o x => fadE o (evX look x)
  | .fld o n g x => fldE o n g (evX look x)
  | .idx sz x i => idxE sz (evX look x) (evX look i)
  | .sidx x i => sidxE (evX look x) (evX look i)
  | .ext i x => extE i (evX look x)
  | .len x => lenE (evX look x)
  | .slen x => slenE (evX look x)
  | .min x y => minE (evX look x) (evX look y)
  | .max x y => maxE (evX look x) (evX look y)
  | .mkf f cs => some (True, .fn f (cs.map (evX look)))
  | _ => none

def ldE (n : Nat) (g : Bool) (x : AV) (lk : Look) : Option (Prop × AV) := match x with
  | .rp y o => (part? y o n g).map fun v => (True, v)
  | .ptr id i o => match lk id with
    | some ob => (part? (ob.els.getD i .any) o n g).map fun v => ((ob.dd = false ∨ ob.cl = false) ∧ i < ob.els.length, v)
    | none => none
  | _ => none
def stE (n : Nat) (x y : AV) (lk : Look) : Res := match x with
  | .ptr id i o => match lk id with
    | some ob => some ((y.isAny = false ∧ y.isTup = false ∧ y.cells.length = n) ∧ (ob.dd = false ∧ i < ob.els.length) ∧ (o + n ≤ (ob.els.getD i .any).cells.length ∧ ((ob.els.getD i .any).isAgg || !y.isAgg) = true) ∧ (ob.cl = true → y.closed = true),
        .any, setUpd id ⟨ob.sz, ob.els.set i (putPart (ob.els.getD i .any) o y n), ob.cl, false⟩)
    | none => none
  | _ => none
def callE (Γ : Cts) (nid : Nat) (f : AV) (xs : List AV) (lk : Look) : Res := match f with
  | .fn N caps => if caps.all AV.noLit then match lookL Γ N with
      | some C => C nid (xs ++ caps) lk
      | none => none
    else none
  | _ => none
def pureE : Option (Prop × AV) → Res
  | some (p, v) => some (p, v, noUpd)
  | none => none

def biE (k : BK) (nid : Nat) (as : List AV) (lk : Look) : Res :=
  match k, as with
  | .bs sz, vs => bsE sz nid vs lk
  | .mks sz by' z, [l, c] => mksE sz by' z nid l c lk
  | .slc sz .n, [x] => slcE sz nid x none none none lk
  | .slc sz .l, [x, l] => slcE sz nid x (some l) none none lk
  | .slc sz .h, [x, h] => slcE sz nid x none (some h) none lk
  | .slc sz .lh, [x, l, h] => slcE sz nid x (some l) (some h) none lk
  | .slc sz .hm, [x, h, m] => slcE sz nid x none (some h) (some m) lk
  | .sls .n, [x] => slsE x none none
  | .sls .l, [x, l] => slsE x (some l) none
  | .sls .h, [x, h] => slsE x none (some h)
  | .sls .lh, [x, l, h] => slsE x (some l) (some h)
  | .app sz by', [x, y] => appE sz by' nid x y lk
  | .eqs ks neg, [x, y] => eqsE ks neg x y
  | .isn neg, [x] => isnE neg x
  | .appZ sz by' z, [x, y] => appZE sz by' z nid x y lk
  | .cap0, [x] => capE x
  | _, _ => none

def ie (Γ : Cts) (op : Ix) (nid : Nat) (look : Nat → AV) (lk : Look) : Res :=
  match op with
  | .bi k xs => biE k nid (xs.map (evX look)) lk
  | .alloc sz z => some (lk nid = none, .ptr nid 0 0, [(nid, ⟨sz, [z], false, false⟩)])
  | .box x => some (lk nid = none ∧ (evX look x).isAny = false ∧ (evX look x).isTup = false, .ptr nid 0 0, [(nid, ⟨(evX look x).cells.length, [evX look x], false, false⟩)])
  | .ld n g x => pureE (ldE n g (evX look x) lk)
  | .st n x y => stE n (evX look x) (evX look y) lk
  | .call f xs => callE Γ nid (evX look f) (xs.map (evX look)) lk
  | op => pureE (pe op look)
end Go.Ax
