import Derived.Test.YtgecjhclhdgpgaaXC
import Derived.Laws.Tables
import Derived.Laws.Slices
set_option linter.unusedVariables false
set_option linter.unusedSimpArgs false
namespace Go.Ax
open Go

theorem foldl_set_list (vs : List Value) (off : Nat) : ∀ (cs : List Value) (k : Nat), off + k + vs.length ≤ cs.length →
    (vs.zipIdx k).foldl (fun (c : Array Value) (p : Value × Nat) => c.setIfInBounds (off + p.2) p.1) cs.toArray = (cs.take (off + k) ++ vs ++ cs.drop (off + k + vs.length)).toArray := by
  induction vs with
  | nil => intro cs k h; simp [List.take_append_drop]
  | cons v vs ih =>
    intro cs k h
    simp only [List.length_cons] at h
    simp only [List.zipIdx_cons, List.foldl_cons]
    have e : (cs.toArray.setIfInBounds (off + k) v) = (cs.set (off + k) v).toArray := by simp
    rw [e, ih _ (k + 1) (by simp; omega)]
    congr 1
    rw [List.drop_set_of_lt (by omega)]
    have ht : (cs.set (off + k) v).take (off + (k + 1)) = cs.take (off + k) ++ [v] := by
      rw [show off + (k + 1) = (off + k) + 1 from by omega, List.take_succ_eq_append_getElem (by simp; omega)]
      simp [List.take_set]
      exact List.set_eq_of_length_le (by simp; omega)
    rw [ht]
    simp only [List.length_cons, List.append_assoc, List.cons_append, List.nil_append]
    rw [show off + (k + 1) + vs.length = off + k + (vs.length + 1) from by omega]

theorem foldl_cells (cs : Array Value) (v : Value) (off : Nat) (h : off + v.cells.size ≤ cs.size) :
    v.cells.zipIdx.foldl (fun (c : Array Value) (p : Value × Nat) => c.setIfInBounds (off + p.2) p.1) cs = (cs.toList.take off ++ v.cells.toList ++ cs.toList.drop (off + v.cells.size)).toArray := by
  rw [← Array.foldl_toList, Array.toList_zipIdx]
  have := foldl_set_list v.cells.toList off cs.toList 0 (by simpa using h)
  simpa using this

section
variable {P : Program} {w : World} {S : Nat → Prop} {β : Nat → Option Blk}

theorem rep_plain {x : AV} {u : Value} (h : rep w S β x u) : ∀ v, x = .lit v → v.oneCell' = true := by
  intro v e; subst e; simp only [rep] at h; exact h.2
/-- No literal is a struct. -/
def AV.plain (x : AV) : Prop := ∀ v, x = .lit v → v.oneCell' = true
def Ev (w : World) (S : Nat → Prop) (β : Nat → Option Blk) (ev : Env) (ρ : Operand → Value) : Prop := ∀ x, rep w S β (ev x) (ρ x) ∧ (ev x).plain

theorem Ev.lit {ev : Env} {ρ : Operand → Value} (h : Ev w S β ev ρ) {x : Operand} {v : Value} (e : ev x = .lit v) : ρ x = v := by
  have := (h x).1; rw [e] at this; simp only [rep] at this; exact this.1

theorem fieldOf {t : TypeId} {f o n : Nat} {g : Bool} (h : tField P t f = some (o, n, g)) :
    ∃ fs x, P.underlying t = some (.struct fs) ∧ fs[f]? = some x ∧ x.offset = o ∧ tSize P x.type = n ∧ tAgg P x.type = g ∧ tKnown P x.type = true ∧ n ≠ 0 := by
  unfold tField at h
  split at h
  · rename_i fs hu
    split at h
    · rename_i x hx
      split at h
      · rename_i hk
        simp only [Bool.and_eq_true, bne_iff_ne, ne_eq] at hk
        injection h with h
        injection h with h1 h2
        injection h2 with h2 h3
        subst h1; subst h2; subst h3
        exact ⟨fs, x, hu, hx, rfl, rfl, rfl, hk.1, hk.2⟩
      · cases h
    · cases h
  · cases h

theorem plain_cells {ev : Env} {ρ : Operand → Value} (h : Ev w S β ev ρ) (x : Operand) (ha : (ev x).isAny = false) : reps w S β (ev x).cells (ρ x).cells.toList :=
  rep_cells (fun e => by simp [e, AV.isAny] at ha) (h x).1 (h x).2

theorem fill_sound {ev : Env} {ρ : Operand → Value} (h : Ev w S β ev ρ) (ps : List (Nat × Nat)) : ∀ (parts : List (Nat × Operand)) (cs : List AV) (us : Array Value) (out : List AV), reps w S β cs us.toList →
    (∀ c ∈ us.toList, c.oneCell' = true) → fillAV ps ev parts cs = some out → ∃ vs : Array Value, Instr.fill (ps.toArray[·]?) us (parts.map fun p => (p.1, ρ p.2)) = some vs ∧ (∀ c ∈ vs.toList, c.oneCell' = true) ∧ reps w S β out vs.toList
  | [], cs, us, out, hr, h1, ho => by
    simp only [fillAV, Option.some.injEq] at ho
    subst ho
    exact ⟨us, by simp [Instr.fill], h1, hr⟩
  | (f, x) :: r, cs, us, out, hr, h1, ho => by
    simp only [fillAV] at ho
    cases hp : ps[f]? with
    | none => simp [hp] at ho
    | some p =>
      obtain ⟨o, n⟩ := p
      simp only [hp] at ho
      split at ho
      · rename_i hc
        obtain ⟨ha, hat, hn, hl⟩ := hc
        have hcr := plain_cells h x ha
        have hlen := reps_length hcr
        have hlen2 := reps_length hr
        simp only [Array.length_toList] at hlen hlen2
        have hfit : o + (ρ x).cells.size ≤ us.size := by omega
        have hr2 : reps w S β (cs.take o ++ (ev x).cells ++ cs.drop (o + n)) (us.toList.take o ++ (ρ x).cells.toList ++ us.toList.drop (o + (ρ x).cells.size)) := by
          rw [show o + (ρ x).cells.size = o + n from by omega]
          exact reps_append (reps_append (reps_take hr o) hcr) (reps_drop hr _)
        have h1x := one_cells (h x).1 (h x).2 (fun e => by simp [e, AV.isAny] at ha) (fun vs e => by simp [e, AV.isTup] at hat)
        obtain ⟨vs, hv, hvo, hrv⟩ := fill_sound h ps r _ (us.toList.take o ++ (ρ x).cells.toList ++ us.toList.drop (o + (ρ x).cells.size)).toArray out (by simpa using hr2) (by
          intro c hc
          simp only [List.mem_append] at hc
          rcases hc with (hc | hc) | hc
          · exact h1 c (List.mem_of_mem_take hc)
          · exact h1x c hc
          · exact h1 c (List.mem_of_mem_drop hc)) ho
        refine ⟨vs, ?_, hvo, hrv⟩
        simp only [List.map_cons, Instr.fill]
        have hpa : (ps.toArray[f]? : Option (Nat × Nat)) = some (o, n) := by simpa using hp
        simp only [hpa]
        rw [if_neg (by simp; omega)]
        rw [foldl_cells us (ρ x) o hfit]
        exact hv
      · cases ho

theorem reps_ofZero (z : Value) (ha : z.cells.all (·.oneCell') = true) : ∀ zs, ofVal z = .agg zs → ∃ cs : Array Value, z = .agg cs ∧ reps w S β zs cs.toList := by
  intro zs h
  rw [Array.all_eq_true_iff_forall_mem] at ha
  cases z <;> simp [ofVal] at h
  exact ⟨_, rfl, by subst h; exact reps_map_lit _ (by simpa [Value.cells] using ha)⟩

theorem zero_of {t : TypeId} {z : AV} (hz : tZero P t = some z) : ∃ zv it, P.info? t = some it ∧ it.zero = some zv ∧ zv.cells.all (·.oneCell') = true ∧ z = ofVal zv := by
  unfold tZero at hz
  split at hz
  · rename_i zv hb
    simp only [Option.bind_eq_some_iff] at hb
    obtain ⟨it, hit, hzv⟩ := hb
    split at hz
    · rename_i hall; injection hz with hz; exact ⟨zv, it, hit, hzv, hall, hz.symm⟩
    · cases hz
  · cases hz

theorem build_sound {ev : Env} {ρ : Operand → Value} (h : Ev w S β ev ρ) (t : TypeId) (parts : Array (Nat × Operand)) (z : List AV) (ps : List (Nat × Nat)) (cs : List AV)
    (hz : tZero P t = some (.agg z)) (hp : tPlaces P t = some ps) (hf : fillAV ps ev parts.toList z = some cs) :
    ∃ u, (Instr.build t (parts.map fun (i, x) => (i, ρ x))).run P w = .ok u w ∧ rep w S β (.agg cs) u := by
  obtain ⟨zv, it, hit, hzv, hall, hz⟩ := zero_of hz
  obtain ⟨us, rfl, hr⟩ := reps_ofZero (w := w) (S := S) (β := β) zv hall z hz.symm
  obtain ⟨vs, hv, hvo, hrv⟩ := fill_sound h ps parts.toList z us cs hr (by rw [Array.all_eq_true_iff_forall_mem] at hall; simpa [Value.cells] using hall) hf
  refine ⟨.agg vs, ?_, by simp only [rep]; exact ⟨vs.toList, by simp, hvo, hrv⟩⟩
  refine run_build w t _ vs ?_
  unfold tPlaces at hp
  unfold Program.built
  split at hp
  · rename_i fields hu
    simp only [hit, hu, hzv, hp]
    simpa [Value.cells] using hv
  · cases hp
end
end Go.Ax
namespace Go.Ax
open Go

section
variable {P : Program} {w : World} {S : Nat → Prop} {β : Nat → Option Blk}

theorem rep_lit (v : Value) (h : v.oneCell' = true := by rfl) : rep w S β (.lit v) v := by simp [rep, h]
theorem rep_lit' {v u : Value} (h : rep w S β (.lit v) u) : u = v := by simp only [rep] at h; exact h.1

theorem bin_sound {op : BinOp} {x y v : AV} {a b : Value} (t : TypeId) (ox oy : Operand) (hx : rep w S β x a) (hy : rep w S β y b) (h : bin P t op x y (· = v)) :
    ∃ u, (do eqGuard op t ox oy a b; binOp op t a b : Sem Value).run P w = .ok u w ∧ rep w S β v u := by
  unfold bin at h
  split at h
  · rename_i k n k' m
    obtain rfl := rep_lit' hx
    obtain rfl := rep_lit' hy
    have hg : (eqGuard op t ox oy (.int k n) (.int k' m)).run P w = .ok () w := by unfold eqGuard; cases op <;> simp
    simp only [Sem.run_bind, hg, Result.andThen_ok]
    cases op <;> simp only at h
    case shl => obtain ⟨h0, rfl⟩ := h; exact ⟨_, by simp only [binOp, Op.shift, if_neg (show ¬ m < 0 by omega)]; rfl, rep_lit _⟩
    case shr => obtain ⟨h0, rfl⟩ := h; exact ⟨_, by simp only [binOp, Op.shift, if_neg (show ¬ m < 0 by omega)]; rfl, rep_lit _⟩
    case quo => obtain ⟨rfl, h0, rfl⟩ := h; exact ⟨_, by simp only [binOp, Op.intDiv, if_neg h0, ne_eq, not_true_eq_false, if_false]; rfl, rep_lit _⟩
    case rem => obtain ⟨rfl, h0, rfl⟩ := h; exact ⟨_, by simp only [binOp, Op.intDiv, if_neg h0, ne_eq, not_true_eq_false, if_false]; rfl, rep_lit _⟩
    all_goals (obtain ⟨rfl, rfl⟩ := h; exact ⟨_, by simp only [binOp, Op.intArith, Op.intCmp, Op.intBits, ne_eq, not_true_eq_false, if_false]; rfl, rep_lit _⟩)
  · rename_i n m
    obtain rfl := rep_lit' hx
    obtain rfl := rep_lit' hy
    have hg : (eqGuard op t ox oy (.bool n) (.bool m)).run P w = .ok () w := by unfold eqGuard; cases op <;> simp
    simp only [Sem.run_bind, hg, Result.andThen_ok]
    have he : tBool P t = true → (Op.equal t (.bool n) (.bool m)).run P w = .ok (n == m) w := by
      intro ht
      unfold tBool at ht
      split at ht
      · rename_i hu
        show (Op.equalIn (9999 + 1) t _ _).run P w = _
        rw [Op.equalIn]
        simp only [Sem.run_bind, run_underlying hu, Result.andThen_ok]
        rfl
      · cases ht
    cases op <;> simp only at h
    case eql => obtain ⟨ht, rfl⟩ := h; exact ⟨_, by simp only [binOp, Sem.run_bind, he ht, Result.andThen_ok]; rfl, rep_lit _⟩
    case neq => obtain ⟨ht, rfl⟩ := h; exact ⟨_, by simp only [binOp, Sem.run_bind, he ht, Result.andThen_ok]; rfl, rep_lit _⟩
  · rename_i n m
    obtain rfl := rep_lit' hx
    obtain rfl := rep_lit' hy
    have hg : (eqGuard op t ox oy (.string n) (.string m)).run P w = .ok () w := by unfold eqGuard; cases op <;> simp
    simp only [Sem.run_bind, hg, Result.andThen_ok]
    cases op <;> simp only at h
    case add => obtain ⟨h0, rfl⟩ := h; exact ⟨_, by simp only [binOp, Op.stringOp]; rw [if_neg (by omega)]; rfl, rep_lit _⟩
    case eql => subst h; exact ⟨_, by simp only [binOp, Op.stringOp]; rfl, rep_lit _⟩
    case neq => subst h; exact ⟨_, by simp only [binOp, Op.stringOp]; rfl, rep_lit _⟩
  · exact h.elim

theorem un_sound {op : UnOp} {x v : AV} {a : Value} (hx : rep w S β x a) (h : un op x (· = v)) :
    ∃ u, (Op.unary op a).run P w = .ok u w ∧ rep w S β v u := by
  unfold un at h
  split at h
  · obtain rfl := rep_lit' hx; subst h; exact ⟨_, by simp only [Op.unary]; rfl, rep_lit _⟩
  · obtain rfl := rep_lit' hx; subst h; exact ⟨_, by simp only [Op.unary, Op.intArith]; rfl, rep_lit _⟩
  · obtain rfl := rep_lit' hx; subst h; exact ⟨_, by simp only [Op.unary, Op.intBits]; rfl, rep_lit _⟩
  · exact h.elim

theorem part_sound {t : TypeId} {cs : List AV} {us : List Value} {o : Nat} {v : AV} (ht : tKnown P t = true) (h1 : ∀ c ∈ us, c.oneCell' = true) (hr : reps w S β cs us)
    (h : partOf (.agg cs) o (tSize P t) (tAgg P t) (· = v)) : ∃ u, (part t us.toArray o).run P w = .ok u w ∧ rep w S β v u := by
  obtain ⟨i, d, hi, hd, hsz⟩ := info_of_known ht
  unfold partOf at h
  unfold part
  simp only [Sem.run_bind, run_isAgg hd, Result.andThen_ok]
  by_cases hg : tAgg P t = true
  · simp only [hg, if_true] at h ⊢
    obtain ⟨hle, rfl⟩ := h
    refine ⟨.agg ((us.drop o).take (tSize P t)).toArray, ?_, by simp only [rep]; exact ⟨_, rfl, fun c hc => h1 c (List.mem_of_mem_drop (List.mem_of_mem_take hc)), reps_take (reps_drop hr o) _⟩⟩
    simp only [Sem.run_bind, run_sizeOf hi, Result.andThen_ok, Sem.run_pure, hsz]
    congr 2
    simp [List.extract_eq_take_drop]
  · simp only [hg, Bool.false_eq_true, if_false] at h ⊢
    cases hd : cs.drop o with
    | nil => rw [hd] at h; exact h.elim
    | cons c r =>
      rw [hd] at h
      simp only at h
      subst h
      have hc : cs[o]? = some c := by
        have := congrArg (·[0]?) hd
        simpa [List.getElem?_drop] using this
      obtain ⟨u, hu, hru⟩ := reps_get hr o c hc
      refine ⟨u, ?_, hru⟩
      have : us.toArray[o]? = some u := by simpa using hu
      simp [this]
end
end Go.Ax
namespace Go.Ax
open Go

section
variable {P : Program} {w : World} {S : Nat → Prop} {β : Nat → Option Blk}

theorem elem_under {t e : TypeId} (he : tElem P t = some e) : P.underlying t = some (.slice e) := by
  unfold tElem at he
  split at he
  · rename_i hu; simp at he; subst he; exact hu
  · cases he
theorem string_under {t : TypeId} (he : tString P t = true) : P.underlying t = some .string := by
  unfold tString at he
  split at he
  · rename_i hu; exact hu
  · cases he

theorem len_sound {x v : AV} {u : Value} (t ty : TypeId) (hx : rep w S β x u) (h : lenAV P t x (· = v)) :
    ∃ u', (Builtin.len_ #[t] ty #[u]).run P w = .ok u' w ∧ rep w S β v u' := by
  unfold lenAV at h
  split at h
  · rename_i ht
    split at h
    · obtain rfl := rep_lit' hx
      subst h
      refine ⟨_, ?_, rep_lit _⟩
      simp [Builtin.len_, run_underlying (string_under ht), goInt]
    · exact h.elim
  · obtain ⟨he, h⟩ := h
    obtain ⟨e, he⟩ := Option.isSome_iff_exists.1 he
    have key : ∀ a n c, u = .slice a n c → (Builtin.len_ #[t] ty #[u]).run P w = .ok (.int .i64 n) w := by
      intro a n c hu
      simp [Builtin.len_, run_underlying (elem_under he), goInt, hu]
    split at h
    · obtain rfl := rep_lit' hx
      subst h
      exact ⟨_, key _ _ _ rfl, rep_lit _⟩
    · simp only [rep] at hx
      obtain ⟨a, cap, hu, _⟩ := hx
      subst h
      exact ⟨_, key _ _ _ hu, rep_lit _⟩
    · simp only [rep] at hx
      obtain ⟨bl, a, _, hu, _⟩ := hx
      subst h
      exact ⟨_, key _ _ _ hu, rep_lit _⟩
    · exact h.elim

theorem two_lits {ev : Env} {ρ : Operand → Value} (hev : Ev w S β ev ρ) {l : List Operand} {a b : Value} (h : l.map ev = [.lit a, .lit b]) : l.map ρ = [a, b] := by
  rcases l with _ | ⟨p, _ | ⟨q, _ | ⟨r, l⟩⟩⟩ <;> simp at h
  simp [hev.lit h.1, hev.lit h.2]

theorem elAt_elim {xs : List AV} {i : Int} {K : AV → Prop} (h : elAt xs i K) : 0 ≤ i ∧ ∃ x, xs[i.toNat]? = some x ∧ K x := h

theorem px_sound {o : Oper} {ev : Env} {ρ : Operand → Value} {v : AV} (hev : Ev w S β ev ρ) (h : px P o.op ev (· = v)) :
    ∃ u, (execOp ρ o).run P w = .ok (.value u) w ∧ rep w S β v u := by
  have lift : ∀ (s : Sem Value) (u : Value), s.run P w = .ok u w → (do pure (.value (← s)) : Sem Next).run P w = .ok (.value u) w := by
    intro s u hs; simp only [Sem.run_bind, hs, Result.andThen_ok]; rfl
  obtain ⟨dst, op, type, pos, after, guard⟩ := o
  simp only at h
  unfold px at h
  unfold execOp
  split at h <;> simp only at h ⊢
  · exact ⟨_, rfl, h ▸ (hev _).1⟩
  · exact ⟨_, rfl, h ▸ (hev _).1⟩
  · -- pick
    rename_i c a b
    split at h
    · rename_i hc
      have := hev.lit hc
      simp only [this, asBool, Sem.run_bind, Sem.run_pure, Result.andThen_ok, if_true]
      exact ⟨_, rfl, h ▸ (hev _).1⟩
    · rename_i hc
      have := hev.lit hc
      simp only [this, asBool, Sem.run_bind, Sem.run_pure, Result.andThen_ok, if_false, Bool.false_eq_true]
      exact ⟨_, rfl, h ▸ (hev _).1⟩
    · exact h.elim
  · -- nilCheck
    rename_i x
    split at h
    · rename_i id i o hx
      have hr := (hev x).1
      rw [hx] at hr
      have hr' := hr
      simp only [rep] at hr
      obtain ⟨bl, _, hr⟩ := hr
      simp only [hr]
      exact ⟨_, rfl, by subst h; rw [← hr]; exact hr'⟩
    · rename_i y o hx
      have hr := (hev x).1
      rw [hx] at hr
      have hr' := hr
      simp only [rep] at hr
      obtain ⟨b, k, _, _, hr⟩ := hr
      simp only [hr]
      exact ⟨_, rfl, by subst h; rw [← hr]; exact hr'⟩
    · rename_i a hx
      have := hev.lit hx
      simp only [this]
      exact ⟨_, rfl, by subst h; exact rep_lit _⟩
    · exact h.elim
  · -- build
    rename_i t parts
    split at h
    · rename_i z ps hz hp
      split at h
      · rename_i cs hf
        subst h
        obtain ⟨u, hu, hr⟩ := build_sound hev t parts z ps cs hz hp hf
        exact ⟨u, lift _ u hu, hr⟩
      · exact h.elim
    · exact h.elim
  · rename_i op t x y t2
    obtain ⟨u, hu, hr⟩ := bin_sound t x y (hev x).1 (hev y).1 h
    exact ⟨u, lift _ u hu, hr⟩
  · rename_i op t x
    obtain ⟨u, hu, hr⟩ := un_sound (hev x).1 h
    exact ⟨u, lift _ u hu, hr⟩
  · -- convert
    rename_i s d x
    obtain ⟨hs, h⟩ := h
    split at h
    · rename_i k k' n hk hx
      subst h
      obtain ⟨i, ds, _, hds, _⟩ := info_of_known hs
      have hd : P.underlying d = some (.int k) := by
        unfold tInt at hk
        split at hk
        · rename_i hu; simp at hk; subst hk; exact hu
        · cases hk
      have := hev.lit hx
      refine ⟨.int k (k.wrap n), lift _ _ ?_, rep_lit _⟩
      unfold convert
      simp only [Sem.run_bind, run_underlying hds, run_underlying hd, Result.andThen_ok, this]
      cases ds <;> rfl
    · exact h.elim
  · -- fieldAddr
    rename_i t x f
    split at h
    · rename_i o n g id i p hf hx
      obtain ⟨fs, fx, hu, hfx, rfl, rfl, rfl, hk, hn⟩ := fieldOf hf
      obtain ⟨i', d', hi', hd', hsz⟩ := info_of_known hk
      have hr := (hev x).1
      rw [hx] at hr
      simp only [rep] at hr
      obtain ⟨bl, hbl, hr⟩ := hr
      subst h
      refine ⟨.pointer (some ⟨bl.b, bl.o + i * bl.sz + p + fx.offset, none⟩), lift _ _ ?_, by simp only [rep]; exact ⟨bl, hbl, by rw [Nat.add_assoc _ p]⟩⟩
      simp only [Instr.fieldAt, Sem.run_bind, run_underlying hu, Result.andThen_ok, hfx, hr, Instr.sureAddr, Sem.run_pure, fieldPlace, run_sizeOf hi', Sem.run_ite, ← hsz, if_neg hn, add_addr]
    · rename_i o n g y p hf hx
      obtain ⟨fs, fx, hu, hfx, rfl, rfl, rfl, hk, hn⟩ := fieldOf hf
      obtain ⟨i', d', hi', hd', hsz⟩ := info_of_known hk
      have hr := (hev x).1
      rw [hx] at hr
      simp only [rep] at hr
      obtain ⟨b, k, hS, hel, hr⟩ := hr
      subst h
      refine ⟨.pointer (some ⟨b, k + p + fx.offset, none⟩), lift _ _ ?_, by simp only [rep]; exact ⟨b, k, hS, hel, by rw [Nat.add_assoc]⟩⟩
      simp only [Instr.fieldAt, Sem.run_bind, run_underlying hu, Result.andThen_ok, hfx, hr, Instr.sureAddr, Sem.run_pure, fieldPlace, run_sizeOf hi', Sem.run_ite, ← hsz, if_neg hn, add_addr]
    · exact h.elim
  · -- field
    rename_i t x f
    split at h
    · rename_i o n g hf
      obtain ⟨fs, fx, hu, hfx, rfl, rfl, rfl, hk, hn⟩ := fieldOf hf
      split at h
      · rename_i cs hx
        have hr := (hev x).1
        rw [hx] at hr
        simp only [rep] at hr
        obtain ⟨us, hr, h1, hrs⟩ := hr
        obtain ⟨u, hu', hru⟩ := part_sound hk h1 hrs h
        refine ⟨u, lift _ u ?_, hru⟩
        simp only [Instr.field, Sem.run_bind, run_underlying hu, Result.andThen_ok, hfx, hr, asAgg, Sem.run_pure, hu']
      · exact h.elim
    · exact h.elim
  · -- indexAddr
    rename_i t x i
    split at h
    · rename_i e k n he hi
      have hiv := hev.lit hi
      have hu := elem_under he
      split at h
      · rename_i sz xs hx
        obtain ⟨hk, hsz, h0, y, hy, rfl⟩ := h
        obtain ⟨ie, de, hie, hde, hsze⟩ := info_of_known hk
        have hr := (hev x).1
        rw [hx] at hr
        simp only [rep] at hr
        obtain ⟨a, cap, hr, hcap, hr2⟩ := hr
        have hlt : n.toNat < xs.length := (List.getElem?_eq_some_iff.1 hy).1
        rcases hr2 with rfl | ⟨b, o, rfl, hS, hels⟩
        · simp at hlt
        · obtain ⟨hw, hel⟩ := repEls_get hels _ y hy
          refine ⟨.pointer (some ⟨b, o + n.toNat * sz, none⟩), lift _ _ ?_, by simp only [rep]; exact ⟨b, _, hS, hel, rfl⟩⟩
          have hn2 : 0 ≤ n ∧ n < (xs.length : Int) := by omega
          simp only [Instr.indexAt, hiv, asIntOf, Sem.run_bind, Sem.run_pure, Result.andThen_ok, run_underlying hu, hr, Sem.run_ite, if_pos hn2, run_sizeOf hie, add_addr, hsz, hsze]
      · rename_i id sz lo m hx
        obtain ⟨hk, hsz, h0, hm, rfl⟩ := h
        obtain ⟨ie, de, hie, hde, hsze⟩ := info_of_known hk
        have hr := (hev x).1
        rw [hx] at hr
        simp only [rep] at hr
        obtain ⟨bl, a, hbl, hr, hcap, hsz2, hr2⟩ := hr
        have ha := hr2 (by omega)
        refine ⟨.pointer (some ⟨bl.b, bl.o + lo * sz + n.toNat * sz, none⟩), lift _ _ ?_, by simp only [rep]; exact ⟨bl, hbl, by rw [← hsz2, Nat.add_mul]; simp [Nat.add_assoc]⟩⟩
        have hn2 : 0 ≤ n ∧ n < (m : Int) := by omega
        simp only [Instr.indexAt, hiv, asIntOf, Sem.run_bind, Sem.run_pure, Result.andThen_ok, run_underlying hu, hr, ha, Sem.run_ite, if_pos hn2, run_sizeOf hie, add_addr, hsz, hsze]
      · exact h.elim
    · exact h.elim
  · -- index of a string
    rename_i t x i
    obtain ⟨ht, h⟩ := h
    split at h
    · rename_i s k n hx hi
      obtain ⟨h0, b, hb, rfl⟩ := h
      have hxv := hev.lit hx
      have hiv := hev.lit hi
      refine ⟨_, lift _ _ ?_, rep_lit _⟩
      have hs : (if 0 ≤ n then s[n.toNat]? else none) = some b := by
        rw [if_pos h0]
        have hlt : n.toNat < s.data.toList.length := (List.getElem?_eq_some_iff.1 hb).1
        have hlt' : n.toNat < s.size := by simpa using hlt
        rw [getElem?_pos s n.toNat hlt']
        rw [List.getElem?_eq_getElem hlt] at hb
        exact hb
      simp only [Instr.index, hiv, asIntOf, Sem.run_bind, Sem.run_pure, Result.andThen_ok, run_underlying (string_under ht), hxv, hs]
    · exact h.elim
  · -- extract
    rename_i x i
    split at h
    · rename_i vs hx
      have hr := (hev x).1
      rw [hx] at hr
      simp only [rep] at hr
      obtain ⟨us, hr, hrs⟩ := hr
      split at h
      · rename_i c r hd
        subst h
        have hc : vs[i]? = some c := by
          have := congrArg (·[0]?) hd
          simpa [List.getElem?_drop] using this
        obtain ⟨u, hu, hru⟩ := reps_get hrs i c hc
        refine ⟨u, lift _ u ?_, hru⟩
        have hu' : us.toArray[i]? = some u := by simpa using hu
        simp only [hr, Instr.extract, hu', Sem.run_pure]
      · exact h.elim
    · exact h.elim
  · -- load of a stable part
    rename_i t x
    obtain ⟨ht, h⟩ := h
    split at h
    · rename_i y o hx
      have hr := (hev x).1
      rw [hx] at hr
      simp only [rep] at hr
      obtain ⟨b, k, hS, hel, hr⟩ := hr
      obtain ⟨u, hu, hru⟩ := run_loadVar_part (P := P) ht hel h
      exact ⟨u, lift _ u (by simp only [Instr.loadAt, hr, Instr.sureAddr, Sem.run_bind, Sem.run_pure, Result.andThen_ok, hu]), rep_of_closed β hru⟩
    · exact h.elim
  · -- makeFunc
    rename_i f first caps
    obtain ⟨rfl, rfl⟩ := h
    refine ⟨_, lift _ _ (by simp only [Instr.makeFunc]; rfl), ?_⟩
    simp only [rep]
    refine ⟨caps.toList.map ρ, by rw [show (caps.toList.map ρ).toArray = caps.map ρ from by rw [← Array.toList_inj]; simp]; simp, ?_⟩
    induction caps.toList with
    | nil => simp [reps]
    | cons c r ih => simp only [List.map_cons, reps]; exact ⟨_, _, rfl, (hev c).1, ih⟩
  · -- len
    rename_i args argTypes
    split at h
    · rename_i x t ha ht
      obtain ⟨u, hu, hr⟩ := len_sound (P := P) t type (hev x).1 h
      have ha' : args = #[x] := by rw [← Array.toList_inj]; simpa using ha
      have ht' : argTypes = #[t] := by rw [← Array.toList_inj]; simpa using ht
      subst ha'; subst ht'
      refine ⟨u, ?_, hr⟩
      simp only [resolve, Sem.run_bind, Sem.run_pure, Result.andThen_ok, invoke, builtin, List.map_toArray, List.map_cons, List.map_nil, hu]
    · exact h.elim
  · -- min
    rename_i args argTypes
    split at h
    · rename_i x y ha
      subst h
      refine ⟨_, ?_, rep_lit _⟩
      have hargs : (args.map ρ) = #[.int .i64 x, .int .i64 y] := by
        rw [← Array.toList_inj]
        simp only [Array.toList_map]
        exact two_lits hev ha
      simp only [resolve, Sem.run_bind, Sem.run_pure, Result.andThen_ok, invoke, builtin, hargs, Builtin.min_, List.foldlM_cons, List.foldlM_nil, Builtin.min2]
    · exact h.elim
  · -- max
    rename_i args argTypes
    split at h
    · rename_i x y ha
      subst h
      refine ⟨_, ?_, rep_lit _⟩
      have hargs : (args.map ρ) = #[.int .i64 x, .int .i64 y] := by
        rw [← Array.toList_inj]
        simp only [Array.toList_map]
        exact two_lits hev ha
      simp only [resolve, Sem.run_bind, Sem.run_pure, Result.andThen_ok, invoke, builtin, hargs, Builtin.max_, List.foldlM_cons, List.foldlM_nil, Builtin.max2]
    · exact h.elim
end
end Go.Ax
namespace Go.Ax
open Go

/-- A row in the heap. -/
def RowAt (w : World) (S : Nat → Prop) (β : Nat → Option Blk) (bl : Blk) (els : List AV) : Prop :=
  ∃ c ty, w.heap[bl.b]? = some (.cells c ty (0, 0)) ∧ bl.o + bl.cap * bl.sz ≤ c.size ∧ repEls w S β bl.sz els bl.b bl.o
/-- An object lies in the heap as its elements say. -/
def ObAt (w : World) (S : Nat → Prop) (β : Nat → Option Blk) (bl : Blk) (ob : Ob) : Prop :=
  ob.sz = bl.sz ∧ ob.els.length ≤ bl.cap ∧ bl.cap ≤ maxLen ∧ (bl.cap ≠ 0 → RowAt w S (βc ob.cl β) bl ob.els)
/-- An object that no longer turns (dd = true, cl = false). -/
def FzAt (w : World) (S : Nat → Prop) (bl : Blk) (ob : Ob) : Prop :=
  ob.sz = bl.sz ∧ ob.els.length ≤ bl.cap ∧ bl.cap ≤ maxLen ∧ (bl.cap ≠ 0 → S bl.b ∧ RowAt w S β0 bl ob.els)

structure Inv (w : World) (S : Nat → Prop) (β : Nat → Option Blk) (μ : Look) : Prop where
  live : ∀ id, μ id = none ↔ β id = none
  obs : ∀ id ob bl, μ id = some ob → ob.dd = false → β id = some bl → ObAt w S β bl ob
  fzs : ∀ id ob bl, μ id = some ob → ob.dd = true → ob.cl = false → β id = some bl → FzAt w S bl ob
  inj : ∀ i j oi oj bi bj, μ i = some oi → oi.dd = false → μ j = some oj → oj.dd = false → β i = some bi → β j = some bj → bi.cap ≠ 0 → bj.cap ≠ 0 → bi.b = bj.b → i = j
  notS : ∀ id ob bl, μ id = some ob → ob.dd = false → β id = some bl → bl.cap ≠ 0 → ¬ S bl.b
  slt : ∀ b, S b → b < w.heap.size

def Own (β : Nat → Option Blk) (b : Nat) : Prop := ∃ id bl, β id = some bl ∧ bl.b = b

/-- The world has gone on: only blocks of the call's own have turned. -/
structure Ext (w : World) (S : Nat → Prop) (O : Nat → Prop) (w' : World) (S' : Nat → Prop) : Prop where
  os : w'.os = w.os
  tape : w'.tape = w.tape
  output : w'.output = w.output
  size : w.heap.size ≤ w'.heap.size
  sub : ∀ b, S b → S' b ∧ w'.heap[b]? = w.heap[b]?
  keep : ∀ b, b < w.heap.size → ¬ O b → w'.heap[b]? = w.heap[b]?
  fresh : ∀ b, S' b → S b ∨ O b ∨ w.heap.size ≤ b

theorem Ext.refl (w : World) (S O : Nat → Prop) : Ext w S O w S := ⟨rfl, rfl, rfl, Nat.le_refl _, fun _ h => ⟨h, rfl⟩, fun _ _ _ => rfl, fun _ h => .inl h⟩

theorem Ext.trans {w w' w'' : World} {S S' S'' O O' : Nat → Prop} (h : Ext w S O w' S') (h' : Ext w' S' O' w'' S'') (ho : ∀ b, b < w.heap.size → O' b → O b) : Ext w S O w'' S'' :=
  ⟨h'.os.trans h.os, h'.tape.trans h.tape, h'.output.trans h.output, Nat.le_trans h.size h'.size,
   fun b hb => ⟨(h'.sub b (h.sub b hb).1).1, (h'.sub b (h.sub b hb).1).2.trans (h.sub b hb).2⟩,
   fun b hb hn => (h'.keep b (Nat.lt_of_lt_of_le hb h.size) (fun e => hn (ho b hb e))).trans (h.keep b hb hn),
   fun b hb => (h'.fresh b hb).elim (fun h1 => h.fresh b h1) (fun h1 => h1.elim (fun h1 => (Nat.lt_or_ge b w.heap.size).elim (fun hlt => .inr (.inl (ho b hlt h1))) (fun hge => .inr (.inr hge))) (fun h1 => .inr (.inr (Nat.le_trans h.size h1))))⟩

theorem RowAt.mono {w w' : World} {S S' : Nat → Prop} (hS : ∀ b, S b → S' b ∧ w'.heap[b]? = w.heap[b]?) {β β' : Nat → Option Blk} {bl : Blk} {els : List AV} (he : w'.heap[bl.b]? = w.heap[bl.b]?) (hb : ∀ id, hasL id els = true → ∀ b, β id = some b → β' id = some b)
    (h : RowAt w S β bl els) : RowAt w' S' β' bl els := by
  obtain ⟨c, ty, h1, h2, h3⟩ := h
  exact ⟨c, ty, by rw [he]; exact h1, h2, repEls_mono hS he hb h3⟩
theorem FzAt.mono {w w' : World} {S S' : Nat → Prop} (hS : ∀ b, S b → S' b ∧ w'.heap[b]? = w.heap[b]?) {bl : Blk} {ob : Ob} (h : FzAt w S bl ob) : FzAt w' S' bl ob := by
  obtain ⟨h1, h2, h3, h4⟩ := h
  exact ⟨h1, h2, h3, fun hc => ⟨(hS _ (h4 hc).1).1, (h4 hc).2.mono hS (hS _ (h4 hc).1).2 (fun _ _ _ h => h)⟩⟩
theorem ObAt.mono {w w' : World} {S S' : Nat → Prop} (hS : ∀ b, S b → S' b ∧ w'.heap[b]? = w.heap[b]?) {β β' : Nat → Option Blk} {bl : Blk} {ob : Ob} (he : bl.cap ≠ 0 → w'.heap[bl.b]? = w.heap[bl.b]?) (hb : ∀ id b, β id = some b → β' id = some b)
    (h : ObAt w S β bl ob) : ObAt w' S' β' bl ob := by
  obtain ⟨h1, h2, h3, h4⟩ := h
  refine ⟨h1, h2, h3, fun hc => (h4 hc).mono hS (he hc) (fun id _ b hh => ?_)⟩
  cases hcl : ob.cl with
  | true => rw [hcl] at hh; exact hh
  | false => rw [hcl] at hh; exact hb id b hh

mutual
/-- Names are turned; what has no new name is forgotten. -/
def AV.mv (k : Nat → Option Nat) : AV → AV
  | .row id sz lo n => match k id with | some j => .row j sz lo n | none => .any
  | .ptr id i o => match k id with | some j => .ptr j i o | none => .any
  | .agg cs => .agg (mvL k cs)
  | .tup cs => .tup (mvL k cs)
  | .fn f cs => .fn f (mvL k cs)
  | x => x
def mvL (k : Nat → Option Nat) : List AV → List AV
  | [] => []
  | x :: xs => x.mv k :: mvL k xs
end

theorem mvL_length (k : Nat → Option Nat) (xs : List AV) : (mvL k xs).length = xs.length := by
  induction xs with
  | nil => rfl
  | cons x xs ih => simp [mvL, ih]
theorem mv_cells (k : Nat → Option Nat) (x : AV) : (x.mv k).cells.length = x.cells.length := by
  cases x with
  | row id sz lo n => cases e : k id <;> simp [AV.mv, AV.cells, e]
  | ptr id i o => cases e : k id <;> simp [AV.mv, AV.cells, e]
  | _ => simp [AV.mv, AV.cells, mvL_length]

theorem rep_mv_all {w w' : World} {S S' : Nat → Prop} (hS : ∀ b, S b → S' b ∧ w'.heap[b]? = w.heap[b]?) (k : Nat → Option Nat) :
    (∀ (β : Nat → Option Blk) (x : AV) (u : Value), ∀ β', (∀ id j, k id = some j → ∀ bl, β id = some bl → β' j = some bl) → rep w S β x u → rep w' S' β' (x.mv k) u) ∧
    (∀ (β : Nat → Option Blk) (x : AV) (b o : Nat), w'.heap[b]? = w.heap[b]? → ∀ β', (∀ id j, k id = some j → ∀ bl, β id = some bl → β' j = some bl) → repEl w S β x b o → repEl w' S' β' (x.mv k) b o) ∧
    (∀ (β : Nat → Option Blk) (xs : List AV) (b o : Nat), w'.heap[b]? = w.heap[b]? → ∀ β', (∀ id j, k id = some j → ∀ bl, β id = some bl → β' j = some bl) → repCells w S β xs b o → repCells w' S' β' (mvL k xs) b o) ∧
    (∀ (β : Nat → Option Blk) (sz : Nat) (xs : List AV) (b o : Nat), w'.heap[b]? = w.heap[b]? → ∀ β', (∀ id j, k id = some j → ∀ bl, β id = some bl → β' j = some bl) → repEls w S β sz xs b o → repEls w' S' β' sz (xs.map (·.mv k)) b o) ∧
    (∀ (β : Nat → Option Blk) (xs : List AV) (us : List Value), ∀ β', (∀ id j, k id = some j → ∀ bl, β id = some bl → β' j = some bl) → reps w S β xs us → reps w' S' β' (mvL k xs) us) := by
  apply rep.mutual_induct (motive1 := fun β x u => ∀ β', (∀ id j, k id = some j → ∀ bl, β id = some bl → β' j = some bl) → rep w S β x u → rep w' S' β' (x.mv k) u)
    (motive2 := fun β x b o => w'.heap[b]? = w.heap[b]? → ∀ β', (∀ id j, k id = some j → ∀ bl, β id = some bl → β' j = some bl) → repEl w S β x b o → repEl w' S' β' (x.mv k) b o)
    (motive3 := fun β xs b o => w'.heap[b]? = w.heap[b]? → ∀ β', (∀ id j, k id = some j → ∀ bl, β id = some bl → β' j = some bl) → repCells w S β xs b o → repCells w' S' β' (mvL k xs) b o)
    (motive4 := fun β sz xs b o => w'.heap[b]? = w.heap[b]? → ∀ β', (∀ id j, k id = some j → ∀ bl, β id = some bl → β' j = some bl) → repEls w S β sz xs b o → repEls w' S' β' sz (xs.map (·.mv k)) b o)
    (motive5 := fun β xs us => ∀ β', (∀ id j, k id = some j → ∀ bl, β id = some bl → β' j = some bl) → reps w S β xs us → reps w' S' β' (mvL k xs) us)
  case case1 => intro β v u β' hb h; simp only [AV.mv]; exact rep_mono hS (fun id hi => by simp [AV.has] at hi) h
  case case2 => intro β u β' hb h; simp [rep, AV.mv]
  case case3 =>
    intro β cs u ih β' hb h
    simp only [rep, AV.mv] at h ⊢
    obtain ⟨us, rfl, h1, h⟩ := h
    exact ⟨us, rfl, h1, ih us β' hb h⟩
  case case4 => intro β sz xs u ih β' hb h; simp only [AV.mv]; exact rep_mono hS (fun id hi => by simp [AV.has] at hi) h
  case case5 =>
    intro β id sz lo n u β' hb h
    simp only [AV.mv]
    split
    case h_2 => simp [rep]
    case h_1 =>
      rename_i j hne
      simp only [rep] at h ⊢
      obtain ⟨bl, a, e, h⟩ := h
      exact ⟨bl, a, hb id j hne bl e, h⟩
  case case6 =>
    intro β id i o u β' hb h
    simp only [AV.mv]
    split
    case h_2 => simp [rep]
    case h_1 =>
      rename_i j hne
      simp only [rep] at h ⊢
      obtain ⟨bl, e, h⟩ := h
      exact ⟨bl, hb id j hne bl e, h⟩
  case case7 => intro β x o u ih β' hb h; simp only [AV.mv]; exact rep_mono hS (fun id hi => by simp [AV.has] at hi) h
  case case8 =>
    intro β f cs u ih β' hb h
    simp only [rep, AV.mv] at h ⊢
    obtain ⟨us, rfl, h⟩ := h
    exact ⟨us, rfl, ih us β' hb h⟩
  case case9 =>
    intro β cs u ih β' hb h
    simp only [rep, AV.mv] at h ⊢
    obtain ⟨us, rfl, h⟩ := h
    exact ⟨us, rfl, ih us β' hb h⟩
  case case10 =>
    intro β cs b o ih he β' hb h
    simp only [repEl, AV.mv] at h ⊢
    exact ih he β' hb h
  case case11 =>
    intro β x b o hx ih he β' hb h
    rw [repEl] at h
    · obtain ⟨v, hc, h1, h⟩ := h
      have hr := ih v β' hb h
      rw [repEl_cells]
      have hs : (x.mv k).cells = [x.mv k] := by
        cases x with
        | row id sz lo n => cases e : k id <;> simp [AV.mv, AV.cells, e]
        | ptr id i o => cases e : k id <;> simp [AV.mv, AV.cells, e]
        | agg cs => exact absurd rfl (hx cs)
        | _ => simp [AV.mv, AV.cells]
      rw [hs]
      simp only [repCells, and_true]
      exact ⟨v, by rw [World.cell?_of_block (w := w) he]; exact hc, h1, hr⟩
    · exact hx
  case case12 => intro β b o he β' hb h; simp [repCells, mvL]
  case case13 =>
    intro β x xs b o ih1 ih2 he β' hb h
    simp only [repCells, mvL] at h ⊢
    obtain ⟨⟨v, hc, h1, h⟩, h2⟩ := h
    exact ⟨⟨v, by rw [World.cell?_of_block (w := w) he]; exact hc, h1, ih1 v β' hb h⟩, ih2 he β' hb h2⟩
  case case14 => intro β sz b o he β' hb h; simp [repEls]
  case case15 =>
    intro β sz x xs b o ih1 ih2 he β' hb h
    simp only [repEls, List.map_cons] at h ⊢
    exact ⟨by rw [mv_cells]; exact h.1, ih1 he β' hb h.2.1, ih2 he β' hb h.2.2⟩
  case case16 => intro β us β' hb h; simpa [reps, mvL] using h
  case case17 =>
    intro β x xs us ih1 ih2 β' hb h
    simp only [reps, mvL] at h ⊢
    obtain ⟨v, vs, rfl, h1, h2⟩ := h
    exact ⟨v, vs, rfl, ih1 v β' hb h1, ih2 vs β' hb h2⟩
end Go.Ax
namespace Go.Ax
open Go

abbrev Upd := List (Nat × Ob)

def lookL {α : Type} : List (Nat × α) → Nat → Option α
  | [], _ => none
  | (j, v) :: r, k => if j = k then some v else lookL r k

/-- What is set is set. -/
def Upd.app (up : Upd) (μ : Look) : Look := fun id =>
  match lookL up id with
  | some ob => some ob
  | none => μ id

def noUpd : Upd := []
theorem noUpd_app (μ : Look) : Upd.app noUpd μ = μ := by funext id; simp only [Upd.app, noUpd, lookL]

structure Done (w : World) (S : Nat → Prop) (β : Nat → Option Blk) (μ : Look) (v : AV) (up : Upd) (u : Value) (w' : World) (S' : Nat → Prop) (β' : Nat → Option Blk) : Prop where
  inv : Inv w' S' β' (Upd.app up μ)
  val : rep w' S' β' v u
  plain : v.plain
  ext : Ext w S (Own β) w' S'
  keep : ∀ id bl, β id = some bl → β' id = some bl
  own : ∀ id bl, β' id = some bl → Own β bl.b ∨ w.heap.size ≤ bl.b

theorem Done.pure {w : World} {S : Nat → Prop} {β : Nat → Option Blk} {μ : Look} {v : AV} {u : Value} (hi : Inv w S β μ) (h : rep w S β v u) (hp : v.plain) : Done w S β μ v noUpd u w S β :=
  ⟨by rw [noUpd_app]; exact hi, h, hp, Ext.refl _ _ _, fun _ _ h => h, fun id bl h => .inl ⟨id, bl, h, rfl⟩⟩

theorem repCells_append {w : World} {S : Nat → Prop} {β : Nat → Option Blk} {b : Nat} : ∀ (xs ys : List AV) (o : Nat), repCells w S β (xs ++ ys) b o ↔ repCells w S β xs b o ∧ repCells w S β ys b (o + xs.length)
  | [], ys, o => by simp [repCells]
  | x :: xs, ys, o => by
    simp only [List.cons_append, repCells, repCells_append xs ys (o + 1), List.length_cons, and_assoc]
    rw [show o + 1 + xs.length = o + (xs.length + 1) from by omega]

/-- Elements are rows of cells. -/
theorem repEls_of_cells {w : World} {S : Nat → Prop} {β : Nat → Option Blk} {sz b : Nat} : ∀ (els : List AV) (o : Nat),
    repEls w S β sz els b o ↔ (∀ x ∈ els, x.cells.length = sz) ∧ repCells w S β (els.flatMap AV.cells) b o
  | [], o => by simp [repEls, repCells]
  | x :: xs, o => by
    have ih := repEls_of_cells (w := w) (S := S) (β := β) (sz := sz) (b := b) xs (o + sz)
    simp only [repEls, List.flatMap_cons]
    rw [repCells_append, repEl_cells, ih]
    simp only [List.mem_cons, forall_eq_or_imp]
    constructor
    · rintro ⟨h1, h2, h3, h4⟩; exact ⟨⟨h1, h3⟩, h2, by rw [h1]; exact h4⟩
    · rintro ⟨⟨h1, h3⟩, h2, h4⟩; exact ⟨h1, h2, h3, by rw [h1] at h4; exact h4⟩

theorem repCells_of_reps {w w' : World} {S S' : Nat → Prop} {β β' : Nat → Option Blk} {b : Nat} (hr : ∀ x u, rep w S β x u → rep w' S' β' x u) : ∀ (xs : List AV) (us : List Value) (o : Nat), reps w S β xs us → (∀ u ∈ us, u.oneCell' = true) →
    (∀ j u, us[j]? = some u → w'.cell? ⟨b, o + j, none⟩ = some u) → repCells w' S' β' xs b o
  | [], us, o, h, _, _ => by simp [repCells]
  | x :: xs, us, o, h, h1, hc => by
    simp only [reps] at h
    obtain ⟨v, vs, rfl, hv, h⟩ := h
    simp only [repCells]
    refine ⟨⟨v, by simpa using hc 0 v (by simp), h1 v (by simp), hr _ _ hv⟩, repCells_of_reps hr xs vs (o + 1) h (fun u hu => h1 u (by simp [hu])) (fun j u hj => ?_)⟩
    rw [show o + 1 + j = o + (j + 1) from by omega]
    exact hc (j + 1) u (by simpa using hj)

def upd {α : Type} (f : Nat → α) (k : Nat) (v : α) : Nat → α := fun i => if i = k then v else f i
theorem upd_same {α : Type} (f : Nat → α) (k : Nat) (v : α) : upd f k v k = v := by simp [upd]
theorem upd_ne {α : Type} (f : Nat → α) {k i : Nat} (v : α) (h : i ≠ k) : upd f k v i = f i := by simp [upd, h]

section
variable {w : World} {S : Nat → Prop} {β : Nat → Option Blk} {μ : Look}

theorem Inv.blt (hi : Inv w S β μ) {id : Nat} {ob : Ob} {bl : Blk} (hm : μ id = some ob) (hd : ob.dd = false) (h : β id = some bl) (hc : bl.cap ≠ 0) : bl.b < w.heap.size := by
  obtain ⟨_, _, _, h4⟩ := hi.obs id ob bl hm hd h
  obtain ⟨c, ty, hc, _⟩ := h4 hc
  exact (Array.getElem?_eq_some_iff.1 hc).1

theorem app_one (id : Nat) (ob : Ob) (μ : Look) (k : Nat) : Upd.app [(id, ob)] μ k = if k = id then some ob else μ k := by
  simp only [Upd.app, lookL]
  by_cases e : id = k
  · subst e; simp
  · have e' : k ≠ id := fun h => e h.symm
    simp only [e, e', if_false]
theorem app_cons (id : Nat) (ob : Ob) (up : Upd) (μ : Look) : Upd.app ((id, ob) :: up) μ = Upd.app [(id, ob)] (Upd.app up μ) := by
  funext k
  simp only [Upd.app, lookL]
  by_cases e : id = k
  · subst e; simp
  · simp only [e, if_false]

theorem upd_ext {nid : Nat} {bl : Blk} (hold : ∀ b, β nid = some b → b = bl) : ∀ id b, β id = some b → upd β nid (some bl) id = some b := by
  intro id b h
  by_cases e : id = nid
  · subst e; rw [upd_same, hold b h]
  · rw [upd_ne _ _ e]; exact h
theorem upd_id {nid : Nat} {bl : Blk} (h : β nid = some bl) : upd β nid (some bl) = β := by
  funext id
  by_cases e : id = nid
  · subst e; rw [upd_same, h]
  · rw [upd_ne _ _ e]

/-- One object is set; the world may have turned beside it. -/
theorem Inv.put (hi : Inv w S β μ) (nid : Nat) (bl : Blk) (ob : Ob) {w' : World} {S' : Nat → Prop} (hS : ∀ b, S b → S' b ∧ w'.heap[b]? = w.heap[b]?) (hold : ∀ b, β nid = some b → b = bl)
    (hother : ∀ id o b, id ≠ nid → μ id = some o → o.dd = false → β id = some b → b.cap ≠ 0 → w'.heap[b.b]? = w.heap[b.b]? ∧ ¬ S' b.b) (hslt : ∀ b, S' b → b < w'.heap.size)
    (hlive : ob.dd = false → ObAt w' S' (upd β nid (some bl)) bl ob ∧ (bl.cap ≠ 0 → ¬ S' bl.b ∧ ∀ id o b, id ≠ nid → μ id = some o → o.dd = false → β id = some b → b.cap ≠ 0 → b.b ≠ bl.b))
    (hfz : ob.dd = true → ob.cl = false → FzAt w' S' bl ob) : Inv w' S' (upd β nid (some bl)) (Upd.app [(nid, ob)] μ) := by
  have hβ := upd_ext hold
  refine ⟨fun id => ?_, fun id o b hm hd hb => ?_, fun id o b hm hd hcl hb => ?_, fun i j oi oj bi bj hmi hdi hmj hdj hbi hbj hci hcj he => ?_, fun id o b hm hd hb hc => ?_, hslt⟩
  · rw [app_one]
    by_cases e : id = nid
    · subst e; simp [upd_same]
    · rw [if_neg e, upd_ne _ _ e]; exact hi.live id
  · rw [app_one] at hm
    by_cases e : id = nid
    · subst e
      rw [if_pos rfl] at hm; injection hm with hm; subst hm
      rw [upd_same] at hb; injection hb with hb; subst hb
      exact (hlive hd).1
    · rw [if_neg e] at hm; rw [upd_ne _ _ e] at hb
      exact (hi.obs id o b hm hd hb).mono hS (fun hc => (hother id o b e hm hd hb hc).1) hβ
  · rw [app_one] at hm
    by_cases e : id = nid
    · subst e
      rw [if_pos rfl] at hm; injection hm with hm; subst hm
      rw [upd_same] at hb; injection hb with hb; subst hb
      exact hfz hd hcl
    · rw [if_neg e] at hm; rw [upd_ne _ _ e] at hb
      exact (hi.fzs id o b hm hd hcl hb).mono hS
  · rw [app_one] at hmi hmj
    by_cases ei : i = nid <;> by_cases ej : j = nid
    · rw [ei, ej]
    · subst ei; rw [if_pos rfl] at hmi; injection hmi with hmi; subst hmi; rw [upd_same] at hbi; injection hbi with hbi; subst hbi
      rw [if_neg ej] at hmj; rw [upd_ne _ _ ej] at hbj
      exact absurd he.symm (((hlive hdi).2 hci).2 j oj bj ej hmj hdj hbj hcj)
    · subst ej; rw [if_pos rfl] at hmj; injection hmj with hmj; subst hmj; rw [upd_same] at hbj; injection hbj with hbj; subst hbj
      rw [if_neg ei] at hmi; rw [upd_ne _ _ ei] at hbi
      exact absurd he (((hlive hdj).2 hcj).2 i oi bi ei hmi hdi hbi hci)
    · rw [if_neg ei] at hmi; rw [if_neg ej] at hmj; rw [upd_ne _ _ ei] at hbi; rw [upd_ne _ _ ej] at hbj
      exact hi.inj i j oi oj bi bj hmi hdi hmj hdj hbi hbj hci hcj he
  · rw [app_one] at hm
    by_cases e : id = nid
    · subst e
      rw [if_pos rfl] at hm; injection hm with hm; subst hm
      rw [upd_same] at hb; injection hb with hb; subst hb
      exact ((hlive hd).2 hc).1
    · rw [if_neg e] at hm; rw [upd_ne _ _ e] at hb
      exact (hother id o b e hm hd hb hc).2

/-- No object is set. -/
theorem Inv.world (hi : Inv w S β μ) {w' : World} {S' : Nat → Prop} (hS : ∀ b, S b → S' b ∧ w'.heap[b]? = w.heap[b]?)
    (hother : ∀ id o b, μ id = some o → o.dd = false → β id = some b → b.cap ≠ 0 → w'.heap[b.b]? = w.heap[b.b]? ∧ ¬ S' b.b) (hslt : ∀ b, S' b → b < w'.heap.size) : Inv w' S' β μ :=
  ⟨hi.live, fun id o b hm hd hb => (hi.obs id o b hm hd hb).mono hS (fun hc => (hother id o b hm hd hb hc).1) (fun _ _ h => h), fun id o b hm hd hcl hb => (hi.fzs id o b hm hd hcl hb).mono hS, hi.inj,
   fun id o b hm hd hb hc => (hother id o b hm hd hb hc).2, hslt⟩

/-- An object that is new, under a name that is free. -/
theorem Inv.add (hi : Inv w S β μ) {nid : Nat} (hfree : μ nid = none) (sz cap : Nat) (cl : Bool) (els : List AV) (us : List Value) (c : Array Value) (ty : TypeId) (hr : reps w S (βc cl β) (els.flatMap AV.cells) us) (h1 : ∀ u ∈ us, u.oneCell' = true)
    (hw : ∀ x ∈ els, x.cells.length = sz) (hcap : els.length ≤ cap) (hmax : cap ≤ maxLen) (hsize : cap * sz ≤ c.size) (hc : ∀ (j : Nat) (u : Value), us[j]? = some u → c[j]? = some u) :
    Inv (w.alloc (.cells c ty)) S (upd β nid (some ⟨w.heap.size, 0, cap, sz⟩)) (Upd.app [(nid, ⟨sz, els, cl, false⟩)] μ) := by
  have hS : ∀ b, S b → S b ∧ (w.alloc (.cells c ty)).heap[b]? = w.heap[b]? := fun b hb => ⟨hb, Go.RowKit.Below.heap_alloc w _ b (hi.slt b hb)⟩
  have hfb : β nid = none := (hi.live nid).1 hfree
  have hold : ∀ b, β nid = some b → b = (⟨w.heap.size, 0, cap, sz⟩ : Blk) := fun b h => by rw [hfb] at h; cases h
  refine hi.put nid _ _ hS hold (fun id o b _ hm hd hb hc => ⟨Go.RowKit.Below.heap_alloc w _ _ (hi.blt hm hd hb hc), hi.notS id o b hm hd hb hc⟩) (fun b hb => by have := hi.slt b hb; simp; omega) (fun _ => ⟨?_, fun _ => ⟨fun hs => ?_, fun id o b _ hm hd hb hc he => ?_⟩⟩) (fun h => by cases h)
  · have hcell : ∀ (j : Nat) (u : Value), us[j]? = some u → (w.alloc (.cells c ty)).cell? ⟨w.heap.size, 0 + j, none⟩ = some u := by
      intro j u hj
      rw [Nat.zero_add]
      have := hc j u hj
      simp only [World.cell?, heap_alloc_new, this]
      simp
    refine ⟨rfl, hcap, hmax, fun _ => ⟨c, ty, heap_alloc_new w _, by simpa using hsize, ?_⟩⟩
    rw [repEls_of_cells]
    refine ⟨hw, repCells_of_reps (fun x u h => rep_mono hS (fun id _ bl hb => ?_) h) _ us 0 hr h1 hcell⟩
    cases cl with
    | true => exact hb
    | false => exact upd_ext hold id bl hb
  · have := hi.slt _ hs; simp only at this; omega
  · have := hi.blt hm hd hb hc; simp only at he; omega

theorem new_object (hi : Inv w S β μ) {nid : Nat} (hfree : μ nid = none) (sz cap : Nat) (cl : Bool) (els : List AV) (us : List Value) (c : Array Value) (ty : TypeId) (hr : reps w S (βc cl β) (els.flatMap AV.cells) us) (h1 : ∀ u ∈ us, u.oneCell' = true)
    (hw : ∀ x ∈ els, x.cells.length = sz) (hcap : els.length ≤ cap) (hmax : cap ≤ maxLen) (hsize : cap * sz ≤ c.size) (hc : ∀ (j : Nat) (u : Value), us[j]? = some u → c[j]? = some u) :
    Inv (w.alloc (.cells c ty)) S (upd β nid (some ⟨w.heap.size, 0, cap, sz⟩)) (Upd.app [(nid, ⟨sz, els, cl, false⟩)] μ) ∧
    Ext w S (Own β) (w.alloc (.cells c ty)) S ∧
    (∀ id bl, β id = some bl → upd β nid (some ⟨w.heap.size, 0, cap, sz⟩) id = some bl) ∧
    (∀ id bl, upd β nid (some ⟨w.heap.size, 0, cap, sz⟩) id = some bl → Own β bl.b ∨ w.heap.size ≤ bl.b) := by
  have hfb : β nid = none := (hi.live nid).1 hfree
  refine ⟨hi.add hfree sz cap cl els us c ty hr h1 hw hcap hmax hsize hc, ⟨rfl, rfl, rfl, by simp, fun b hb => ⟨hb, Go.RowKit.Below.heap_alloc w _ b (hi.slt b hb)⟩, fun b hb _ => Go.RowKit.Below.heap_alloc w _ b hb, fun b hb => .inl hb⟩, ?_, ?_⟩
  · intro id bl h
    rw [upd_ne _ _ (fun e => by rw [e, hfb] at h; cases h)]; exact h
  · intro id bl hbl
    by_cases e : id = nid
    · subst e; rw [upd_same] at hbl; injection hbl with hbl; subst hbl; exact .inr (Nat.le_refl _)
    · rw [upd_ne _ _ e] at hbl; exact .inl ⟨id, bl, hbl, rfl⟩

def Ob.mv (φ : Nat → Option Nat) (ob : Ob) : Ob := if ob.cl || ob.dd then ob else ⟨ob.sz, ob.els.map (·.mv φ), ob.cl, ob.dd⟩
theorem Ob.mv_dd (φ : Nat → Option Nat) (ob : Ob) : (ob.mv φ).dd = ob.dd := by unfold Ob.mv; split <;> rfl

/-- Names are turned. -/
theorem Inv.mv (hi : Inv w S β μ) (φ ψ : Nat → Option Nat) (h : ∀ i j, φ i = some j ↔ ψ j = some i) : Inv w S (fun j => (ψ j).bind β) (fun j => (ψ j).bind fun i => (μ i).map (Ob.mv φ)) := by
  have key : ∀ j ob, ((ψ j).bind fun i => (μ i).map (Ob.mv φ)) = some ob → ∃ i ob0, ψ j = some i ∧ μ i = some ob0 ∧ ob = ob0.mv φ := by
    intro j ob hob
    simp only [Option.bind_eq_some_iff, Option.map_eq_some_iff] at hob
    obtain ⟨i, hi, ob0, h0, rfl⟩ := hob
    exact ⟨i, ob0, hi, h0, rfl⟩
  have keyb : ∀ j bl i, ψ j = some i → (ψ j).bind β = some bl → β i = some bl := by
    intro j bl i hj hb; rw [hj] at hb; exact hb
  refine ⟨?_, ?_, ?_, ?_, ?_, hi.slt⟩
  · intro j
    cases hj : ψ j with
    | none => simp
    | some i => simp [hi.live i]
  · intro j ob bl hob hdd hbl
    obtain ⟨i, ob0, hj, h0, rfl⟩ := key j ob hob
    have hb := keyb j bl i hj hbl
    rw [Ob.mv_dd] at hdd
    obtain ⟨g1, g2, g3, g4⟩ := hi.obs i ob0 bl h0 hdd hb
    obtain ⟨osz, oels, ocl, odd⟩ := ob0
    simp only at hdd; subst hdd
    cases ocl with
    | true => simp only [Ob.mv, Bool.true_or, if_true]; exact ⟨g1, g2, g3, g4⟩
    | false =>
      simp only [Ob.mv, Bool.or_self, Bool.false_eq_true, if_false, βc] at g4 ⊢
      refine ⟨g1, by simpa using g2, g3, fun hc => ?_⟩
      obtain ⟨c0, ty0, g4, g5, g6⟩ := g4 hc
      refine ⟨c0, ty0, g4, g5, ?_⟩
      refine (rep_mv_all (w := w) (w' := w) (S := S) (S' := S) (fun b hb => ⟨hb, rfl⟩) φ).2.2.2.1 β _ _ _ _ rfl _ (fun id k hk bl' hb' => ?_) g6
      show (ψ k).bind β = some bl'
      rw [(h id k).1 hk]; exact hb'
  · intro j ob bl hob hdd hcl hbl
    obtain ⟨i, ob0, hj, h0, rfl⟩ := key j ob hob
    have hb := keyb j bl i hj hbl
    rw [Ob.mv_dd] at hdd
    have e : ob0.mv φ = ob0 := by unfold Ob.mv; rw [hdd]; simp
    rw [e] at hcl ⊢
    exact hi.fzs i ob0 bl h0 hdd hcl hb
  · intro a b oa ob ba bb hma hda hmb hdb hba hbb hca hcb he
    obtain ⟨i, oa0, hj, h0, rfl⟩ := key a oa hma
    obtain ⟨i', ob0, hj', h0', rfl⟩ := key b ob hmb
    rw [Ob.mv_dd] at hda hdb
    have := hi.inj i i' oa0 ob0 ba bb h0 hda h0' hdb (keyb a ba i hj hba) (keyb b bb i' hj' hbb) hca hcb he
    subst this
    have e1 := (h i a).2 hj
    have e2 := (h i b).2 hj'
    rw [e1] at e2; injection e2
  · intro j ob bl hob hdd hbl hc
    obtain ⟨i, ob0, hj, h0, rfl⟩ := key j ob hob
    rw [Ob.mv_dd] at hdd
    exact hi.notS i ob0 bl h0 hdd (keyb j bl i hj hbl) hc
end
end Go.Ax
