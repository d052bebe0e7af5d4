import Derived.Test.YtgecjhclhdgpgaaXH6
import Derived.Great.BuildSlice
import Derived.Laws.MakeOwn
import Derived.Laws.Slices
set_option linter.unusedVariables false
set_option linter.unusedSimpArgs false
namespace Go.Ax
open Go

section
variable {P : Program} {w : World} {S : Nat → Prop} {β : Nat → Option Blk} {μ : Look}

/-! ## a slice's literal -/
def okPart (sz : Nat) (v : AV) : Prop := v.isAny = false ∧ v.isTup = false ∧ v.cells.length = sz
def okParts (sz : Nat) : List AV → Prop
  | [] => True
  | v :: r => okPart sz v ∧ okParts sz r
theorem okParts_mem {sz : Nat} : ∀ {l : List AV}, okParts sz l → ∀ v ∈ l, okPart sz v
  | [], _, v, h => by cases h
  | x :: r, h, v, hv => by
    cases hv with
    | head => exact h.1
    | tail _ hv => exact okParts_mem h.2 v hv
def bsE (sz : Nat) (nid : Nat) (vs : List AV) (lk : Look) : Option (Prop × AV × Upd) := some (lk nid = none ∧ okParts sz vs, .row nid sz 0 vs.length, [(nid, ⟨sz, vs, closedL vs, false⟩)])

theorem fill_seq (size : Nat) : ∀ (vals : List Value) (k : Nat) (us : Array Value), (∀ v ∈ vals, v.cells.size = size) → us.size = (k + vals.length) * size →
    ∃ vs : Array Value, Instr.fill (fun i => some (i * size, size)) us ((vals.zipIdx k).map fun x => (x.2, x.1)) = some vs ∧ vs.toList = us.toList.take (k * size) ++ vals.flatMap (·.cells.toList)
  | [], k, us, _, hs => ⟨us, by simp [Instr.fill], by simp at hs; simp [List.take_of_length_le, hs]⟩
  | v :: r, k, us, hv, hs => by
    have hvs := hv v (by simp)
    simp only [List.length_cons] at hs
    have hfit : k * size + v.cells.size ≤ us.size := by
      rw [hs, hvs]
      have : (k + 1) * size ≤ (k + (r.length + 1)) * size := Nat.mul_le_mul_right _ (by omega)
      rw [Nat.add_mul, Nat.one_mul] at this
      exact this
    obtain ⟨vs, h1, h2⟩ := fill_seq size r (k + 1) (us.toList.take (k * size) ++ v.cells.toList ++ us.toList.drop (k * size + v.cells.size)).toArray (fun x hx => hv x (by simp [hx])) (by
      simp only [List.size_toArray, List.length_append, List.length_take, List.length_drop, Array.length_toList]
      rw [show k + 1 + r.length = k + (r.length + 1) from by omega, ← hs]
      omega)
    refine ⟨vs, ?_, ?_⟩
    · simp only [List.zipIdx_cons, List.map_cons, Instr.fill]
      rw [if_neg (by simp; omega), foldl_cells us v _ hfit]
      exact h1
    · rw [h2]
      simp only [List.flatMap_cons]
      rw [Nat.add_mul, Nat.one_mul, ← List.append_assoc]
      congr 1
      have hle : k * size ≤ us.toList.length := by simp; omega
      rw [List.append_assoc, List.take_append, List.length_take, Nat.min_eq_left hle, List.take_of_length_le (by simp; omega)]
      congr 1
      rw [show k * size + size - k * size = size from by omega, List.take_append_of_le_length (by simp [hvs]), List.take_of_length_le (by simp [hvs])]

theorem bs_sound (hi : Inv w S β μ) {t e : TypeId} {inf : TypeInfo} {z : Value} (ht : P.underlying t = some (.slice e)) (hinf : P.info? e = some inf) (hz : inf.zero = some z)
    {nid : Nat} {vs : List AV} {us : List Value} (hr : ∀ (i : Nat) (v : AV), vs[i]? = some v → ∃ u, us[i]? = some u ∧ rep w S β v u ∧ v.plain) (hlen : us.length = vs.length) {v : AV} {p : Prop} {up : Upd} (hsmall : vs.length * inf.size ≤ 2 ^ 24) (hsm : vs.length ≤ 2 ^ 24) (h : bsE inf.size nid vs μ = some (p, v, up)) (hp : p) :
    RunDone P w S β μ (Instr.buildSlice t vs.length ((us.zipIdx 0).map fun x => (x.2, x.1)).toArray) v up := by
  simp only [bsE, Option.some.injEq, Prod.mk.injEq] at h
  obtain ⟨rfl, rfl, rfl⟩ := h
  obtain ⟨hfree, hok⟩ := hp
  have key : ∀ (vs : List AV) (us : List Value), us.length = vs.length → (∀ (i : Nat) (v : AV), vs[i]? = some v → ∃ u, us[i]? = some u ∧ rep w S β v u ∧ v.plain) → (∀ v ∈ vs, okPart inf.size v) →
      reps w S β (vs.flatMap AV.cells) (us.flatMap (·.cells.toList)) ∧ (∀ u ∈ us, u.cells.size = inf.size) ∧ (∀ c ∈ us.flatMap (·.cells.toList), c.oneCell' = true) := by
    intro vs
    induction vs with
    | nil => intro us hl _ _; have : us = [] := List.length_eq_zero_iff.1 hl; subst this; simp [reps]
    | cons x xs ih =>
      intro us hl hr hok
      cases us with
      | nil => simp at hl
      | cons u us =>
        obtain ⟨u', hu', hru, hpl⟩ := hr 0 x (by simp)
        simp at hu'; subst hu'
        obtain ⟨ha, hta, hc⟩ := hok x (by simp)
        have hany : x ≠ .any := fun e => by simp [e, AV.isAny] at ha
        have htup : ∀ vs, x ≠ .tup vs := fun vs e => by simp [e, AV.isTup] at hta
        obtain ⟨h1, h2, h3⟩ := ih us (by simpa using hl) (fun i v hv => hr (i + 1) v (by simpa using hv)) (fun v hv => hok v (by simp [hv]))
        have hcr := rep_cells hany hru hpl
        have hone := one_cells hru hpl hany htup
        have hcl := reps_length hcr
        simp only [Array.length_toList] at hcl
        refine ⟨by simp only [List.flatMap_cons]; exact reps_append hcr h1, ?_, ?_⟩
        · intro v hv
          cases hv with
          | head => omega
          | tail _ hv => exact h2 v hv
        · intro c hc
          simp only [List.flatMap_cons, List.mem_append] at hc
          exact hc.elim (hone c) (h3 c)
  obtain ⟨h1, h2, h3⟩ := key vs us hlen hr (okParts_mem hok)
  have hww : ∀ x ∈ vs, x.cells.length = inf.size := fun x hx => (okParts_mem hok x hx).2.2
  have hrc : reps w S (βc (closedL vs) β) (vs.flatMap AV.cells) (us.flatMap (·.cells.toList)) := by
    cases hc : closedL vs with
    | false => exact h1
    | true =>
      refine reps_closed ?_ h1
      clear h1 h2 h3 hww hsmall hsm hok hlen hr
      induction vs with
      | nil => rfl
      | cons x xs ih =>
        simp only [closedL, Bool.and_eq_true] at hc
        have hcc : closedL x.cells = true := by
          have h := hc.1
          cases x <;> simp_all [AV.cells, closedL, AV.closed]
        have happ : ∀ a b : List AV, closedL (a ++ b) = (closedL a && closedL b) := by
          intro a b; induction a with
          | nil => simp [closedL]
          | cons y ys ih => simp [closedL, ih, Bool.and_assoc]
        simp only [List.flatMap_cons, happ, hcc, ih hc.2, Bool.and_self]
  have hlc : (us.flatMap (·.cells.toList)).length = vs.length * inf.size := by
    rw [← hlen]
    clear hr hlen h1 h3 hrc
    induction us with
    | nil => simp
    | cons u us ih => simp only [List.flatMap_cons, List.length_append, Array.length_toList, List.length_cons, h2 u (by simp), ih (fun v hv => h2 v (by simp [hv])), Nat.add_mul, Nat.one_mul]; omega
  obtain ⟨g1, g2, g3, g4⟩ := new_object hi hfree inf.size vs.length (closedL vs) vs (us.flatMap (·.cells.toList)) (us.flatMap (·.cells.toList)).toArray e hrc h3 hww (Nat.le_refl _)
    (by simp only [maxLen]; omega) (by simpa using Nat.le_of_eq hlc.symm) (by intro j u hj; simpa using hj)
  refine ⟨.slice (some ⟨w.heap.size, 0, none⟩) vs.length vs.length, _, S, _, ?_, g1, ?_, plain_row _ _ _ _, g2, g3, g4⟩
  · by_cases hpos : vs.length * inf.size = 0
    · have hnil : us.flatMap (·.cells.toList) = [] := List.length_eq_zero_iff.1 (by omega)
      rw [hnil]
      obtain ⟨vs', f1, f2⟩ := fill_seq inf.size us 0 #[] h2 (by simp [hlen, hpos])
      have hvs' : vs' = #[] := by rw [← Array.toList_inj, f2, hnil]; simp
      subst hvs'
      simp [Instr.buildSlice, run_underlying ht, sizeOf, typeInfo, hinf, hpos, Array.range_zero', f1, newRow]
    · obtain ⟨vs', f1, f2⟩ := fill_seq inf.size us 0 ((Array.range (vs.length * inf.size)).map (z.cells[· % z.cells.size]!)) h2 (by simp [hlen])
      have hvs' : vs' = (us.flatMap (·.cells.toList)).toArray := by rw [← Array.toList_inj, f2]; simp
      rw [run_buildSlice w t e vs.length _ vs' inf z ht hinf hz (by omega) hpos (by simpa using f1), hvs']
  · simp only [rep]
    exact ⟨_, _, upd_same _ _ _, rfl, by simp, rfl, fun _ => by simp⟩

/-! ## make -/
def mksE (sz by' : Nat) (z : AV) (nid : Nat) (l c : AV) (lk : Look) : Option (Prop × AV × Upd) := match l, c with
  | .lit (.int _ n), .lit (.int _ m) => some ((lk nid = none ∧ 0 ≤ n ∧ n ≤ m) ∧ m * by' ≤ 281474976710656 ∧ m ≤ 9223372036854775807, .row nid sz 0 n.toNat, [(nid, ⟨sz, List.replicate n.toNat z, true, false⟩)])
  | _, _ => none

theorem closedL_append (a b : List AV) : closedL (a ++ b) = (closedL a && closedL b) := by
  induction a with
  | nil => simp [closedL]
  | cons y ys ih => simp [closedL, ih, Bool.and_assoc]
theorem closedL_map_lit (vs : List Value) : closedL (vs.map .lit) = true := by
  induction vs with
  | nil => rfl
  | cons v vs ih => simp [closedL, AV.closed, ih]
theorem ofVal_cells (z : Value) : (ofVal z).cells = z.cells.toList.map .lit := by
  cases z <;> simp [ofVal, AV.cells, Value.cells]
theorem madeCells_get (z : Array Value) (n k j : Nat) (hj : j < n * z.size) (hz : k = n * z.size) : (madeCells z k)[j]? = z.toList[j % z.size]? := by
  subst hz
  have hpos : 0 < z.size := by
    rcases Nat.eq_zero_or_pos z.size with h | h
    · rw [h] at hj; simp at hj
    · exact h
  have hm : j % z.size < z.size := Nat.mod_lt _ hpos
  simp [madeCells, hj, hm, getElem!_pos]

theorem mks_sound (hi : Inv w S β μ) {t e : TypeId} {inf : TypeInfo} {z : Value} (ht : P.underlying t = some (.slice e)) (hinf : P.info? e = some inf) (hz : inf.zero = some z) (hzs : z.cells.size = inf.size) (hz1 : z.cells.all (·.oneCell') = true)
    {nid : Nat} {l c v : AV} {ul uc : Value} (hl : rep w S β l ul) (hc : rep w S β c uc) {p : Prop} {up : Upd} (h : mksE inf.size inf.bytes (ofVal z) nid l c μ = some (p, v, up)) (hp : p) :
    RunDone P w S β μ (Instr.makeSlice t ul uc) v up := by
  unfold mksE at h
  split at h
  · rename_i kl n kc m
    simp only [Option.some.injEq, Prod.mk.injEq] at h
    obtain ⟨rfl, rfl, rfl⟩ := h
    obtain ⟨⟨hfree, h0, hnm⟩, hby, h63⟩ := hp
    obtain rfl := rep_lit' hl
    obtain rfl := rep_lit' hc
    have hrun := run_make (P := P) w t e inf z ht hinf hz kl kc n m h0 hnm (by rw [Int.mul_comm]; exact hby) h63
    have hcells : ∀ k, (List.replicate k (ofVal z)).flatMap AV.cells = ((List.replicate k z).flatMap (·.cells.toList)).map .lit := by
      intro k
      induction k with
      | zero => rfl
      | succ k ih => simp only [List.replicate_succ, List.flatMap_cons, ih, List.map_append, ofVal_cells]
    have hlen : ∀ k, ((List.replicate k z).flatMap (·.cells.toList)).length = k * inf.size := by
      intro k
      induction k with
      | zero => simp
      | succ k ih => simp only [List.replicate_succ, List.flatMap_cons, List.length_append, ih, Array.length_toList, hzs, Nat.add_mul, Nat.one_mul]; omega
    have hget : ∀ (k j : Nat) (u : Value), ((List.replicate k z).flatMap (·.cells.toList))[j]? = some u → z.cells.toList[j % z.cells.size]? = some u := by
      intro k
      induction k with
      | zero => intro j u h; simp at h
      | succ k ih =>
        intro j u h
        simp only [List.replicate_succ, List.flatMap_cons, List.getElem?_append, Array.length_toList] at h
        split at h
        · rename_i hlt; rw [Nat.mod_eq_of_lt hlt]; exact h
        · rename_i hge
          have := ih _ _ h
          rwa [Nat.mod_eq_sub_mod (by omega)]
    have hone : ∀ u ∈ (List.replicate n.toNat z).flatMap (·.cells.toList), u.oneCell' = true := by
      intro u hu
      obtain ⟨y, hy, hu⟩ := List.mem_flatMap.1 hu
      rw [List.mem_replicate] at hy
      rw [Array.all_eq_true_iff_forall_mem] at hz1
      exact hz1 u (by rw [hy.2] at hu; simpa using hu)
    obtain ⟨g1, g2, g3, g4⟩ := new_object hi hfree inf.size m.toNat true (List.replicate n.toNat (ofVal z)) ((List.replicate n.toNat z).flatMap (·.cells.toList)) (madeCells z.cells (m.toNat * inf.size)) e
      (by rw [hcells]; exact reps_map_lit _ hone) hone (by intro x hx; rw [(List.mem_replicate.1 hx).2, ofVal_cells]; simpa using hzs) (by simp; omega) (by simp only [maxLen]; omega) (by rw [size_madeCells]; exact Nat.le_refl _) (by
        intro j u hj
        have hjl := (List.getElem?_eq_some_iff.1 hj).1
        rw [hlen] at hjl
        have hle : n.toNat * inf.size ≤ m.toNat * inf.size := Nat.mul_le_mul_right _ (by omega)
        rw [madeCells_get z.cells m.toNat _ j (by rw [hzs]; omega) (by rw [hzs])]
        exact hget _ _ _ hj)
    refine ⟨_, _, S, _, hrun, g1, ?_, plain_row _ _ _ _, g2, g3, g4⟩
    simp only [rep]
    exact ⟨_, _, upd_same _ _ _, rfl, by simp; omega, rfl, fun _ => by simp⟩
  · cases h

/-! ## slice expressions -/
def AV.isSlice : AV → Bool
  | .sl _ _ | .row _ _ _ _ | .lit (.slice none 0 0) => true
  | _ => false
def intE : AV → Option Int
  | .lit (.int _ n) => some n
  | _ => none
def lowE : Option AV → Option Int
  | none => some 0
  | some x => intE x
def highE (len : Nat) : Option AV → Option Int
  | none => some len
  | some x => intE x
def slcRow (z : Nat) (x : AV) (nid : Nat) (h m : AV) (lk : Look) : Option (Prop × AV × Upd) := match h, m with
  | .lit (.int _ 0), .lit (.int _ 0) => some (lk nid = none ∧ x.isSlice = true, .row nid z 0 0, [(nid, ⟨z, [], true, false⟩)])
  | _, _ => none
def slcE (sz nid : Nat) (x : AV) (lo hi mx : Option AV) (lk : Look) : Option (Prop × AV × Upd) :=
  match mx with
  | some m => match lo, hi with
    | none, some h => slcRow sz x nid h m lk
    | _, _ => none
  | none => match lowE lo with
    | none => none
    | some l => match x with
      | .sl z xs => (highE xs.length hi).map fun h => ((0 ≤ l ∧ l ≤ h ∧ h ≤ xs.length) ∧ (xs = [] ∨ z = sz), .sl z ((xs.take h.toNat).drop l.toNat), [])
      | .row id z o n => (highE n hi).map fun h => ((0 ≤ l ∧ l ≤ h ∧ h ≤ n) ∧ z = sz, .row id z (o + l.toNat) (h.toNat - l.toNat), [])
      | .lit (.slice none 0 0) => (highE 0 hi).map fun h => (l = 0 ∧ h = 0, nilS, [])
      | _ => none
def slsE (x : AV) (lo hi : Option AV) : Option (Prop × AV × Upd) :=
  match lowE lo with
  | none => none
  | some l => match x with
    | .lit (.string s) => (highE s.size hi).map fun h => ((0 ≤ l ∧ l ≤ h ∧ h ≤ s.size), .lit (.string (s.extract l.toNat h.toNat)), [])
    | _ => none

def repO (w : World) (S : Nat → Prop) (β : Nat → Option Blk) : Option AV → Option Value → Prop
  | none, u => u = none
  | some x, u => ∃ v, u = some v ∧ rep w S β x v

theorem bounds_run {lo hi : Option AV} {ulo uhi : Option Value} (hlo : repO w S β lo ulo) (hhi : repO w S β hi uhi) {l h : Int} {len cap : Nat} {sl : Bool} (el : lowE lo = some l) (eh : highE len hi = some h) (h0 : 0 ≤ l) (h1 : l ≤ h) (h2 : h ≤ cap) :
    (Instr.sliceBounds sl len cap ulo uhi none).run P w = .ok (l.toNat, h.toNat, cap) w := by
  have kl : ∀ x : AV, intE x = some l → ∃ k, x = .lit (.int k l) := by
    intro x hx; unfold intE at hx; split at hx
    · simp only [Option.some.injEq] at hx; subst hx; exact ⟨_, rfl⟩
    · cases hx
  have kh : ∀ x : AV, intE x = some h → ∃ k, x = .lit (.int k h) := by
    intro x hx; unfold intE at hx; split at hx
    · simp only [Option.some.injEq] at hx; subst hx; exact ⟨_, rfl⟩
    · cases hx
  have ehn : (h.toNat : Int) = h := Int.toNat_of_nonneg (by omega)
  have hz : 0 ≤ h := by omega
  cases hi with
  | none =>
    simp only [highE, Option.some.injEq] at eh
    simp only [repO] at hhi
    subst hhi
    cases lo with
    | none =>
      simp only [lowE, Option.some.injEq] at el
      simp only [repO] at hlo
      subst hlo; subst el; subst eh
      simp [Instr.sliceBounds]
    | some x =>
      obtain ⟨k, rfl⟩ := kl x el
      obtain ⟨v, rfl, hv⟩ := hlo
      obtain rfl := rep_lit' hv
      subst eh
      have : Int.toNat l ≤ len := by omega
      simp [Instr.sliceBounds, run_sliceBound, h0, h1]
  | some y =>
    obtain ⟨k, rfl⟩ := kh y eh
    obtain ⟨v, rfl, hv⟩ := hhi
    obtain rfl := rep_lit' hv
    cases lo with
    | none =>
      simp only [lowE, Option.some.injEq] at el
      simp only [repO] at hlo
      subst hlo; subst el
      simp [Instr.sliceBounds, run_sliceBound, hz, h2]
    | some x =>
      obtain ⟨k', rfl⟩ := kl x el
      obtain ⟨v, rfl, hv⟩ := hlo
      obtain rfl := rep_lit' hv
      simp [Instr.sliceBounds, run_sliceBound, hz, h0, h1, h2, ehn]

theorem slice_run {t e : TypeId} {inf : TypeInfo} (ht : P.underlying t = some (.slice e)) (hinf : P.info? e = some inf) {lo hi mx : Option Value} {a : Option Addr} {len cap l h m : Nat} (hb : (Instr.sliceBounds true len cap lo hi mx).run P w = .ok (l, h, m) w) :
    (Instr.sliceAt t (.slice a len cap) lo hi mx).run P w = .ok (.slice (if m = l then a else a.map (·.add (l * inf.size))) (h - l) (m - l)) w := by
  have he : P.elem t = e := by simp [Program.elem, ht]
  have ht' : P.underlying t = some (.slice (P.elem t)) := by rw [he]; exact ht
  rw [run_sliceAt_slice w t _ lo hi mx ht', run_slice_any w t a len cap ht', hb, he]
  simp [sizeOf, typeInfo, hinf, sliced]

theorem slc_sound (hi' : Inv w S β μ) {t e : TypeId} {inf : TypeInfo} (ht : P.underlying t = some (.slice e)) (hinf : P.info? e = some inf) {nid : Nat} {x v : AV} {ux : Value} {lo hi mx : Option AV} {ulo uhi umx : Option Value}
    (hx : rep w S β x ux) (hlo : repO w S β lo ulo) (hhi : repO w S β hi uhi) (hmx : repO w S β mx umx) {p : Prop} {up : Upd} (h : slcE inf.size nid x lo hi mx μ = some (p, v, up)) (hp : p) :
    RunDone P w S β μ (Instr.sliceAt t ux ulo uhi umx) v up := by
  have pureD : ∀ {v u}, rep w S β v u → (Instr.sliceAt t ux ulo uhi umx).run P w = .ok u w → RunDone P w S β μ (Instr.sliceAt t ux ulo uhi umx) v [] := fun hr hrun => ⟨_, w, S, β, hrun, Done.pure hi' hr (rep_plain hr)⟩
  unfold slcE at h
  split at h
  · rename_i m
    split at h
    · rename_i hh
      unfold slcRow at h
      split at h
      · rename_i k1 k2
        simp only [Option.some.injEq, Prod.mk.injEq] at h
        obtain ⟨rfl, rfl, rfl⟩ := h
        obtain ⟨hfree, hsl⟩ := hp
        have hsv : ∃ a len cap, ux = .slice a len cap := by
          unfold AV.isSlice at hsl
          split at hsl
          · simp only [rep] at hx; obtain ⟨a, cap, rfl, _⟩ := hx; exact ⟨_, _, _, rfl⟩
          · simp only [rep] at hx; obtain ⟨bl, a, _, rfl, _⟩ := hx; exact ⟨_, _, _, rfl⟩
          · simp only [rep] at hx; obtain ⟨rfl, _⟩ := hx; exact ⟨_, _, _, rfl⟩
          · cases hsl
        obtain ⟨a, len, cap, rfl⟩ := hsv
        simp only [repO] at hlo hhi hmx
        subst hlo
        obtain ⟨uh, rfl, hh⟩ := hhi
        obtain ⟨um, rfl, hm⟩ := hmx
        obtain rfl := rep_lit' hh
        obtain rfl := rep_lit' hm
        have hb : (Instr.sliceBounds true len cap none (some (.int k1 0)) (some (.int k2 0))).run P w = .ok (0, 0, 0) w := by
          simp [Instr.sliceBounds, run_sliceBound]
        have hfb : β nid = none := (hi'.live nid).1 hfree
        refine ⟨_, w, S, upd β nid (some ⟨w.heap.size, 0, 0, inf.size⟩), slice_run ht hinf hb, hi'.adopt hfree (w' := w) (bl := ⟨w.heap.size, 0, 0, inf.size⟩) rfl (Nat.le_refl _) (fun _ _ _ => rfl) (fun h => absurd rfl h) (fun _ _ _ _ _ _ _ h => absurd rfl h) ⟨rfl, by simp, by simp, fun h => absurd rfl h⟩, ?_, plain_row _ _ _ _, Ext.refl _ _ _, ?_, ?_⟩
        · simp only [rep]; exact ⟨_, _, upd_same _ _ _, rfl, by simp, rfl, fun h => by simp at h⟩
        · intro i b h; rw [upd_ne _ _ (fun e => by rw [e, hfb] at h; cases h)]; exact h
        · intro i b h
          by_cases e : i = nid
          · subst e; rw [upd_same] at h; injection h with h; subst h; exact .inr (Nat.le_refl _)
          · rw [upd_ne _ _ e] at h; exact .inl ⟨i, b, h, rfl⟩
      · cases h
    · cases h
  · simp only [repO] at hmx
    subst hmx
    split at h
    · cases h
    · rename_i l hl
      split at h
      · rename_i z xs
        simp only [Option.map_eq_some_iff, Prod.mk.injEq] at h
        obtain ⟨hh, eh, rfl, rfl, rfl⟩ := h
        obtain ⟨⟨h0, h1, h2⟩, hz⟩ := hp
        simp only [rep] at hx
        obtain ⟨a, cap, rfl, hcap, hx⟩ := hx
        refine pureD ?_ (slice_run ht hinf (bounds_run hlo hhi hl eh h0 h1 (by omega)))
        have hlen : ((xs.take hh.toNat).drop l.toNat).length = hh.toNat - l.toNat := by rw [List.length_drop, List.length_take]; omega
        simp only [rep]
        refine ⟨_, cap - l.toNat, by rw [hlen], ⟨by omega, by omega⟩, ?_⟩
        by_cases hn : hh.toNat - l.toNat = 0
        · left; exact List.length_eq_zero_iff.1 (by omega)
        · right
          rcases hx with rfl | ⟨b, o, rfl, hs, hx⟩
          · simp at h2; omega
          · rcases hz with rfl | rfl
            · simp at h2; omega
            · refine ⟨b, o + l.toNat * inf.size, ?_, hs, repEls_drop _ _ _ (repEls_take _ _ _ hx) (by rw [List.length_take]; omega)⟩
              rw [if_neg (by omega), Option.map_some, add_addr]
      · rename_i id z oo n
        simp only [Option.map_eq_some_iff, Prod.mk.injEq] at h
        obtain ⟨hh, eh, rfl, rfl, rfl⟩ := h
        obtain ⟨⟨h0, h1, h2⟩, rfl⟩ := hp
        simp only [rep] at hx
        obtain ⟨bl, a, hbl, rfl, hcap, hsz, ha⟩ := hx
        refine pureD ?_ (slice_run ht hinf (bounds_run hlo hhi hl eh h0 h1 (by omega)))
        simp only [rep]
        refine ⟨bl, _, hbl, by rw [Nat.sub_sub], by omega, hsz, fun hlt => ?_⟩
        rw [if_neg (by omega), ha (by omega), Option.map_some, add_addr]
        rw [Nat.add_mul, Nat.add_assoc]
      · simp only [Option.map_eq_some_iff, Prod.mk.injEq] at h
        obtain ⟨hh, eh, rfl, rfl, rfl⟩ := h
        obtain ⟨rfl, rfl⟩ := hp
        obtain rfl := rep_lit' hx
        refine pureD (u := .slice none 0 0) (rep_lit _) ?_
        rw [slice_run ht hinf (bounds_run hlo hhi hl eh (by omega) (by omega) (by omega))]
        simp
      · cases h

theorem sls_sound (hi' : Inv w S β μ) {t : TypeId} (ht : P.underlying t = some .string) {x v : AV} {ux : Value} {lo hi : Option AV} {ulo uhi : Option Value}
    (hx : rep w S β x ux) (hlo : repO w S β lo ulo) (hhi : repO w S β hi uhi) {p : Prop} {up : Upd} (h : slsE x lo hi = some (p, v, up)) (hp : p) :
    RunDone P w S β μ (Instr.sliceAt t ux ulo uhi none) v up := by
  unfold slsE at h
  split at h
  · cases h
  · rename_i l hl
    split at h
    · rename_i s
      simp only [Option.map_eq_some_iff, Prod.mk.injEq] at h
      obtain ⟨hh, eh, rfl, rfl, rfl⟩ := h
      obtain ⟨h0, h1, h2⟩ := hp
      obtain rfl := rep_lit' hx
      refine ⟨_, w, S, β, ?_, Done.pure hi' (rep_lit _) (rep_plain (rep_lit (w := w) (S := S) (β := β) _))⟩
      rw [run_sliceAt_string w t _ ulo uhi none ht]
      simp [Instr.slice, run_underlying ht, bounds_run (P := P) (sl := false) hlo hhi hl eh h0 h1 h2]
    · cases h
end
end Go.Ax
