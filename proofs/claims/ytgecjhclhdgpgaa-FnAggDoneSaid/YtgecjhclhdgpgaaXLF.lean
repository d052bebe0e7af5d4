import Derived.Test.YtgecjhclhdgpgaaXL0
import Derived.Orders
set_option linter.unusedVariables false
set_option linter.unusedSimpArgs false
namespace Go.Ax
open Go

def Ix.opnd : Ix → List IX
  | .bi _ xs => xs
  | .mv x | .un _ x | .conv _ x | .nilc x | .fad _ x | .fld _ _ _ x | .ext _ x | .ld _ _ x | .len x | .slen x | .box x => [x]
  | .pick c a b => [c, a, b]
  | .bin _ _ x y | .idx _ x y | .sidx x y | .min x y | .max x y | .st _ x y => [x, y]
  | .build ps _ => ps.map (·.2.2)
  | .mkf _ cs => cs
  | .alloc _ _ | .bad => []
  | .call f xs => f :: xs
def slotsX : List IX → List Nat
  | [] => []
  | .v t :: r => t :: slotsX r
  | .c _ :: r => slotsX r
def idsOf (op : Ix) (lk : Nat → AV) : List Nat := namesL (op.opnd.map (evX lk))

theorem mem_slots {x : IX} {l : List IX} (h : x ∈ l) : ∀ t, x = .v t → t ∈ slotsX l := by
  induction l with
  | nil => cases h
  | cons y r ih =>
    intro t e
    cases h with
    | head => subst e; simp [slotsX]
    | tail _ h => have := ih h t e; cases y <;> simp [slotsX, this]

theorem evX_congr {l : List IX} {lk lk' : Nat → AV} (h : ∀ t ∈ slotsX l, lk t = lk' t) {x : IX} (hx : x ∈ l) : evX lk x = evX lk' x := by
  cases x with
  | v t => exact h t (mem_slots hx t rfl)
  | c y => rfl

theorem fillE_congr {lk lk' : Nat → AV} : ∀ (ps : List (Nat × Nat × IX)) (cs : List AV), (∀ x ∈ ps.map (·.2.2), evX lk x = evX lk' x) → fillE lk ps cs = fillE lk' ps cs
  | [], cs, h => rfl
  | (o, n, x) :: r, cs, h => by
    have hx := h x (by simp)
    simp only [fillE, hx]
    split
    · exact fillE_congr r _ (fun y hy => h y (by simp only [List.map_cons, List.mem_cons]; exact .inr hy))
    · rfl

theorem names_sub {x : AV} {l : List AV} (h : x ∈ l) {id : Nat} (hi : id ∈ x.names) : id ∈ namesL l := by
  induction l with
  | nil => cases h
  | cons y r ih =>
    simp only [namesL, List.mem_append]
    cases h with
    | head => exact .inl hi
    | tail _ h => exact .inr (ih h)

section
variable {P : Program} {Γ : Cts}

def GLoc (Γ : Cts) : Prop := ∀ N C, lookL Γ N = some C → ∀ nid as μ μ', (∀ id, foot nid (namesL as) id = true → μ id = μ' id) → C nid as μ = C nid as μ'

theorem srcE_congr {sz : Nat} {y : AV} {μ μ' : Look} (h : ∀ id ∈ y.names, μ id = μ' id) : srcE sz y μ = srcE sz y μ' := by
  unfold srcE
  cases y with
  | row id z lo m => simp only [h id (by simp [AV.names])]
  | lit v => split <;> first | rfl | (rename_i e; cases e) | (split <;> first | rfl | simp_all)
  | _ => rfl
theorem appE_congr {sz by' n : Nat} {x y : AV} {μ μ' : Look} (h : ∀ id ∈ namesL [x, y], μ id = μ' id) (hn : μ n = μ' n) : appE sz by' n x y μ = appE sz by' n x y μ' := by
  unfold appE
  rw [srcE_congr (fun id hid => h id (by simp [namesL, hid]))]
  cases x with
  | row id z lo m => simp only [h id (by simp [namesL, AV.names]), hn]
  | lit v =>
    rw [hn]
    cases srcE sz y μ' with
    | none => rfl
    | some q =>
      obtain ⟨p, ys, cl⟩ := q
      simp only
      split <;> first | rfl | (rename_i e; cases e) | (split <;> first | rfl | simp_all)
  | _ => rfl
theorem biE_congr {k : BK} {n : Nat} {as : List AV} {μ μ' : Look} (h : k.mem = true → (∀ id ∈ namesL as, μ id = μ' id) ∧ μ n = μ' n) : biE k n as μ = biE k n as μ' := by
  have hslc : ∀ (sz : Nat) (x : AV) (lo hi : Option AV), slcE sz n x lo hi none μ = slcE sz n x lo hi none μ' := fun _ _ _ _ => rfl
  unfold biE
  split
  · simp only [bsE, (h rfl).2]
  · simp only [mksE, (h rfl).2]
  · rfl
  · rfl
  · rfl
  · rfl
  · simp only [slcE, slcRow, (h rfl).2]
  · rfl
  · rfl
  · rfl
  · rfl
  · exact appE_congr (h rfl).1 (h rfl).2
  · rfl
  · rfl
  · unfold appZE; rw [(h rfl).2]
  · rfl
  · rfl
theorem slc_pure {sz n : Nat} {x : AV} {lo hi : Option AV} {μ : Look} {p : Prop} {v : AV} {up : Upd} (h : slcE sz n x lo hi none μ = some (p, v, up)) : up = [] := by
  unfold slcE at h
  simp only at h
  split at h
  · cases h
  · split at h <;> (try cases h) <;> (simp only [Option.map_eq_some_iff, Prod.mk.injEq] at h; obtain ⟨_, _, _, _, rfl⟩ := h; rfl)
theorem sls_pure {x : AV} {lo hi : Option AV} {p : Prop} {v : AV} {up : Upd} (h : slsE x lo hi = some (p, v, up)) : up = [] := by
  unfold slsE at h
  split at h
  · cases h
  · split at h <;> (try cases h) <;> (simp only [Option.map_eq_some_iff, Prod.mk.injEq] at h; obtain ⟨_, _, _, _, rfl⟩ := h; rfl)
theorem biE_pure {k : BK} {n : Nat} {as : List AV} {μ : Look} {p : Prop} {v : AV} {up : Upd} (hk : k.mem = false) (h : biE k n as μ = some (p, v, up)) : up = [] := by
  unfold biE at h
  split at h
  · cases hk
  · cases hk
  · exact slc_pure h
  · exact slc_pure h
  · exact slc_pure h
  · exact slc_pure h
  · cases hk
  · exact sls_pure h
  · exact sls_pure h
  · exact sls_pure h
  · exact sls_pure h
  · cases hk
  · unfold eqsE at h
    split at h
    · split at h
      · simp only [Option.some.injEq, Prod.mk.injEq] at h; exact h.2.2.symm
      · cases h
    · cases h
  · unfold isnE at h
    split at h <;> cases h <;> rfl
  · cases hk
  · unfold capE at h
    split at h <;> cases h <;> rfl
  · cases h

theorem ie_congr (hG : GLoc Γ) {op : Ix} {n : Nat} {lk lk' : Nat → AV} {μ μ' : Look} (hl : ∀ t ∈ slotsX op.opnd, lk t = lk' t) (hm : op.mem = true → ∀ id, foot n (idsOf op lk) id = true → μ id = μ' id) : ie Γ op n lk μ = ie Γ op n lk' μ' := by
  have he : ∀ x ∈ op.opnd, evX lk x = evX lk' x := fun x hx => evX_congr hl hx
  have hn : op.mem = true → ∀ x ∈ op.opnd, ∀ id ∈ (evX lk x).names, μ id = μ' id := fun h x hx id hid => hm h id (by
    simp only [foot, Bool.or_eq_true, List.elem_eq_mem, decide_eq_true_eq]
    exact .inr (names_sub (List.mem_map.2 ⟨x, hx, rfl⟩) hid))
  have hown : op.mem = true → μ n = μ' n := fun h => hm h n (by simp [foot])
  cases op with
  | bi k xs =>
    have hxs : xs.map (evX lk) = xs.map (evX lk') := List.map_congr_left (fun x hx => he x (by simp [Ix.opnd, hx]))
    simp only [ie, ← hxs]
    refine biE_congr (fun hk => ⟨fun id hid => hm hk id ?_, hown hk⟩)
    simp only [foot, idsOf, Ix.opnd, Bool.or_eq_true, List.elem_eq_mem, decide_eq_true_eq]
    exact .inr hid
  | mv x => simp only [ie, pe, he x (by simp [Ix.opnd])]
  | un o x => simp only [ie, pe, he x (by simp [Ix.opnd])]
  | conv k x => simp only [ie, pe, he x (by simp [Ix.opnd])]
  | nilc x => simp only [ie, pe, he x (by simp [Ix.opnd])]
  | fad o x => simp only [ie, pe, he x (by simp [Ix.opnd])]
  | fld o m g x => simp only [ie, pe, he x (by simp [Ix.opnd])]
  | ext i x => simp only [ie, pe, he x (by simp [Ix.opnd])]
  | len x => simp only [ie, pe, he x (by simp [Ix.opnd])]
  | slen x => simp only [ie, pe, he x (by simp [Ix.opnd])]
  | pick a b c => simp only [ie, pe, he a (by simp [Ix.opnd]), he b (by simp [Ix.opnd]), he c (by simp [Ix.opnd])]
  | bin o tb a b => simp only [ie, pe, he a (by simp [Ix.opnd]), he b (by simp [Ix.opnd])]
  | idx z a b => simp only [ie, pe, he a (by simp [Ix.opnd]), he b (by simp [Ix.opnd])]
  | sidx a b => simp only [ie, pe, he a (by simp [Ix.opnd]), he b (by simp [Ix.opnd])]
  | min a b => simp only [ie, pe, he a (by simp [Ix.opnd]), he b (by simp [Ix.opnd])]
  | max a b => simp only [ie, pe, he a (by simp [Ix.opnd]), he b (by simp [Ix.opnd])]
  | build ps z => simp only [ie, pe, fillE_congr ps z (fun x hx => he x hx)]
  | mkf f cs => simp only [ie, pe]; rw [show cs.map (evX lk) = cs.map (evX lk') from List.map_congr_left (fun x hx => he x hx)]
  | bad => rfl
  | alloc sz z => simp only [ie, hown rfl]
  | box x => simp only [ie, hown rfl, he x (by simp [Ix.opnd])]
  | ld m g x =>
    have hx := hn rfl x (by simp [Ix.opnd])
    simp only [ie, ← he x (by simp [Ix.opnd])]
    generalize evX lk x = y at hx
    unfold ldE
    cases y with
    | ptr id i o => simp only [hx id (by simp [AV.names])]
    | _ => rfl
  | st m x y =>
    have hx := hn rfl x (by simp [Ix.opnd])
    simp only [ie, ← he x (by simp [Ix.opnd]), ← he y (by simp [Ix.opnd])]
    generalize evX lk x = z at hx
    unfold stE
    cases z with
    | ptr id i o => simp only [hx id (by simp [AV.names])]
    | _ => rfl
  | call f xs =>
    have hm' := hm rfl
    simp only [idsOf, Ix.opnd, List.map_cons, namesL] at hm'
    have hxs : xs.map (evX lk) = xs.map (evX lk') := List.map_congr_left (fun x hx => he x (by simp [Ix.opnd, hx]))
    simp only [ie, ← he f (by simp [Ix.opnd]), ← hxs]
    generalize evX lk f = y at hm'
    generalize xs.map (evX lk) = ys at hm'
    unfold callE
    cases y with
    | fn N caps =>
      simp only
      split
      · cases hN : lookL Γ N with
        | none => rfl
        | some C =>
          simp only
          refine hG N C hN n _ μ μ' (fun id hid => hm' id ?_)
          have ha : ∀ xs ys : List AV, namesL (xs ++ ys) = namesL xs ++ namesL ys := by
            intro xs ys
            induction xs with
            | nil => rfl
            | cons x r ih => simp [namesL, ih]
          simp only [foot, ha, AV.names, Bool.or_eq_true, List.elem_eq_mem, decide_eq_true_eq, List.mem_append] at hid ⊢
          rcases hid with hid | hid | hid
          · exact .inl hid
          · exact .inr (.inr hid)
          · exact .inr (.inl hid)
      · rfl
    | _ => rfl

theorem ie_pure {op : Ix} {n : Nat} {lk : Nat → AV} {μ : Look} {p : Prop} {v : AV} {up : Upd} (hm : op.mem = false ∨ op.isLd = true) (h : ie Γ op n lk μ = some (p, v, up)) : up = [] := by
  have key : ∀ x, pureE x = some (p, v, up) → up = [] := by
    intro x hx
    unfold pureE at hx
    split at hx
    · simp only [Option.some.injEq, Prod.mk.injEq] at hx; exact hx.2.2.symm
    · cases hx
  cases op <;> simp only [Ix.mem, Ix.isLd, Bool.false_eq_true, reduceCtorEq, or_self, or_false, false_or] at hm <;> (simp only [ie] at h; first | exact key _ h | exact biE_pure hm h)

/-! ## steps that may change places -/
def actA (Γ : Cts) (o : IOp) (f f' : FS) (ids ks : List Nat) : Prop :=
  ∃ p v up, ie Γ o.op o.n f.lk f.mm = some (p, v, up) ∧ p ∧ f' = ((f.upd up).put o.d v).hom o.h o.d ∧ (o.op.mem = true → ids = idsOf o.op f.lk ∧ ks = up.map (·.1))
def StA (Γ : Cts) (o : IOp) (f f' : FS) (ids ks : List Nat) : Prop :=
  match o.g with
  | none => actA Γ o f f' ids ks
  | some (t, w) => (f.lk t = .lit (.bool w) ∧ actA Γ o f f' ids ks) ∨ (f.lk t = .lit (.bool (!w)) ∧ f' = f.put o.d skipV) ∨ (f.lk t = .tup [] ∧ f' = f.put o.d skipV)

/-- What an operation reads. -/
def IOp.rs (o : IOp) : List Nat := (match o.g with | some (t, _) => [t] | none => []) ++ slotsX o.op.opnd
def apartD (d : Option Nat) (l : List Nat) : Bool := match d with | some d => !l.elem d | none => true
def IOp.apart (x y : IOp) : Bool := x.h.isNone && y.h.isNone && apartD x.d y.rs && apartD y.d x.rs && (match x.d, y.d with | some a, some b => a != b | _, _ => true)
/-- What two operations do to objects does not meet. -/
def noClash (n1 n2 : Nat) (ids1 ks1 ids2 ks2 : List Nat) : Bool := ks1.all (fun k => !(foot n2 ids2 k || ks2.elem k)) && ks2.all (fun k => !foot n1 ids1 k)

theorem app_off {up : Upd} {μ : Look} {id : Nat} (h : id ∉ up.map (·.1)) : Upd.app up μ id = μ id := by
  have : lookL up id = none := by
    induction up with
    | nil => rfl
    | cons q r ih =>
      obtain ⟨j, ob⟩ := q
      simp only [List.map_cons, List.mem_cons, not_or] at h
      simp only [lookL]
      rw [if_neg (fun e => h.1 e.symm)]
      exact ih h.2
  simp only [Upd.app, this]

theorem app_comm {u1 u2 : Upd} (h : ∀ k ∈ u1.map (·.1), k ∉ u2.map (·.1)) (μ : Look) : Upd.app u1 (Upd.app u2 μ) = Upd.app u2 (Upd.app u1 μ) := by
  funext id
  by_cases h1 : id ∈ u1.map (·.1)
  · rw [app_off (up := u2) (h id h1)]
    unfold Upd.app
    cases lookL u1 id with
    | some ob => rfl
    | none => simp only; rw [show lookL u2 id = none from by
        have := app_off (μ := fun _ => none) (h id h1)
        unfold Upd.app at this
        cases hl : lookL u2 id with
        | none => rfl
        | some ob => rw [hl] at this; cases this]
  · rw [app_off (up := u1) h1]
    unfold Upd.app
    cases lookL u2 id with
    | some ob => rfl
    | none =>
      simp only
      rw [show lookL u1 id = none from by
        have := app_off (μ := fun _ => none) h1
        unfold Upd.app at this
        cases hl : lookL u1 id with
        | none => rfl
        | some ob => rw [hl] at this; cases this]

theorem fput_off {d : Option Nat} {l : List Nat} (h : apartD d l = true) (v : AV) (lk : Nat → AV) : ∀ t ∈ l, fput d v lk t = lk t := by
  intro t ht
  rw [fput_apply]
  cases d with
  | none => simp
  | some d =>
    simp only [apartD, List.elem_eq_mem, Bool.not_eq_true', decide_eq_false_iff_not] at h
    rw [if_neg (fun e => h (by injection e with e; rw [e]; exact ht))]
theorem fput_comm {d1 d2 : Option Nat} (h : (match d1, d2 with | some a, some b => a != b | _, _ => true) = true) (v1 v2 : AV) (lk : Nat → AV) : fput d1 v1 (fput d2 v2 lk) = fput d2 v2 (fput d1 v1 lk) := by
  funext t
  simp only [fput_apply]
  cases d1 <;> cases d2 <;> simp at h ⊢
  rename_i a b
  by_cases e1 : a = t <;> by_cases e2 : b = t <;> simp [e1, e2]
  subst e1; subst e2; exact absurd rfl h

theorem names_slots {op : Ix} {lk lk' : Nat → AV} (h : ∀ t ∈ slotsX op.opnd, lk t = lk' t) : idsOf op lk = idsOf op lk' := by
  unfold idsOf
  rw [List.map_congr_left (fun x hx => evX_congr h hx)]

/-- Two neighbours change places. -/
theorem swap (hG : GLoc Γ) {x y : IOp} {f f1 f2 : FS} {i1 k1 i2 k2 : List Nat} (hx : StA Γ x f f1 i1 k1) (hy : StA Γ y f1 f2 i2 k2) (ha : x.apart y = true)
    (hc : x.op.mem = false ∨ y.op.mem = false ∨ (x.op.isLd = true ∧ y.op.isLd = true) ∨ noClash x.n y.n i1 k1 i2 k2 = true) : ∃ f1', StA Γ y f f1' i2 k2 ∧ StA Γ x f1' f2 i1 k1 := by
  simp only [IOp.apart, Bool.and_eq_true] at ha
  obtain ⟨⟨⟨⟨hx0, hy0⟩, hxy⟩, hyx⟩, hdd⟩ := ha
  have hxh : x.h = none := by simpa using hx0
  have hyh : y.h = none := by simpa using hy0
  have hom0 : ∀ (d : Option Nat) (f : FS), f.hom none d = f := fun d f => rfl
  -- what x writes, y does not read
  have xs : ∀ v lk, (∀ t ∈ slotsX y.op.opnd, fput x.d v lk t = lk t) ∧ (∀ t w, y.g = some (t, w) → fput x.d v lk t = lk t) := fun v lk => by
    have := fput_off hxy v lk
    unfold IOp.rs at this
    exact ⟨fun t ht => this t (by simp [ht]), fun t w hg => this t (by simp [hg])⟩
  have ys : ∀ v lk, (∀ t ∈ slotsX x.op.opnd, fput y.d v lk t = lk t) ∧ (∀ t w, x.g = some (t, w) → fput y.d v lk t = lk t) := fun v lk => by
    have := fput_off hyx v lk
    unfold IOp.rs at this
    exact ⟨fun t ht => this t (by simp [ht]), fun t w hg => this t (by simp [hg])⟩
  -- split into: acts, or is passed over
  have cases_ : ∀ (z : IOp) (g g' : FS) (i k : List Nat), z.h = none → StA Γ z g g' i k → (actA Γ z g g' i k ∧ ∀ (h : FS) (h' : FS), (∀ t w, z.g = some (t, w) → h.lk t = g.lk t) → actA Γ z h h' i k → StA Γ z h h' i k) ∨
      (g' = g.put z.d skipV ∧ ∀ (h : FS), (∀ t w, z.g = some (t, w) → h.lk t = g.lk t) → StA Γ z h (h.put z.d skipV) i k) := by
    intro z g g' i k _ h
    unfold StA at h
    split at h
    · rename_i hg
      exact .inl ⟨h, fun h h' _ ha => by unfold StA; rw [hg]; exact ha⟩
    · rename_i t w hg
      rcases h with ⟨h1, h2⟩ | ⟨h1, h2⟩ | ⟨h1, h2⟩
      · exact .inl ⟨h2, fun h h' hs ha => by unfold StA; rw [hg]; exact .inl ⟨by rw [hs t w hg]; exact h1, ha⟩⟩
      · exact .inr ⟨h2, fun h hs => by unfold StA; rw [hg]; exact .inr (.inl ⟨by rw [hs t w hg]; exact h1, rfl⟩)⟩
      · exact .inr ⟨h2, fun h hs => by unfold StA; rw [hg]; exact .inr (.inr ⟨by rw [hs t w hg]; exact h1, rfl⟩)⟩
  rcases cases_ x f f1 i1 k1 hxh hx with ⟨hxa, hxb⟩ | ⟨hxa, hxb⟩ <;> rcases cases_ y f1 f2 i2 k2 hyh hy with ⟨hya, hyb⟩ | ⟨hya, hyb⟩
  · -- both act
    obtain ⟨p1, v1, u1, he1, hp1, hf1, hm1⟩ := hxa
    obtain ⟨p2, v2, u2, he2, hp2, hf2, hm2⟩ := hya
    rw [hxh, hom0] at hf1
    rw [hyh, hom0] at hf2
    subst hf1
    simp only [FS.put, FS.upd] at he2 hm2 hf2 hyb
    have hids2 : idsOf y.op (fput x.d v1 f.lk) = idsOf y.op f.lk := names_slots (xs v1 f.lk).1
    have hids1 : idsOf x.op (fput y.d v2 f.lk) = idsOf x.op f.lk := names_slots (ys v2 f.lk).1
    -- the objects that each looks at are not those that the other sets
    have hoff : (y.op.mem = true → ∀ id, foot y.n (idsOf y.op f.lk) id = true → id ∉ u1.map (·.1)) ∧ (x.op.mem = true → ∀ id, foot x.n (idsOf x.op f.lk) id = true → id ∉ u2.map (·.1)) ∧ (∀ k ∈ u1.map (·.1), k ∉ u2.map (·.1)) := by
      have hA : x.op.mem = false → (y.op.mem = true → ∀ id, foot y.n (idsOf y.op f.lk) id = true → id ∉ u1.map (·.1)) ∧ (x.op.mem = true → ∀ id, foot x.n (idsOf x.op f.lk) id = true → id ∉ u2.map (·.1)) ∧ (∀ k ∈ u1.map (·.1), k ∉ u2.map (·.1)) := fun h => ⟨fun _ id _ => by rw [ie_pure (.inl h) he1]; simp, fun h' => (by rw [h] at h'; cases h'), by rw [ie_pure (.inl h) he1]; simp⟩
      have hB : y.op.mem = false → (y.op.mem = true → ∀ id, foot y.n (idsOf y.op f.lk) id = true → id ∉ u1.map (·.1)) ∧ (x.op.mem = true → ∀ id, foot x.n (idsOf x.op f.lk) id = true → id ∉ u2.map (·.1)) ∧ (∀ k ∈ u1.map (·.1), k ∉ u2.map (·.1)) := fun h => ⟨fun h' => (by rw [h] at h'; cases h'), fun _ id _ => by rw [ie_pure (.inl h) he2]; simp, by rw [ie_pure (.inl h) he2]; simp⟩
      rcases hc with hc | hc | hc | hc
      · exact hA hc
      · exact hB hc
      · rw [ie_pure (.inr hc.1) he1, ie_pure (.inr hc.2) he2]; simp
      · by_cases hmx : x.op.mem = true
        · by_cases hmy : y.op.mem = true
          · obtain ⟨rfl, rfl⟩ := hm1 hmx
            obtain ⟨rfl, rfl⟩ := hm2 hmy
            rw [hids2] at hc
            simp only [noClash, Bool.and_eq_true, List.all_eq_true, Bool.not_eq_true', Bool.or_eq_false_iff] at hc
            refine ⟨fun _ id hid hk => ?_, fun _ id hid hk => ?_, fun k hk => by simpa using (hc.1 k hk).2⟩
            · rw [(hc.1 id hk).1] at hid; cases hid
            · rw [hc.2 id hk] at hid; cases hid
          · exact hB (by simpa using hmy)
        · exact hA (by simpa using hmx)
    obtain ⟨hR2, hR1, hRC⟩ := hoff
    have e2 : ie Γ y.op y.n f.lk f.mm = some (p2, v2, u2) := (ie_congr hG (fun t ht => ((xs v1 f.lk).1 t ht).symm) (fun hm id hid => (app_off (hR2 hm id hid)).symm)).trans he2
    have e1 : ie Γ x.op x.n (fput y.d v2 f.lk) (Upd.app u2 f.mm) = some (p1, v1, u1) := (ie_congr hG (fun t ht => ((ys v2 f.lk).1 t ht).symm) (fun hm id hid => (app_off (hR1 hm id hid)).symm)).symm.trans he1
    refine ⟨(f.upd u2).put y.d v2, hyb f _ (fun t w hg => ((xs v1 f.lk).2 t w hg).symm) ⟨p2, v2, u2, e2, hp2, by rw [hyh]; rfl, fun hm => ⟨by rw [(hm2 hm).1, hids2], (hm2 hm).2⟩⟩,
      hxb _ _ (fun t w hg => (ys v2 f.lk).2 t w hg) ⟨p1, v1, u1, e1, hp1, ?_, fun hm => ⟨by rw [(hm1 hm).1]; exact hids1.symm, (hm1 hm).2⟩⟩⟩
    rw [hf2, hxh]
    show FS.mk (fput y.d v2 (fput x.d v1 f.lk)) (Upd.app u2 (Upd.app u1 f.mm)) = FS.mk (fput x.d v1 (fput y.d v2 f.lk)) (Upd.app u1 (Upd.app u2 f.mm))
    rw [fput_comm hdd, app_comm hRC]
  · -- x acts, y is passed over
    obtain ⟨p1, v1, u1, he1, hp1, hf1, hm1⟩ := hxa
    rw [hxh, hom0] at hf1
    subst hf1
    have e1 : ie Γ x.op x.n (fput y.d skipV f.lk) f.mm = some (p1, v1, u1) := (ie_congr hG (fun t ht => ((ys skipV f.lk).1 t ht).symm) (fun _ _ _ => rfl)).symm.trans he1
    refine ⟨f.put y.d skipV, hyb f (fun t w hg => ((xs v1 f.lk).2 t w hg).symm), hxb _ _ (fun t w hg => (ys skipV f.lk).2 t w hg) ⟨p1, v1, u1, e1, hp1, ?_, fun hm => ⟨by rw [(hm1 hm).1]; exact (names_slots (ys skipV f.lk).1).symm, (hm1 hm).2⟩⟩⟩
    rw [hya, hxh]
    show FS.mk (fput y.d skipV (fput x.d v1 f.lk)) (Upd.app u1 f.mm) = FS.mk (fput x.d v1 (fput y.d skipV f.lk)) (Upd.app u1 f.mm)
    rw [fput_comm hdd]
  · -- y acts, x is passed over
    obtain ⟨p2, v2, u2, he2, hp2, hf2, hm2⟩ := hya
    rw [hyh, hom0] at hf2
    subst hxa
    have e2 : ie Γ y.op y.n f.lk f.mm = some (p2, v2, u2) := (ie_congr hG (fun t ht => ((xs skipV f.lk).1 t ht).symm) (fun _ _ _ => rfl)).trans he2
    refine ⟨(f.upd u2).put y.d v2, hyb f _ (fun t w hg => ((xs skipV f.lk).2 t w hg).symm) ⟨p2, v2, u2, e2, hp2, by rw [hyh]; rfl, fun hm => ⟨by rw [(hm2 hm).1]; exact names_slots (xs skipV f.lk).1, (hm2 hm).2⟩⟩, ?_⟩
    rw [hf2]
    have := hxb ((f.upd u2).put y.d v2) (fun t w hg => (ys v2 f.lk).2 t w hg)
    have e : (FS.put (FS.upd (FS.put f x.d skipV) u2) y.d v2) = FS.put (FS.put (FS.upd f u2) y.d v2) x.d skipV := by
      show FS.mk (fput y.d v2 (fput x.d skipV f.lk)) (Upd.app u2 f.mm) = FS.mk (fput x.d skipV (fput y.d v2 f.lk)) (Upd.app u2 f.mm)
      rw [fput_comm hdd]
    rw [e]; exact this
  · subst hxa
    refine ⟨f.put y.d skipV, hyb f (fun t w hg => ((xs skipV f.lk).2 t w hg).symm), ?_⟩
    rw [hya]
    have := hxb (f.put y.d skipV) (fun t w hg => (ys skipV f.lk).2 t w hg)
    have e : (FS.put (FS.put f x.d skipV) y.d skipV) = FS.put (FS.put f y.d skipV) x.d skipV := by
      show FS.mk (fput y.d skipV (fput x.d skipV f.lk)) f.mm = FS.mk (fput x.d skipV (fput y.d skipV f.lk)) f.mm
      rw [fput_comm hdd]
    rw [e]; exact this
end
end Go.Ax
namespace Go.Ax
open Go

def IOp.bare (o : IOp) : IOp := ⟨o.d, o.n, o.g, o.op, o.h, none, []⟩

/-- An operation with its number, and with what it looked at and set. -/
structure En where
  i : Nat
  o : IOp
  ids : List Nat
  ks : List Nat

def Ch (Γ : Cts) : List En → FS → (FS → Prop) → Prop
  | [], f, R => R f
  | e :: r, f, R => ∃ f', StA Γ e.o f f' e.ids e.ks ∧ Ch Γ r f' R

def May (x y : En) : Prop := x.o.apart y.o = true ∧ (x.o.op.mem = false ∨ y.o.op.mem = false ∨ (x.o.op.isLd = true ∧ y.o.op.isLd = true) ∨ noClash x.o.n y.o.n x.ids x.ks y.ids y.ks = true)

section
variable {P : Program} {c : Ctx} {Γ : Cts} {tab : TT}

theorem pull (hG : GLoc Γ) (j : En) (post : List En) (R : FS → Prop) : ∀ (pre : List En) (f : FS), Ch Γ (pre ++ j :: post) f R → (∀ e ∈ pre, May e j) → ∃ f', StA Γ j.o f f' j.ids j.ks ∧ Ch Γ (pre ++ post) f' R
  | [], f, h, _ => h
  | e :: pre, f, h, hm => by
    obtain ⟨f1, h1, h2⟩ := h
    obtain ⟨f2, h3, h4⟩ := pull hG j post R pre f1 h2 (fun x hx => hm x (by simp [hx]))
    obtain ⟨ha, hc⟩ := hm e (by simp)
    obtain ⟨f1', h5, h6⟩ := swap hG h1 h3 ha hc
    exact ⟨f1', h5, f2, h6, h4⟩

/-! ## which operation waits for which -/
def bnd (e : Edge) : Bool := Region.binds .any e
def maskOf (A : List Nat) : List Edge → Nat
  | [] => 0
  | e :: r => if bnd e then maskOf A r ||| (2 ^ e.on ||| A.getD e.on 0) else maskOf A r

theorem maskOf_spec {A : List Nat} {a : Nat} : ∀ {l : List Edge}, (maskOf A l).testBit a = true → ∃ e ∈ l, bnd e = true ∧ (e.on = a ∨ (A.getD e.on 0).testBit a = true)
  | [], h => by simp [maskOf] at h
  | e :: r, h => by
    simp only [maskOf] at h
    split at h
    · rename_i hb
      rw [Nat.testBit_or, Nat.testBit_or, Bool.or_eq_true, Bool.or_eq_true] at h
      rcases h with h | h | h
      · obtain ⟨e', h1, h2⟩ := maskOf_spec h; exact ⟨e', by simp [h1], h2⟩
      · refine ⟨e, by simp, hb, .inl ?_⟩
        rw [Nat.testBit_two_pow] at h
        simpa using h
      · exact ⟨e, by simp, hb, .inr h⟩
    · obtain ⟨e', h1, h2⟩ := maskOf_spec h; exact ⟨e', by simp [h1], h2⟩

/-- The masks are right, and no operation waits for a later one. -/
def ancOk (A : List Nat) : List Oper → Nat → Bool
  | [], _ => true
  | o :: r, j => o.after.toList.all (fun e => !bnd e || decide (e.on < j)) && A.getD j 0 == maskOf A o.after.toList && ancOk A r (j + 1)

theorem ancOk_at {A : List Nat} : ∀ {l : List Oper} {k j : Nat} {o : Oper}, ancOk A l k = true → l[j]? = some o → (∀ e ∈ o.after.toList, bnd e = true → e.on < k + j) ∧ A.getD (k + j) 0 = maskOf A o.after.toList
  | [], k, j, o, h, ho => by simp at ho
  | x :: r, k, j, o, h, ho => by
    simp only [ancOk, Bool.and_eq_true, beq_iff_eq] at h
    cases j with
    | zero =>
      simp only [List.getElem?_cons_zero, Option.some.injEq] at ho
      subst ho
      refine ⟨fun e he hb => ?_, by simpa using h.1.2⟩
      have := List.all_eq_true.1 h.1.1 e he
      simpa [hb] using this
    | succ j =>
      have := ancOk_at h.2 (by simpa using ho)
      rw [show k + 1 + j = k + (j + 1) from by omega] at this
      exact this

/-- Who has been done, has had those done that he waits for. -/
theorem anc_listed {ops : Array Oper} {A : List Nat} (hA : ancOk A ops.toList 0 = true) {listed : Array Bool} (hdown : ∀ j o, ops[j]? = some o → listed.getD j false = true → ∀ e ∈ o.after, bnd e = true → listed.getD e.on false = true) (hlen : listed.size = ops.size) :
    ∀ (k : Nat) (o : Oper) (a : Nat), ops[k]? = some o → (∀ e ∈ o.after, bnd e = true → listed.getD e.on false = true) → (A.getD k 0).testBit a = true → listed.getD a false = true := by
  intro k
  induction k using Nat.strongRecOn with
  | ind k ih =>
    intro o a ho hl ht
    obtain ⟨h1, h2⟩ := ancOk_at hA (show ops.toList[k]? = some o by simpa using ho)
    simp only [Nat.zero_add] at h1 h2
    rw [h2] at ht
    obtain ⟨e, he, hb, hc⟩ := maskOf_spec ht
    have hel := hl e (by simpa using he) hb
    rcases hc with hc | hc
    · rw [← hc]; exact hel
    · have hlt := h1 e he hb
      have hin : e.on < ops.size := by
        rcases Nat.lt_or_ge e.on listed.size with h | h
        · omega
        · simp [Array.getElem?_eq_none h] at hel
      exact ih e.on hlt (ops[e.on]) a (by simp [hin]) (fun e' he' hb' => hdown e.on _ (by simp [hin]) hel e' he' hb') hc

theorem act_sound (htab : TabOk P tab) (hΓ : GOk P Γ) {o : Oper} {n : Nat} {g : Option (Nat × Bool)} {hh : Option (Nat × List Nat)} {fl : Option Nat} {us ids ks : List Nat} {f f' : FS} {a : Act} {w : World} (hd : ∀ t, o.dst = some t → t < c.N)
    (h : actA Γ ⟨o.dst, n, g, opOf tab o.op, hh, fl, us⟩ f f' ids ks) (hs : RepF c f a w)
    {next : Act → World → Prop} {Q : Exit → Act → World → Prop} (hn : ∀ a' w', RepF c f' a' w' → next a' w') : o.wp P a w next Q := by
  obtain ⟨S, β, h1, h2, h3, h4, h5, h6, h7⟩ := hs
  obtain ⟨p, v, up, he, hp, rfl, _⟩ := h
  exact ie_sound htab hΓ (evX_ixOf f.lk) he hp h1 (ev_sound h2) next Q (fun u w' S' β' hdone => hn _ _ (RepF.hom (RepF.step h1 h2 h3 h4 h5 h6 h7 hd hdone) _ _))

theorem RepF.put_skip {f : FS} {a : Act} {w : World} {d : Option Nat} (h : RepF c f a w) (hd : ∀ t, d = some t → t < c.N) : RepF c (f.put d skipV) (a.put d undef) w := by
  obtain ⟨S, β, h1, h2, h3, h4, h5⟩ := h
  refine ⟨S, β, h1, fun k => ?_, ?_, ?_, h5⟩
  · simp only [FS.put, fput_apply]
    rw [getD_put k (fun t e => by rw [h3]; exact hd t e)]
    by_cases e : d = some k
    · rw [if_pos e, if_pos e]; exact ⟨by simp only [skipV, rep]; exact ⟨[], rfl, by simp [reps]⟩, fun v e => by cases e⟩
    · rw [if_neg e, if_neg e]; exact h2 k
  · cases d <;> simp [Act.put, h3]
  · cases d <;> simp [Act.put, h4]

theorem sta_sound (htab : TabOk P tab) (hΓ : GOk P Γ) (ops : Array Oper) (fg : List Nat) {o : Oper} {i : Nat} {ids ks : List Nat} {f f' : FS} {a : Act} {w : World} (hi : ops[i]? = some o) (hd : ∀ t, o.dst = some t → t < c.N)
    (h : StA Γ (setH fg (compOp tab ops o)) f f' ids ks) (hs : RepF c f a w)
    {next : Act → World → Prop} {Q : Exit → Act → World → Prop} (hn : ∀ a' w', RepF c f' a' w' → next a' w') : wpOp P ops Q i next a w := by
  unfold wpOp
  simp only [hi]
  cases hg : o.guard with
  | none =>
    have e : setH fg (compOp tab ops o) = setH fg ⟨o.dst, nidOf o.dst, none, opOf tab o.op, (homeOf tab o).map fun h => (h, []), none, []⟩ := by simp only [compOp, hg]
    rw [e] at h
    rw [if_pos (by simp [Region.wanted, hg])]
    exact .inl (act_sound htab hΓ hd h hs hn)
  | some g =>
    obtain ⟨j, want⟩ := g
    cases hjt : slotOf ops j with
    | none =>
      have e : setH fg (compOp tab ops o) = setH fg ⟨o.dst, 0, none, .bad, none, none, []⟩ := by simp only [compOp, hg, hjt]
      rw [e] at h
      obtain ⟨p, v, up, he, _⟩ := (show actA Γ _ f f' ids ks from h)
      simp [setH, ie, pureE, pe] at he
    | some t =>
      have e : setH fg (compOp tab ops o) = setH fg ⟨o.dst, nidOf o.dst, some (t, want), opOf tab o.op, (homeOf tab o).map fun h => (h, []), none, []⟩ := by simp only [compOp, hg, hjt]
      rw [e] at h
      unfold slotOf at hjt
      have hs' := hs
      obtain ⟨S, β, h1, h2, h3⟩ := hs
      have hty : ∀ b, a.tmps.getD t undef = .bool b → yielded ops a.tmps j = some b := by
        intro b hb
        simp only [yielded, hjt, Option.bind_some]
        simp only [Array.getD_eq_getD_getElem?] at hb
        cases hx : a.tmps[t]? with
        | none => rw [hx] at hb; simp [undef] at hb
        | some x => rw [hx] at hb; simp only [Option.getD_some] at hb; rw [hb]
      have htn : a.tmps.getD t undef = undef → yielded ops a.tmps j = none := by
        intro hb
        simp only [yielded, hjt, Option.bind_some]
        simp only [Array.getD_eq_getD_getElem?] at hb
        cases hx : a.tmps[t]? with
        | none => rfl
        | some x => rw [hx] at hb; simp only [Option.getD_some] at hb; rw [hb]; rfl
      rcases (show (f.lk t = .lit (.bool want) ∧ actA Γ _ f f' ids ks) ∨ (f.lk t = .lit (.bool (!want)) ∧ f' = f.put o.dst skipV) ∨ (f.lk t = .tup [] ∧ f' = f.put o.dst skipV) from h) with ⟨hb, hx⟩ | ⟨hb, rfl⟩ | ⟨hb, rfl⟩
      · have hy := hty want (rep_bool (hb ▸ (h2 t).1))
        rw [if_pos (by simp [Region.wanted, hg, hy])]
        exact .inl (act_sound htab hΓ hd hx hs' hn)
      · have hy := hty (!want) (rep_bool (hb ▸ (h2 t).1))
        rw [if_neg (by simp [Region.wanted, hg, hy])]
        exact hn _ _ (RepF.put_skip hs' hd)
      · have hy := htn (rep_skip (hb ▸ (h2 t).1))
        rw [if_neg (by simp [Region.wanted, hg, hy])]
        exact hn _ _ (RepF.put_skip hs' hd)

structure RemOk (tab : TT) (ops : Array Oper) (fg : List Nat) (A : List Nat) (listed : Array Bool) (rem : List En) : Prop where
  size : listed.size = ops.size
  idx : ∀ j, j ∈ rem.map (·.i) ↔ listed.getD j true = false
  srt : rem.Pairwise (fun x y => x.i < y.i)
  op : ∀ e ∈ rem, ∃ o, ops[e.i]? = some o ∧ e.o.bare = setH fg (compOp tab ops o)
  pw : rem.Pairwise (fun x y => (A.getD y.i 0).testBit x.i = true ∨ May x y)
  down : ∀ j o, ops[j]? = some o → listed.getD j false = true → ∀ e ∈ o.after, bnd e = true → listed.getD e.on false = true

theorem getD_tf {l : Array Bool} {j : Nat} (h : l.getD j true = false) : l.getD j false = false := by
  rcases Nat.lt_or_ge j l.size with hj | hj
  · simp [hj] at h ⊢; exact h
  · simp [Array.getElem?_eq_none hj] at h

theorem any_sound (htab : TabOk P tab) (hΓ : GOk P Γ) (hG : GLoc Γ) (ops : Array Oper) (fg : List Nat) {A : List Nat} (hA : ancOk A ops.toList 0 = true) (hd : ∀ o ∈ ops, ∀ t, o.dst = some t → t < c.N) {R : FS → Prop} {Q : Exit → Act → World → Prop} (hq : ∀ f a w, R f → RepF c f a w → Q .normal a w) :
    ∀ (fuel : Nat) (rem : List En) (listed : Array Bool) (f : FS) (a : Act) (w : World), rem.length ≤ fuel → RemOk tab ops fg A listed rem → Ch Γ rem f R → RepF c f a w → wpAny P .any ops Q fuel listed a w := by
  have nil_of : ∀ (rem : List En) (listed : Array Bool), RemOk tab ops fg A listed rem → Region.ready .any ops listed = [] → rem = [] := by
    intro rem listed ho hr
    cases rem with
    | nil => rfl
    | cons e r =>
      obtain ⟨o, h1, h2⟩ := ho.op e (by simp)
      have : e.i ∈ Region.ready .any ops listed := by
        rw [mem_ready]
        refine ⟨(ho.idx e.i).1 (by simp), o, h1, fun x hx hb => ?_⟩
        obtain ⟨h3, _⟩ := ancOk_at hA (show ops.toList[e.i]? = some o by simpa using h1)
        have hlt := h3 x (by simpa using hx) hb
        simp only [Nat.zero_add] at hlt
        cases hl : listed.getD x.on false with
        | true => rfl
        | false =>
          exfalso
          have hin : x.on < listed.size := by
            have := (Array.getElem?_eq_some_iff.1 h1).1
            rw [ho.size]; omega
          have hm : x.on ∈ (e :: r).map (·.i) := (ho.idx x.on).2 (by simp [hin] at hl ⊢; exact hl)
          simp only [List.map_cons, List.mem_cons, List.mem_map] at hm
          rcases hm with hm | ⟨y, hy, hm⟩
          · omega
          · have := (List.pairwise_cons.1 ho.srt).1 y hy; omega
      rw [hr] at this; cases this
  intro fuel
  induction fuel with
  | zero =>
    intro rem listed f a w hlen ho hc hs
    have hn : rem = [] := by cases rem with | nil => rfl | cons _ _ => simp at hlen
    subst hn
    refine ⟨?_, hq f a w hc hs⟩
    cases hr : Region.ready .any ops listed with
    | nil => rfl
    | cons j r =>
      exfalso
      have hj : j ∈ Region.ready .any ops listed := by rw [hr]; simp
      have := (ho.idx j).2 (mem_ready.1 hj).1
      simp at this
  | succ fuel ih =>
    intro rem listed f a w hlen ho hc hs
    refine ⟨fun hr => ?_, fun i hi => ?_⟩
    · have := nil_of rem listed ho hr
      subst this
      exact hq f a w hc hs
    · obtain ⟨hun, o, hoi, hpre⟩ := mem_ready.1 hi
      have hm := (ho.idx i).2 hun
      obtain ⟨j, hj, rfl⟩ := List.mem_map.1 hm
      obtain ⟨pre, post, rfl⟩ := List.append_of_mem hj
      obtain ⟨o', ho', hjo⟩ := ho.op j (by simp)
      rw [hoi] at ho'
      injection ho' with ho'
      subst ho'
      have hmay : ∀ e ∈ pre, May e j := by
        intro e he
        have h1 := (List.pairwise_append.1 ho.pw).2.2 e he j (by simp)
        rcases h1 with h1 | h1
        · exfalso
          have := anc_listed hA ho.down ho.size j.i o e.i hoi (fun e' he' hb' => hpre e' he' hb') h1
          have h2 := getD_tf ((ho.idx e.i).1 (List.mem_map.2 ⟨e, by simp [he], rfl⟩))
          rw [h2] at this; cases this
        · exact h1
      obtain ⟨f', hst, hch⟩ := pull hG j post R pre f hc hmay
      replace hst : StA Γ j.o.bare f f' j.ids j.ks := hst
      rw [hjo] at hst
      refine sta_sound htab hΓ ops fg hoi (hd o (Array.mem_of_getElem? hoi)) hst hs (fun a' w' hs' => ?_)
      refine ih (pre ++ post) _ f' a' w' (by simp at hlen ⊢; omega) ?_ hch hs'
      have hsub : (pre ++ post).Sublist (pre ++ j :: post) := List.Sublist.append_left (List.sublist_cons_self _ _) _
      have hne : ∀ e ∈ pre ++ post, e.i ≠ j.i := by
        intro e he
        have hs := List.pairwise_append.1 ho.srt
        rcases List.mem_append.1 he with he | he
        · have := hs.2.2 e he j (by simp); omega
        · have := (List.pairwise_cons.1 hs.2.1).1 e he; omega
      refine ⟨by simp [ho.size], fun k => ?_, ho.srt.sublist hsub, fun e he => ho.op e (hsub.subset he), ho.pw.sublist hsub, fun k o1 hk hl e he hb => ?_⟩
      · constructor
        · intro hk
          obtain ⟨e, he, rfl⟩ := List.mem_map.1 hk
          rw [getD_set_ne true (fun h => hne e he h.symm)]
          exact (ho.idx e.i).1 (List.mem_map.2 ⟨e, hsub.subset he, rfl⟩)
        · intro hk
          by_cases e : j.i = k
          · subst e
            have hin : j.i < listed.size := by rw [ho.size]; exact (Array.getElem?_eq_some_iff.1 hoi).1
            simp [hin] at hk
          · rw [getD_set_ne true e] at hk
            have := (ho.idx k).2 hk
            obtain ⟨x, hx, rfl⟩ := List.mem_map.1 this
            refine List.mem_map.2 ⟨x, ?_, rfl⟩
            simp only [List.mem_append, List.mem_cons] at hx ⊢
            rcases hx with hx | rfl | hx
            · exact .inl hx
            · exact absurd rfl e
            · exact .inr hx
      · refine getD_set_true ?_
        by_cases e1 : j.i = k
        · subst e1
          rw [hoi] at hk
          injection hk with hk
          subst hk
          exact hpre e he hb
        · rw [getD_set_ne false e1] at hl
          exact ho.down k o1 hk hl e he hb
end
end Go.Ax
namespace Go.Ax
open Go

/-! ## a region that draws its order, in the order of the text -/
abbrev Lg := List (Nat × Nat × List Nat × List Nat)
def ksOf : Res → List Nat
  | some (_, _, up) => up.map (·.1)
  | none => []
def lgOk (us : List Nat) (n : Nat) (ids ks : List Nat) : Lg → Bool
  | [] => true
  | (i, n1, i1, k1) :: r => (!us.elem i || noClash n1 n i1 k1 ids ks) && lgOk us n ids ks r

def iOpsD (Γ : Cts) : List IOp → Lg → AS → (AS → Prop) → Prop
  | [], _, s, K => K s
  | o :: r, lg, s, K => match o.fl with
    | none => ig Γ o s fun s' => iOpsD Γ r lg s' K
    | some i => lgOk o.us o.n (idsOf o.op s.look) (ksOf (ie Γ o.op o.n s.look (lookL s.mem))) lg = true ∧
        ig Γ o s fun s' => iOpsD Γ r ((i, o.n, idsOf o.op s.look, ksOf (ie Γ o.op o.n s.look (lookL s.mem))) :: lg) s' K

def okP (A : List Nat) (i : Nat) (x : IOp) (j : Nat) (y : IOp) : Bool :=
  (A.getD j 0).testBit i || (x.apart y && (!x.op.mem || !y.op.mem || (x.op.isLd && y.op.isLd) || (x.fl == some i && y.fl.isSome && y.us.elem i)))
def laterOk (A : List Nat) (i : Nat) (x : IOp) : List IOp → Nat → Bool
  | [], _ => true
  | y :: r, j => okP A i x j y && laterOk A i x r (j + 1)
def pairsOk (A : List Nat) : List IOp → Nat → Bool
  | [], _ => true
  | x :: r, i => laterOk A i x r (i + 1) && pairsOk A r (i + 1)

section
variable {P : Program} {c : Ctx} {Γ : Cts} {tab : TT}

theorem put_same_f {s : AS} {t : Nat} {v : AV} (h : s.look t = v) : (s.put (some t) v).f = s.f := by
  rw [put_f]
  simp only [FS.put, AS.f]
  congr 1
  funext k
  rw [fput_apply]
  split
  · rename_i e; injection e with e; subst e; exact h.symm
  · rfl

theorem io_act {o : IOp} {s : AS} {K : AS → Prop} (h : io Γ o s K) : ∃ f', actA Γ o s.f f' (idsOf o.op s.look) (ksOf (ie Γ o.op o.n s.look (lookL s.mem))) ∧ ∃ s', s'.f = f' ∧ K s' := by
  unfold io at h
  split at h
  · rename_i p v up he
    refine ⟨_, ⟨p, v, up, he, h.1, rfl, fun _ => ⟨rfl, by rw [he]; rfl⟩⟩, _, ?_, h.2⟩
    rw [hom_f, put_f, upd_f]
  · exact h.elim

theorem ig_sta {o : IOp} {s : AS} {K : AS → Prop} (h : ig Γ o s K) : ∃ f', StA Γ o s.f f' (idsOf o.op s.look) (ksOf (ie Γ o.op o.n s.look (lookL s.mem))) ∧ ∃ s', s'.f = f' ∧ K s' := by
  unfold ig at h
  unfold StA
  split at h
  · rename_i hg
    simp only [hg]
    exact io_act h
  · rename_i t want hg
    simp only [hg]
    have hio : ∀ b, s.look t = .lit (.bool b) → io Γ o (s.put (some t) (.lit (.bool b))) K → ∃ f', actA Γ o s.f f' (idsOf o.op s.look) (ksOf (ie Γ o.op o.n s.look (lookL s.mem))) ∧ ∃ s', s'.f = f' ∧ K s' := by
      intro b hb hh
      have e := put_same_f hb
      have e1 : (s.put (some t) (.lit (.bool b))).look = s.look := congrArg FS.lk e
      have e2 : lookL (s.put (some t) (.lit (.bool b))).mem = lookL s.mem := congrArg FS.mm e
      have := io_act hh
      rw [e, e1, e2] at this
      exact this
    have hsk : ∀ b, s.look t = .lit (.bool b) → K ((s.put (some t) (.lit (.bool b))).put o.d skipV) → ∃ s', s'.f = s.f.put o.d skipV ∧ K s' := by
      intro b hb hh
      exact ⟨_, by rw [put_f, put_same_f hb], hh⟩
    split at h
    · rename_i b hb
      cases want <;> cases b <;> simp only [onB_true, onB_false] at h
      · obtain ⟨f', h1, h2⟩ := hio _ hb h; exact ⟨f', .inl ⟨hb, h1⟩, h2⟩
      · exact ⟨_, .inr (.inl ⟨hb, rfl⟩), hsk _ hb h⟩
      · exact ⟨_, .inr (.inl ⟨hb, rfl⟩), hsk _ hb h⟩
      · obtain ⟨f', h1, h2⟩ := hio _ hb h; exact ⟨f', .inl ⟨hb, h1⟩, h2⟩
    · rename_i hb
      exact ⟨_, .inr (.inr ⟨hb, rfl⟩), _, put_f _ _ _, h⟩
    · exact h.elim

theorem lgOk_mem {us : List Nat} {n : Nat} {ids ks : List Nat} : ∀ {lg : Lg} {q : Nat × Nat × List Nat × List Nat}, lgOk us n ids ks lg = true → q ∈ lg → us.elem q.1 = true → noClash q.2.1 n q.2.2.1 q.2.2.2 ids ks = true
  | (i, n1, i1, k1) :: r, q, h, hq, hu => by
    simp only [lgOk, Bool.and_eq_true, Bool.or_eq_true, Bool.not_eq_true'] at h
    cases hq with
    | head => exact h.1.resolve_left (by simp only at hu; rw [hu]; simp)
    | tail _ hq => exact lgOk_mem h.2 hq hu

theorem laterOk_mem {A : List Nat} {i : Nat} {x : IOp} : ∀ {l : List En} {k : Nat}, laterOk A i x (l.map (·.o)) k = true → l.map (·.i) = List.range' k l.length → ∀ y ∈ l, okP A i x y.i y.o = true
  | [], _, _, _, y, hy => by cases hy
  | z :: r, k, h, hi, y, hy => by
    simp only [List.map_cons, laterOk, Bool.and_eq_true] at h
    simp only [List.map_cons, List.length_cons, List.range'_succ, List.cons.injEq] at hi
    cases hy with
    | head => rw [hi.1]; exact h.1
    | tail _ hy => exact laterOk_mem h.2 hi.2 y hy

theorem chain_of (A : List Nat) (K : AS → Prop) : ∀ (l : List IOp) (k : Nat) (lg : Lg) (s : AS), iOpsD Γ l lg s K → pairsOk A l k = true →
    ∃ rem : List En, rem.map (·.o) = l ∧ rem.map (·.i) = List.range' k l.length ∧ Ch Γ rem s.f (fun f => ∃ s', s'.f = f ∧ K s') ∧ rem.Pairwise (fun x y => (A.getD y.i 0).testBit x.i = true ∨ May x y) ∧
      (∀ y ∈ rem, ∀ q ∈ lg, y.o.fl.isSome = true → y.o.us.elem q.1 = true → noClash q.2.1 y.o.n q.2.2.1 q.2.2.2 y.ids y.ks = true)
  | [], k, lg, s, h, _ => ⟨[], rfl, rfl, ⟨s, rfl, h⟩, List.Pairwise.nil, by simp⟩
  | o :: r, k, lg, s, h, hp => by
    simp only [pairsOk, Bool.and_eq_true] at hp
    have key : ∀ lg', (∀ q ∈ lg, q ∈ lg') → (o.fl = some k → (k, o.n, idsOf o.op s.look, ksOf (ie Γ o.op o.n s.look (lookL s.mem))) ∈ lg') → (o.fl.isSome = true → lgOk o.us o.n (idsOf o.op s.look) (ksOf (ie Γ o.op o.n s.look (lookL s.mem))) lg = true) →
        (ig Γ o s fun s' => iOpsD Γ r lg' s' K) → ∃ rem : List En, rem.map (·.o) = o :: r ∧ rem.map (·.i) = List.range' k (o :: r).length ∧ Ch Γ rem s.f (fun f => ∃ s', s'.f = f ∧ K s') ∧ rem.Pairwise (fun x y => (A.getD y.i 0).testBit x.i = true ∨ May x y) ∧
      (∀ y ∈ rem, ∀ q ∈ lg, y.o.fl.isSome = true → y.o.us.elem q.1 = true → noClash q.2.1 y.o.n q.2.2.1 q.2.2.2 y.ids y.ks = true) := by
      intro lg' hsub hin hlg hh
      obtain ⟨f', hst, s', rfl, hs'⟩ := ig_sta hh
      obtain ⟨rem, h1, h2, h3, h4, h5⟩ := chain_of A K r (k + 1) lg' s' hs' hp.2
      have hlen : rem.length = r.length := by rw [← h1]; simp
      refine ⟨⟨k, o, idsOf o.op s.look, ksOf (ie Γ o.op o.n s.look (lookL s.mem))⟩ :: rem, by simp [h1], by simp [h2, List.range'_succ], ⟨_, hst, h3⟩, List.pairwise_cons.2 ⟨fun y hy => ?_, h4⟩, fun y hy q hq hfl hu => ?_⟩
      · have hok := laterOk_mem (by rw [h1]; exact hp.1) (by rw [hlen]; exact h2) y hy
        simp only [okP, Bool.or_eq_true, Bool.and_eq_true, Bool.not_eq_true', beq_iff_eq] at hok
        rcases hok with hok | ⟨ha, hok⟩
        · exact .inl hok
        · right
          refine ⟨ha, ?_⟩
          rcases hok with ((hok | hok) | hok) | ⟨⟨hk, hfl⟩, hu⟩
          · exact .inl hok
          · exact .inr (.inl hok)
          · exact .inr (.inr (.inl hok))
          · exact .inr (.inr (.inr (h5 y hy _ (hin hk) hfl hu)))
      · cases hy with
        | head => exact lgOk_mem (hlg hfl) hq hu
        | tail _ hy => exact h5 y hy q (hsub q hq) hfl hu
    simp only [iOpsD] at h
    cases hfl : o.fl with
    | none =>
      rw [hfl] at h
      exact key lg (fun q hq => hq) (fun e => by rw [hfl] at e; cases e) (fun e => by rw [hfl] at e; cases e) h
    | some i =>
      rw [hfl] at h
      refine key _ (fun q hq => List.mem_cons_of_mem _ hq) (fun e => ?_) (fun _ => h.1) h.2
      rw [hfl] at e; injection e with e; subst e; simp

theorem setFl_bare (all : List Nat) : ∀ (l : List IOp) (us : List (List Nat)) (j : Nat), (setFl all l us j).map IOp.bare = l.map IOp.bare
  | [], us, j => by cases us <;> simp [setFl]
  | o :: l, [], j => by simp [setFl]
  | o :: l, u :: us, j => by simp only [setFl, List.map_cons, setFl_bare all l us (j + 1)]; rfl
theorem regOps_bare (draw : Bool) (ops : List Oper) (l : List IOp) : (regOps draw ops l).map IOp.bare = l.map IOp.bare := by
  unfold regOps
  split
  · exact setFl_bare _ _ _ _
  · rfl

def mkAnc : List Oper → List Nat → List Nat
  | [], acc => acc
  | o :: r, acc => mkAnc r (acc ++ [maskOf acc o.after.toList])

/-- A region's operations, compiled. -/
def regL (tab : TT) (draw : Bool) (ops : Array Oper) : List IOp :=
  regOps draw ops.toList ((ops.toList.map (compOp tab ops)).map (setH (fgOf (ops.toList.map (compOp tab ops)))))

def drawsOk (tab : TT) : Code → Bool
  | .region _ ops true => ancOk (mkAnc ops.toList []) ops.toList 0 && pairsOk (mkAnc ops.toList []) (regL tab true ops) 0
  | .seq a b | .cond _ a b => drawsOk tab a && drawsOk tab b
  | .block _ c | .loop c => drawsOk tab c
  | _ => true

theorem compOp_bare (ops : Array Oper) (o : Oper) (fg : List Nat) : (setH fg (compOp tab ops o)).bare = setH fg (compOp tab ops o) := by
  unfold compOp
  split
  · rfl
  · split <;> rfl

theorem RepF.drew {f : FS} {a : Act} {w : World} (h : RepF c f a w) : RepF c f a { w with drawn := w.drawn + 1 } := by
  obtain ⟨S, β, h1, h2, h3, h4, h5, h6, h7⟩ := h
  have hS : ∀ b, S b → S b ∧ ({ w with drawn := w.drawn + 1 } : World).heap[b]? = w.heap[b]? := fun b hb => ⟨hb, rfl⟩
  exact ⟨S, β, h1.world hS (fun id o b hm hd hb hc => ⟨rfl, h1.notS id o b hm hd hb hc⟩) h1.slt, fun k => ⟨rep_mono (w := w) hS (fun _ _ _ h => h) (h2 k).1, (h2 k).2⟩, h3, h4, ⟨h5.os, h5.tape, h5.output, h5.size, h5.sub, h5.keep, h5.fresh⟩, h6, h7⟩

theorem draw_sound (htab : TabOk P tab) (hΓ : GOk P Γ) (hm : P.follows .mixedOrders = true) {id : Nat} {ops : Array Oper} (hd : ∀ o ∈ ops, ∀ t, o.dst = some t → t < c.N)
    (hA : ancOk (mkAnc ops.toList []) ops.toList 0 = true) (hp : pairsOk (mkAnc ops.toList []) (regL tab true ops) 0 = true) {s : AS} {K : AS → Prop} {Q : Exit → Act → World → Prop} {a : Act} {w : World}
    (h : iOpsD Γ (regL tab true ops) [] s K) (hs : RepS c s a w) (hq : ∀ s' a' w', K s' → RepS c s' a' w' → Q .normal a' w') : (Code.region id ops true).wp P Q a w := by
  obtain ⟨rem, h1, h2, h3, h4, _⟩ := chain_of (mkAnc ops.toList []) K _ 0 [] s h hp
  have hlen : (regL tab true ops).length = ops.size := by
    have := congrArg List.length (regOps_bare true ops.toList ((ops.toList.map (compOp tab ops)).map (setH (fgOf (ops.toList.map (compOp tab ops))))))
    simpa [regL] using this
  have hrl : rem.length = ops.size := by rw [← hlen, ← h1]; simp
  have hat : ∀ (k : Nat) (e : En), rem[k]? = some e → e.i = k := by
    intro k e he
    have h5 : (rem.map (·.i))[k]? = some e.i := by simp [he]
    have hk : k < rem.length := (List.getElem?_eq_some_iff.1 he).1
    rw [h2, hlen, List.getElem?_range' (by omega)] at h5
    simpa using h5.symm
  refine wp_region_any hm ?_
  refine any_sound htab hΓ (fun N C h => (hΓ N C h).loc) ops (fgOf (ops.toList.map (compOp tab ops))) hA hd (R := fun f => ∃ s', s'.f = f ∧ K s') (fun f a' w' ⟨s', hf, hk⟩ hr => hq s' a' w' hk (by unfold RepS; rw [hf]; exact hr))
    ops.size rem _ s.f a _ (by omega) ⟨by simp, fun j => ?_, ?_, fun e he => ?_, h4, fun j o ho hl => ?_⟩ h3 (RepF.drew hs)
  · rw [h2, hlen, List.mem_range'_1]
    rcases Nat.lt_or_ge j ops.size with hj | hj
    · simp [hj]
    · simp [hj, Array.getElem?_eq_none]
  · have hs' : (rem.map (·.i)).Pairwise (· < ·) := by rw [h2]; exact List.pairwise_lt_range'
    exact List.pairwise_map.1 hs'
  · obtain ⟨k, hk⟩ := List.mem_iff_getElem?.1 he
    have hi := hat k e hk
    have hkl : k < ops.size := by rw [← hrl]; exact (List.getElem?_eq_some_iff.1 hk).1
    refine ⟨ops[k], by rw [hi]; simp [hkl], ?_⟩
    have h5 : ((rem.map (·.o)).map IOp.bare)[k]? = some e.o.bare := by simp [hk]
    rw [h1] at h5
    unfold regL at h5
    rw [regOps_bare] at h5
    simp only [List.map_map, List.getElem?_map, Array.getElem?_toList, Array.getElem?_eq_getElem hkl, Option.map_some, Option.some.injEq, Function.comp_apply, compOp_bare] at h5
    exact h5.symm
  · exfalso
    have hj : j < ops.size := (Array.getElem?_eq_some_iff.1 ho).1
    simp [hj] at hl
end
end Go.Ax
