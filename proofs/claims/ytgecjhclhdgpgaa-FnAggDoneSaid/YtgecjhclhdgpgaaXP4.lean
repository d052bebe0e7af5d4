import Derived.Test.YtgecjhclhdgpgaaXP3
set_option linter.unusedVariables false
set_option linter.unusedSimpArgs false
namespace Go.Proofs
open Go Go.Ax
theorem or_add {a r : Int} {s : Nat} (ha : 0 ≤ a) (hr : 0 ≤ r) (hr' : r < 2 ^ s) (hb : a * 2 ^ s + r < 18446744073709551616) : bOr .u64 (a * 2 ^ s) r = a * 2 ^ s + r := by
  show IntKind.u64.wrap ((BitVec.ofInt 64 (a * 2 ^ s) ||| BitVec.ofInt 64 r).toNat : Int) = _
  obtain ⟨A, rfl⟩ : ∃ A : Nat, a = A := ⟨a.toNat, by omega⟩
  obtain ⟨R, rfl⟩ : ∃ R : Nat, r = R := ⟨r.toNat, by omega⟩
  have e1 : (A : Int) * 2 ^ s = ((A * 2 ^ s : Nat) : Int) := by simp
  have hR : R < 2 ^ s := by exact_mod_cast hr'
  rw [e1] at hb ⊢
  have h1 : A * 2 ^ s + R < 18446744073709551616 := by omega
  rw [BitVec.ofInt_natCast, BitVec.ofInt_natCast, BitVec.toNat_or, BitVec.toNat_ofNat, BitVec.toNat_ofNat, Nat.mod_eq_of_lt (by omega), Nat.mod_eq_of_lt (by omega)]
  have e2 : A * 2 ^ s ||| R = A * 2 ^ s + R := by
    have := Nat.shiftLeft_add_eq_or_of_lt hR A
    rw [Nat.shiftLeft_eq] at this
    exact this.symm
  rw [e2, wrap_u64 (by omega) (by omega)]
  simp
/-- One digit: the state of the guess. -/
structure Guess (Y Y1 Y0 U d q r : Int) : Prop where
  eq : r = U - q * Y1
  q0 : 0 ≤ q
  qs : q ≤ 4294967297
  r0 : 0 ≤ r
  rs : r < 4294967296
  up : (U * 4294967296 + d) / Y ≤ q
structure Digit (Y Y1 Y0 U d : Int) : Prop where
  y : Y = Y1 * 4294967296 + Y0
  y1 : 2147483648 ≤ Y1
  y1' : Y1 < 4294967296
  y0 : 0 ≤ Y0
  y0' : Y0 < 4294967296
  u : 0 ≤ U
  u' : U < Y
  d0 : 0 ≤ d
  d' : d < 4294967296
theorem Digit.start {Y Y1 Y0 U d : Int} (h : Digit Y Y1 Y0 U d) : Guess Y Y1 Y0 U d (U / Y1) (U - U / Y1 * Y1) := by
  obtain ⟨y, y1, y1', y0, y0', u, u', d0, d'⟩ := h
  have hY1 : 0 < Y1 := by omega
  have e := Int.emod_add_mul_ediv U Y1
  have e1 := Int.emod_nonneg U (by omega : Y1 ≠ 0)
  have e2 := Int.emod_lt_of_pos U hY1
  have e3 : U / Y1 * Y1 = Y1 * (U / Y1) := Int.mul_comm _ _
  refine ⟨rfl, Int.ediv_nonneg u (by omega), ?_, by omega, by omega, ?_⟩
  · refine Int.le_of_lt_add_one (Int.ediv_lt_of_lt_mul hY1 ?_)
    omega
  · refine (Int.le_ediv_iff_mul_le hY1).2 ?_
    have t1 := Int.ediv_mul_le (U * 4294967296 + d) (by omega : Y ≠ 0)
    have t0 : 0 ≤ (U * 4294967296 + d) / Y := Int.ediv_nonneg (by omega) (by omega)
    generalize (U * 4294967296 + d) / Y = T at t1 t0 ⊢
    rw [y, Int.mul_add, ← Int.mul_assoc] at t1
    have t2 := Int.mul_nonneg t0 y0
    generalize T * Y1 = p at t1 ⊢
    generalize T * Y0 = p0 at t1 t2
    omega
/-- What the guess's test says. -/
theorem Guess.big {Y Y1 Y0 U d q r : Int} (h : Digit Y Y1 Y0 U d) (g : Guess Y Y1 Y0 U d q r) (c : 4294967296 ≤ q ∨ 4294967296 * r + d < q * Y0) : 0 < q ∧ (U * 4294967296 + d) / Y ≤ q - 1 := by
  obtain ⟨y, y1, y1', y0, y0', u, u', d0, d'⟩ := h
  obtain ⟨g1, g2, g3, g4, g5, g6⟩ := g
  have hT : (U * 4294967296 + d) / Y < q := by
    refine Int.ediv_lt_of_lt_mul (by omega) ?_
    rw [y, Int.mul_add, ← Int.mul_assoc]
    rcases c with c | c
    · have t1 : 4294967296 * Y ≤ q * Y := Int.mul_le_mul_of_nonneg_right c (by omega)
      rw [y, Int.mul_add, Int.mul_add, ← Int.mul_assoc, ← Int.mul_assoc] at t1
      generalize q * Y1 = p at *
      generalize q * Y0 = p0 at *
      omega
    · generalize q * Y1 = p at *
      generalize q * Y0 = p0 at *
      omega
  have t0 : 0 ≤ (U * 4294967296 + d) / Y := Int.ediv_nonneg (by omega) (by omega)
  omega
theorem Guess.low {Y Y1 Y0 U d q r : Int} (h : Digit Y Y1 Y0 U d) (e : r = U - q * Y1) (up : (U * 4294967296 + d) / Y ≤ q) (c : q * Y0 ≤ 4294967296 * r + d) : q = (U * 4294967296 + d) / Y := by
  obtain ⟨y, y1, y1', y0, y0', u, u', d0, d'⟩ := h
  refine Int.le_antisymm ?_ up
  refine (Int.le_ediv_iff_mul_le (by omega)).2 ?_
  rw [y, Int.mul_add, ← Int.mul_assoc]
  generalize q * Y1 = p at *
  generalize q * Y0 = p0 at *
  omega
theorem Guess.step {Y Y1 Y0 U d q r : Int} (h : Digit Y Y1 Y0 U d) (g : Guess Y Y1 Y0 U d q r) (c : 4294967296 ≤ q ∨ 4294967296 * r + d < q * Y0) (c2 : r + Y1 < 4294967296) : Guess Y Y1 Y0 U d (q - 1) (r + Y1) := by
  have hb := Guess.big h g c
  obtain ⟨g1, g2, g3, g4, g5, g6⟩ := g
  have := h.y1
  exact ⟨by rw [Int.sub_mul, Int.one_mul]; omega, by omega, by omega, by omega, c2, hb.2⟩
theorem Guess.stop {Y Y1 Y0 U d q r : Int} (h : Digit Y Y1 Y0 U d) (g : Guess Y Y1 Y0 U d q r) (c : 4294967296 ≤ q ∨ 4294967296 * r + d < q * Y0) (c2 : 4294967296 ≤ r + Y1) : q - 1 = (U * 4294967296 + d) / Y := by
  have hb := Guess.big h g c
  obtain ⟨g1, g2, g3, g4, g5, g6⟩ := g
  refine Guess.low h (r := r + Y1) (by rw [Int.sub_mul, Int.one_mul]; omega) hb.2 ?_
  have t1 : (q - 1) * Y0 ≤ 4294967296 * 4294967296 := Int.mul_le_mul (by omega) (by have := h.y0'; omega) h.y0 (by omega)
  have := h.d0
  omega
theorem Digit.lt {Y Y1 Y0 U d : Int} (h : Digit Y Y1 Y0 U d) : 0 ≤ (U * 4294967296 + d) / Y ∧ (U * 4294967296 + d) / Y < 4294967296 := by
  obtain ⟨y, y1, y1', y0, y0', u, u', d0, d'⟩ := h
  exact ⟨Int.ediv_nonneg (by omega) (by omega), Int.ediv_lt_of_lt_mul (by omega) (by omega)⟩
end Go.Proofs
