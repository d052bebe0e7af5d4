import Derived.Test.YtgecjhclhdgpgaaXSt
set_option linter.unusedVariables false
set_option linter.unusedSimpArgs false
namespace Go.Ax
open Go
/-! ## numbers of sixteen bytes -/
def wofL (n : Int) : Wide := ⟨if n < 0 then -1 else 0, ⟨n % 18446744073709551616⟩⟩
def waddL (a b : Wide) : Wide := ⟨IntKind.i64.wrap (a.hi + b.hi + (a.lo.n + b.lo.n) / 18446744073709551616), ⟨(a.lo.n + b.lo.n) % 18446744073709551616⟩⟩
def wnegL (a : Wide) : Wide := waddL ⟨-1 - a.hi, ⟨18446744073709551615 - a.lo.n⟩⟩ ⟨0, ⟨1⟩⟩
def WOk (a : Wide) : Prop := -9223372036854775808 ≤ a.hi ∧ a.hi ≤ 9223372036854775807 ∧ 0 ≤ a.lo.n ∧ a.lo.n ≤ 18446744073709551615
theorem IntKind.wrap_u64' (n : Int) : IntKind.u64.wrap n = n % 18446744073709551616 := by simp [IntKind.wrap, IntKind.bits, IntKind.signed]
theorem wrap_bd (n : Int) : -9223372036854775808 ≤ IntKind.i64.wrap n ∧ IntKind.i64.wrap n ≤ 9223372036854775807 := by rw [IntKind.wrap_i64]; omega
theorem wofL_ok (n : Int) : WOk (wofL n) := by unfold WOk wofL; simp only; split <;> omega
theorem waddL_ok {a b : Wide} : WOk (waddL a b) := by
  unfold WOk waddL; have := wrap_bd (a.hi + b.hi + (a.lo.n + b.lo.n) / 18446744073709551616); simp only; omega
theorem wnegL_ok {a : Wide} : WOk (wnegL a) := waddL_ok
theorem not_toNat (n : Int) : ((BitVec.ofInt 64 (-1) ^^^ BitVec.ofInt 64 n).toNat : Int) = 18446744073709551615 - n % 18446744073709551616 := by
  have h1 : BitVec.ofInt 64 (-1) = BitVec.allOnes 64 := by decide
  rw [h1, BitVec.allOnes_xor, BitVec.toNat_not, BitVec.toNat_ofInt]
  have : (0 : Int) ≤ n % (2 ^ 64 : Nat) := Int.emod_nonneg _ (by decide)
  have h2 := Int.emod_lt_of_pos n (show (0 : Int) < (2 ^ 64 : Nat) by decide)
  simp only [Nat.reducePow] at *
  omega
theorem not_i64 {n : Int} (h : -9223372036854775808 ≤ n) (h' : n ≤ 9223372036854775807) : bNot .i64 n = -1 - n := by
  show IntKind.i64.wrap ((BitVec.ofInt 64 (-1) ^^^ BitVec.ofInt 64 n).toNat : Int) = -1 - n
  rw [not_toNat, IntKind.wrap_i64]; omega
theorem not_u64 {n : Int} (h : 0 ≤ n) (h' : n ≤ 18446744073709551615) : bNot .u64 n = 18446744073709551615 - n := by
  have e : BitVec.ofInt 64 18446744073709551615 = BitVec.ofInt 64 (-1) := by decide
  show IntKind.u64.wrap ((BitVec.ofInt 64 18446744073709551615 ^^^ BitVec.ofInt 64 n).toNat : Int) = _
  rw [e, not_toNat, IntKind.wrap_u64']; omega
end Go.Ax
namespace Go.Ax
open Go
theorem and_mask {n : Int} (h : 0 ≤ n) (h' : n ≤ 18446744073709551615) : bAnd .u64 n 4294967295 = n % 4294967296 := by
  show IntKind.u64.wrap ((BitVec.ofInt 64 n &&& BitVec.ofInt 64 4294967295).toNat : Int) = _
  obtain ⟨k, rfl⟩ : ∃ k : Nat, n = k := ⟨n.toNat, by omega⟩
  have e : BitVec.ofInt 64 4294967295 = BitVec.ofNat 64 4294967295 := by decide
  rw [e, BitVec.ofInt_natCast, BitVec.toNat_and, BitVec.toNat_ofNat, BitVec.toNat_ofNat]
  have h1 : k % 2 ^ 64 = k := Nat.mod_eq_of_lt (by omega)
  have h2 : 4294967295 % 2 ^ 64 = 2 ^ 32 - 1 := by decide
  rw [h1, h2, Nat.and_two_pow_sub_one_eq_mod, IntKind.wrap_u64']
  omega
theorem shr32 {n : Int} (h : 0 ≤ n) : n.fdiv (2 ^ Nat.min (Int.toNat 32) 64) = n / 4294967296 := by
  show n.fdiv (2 ^ 32) = _
  rw [Int.fdiv_eq_ediv_of_nonneg _ (by decide)]
  rfl
theorem mul_hi (a b c d : Int) (ha : 0 ≤ a) (ha' : a < 4294967296) (hb : 0 ≤ b) (hb' : b < 4294967296) (hc : 0 ≤ c) (hc' : c < 4294967296) (hd : 0 ≤ d) (hd' : d < 4294967296) :
    (b * d + (b * c + a * c / 4294967296) / 4294967296 + ((b * c + a * c / 4294967296) % 4294967296 + a * d) / 4294967296) = ((b * 4294967296 + a) * (d * 4294967296 + c)) / 18446744073709551616 := by
  have e : (b * 4294967296 + a) * (d * 4294967296 + c) = b * d * 18446744073709551616 + (b * c + a * d) * 4294967296 + a * c := by
    rw [Int.add_mul, Int.mul_add, Int.mul_add, Int.add_mul]
    have h1 : b * 4294967296 * (d * 4294967296) = b * d * 18446744073709551616 := by
      rw [Int.mul_assoc, ← Int.mul_assoc 4294967296 d, Int.mul_comm 4294967296 d, Int.mul_assoc d, ← Int.mul_assoc b d]; rfl
    have h2 : b * 4294967296 * c = b * c * 4294967296 := by rw [Int.mul_assoc, Int.mul_comm 4294967296 c, ← Int.mul_assoc]
    have h3 : a * (d * 4294967296) = a * d * 4294967296 := by rw [← Int.mul_assoc]
    rw [h1, h2, h3]; omega
  rw [e]
  generalize b * d = bd
  generalize b * c = bc
  generalize a * d = ad
  generalize a * c = ac
  omega
theorem mul_bd {a b : Int} {m n : Int} (ha : 0 ≤ a) (ha' : a ≤ m) (hb : 0 ≤ b) (hb' : b ≤ n) : 0 ≤ a * b ∧ a * b ≤ m * n := ⟨Int.mul_nonneg ha hb, Int.mul_le_mul ha' hb' hb (by omega)⟩
def mul64L (q : U64 × U64) : U64 × U64 := (⟨q.1.n * q.2.n / 18446744073709551616⟩, ⟨q.1.n * q.2.n % 18446744073709551616⟩)
def cmpL (a b : Int) : Int := if a < b then -1 else if b < a then 1 else 0
def orL : List Int → Int
  | [] => 0
  | x :: l => if x = 0 then orL l else x
def wcmpL (a b : Wide) : Int := if a.hi = b.hi then cmpL a.lo.n b.lo.n else cmpL a.hi b.hi
def mnL : List Int → Int
  | [] => 0
  | x :: l => l.foldl (fun a b => if b < a then b else a) x
def mxL : List Int → Int
  | [] => 0
  | x :: l => l.foldl (fun a b => if b > a then b else a) x
end Go.Ax
namespace Go.Ax
/-- A number of sixteen bytes. -/
def wofL2 (n : Int) : Wide := ⟨IntKind.i64.wrap (n / 18446744073709551616), ⟨n % 18446744073709551616⟩⟩
end Go.Ax
