import Derived.Test.YtgecjhclhdgpgaaXF5
set_option linter.unusedVariables false
set_option linter.unusedSimpArgs false
namespace Go.Proofs
open Go Go.Ax
set_option maxRecDepth 10000
theorem at75 : FnAt Try.prog tab 75 Try.f75 (Try.f75.body.getD .skip) := ⟨Try.func75, rfl, Try.call75, by kernel_rfl, by decide, by kernel_rfl, mix⟩
theorem wneg_of {p : Int} (h : 0 ≤ p) (h' : p ≤ 85070591730234615856620279821087277056) : wnegL ⟨p / 18446744073709551616, ⟨p % 18446744073709551616⟩⟩ = wofL2 (-p) := by
  simp only [wnegL, waddL, wofL2, IntKind.wrap_i64, Wide.mk.injEq, U64.mk.injEq]
  omega
theorem mul_pos_bd {a k : Int} (h1 : 0 ≤ a) (h2 : a ≤ 9223372036854775808) (h3 : 0 ≤ k) (h4 : k ≤ 9223372036854775807) : 0 ≤ a * k ∧ a * k ≤ 85070591730234615856620279821087277056 := by
  have := mul_bd h1 h2 h3 h4
  omega
theorem s_times : SoundC Try.prog 75 (flatT (fun q : Int × Int => (-9223372036854775808 ≤ q.1 ∧ q.1 ≤ 9223372036854775807) ∧ 0 ≤ q.2 ∧ q.2 ≤ 9223372036854775807) fun q => wofL2 (q.1 * q.2)) := by
  refine sound_flat (Γ := [(122, _), (73, _)]) tab_ok (.cons s_mul64 (.cons s_iWideNeg .nil)) at75 [4, 5, 6, 7, 8, 15] _ _ (fun _ => Nat.le_of_ble_eq_true rfl) (fun _ => rfl) ?_
  rintro ⟨n, k⟩ ⟨hn, hk⟩ -
  simp only at hn hk
  conv => arg 2; arg 1; arg 1; cbv
  conv => arg 4; arg 1; cbv
  simp only [go_sem]
  have hku : IntKind.u64.wrap k = k := by rw [IntKind.wrap_u64']; omega
  rw [hku]
  refine onB_dec (fun h => ?_) (fun h => ?_)
  · have e : IntKind.u64.wrap (0 - IntKind.u64.wrap n) = -n := by simp only [IntKind.wrap_u64']; omega
    rw [e]
    obtain ⟨p1, p2⟩ := mul_pos_bd (a := -n) (k := k) (by omega) (by omega) hk.1 hk.2
    have e2 : n * k = -(-n * k) := by rw [Int.neg_mul, Int.neg_neg]
    refine ⟨⟨⟨by omega, by omega⟩, by omega, by omega⟩, onB_dec (fun _ => ?_) (fun h' => absurd h h')⟩
    simp only [mul64L]
    rw [e2]
    generalize -n * k = p at p1 p2
    have e3 : IntKind.i64.wrap (p / 18446744073709551616) = p / 18446744073709551616 := wrap_in (by omega) (by omega)
    rw [e3, wneg_of p1 p2]
    refine ⟨⟨?_, ?_, ?_, ?_⟩, rfl, rfl⟩ <;> (simp only; omega)
  · have e : IntKind.u64.wrap n = n := by rw [IntKind.wrap_u64']; omega
    rw [e]
    refine ⟨⟨⟨by omega, by omega⟩, by omega, by omega⟩, onB_dec (fun h' => absurd h' h) (fun _ => ?_)⟩
    exact ⟨rfl, rfl⟩
end Go.Proofs
