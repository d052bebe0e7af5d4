import Derived.Test.YtgecjhclhdgpgaaXV4
import Derived.Test.YtgecjhclhdgpgaaXP4
import Derived.Lib.ItoaNum
set_option linter.unusedVariables false
set_option linter.unusedSimpArgs false
namespace Go.Proofs
open Go Go.Ax
set_option maxRecDepth 10000
theorem at147 : FnAt Try.prog tab 147 Try.f147 (Try.f147.body.getD .skip) := ⟨Try.func147, rfl, Try.call147, by kernel_rfl, by decide, by kernel_rfl, mix⟩
def lzL (x : U64) : Int := 64 - lenL x
theorem lenL_bd {x : U64} (h : 0 < x.n) (h' : x.n ≤ 18446744073709551615) : ∃ k : Nat, lenL x = k + 1 ∧ k ≤ 63 ∧ 2 ^ k ≤ x.n.toNat ∧ x.n.toNat < 2 ^ (k + 1) := by
  obtain ⟨h1, h2, h3⟩ := Lib.bitLenAux_bounds 64 x.n.toNat (by omega) (by omega)
  refine ⟨Lib.bitLenAux 64 x.n.toNat - 1, by unfold lenL Lib.bitLen; omega, ?_, h2, by rw [Nat.sub_add_cancel h1]; exact h3⟩
  have h4 : 2 ^ (Lib.bitLenAux 64 x.n.toNat - 1) < 2 ^ 64 := by omega
  have := (Nat.pow_lt_pow_iff_right (by omega : 1 < 2)).1 h4
  omega
theorem s_lz : SoundC Try.prog 147 (flatT (fun x : U64 => 0 < x.n ∧ x.n ≤ 18446744073709551615) lzL) := by
  refine sound_flat (Γ := [(152, _)]) tab_ok (.cons s_len64 .nil) at147 [2] _ _ (fun _ => Nat.le_of_ble_eq_true rfl) (fun _ => rfl) ?_
  rintro ⟨x⟩ ⟨h1, h2⟩ -
  conv => arg 2; arg 1; arg 1; cbv
  conv => arg 4; arg 1; cbv
  simp only [go_sem, lzL] at h1 h2 ⊢
  obtain ⟨k, e, hk, _⟩ := lenL_bd (x := ⟨x⟩) h1 h2
  rw [e, wrap_in (by omega) (by omega)]
  exact ⟨⟨by omega, h2⟩, rfl⟩
/-- The numbers, shifted so that the divisor's top bit stands. -/
theorem norm64 {hi lo y : Int} {k : Nat} (h1 : 0 ≤ hi) (h2 : hi < y) (h3 : 0 ≤ lo) (h3' : lo ≤ 18446744073709551615) (hk : k ≤ 63) (hk1 : 2 ^ k ≤ y.toNat) (hk2 : y.toNat < 2 ^ (k + 1)) :
    ∃ P Y Y1 Y0 U u1 u0 : Int, 0 < P ∧ Y = y * P ∧ (hi * 18446744073709551616 + lo) * P = U * 18446744073709551616 + (u1 * 4294967296 + u0) ∧ Digit Y Y1 Y0 U u1 ∧ (0 ≤ u0 ∧ u0 < 4294967296) ∧ (0 ≤ Y ∧ Y < 18446744073709551616) ∧
      P = 2 ^ (63 - k) ∧ IntKind.u64.wrap (y * 2 ^ (63 - k)) = Y ∧ Y.fdiv (2 ^ 32) = Y1 ∧ bAnd .u64 Y 4294967295 = Y0 ∧ bOr .u64 (IntKind.u64.wrap (hi * 2 ^ (63 - k))) (lo.fdiv (2 ^ (k + 1))) = U ∧
      (IntKind.u64.wrap (lo * 2 ^ (63 - k))).fdiv (2 ^ 32) = u1 ∧ bAnd .u64 (IntKind.u64.wrap (lo * 2 ^ (63 - k))) 4294967295 = u0 := by
  have hy0 : 0 < y := by omega
  have hP : (0 : Int) < 2 ^ (63 - k) := Int.pow_pos (by decide)
  have hQ : (0 : Int) < 2 ^ (k + 1) := Int.pow_pos (by decide)
  have hPQ : (2 : Int) ^ (63 - k) * 2 ^ (k + 1) = 18446744073709551616 := by
    rw [← Int.pow_add, show 63 - k + (k + 1) = 64 from by omega]; rfl
  have hPK : (2 : Int) ^ k * 2 ^ (63 - k) = 9223372036854775808 := by
    rw [← Int.pow_add, show k + (63 - k) = 63 from by omega]; rfl
  have hk1' : (2 : Int) ^ k ≤ y := by
    have : ((2 ^ k : Nat) : Int) ≤ (y.toNat : Int) := Int.ofNat_le.2 hk1
    rw [Int.toNat_of_nonneg (by omega)] at this
    simpa using this
  have hk2' : y < (2 : Int) ^ (k + 1) := by
    have : (y.toNat : Int) < ((2 ^ (k + 1) : Nat) : Int) := Int.ofNat_lt.2 hk2
    rw [Int.toNat_of_nonneg (by omega)] at this
    simpa using this
  have hor : ∀ r : Int, 0 ≤ r → r < 2 ^ (63 - k) → hi * 2 ^ (63 - k) + r < 18446744073709551616 → bOr .u64 (hi * 2 ^ (63 - k)) r = hi * 2 ^ (63 - k) + r := fun r a b c => or_add h1 a b c
  generalize (2 : Int) ^ (63 - k) = P at *
  generalize (2 : Int) ^ (k + 1) = Q at *
  generalize (2 : Int) ^ k = K at *
  have y1 : 9223372036854775808 ≤ y * P := by rw [← hPK]; exact Int.mul_le_mul_of_nonneg_right hk1' (Int.le_of_lt hP)
  have y2 : y * P < 18446744073709551616 := by rw [← hPQ, Int.mul_comm P]; exact Int.mul_lt_mul_of_pos_right hk2' hP
  have y3 : hi * P + P ≤ y * P := by
    have := Int.mul_le_mul_of_nonneg_right (by omega : hi + 1 ≤ y) (Int.le_of_lt hP)
    rw [Int.add_mul, Int.one_mul] at this; exact this
  have y4 : 0 ≤ hi * P := Int.mul_nonneg h1 (Int.le_of_lt hP)
  have l1 : 0 ≤ lo / Q := Int.ediv_nonneg h3 (Int.le_of_lt hQ)
  have l2 : lo / Q < P := Int.ediv_lt_of_lt_mul hQ (by rw [hPQ]; omega)
  have l3 := Int.emod_add_mul_ediv lo Q
  have l4 := Int.emod_nonneg lo (by omega : Q ≠ 0)
  have l5 := Int.emod_lt_of_pos lo hQ
  have l6 : lo * P = (lo / Q) * 18446744073709551616 + lo % Q * P := by
    conv => lhs; rw [← l3]
    rw [Int.add_mul, ← hPQ, Int.mul_comm Q (lo / Q), Int.mul_assoc, Int.mul_comm Q P]; omega
  have l7 : 0 ≤ lo % Q * P := Int.mul_nonneg l4 (Int.le_of_lt hP)
  have l8 : lo % Q * P < 18446744073709551616 := by rw [← hPQ, Int.mul_comm P]; exact Int.mul_lt_mul_of_pos_right l5 hP
  have l9 : IntKind.u64.wrap (lo * P) = lo % Q * P := by rw [IntKind.wrap_u64', l6]; omega
  have b1 : IntKind.u64.wrap (hi * P) = hi * P := wrap_u64 y4 (by omega)
  have b2 : IntKind.u64.wrap (y * P) = y * P := wrap_u64 (by omega) (by omega)
  have b3 : lo.fdiv Q = lo / Q := Int.fdiv_eq_ediv_of_nonneg _ (Int.le_of_lt hQ)
  have b4 := hor (lo / Q) l1 l2 (by omega)
  have d32 : ∀ n : Int, n.fdiv (2 ^ 32) = n / 4294967296 := fun n => by rw [Int.fdiv_eq_ediv_of_nonneg _ (by decide)]; rfl
  rw [l9, b1, b2, b3, b4]
  refine ⟨P, y * P, y * P / 4294967296, y * P % 4294967296, hi * P + lo / Q, lo % Q * P / 4294967296, lo % Q * P % 4294967296, hP, rfl, ?_, ?_, by omega, by omega, rfl, rfl, d32 _, and_mask (by omega) (by omega), rfl, d32 _, and_mask l7 (by omega)⟩
  · rw [Int.add_mul, l6, Int.mul_assoc, Int.mul_comm 18446744073709551616 P, ← Int.mul_assoc, Int.add_mul]
    generalize hi * P = p at *
    generalize lo % Q * P = p2 at *
    omega
  · exact ⟨by omega, by omega, by omega, by omega, by omega, by omega, by omega, by omega, by omega⟩
theorem at136 : FnAt Try.prog tab 136 Try.f136 (Try.f136.body.getD .skip) := ⟨Try.func136, rfl, Try.call136, by kernel_rfl, by decide, by kernel_rfl, mix⟩
def divL (q : U64 × U64 × U64) : U64 × U64 := (⟨(q.1.n * 18446744073709551616 + q.2.1.n) / q.2.2.n⟩, ⟨(q.1.n * 18446744073709551616 + q.2.1.n) % q.2.2.n⟩)
theorem s_div64 : SoundC Try.prog 136 (flatT (fun q : U64 × U64 × U64 => 0 ≤ q.1.n ∧ q.1.n < q.2.2.n ∧ (0 ≤ q.2.1.n ∧ q.2.1.n ≤ 18446744073709551615) ∧ q.2.2.n ≤ 18446744073709551615) divL) := by
  refine sound_flat (Γ := [(147, _)]) tab_ok (.cons s_lz .nil) at136 [6, 7, 8, 9, 10, 11, 12, 13, 14, 15, 16, 17, 18] _ _ (fun _ => Nat.le_of_ble_eq_true rfl) (fun _ => rfl) ?_
  rintro ⟨⟨hi⟩, ⟨lo⟩, ⟨y⟩⟩ ⟨h1, h2, h3, h4⟩ -
  conv => arg 2; arg 1; arg 1; cbv
  conv => arg 4; arg 1; cbv
  simp only [go_sem] at h1 h2 h3 h4 ⊢
  refine onB_dec (fun h => absurd h (by omega)) (fun _ => onB_dec (fun h => absurd h (by omega)) (fun _ => onB_dec (fun h0 => ?_) (fun h0 => ?_)))
  · subst h0
    simp only [divL]
    have e := Int.ediv_nonneg h3.1 (by omega : 0 ≤ y)
    have e' : lo / y ≤ lo := Int.ediv_le_self _ h3.1
    rw [tdiv_nn h3.1, tmod_nn h3.1, wrap_u64 e (by omega), Int.zero_mul, Int.zero_add]
    exact ⟨by omega, by omega, rfl, rfl⟩
  obtain ⟨k, ek, hk, hk1, hk2⟩ := lenL_bd (x := ⟨y⟩) (by simp only; omega) h4
  simp only at hk1 hk2
  have es : IntKind.u64.wrap (lzL ⟨y⟩) = ((63 - k : Nat) : Int) := by unfold lzL; rw [ek, wrap_u64 (by omega) (by omega)]; omega
  have es2 : (IntKind.u64.wrap (64 - ((63 - k : Nat) : Int))).toNat.min 64 = k + 1 := by
    rw [wrap_u64 (by omega) (by omega)]; show min _ _ = _; omega
  have es3 : (((63 - k : Nat) : Int)).toNat.min 64 = 63 - k := by show min _ _ = _; omega
  have e32 : (Int.toNat 32).min 64 = 32 := rfl
  rw [es, es3, es2, e32]
  obtain ⟨P, Y, Y1, Y0, U, u1, u0, hP, hY, hN, hD, hu0, hYb, eP, f1, f2, f3, f4, f5, f6⟩ := norm64 h1 h2 h3.1 h3.2 hk hk1 hk2
  simp only [f1, f2, f3, f4, f5, f6]
  generalize IntKind.u64.wrap (lo * 2 ^ (63 - k)) = L
  have hTb := hD.lt
  have hM := Int.emod_add_mul_ediv (U * 4294967296 + u1) Y
  have hM0 := Int.emod_nonneg (U * 4294967296 + u1) (by have := hD.u; have := hD.u'; omega : Y ≠ 0)
  have hM1 := Int.emod_lt_of_pos (U * 4294967296 + u1) (by have := hD.u; have := hD.u'; omega : 0 < Y)
  rw [Int.mul_comm Y] at hM
  obtain ⟨T, eT⟩ : ∃ T, (U * 4294967296 + u1) / Y = T := ⟨_, rfl⟩
  obtain ⟨V, eV⟩ : ∃ V, (U * 4294967296 + u1) % Y = V := ⟨_, rfl⟩
  rw [eT] at hTb hM
  rw [eV] at hM hM0 hM1
  have wV : IntKind.u64.wrap (IntKind.u64.wrap (IntKind.u64.wrap (U * 4294967296) + u1) - IntKind.u64.wrap (T * Y)) = V := by
    simp only [IntKind.wrap_u64']
    generalize T * Y = p at *
    omega
  have hE : Digit Y Y1 Y0 V u0 := ⟨hD.y, hD.y1, hD.y1', hD.y0, hD.y0', hM0, hM1, hu0.1, hu0.2⟩
  have e0 := hE.start
  have fin : 0 ≤ ((63 - k : Nat) : Int) ∧ IntKind.u64.wrap (IntKind.u64.wrap (T * 4294967296) + (V * 4294967296 + u0) / Y) = (divL (⟨hi⟩, ⟨lo⟩, ⟨y⟩)).fst.n ∧
      (IntKind.u64.wrap (IntKind.u64.wrap (IntKind.u64.wrap (V * 4294967296) + u0) - IntKind.u64.wrap ((V * 4294967296 + u0) / Y * Y))).fdiv (2 ^ (63 - k).min 64) = (divL (⟨hi⟩, ⟨lo⟩, ⟨y⟩)).snd.n := by
    have hS := hE.lt
    have hY0 : 0 < Y := by omega
    have hW := Int.emod_add_mul_ediv (V * 4294967296 + u0) Y
    have hW0 := Int.emod_nonneg (V * 4294967296 + u0) (by omega : Y ≠ 0)
    have hW1 := Int.emod_lt_of_pos (V * 4294967296 + u0) hY0
    rw [Int.mul_comm Y] at hW
    generalize (V * 4294967296 + u0) / Y = S at *
    generalize (V * 4294967296 + u0) % Y = W at *
    have wW : IntKind.u64.wrap (IntKind.u64.wrap (IntKind.u64.wrap (V * 4294967296) + u0) - IntKind.u64.wrap (S * Y)) = W := by
      simp only [IntKind.wrap_u64']
      generalize S * Y = p at *
      omega
    have eq : (hi * 18446744073709551616 + lo) * P = (T * 4294967296 + S) * Y + W := by
      rw [hN, Int.add_mul, Int.mul_assoc, Int.mul_comm 4294967296 Y, ← Int.mul_assoc]
      generalize T * Y = p at *
      generalize S * Y = p2 at *
      omega
    generalize hX : hi * 18446744073709551616 + lo = X at *
    have eR : W = (X - (T * 4294967296 + S) * y) * P := by
      rw [Int.sub_mul, eq, hY, ← Int.mul_assoc]; omega
    have hy : 0 < y := by omega
    have r1 : 0 ≤ X - (T * 4294967296 + S) * y := by
      refine Int.not_lt.1 fun hn => ?_
      have := Int.mul_neg_of_neg_of_pos hn hP
      omega
    have r2 : X - (T * 4294967296 + S) * y < y := by
      refine Int.not_le.1 fun hn => ?_
      have := Int.mul_le_mul_of_nonneg_right hn (Int.le_of_lt hP)
      omega
    have hdm := (Int.ediv_emod_unique (a := X) (r := X - (T * 4294967296 + S) * y) (q := T * 4294967296 + S) hy).2 ⟨by rw [Int.mul_comm y]; omega, r1, r2⟩
    have em : (63 - k).min 64 = 63 - k := by show min _ _ = _; omega
    refine ⟨by omega, ?_, ?_⟩
    · simp only [divL, hX]
      rw [hdm.1, wrap_u64 (n := T * 4294967296) (by omega) (by omega), wrap_u64 (by omega) (by omega)]
    · simp only [divL, hX]
      rw [wW, hdm.2, em, ← eP, Int.fdiv_eq_ediv_of_nonneg _ (Int.le_of_lt hP), eR, Int.mul_ediv_cancel _ (by omega)]
  have v1 : IntKind.u64.wrap (V.tdiv Y1) = V / Y1 := by rw [tdiv_nn hM0]; exact wrap_u64 e0.q0 (by have := e0.qs; omega)
  have v2 : IntKind.u64.wrap (V / Y1 * Y1) = V / Y1 * Y1 := wrap_u64 (Int.mul_nonneg e0.q0 (by have := hD.y1; omega)) (by have := e0.r0; omega)
  have v3 : IntKind.u64.wrap (V - V / Y1 * Y1) = V - V / Y1 * Y1 := wrap_u64 e0.r0 (by have := e0.rs; omega)
  have g0 := hD.start
  have hUY := hD.u'
  have hy1 := hD.y1
  have hU0 := hD.u
  have w1 : IntKind.u64.wrap (U.tdiv Y1) = U / Y1 := by rw [tdiv_nn hU0]; exact wrap_u64 g0.q0 (by have := g0.qs; omega)
  have w2 : IntKind.u64.wrap (U / Y1 * Y1) = U / Y1 * Y1 := wrap_u64 (Int.mul_nonneg g0.q0 (by omega)) (by have := g0.r0; omega)
  have w3 : IntKind.u64.wrap (U - U / Y1 * Y1) = U - U / Y1 * Y1 := wrap_u64 g0.r0 (by have := g0.rs; omega)
  rw [w1, w2, w3]
  refine ⟨⟨by omega, h4⟩, by omega, by omega, by omega, ?_⟩
  refine r_loop (fun q : Int × Int => ⟨[(0, .lit (.int .u64 hi)), (1, .lit (.int .u64 lo)), (2, .lit (.int .u64 Y)), (6, .lit (.int .u64 0)), (7, .lit (.int .u64 0)), (8, .lit (.int .u64 (63 - k : Nat))), (9, .lit (.int .u64 Y1)), (10, .lit (.int .u64 Y0)), (11, .lit (.int .u64 U)), (12, .lit (.int .u64 L)), (13, .lit (.int .u64 u1)), (14, .lit (.int .u64 u0)), (15, .lit (.int .u64 q.1)), (16, .lit (.int .u64 q.2)), (17, .any), (18, .any)], [], []⟩)
    (fun q => Guess Y Y1 Y0 U u1 q.1 q.2) (fun q => q.1.toNat) (U / Y1, U - U / Y1 * Y1) ?_ ?_ ?_
  · exact Le.of_eq rfl
  · exact g0
  · rintro ⟨q, r⟩ g
    simp only at g
    simp only [go_sem]
    have c0 := hD.d0
    have c1 := hD.d'
    have c2 := hD.y0
    have c3 := hD.y0'
    have c4 := hD.y1'
    have r0 := g.r0
    have rs := g.rs
    have q0 := g.q0
    have qs := g.qs
    have wr : IntKind.u64.wrap (r + Y1) = r + Y1 := wrap_u64 (by omega) (by omega)
    have wc : IntKind.u64.wrap (IntKind.u64.wrap (4294967296 * r) + u1) = 4294967296 * r + u1 := by rw [wrap_u64 (n := 4294967296 * r) (by omega) (by omega), wrap_u64 (by omega) (by omega)]
    rw [wr, wc]
    refine onB_dec (fun hq => ?_) (fun hq => ?_)
    · have hc : 4294967296 ≤ q ∨ 4294967296 * r + u1 < q * Y0 := .inl hq
      have hb := Guess.big hD g hc
      have wq : IntKind.u64.wrap (q - 1) = q - 1 := wrap_u64 (by omega) (by omega)
      rw [wq]
      refine onB_dec (fun h5 => ?_) (fun h5 => ⟨(q - 1, r + Y1), by simp only; omega, g.step hD hc (by omega), Le.of_eq rfl⟩)
      rw [g.stop hD hc h5]
      rw [eT, wV, v1, v2, v3]
      refine ⟨by omega, ?_⟩
      refine r_loop (fun q : Int × Int => ⟨[(0, .lit (.int .u64 hi)), (1, .lit (.int .u64 lo)), (2, .lit (.int .u64 Y)), (6, .lit (.int .u64 0)), (7, .lit (.int .u64 0)), (8, .lit (.int .u64 (63 - k : Nat))), (9, .lit (.int .u64 Y1)), (10, .lit (.int .u64 Y0)), (11, .lit (.int .u64 U)), (12, .lit (.int .u64 L)), (13, .lit (.int .u64 u1)), (14, .lit (.int .u64 u0)), (15, .lit (.int .u64 T)), (16, .lit (.int .u64 q.2)), (17, .lit (.int .u64 V)), (18, .lit (.int .u64 q.1))], [], []⟩)
        (fun q => Guess Y Y1 Y0 V u0 q.1 q.2) (fun q => q.1.toNat) (V / Y1, V - V / Y1 * Y1) ?_ ?_ ?_
      · exact Le.of_eq rfl
      · exact e0
      · clear g
        rintro ⟨q, r⟩ g
        simp only at g
        simp only [go_sem]
        have r0 := g.r0
        have rs := g.rs
        have q0 := g.q0
        have qs := g.qs
        have wr : IntKind.u64.wrap (r + Y1) = r + Y1 := wrap_u64 (by omega) (by omega)
        have wc : IntKind.u64.wrap (IntKind.u64.wrap (4294967296 * r) + u0) = 4294967296 * r + u0 := by rw [wrap_u64 (n := 4294967296 * r) (by omega) (by omega), wrap_u64 (by omega) (by omega)]
        rw [wr, wc]
        refine onB_dec (fun hq => ?_) (fun hq => ?_)
        · have hc : 4294967296 ≤ q ∨ 4294967296 * r + u0 < q * Y0 := .inl hq
          have hb := Guess.big hE g hc
          have wq : IntKind.u64.wrap (q - 1) = q - 1 := wrap_u64 (by omega) (by omega)
          rw [wq]
          refine onB_dec (fun h5 => ?_) (fun h5 => ⟨(q - 1, r + Y1), by simp only; omega, g.step hE hc (by omega), Le.of_eq rfl⟩)
          rw [g.stop hE hc h5]
          exact fin
        · have wm : IntKind.u64.wrap (q * Y0) = q * Y0 := wrap_u64 (Int.mul_nonneg q0 c2) (by have := Int.mul_le_mul (by omega : q ≤ 4294967295) (by omega : Y0 ≤ 4294967295) c2 (by omega); omega)
          rw [wm]
          refine onB_dec (fun hq2 => ?_) (fun hq2 => ?_)
          · have hc : 4294967296 ≤ q ∨ 4294967296 * r + u0 < q * Y0 := .inr hq2
            have hb := Guess.big hE g hc
            have wq : IntKind.u64.wrap (q - 1) = q - 1 := wrap_u64 (by omega) (by omega)
            rw [wq]
            refine onB_dec (fun h5 => ?_) (fun h5 => ⟨(q - 1, r + Y1), by simp only; omega, g.step hE hc (by omega), Le.of_eq rfl⟩)
            rw [g.stop hE hc h5]
            exact fin
          · rw [Guess.low hE g.eq g.up (by omega)]
            exact fin
    · have wm : IntKind.u64.wrap (q * Y0) = q * Y0 := wrap_u64 (Int.mul_nonneg q0 c2) (by have := Int.mul_le_mul (by omega : q ≤ 4294967295) (by omega : Y0 ≤ 4294967295) c2 (by omega); omega)
      rw [wm]
      refine onB_dec (fun hq2 => ?_) (fun hq2 => ?_)
      · have hc : 4294967296 ≤ q ∨ 4294967296 * r + u1 < q * Y0 := .inr hq2
        have hb := Guess.big hD g hc
        have wq : IntKind.u64.wrap (q - 1) = q - 1 := wrap_u64 (by omega) (by omega)
        rw [wq]
        refine onB_dec (fun h5 => ?_) (fun h5 => ⟨(q - 1, r + Y1), by simp only; omega, g.step hD hc (by omega), Le.of_eq rfl⟩)
        rw [g.stop hD hc h5]
        rw [eT, wV, v1, v2, v3]
        refine ⟨by omega, ?_⟩
        refine r_loop (fun q : Int × Int => ⟨[(0, .lit (.int .u64 hi)), (1, .lit (.int .u64 lo)), (2, .lit (.int .u64 Y)), (6, .lit (.int .u64 0)), (7, .lit (.int .u64 0)), (8, .lit (.int .u64 (63 - k : Nat))), (9, .lit (.int .u64 Y1)), (10, .lit (.int .u64 Y0)), (11, .lit (.int .u64 U)), (12, .lit (.int .u64 L)), (13, .lit (.int .u64 u1)), (14, .lit (.int .u64 u0)), (15, .lit (.int .u64 T)), (16, .lit (.int .u64 q.2)), (17, .lit (.int .u64 V)), (18, .lit (.int .u64 q.1))], [], []⟩)
          (fun q => Guess Y Y1 Y0 V u0 q.1 q.2) (fun q => q.1.toNat) (V / Y1, V - V / Y1 * Y1) ?_ ?_ ?_
        · exact Le.of_eq rfl
        · exact e0
        · clear g
          rintro ⟨q, r⟩ g
          simp only at g
          simp only [go_sem]
          have r0 := g.r0
          have rs := g.rs
          have q0 := g.q0
          have qs := g.qs
          have wr : IntKind.u64.wrap (r + Y1) = r + Y1 := wrap_u64 (by omega) (by omega)
          have wc : IntKind.u64.wrap (IntKind.u64.wrap (4294967296 * r) + u0) = 4294967296 * r + u0 := by rw [wrap_u64 (n := 4294967296 * r) (by omega) (by omega), wrap_u64 (by omega) (by omega)]
          rw [wr, wc]
          refine onB_dec (fun hq => ?_) (fun hq => ?_)
          · have hc : 4294967296 ≤ q ∨ 4294967296 * r + u0 < q * Y0 := .inl hq
            have hb := Guess.big hE g hc
            have wq : IntKind.u64.wrap (q - 1) = q - 1 := wrap_u64 (by omega) (by omega)
            rw [wq]
            refine onB_dec (fun h5 => ?_) (fun h5 => ⟨(q - 1, r + Y1), by simp only; omega, g.step hE hc (by omega), Le.of_eq rfl⟩)
            rw [g.stop hE hc h5]
            exact fin
          · have wm : IntKind.u64.wrap (q * Y0) = q * Y0 := wrap_u64 (Int.mul_nonneg q0 c2) (by have := Int.mul_le_mul (by omega : q ≤ 4294967295) (by omega : Y0 ≤ 4294967295) c2 (by omega); omega)
            rw [wm]
            refine onB_dec (fun hq2 => ?_) (fun hq2 => ?_)
            · have hc : 4294967296 ≤ q ∨ 4294967296 * r + u0 < q * Y0 := .inr hq2
              have hb := Guess.big hE g hc
              have wq : IntKind.u64.wrap (q - 1) = q - 1 := wrap_u64 (by omega) (by omega)
              rw [wq]
              refine onB_dec (fun h5 => ?_) (fun h5 => ⟨(q - 1, r + Y1), by simp only; omega, g.step hE hc (by omega), Le.of_eq rfl⟩)
              rw [g.stop hE hc h5]
              exact fin
            · rw [Guess.low hE g.eq g.up (by omega)]
              exact fin
      · rw [Guess.low hD g.eq g.up (by omega)]
        rw [eT, wV, v1, v2, v3]
        refine ⟨by omega, ?_⟩
        refine r_loop (fun q : Int × Int => ⟨[(0, .lit (.int .u64 hi)), (1, .lit (.int .u64 lo)), (2, .lit (.int .u64 Y)), (6, .lit (.int .u64 0)), (7, .lit (.int .u64 0)), (8, .lit (.int .u64 (63 - k : Nat))), (9, .lit (.int .u64 Y1)), (10, .lit (.int .u64 Y0)), (11, .lit (.int .u64 U)), (12, .lit (.int .u64 L)), (13, .lit (.int .u64 u1)), (14, .lit (.int .u64 u0)), (15, .lit (.int .u64 T)), (16, .lit (.int .u64 q.2)), (17, .lit (.int .u64 V)), (18, .lit (.int .u64 q.1))], [], []⟩)
          (fun q => Guess Y Y1 Y0 V u0 q.1 q.2) (fun q => q.1.toNat) (V / Y1, V - V / Y1 * Y1) ?_ ?_ ?_
        · exact Le.of_eq rfl
        · exact e0
        · clear g
          rintro ⟨q, r⟩ g
          simp only at g
          simp only [go_sem]
          have r0 := g.r0
          have rs := g.rs
          have q0 := g.q0
          have qs := g.qs
          have wr : IntKind.u64.wrap (r + Y1) = r + Y1 := wrap_u64 (by omega) (by omega)
          have wc : IntKind.u64.wrap (IntKind.u64.wrap (4294967296 * r) + u0) = 4294967296 * r + u0 := by rw [wrap_u64 (n := 4294967296 * r) (by omega) (by omega), wrap_u64 (by omega) (by omega)]
          rw [wr, wc]
          refine onB_dec (fun hq => ?_) (fun hq => ?_)
          · have hc : 4294967296 ≤ q ∨ 4294967296 * r + u0 < q * Y0 := .inl hq
            have hb := Guess.big hE g hc
            have wq : IntKind.u64.wrap (q - 1) = q - 1 := wrap_u64 (by omega) (by omega)
            rw [wq]
            refine onB_dec (fun h5 => ?_) (fun h5 => ⟨(q - 1, r + Y1), by simp only; omega, g.step hE hc (by omega), Le.of_eq rfl⟩)
            rw [g.stop hE hc h5]
            exact fin
          · have wm : IntKind.u64.wrap (q * Y0) = q * Y0 := wrap_u64 (Int.mul_nonneg q0 c2) (by have := Int.mul_le_mul (by omega : q ≤ 4294967295) (by omega : Y0 ≤ 4294967295) c2 (by omega); omega)
            rw [wm]
            refine onB_dec (fun hq2 => ?_) (fun hq2 => ?_)
            · have hc : 4294967296 ≤ q ∨ 4294967296 * r + u0 < q * Y0 := .inr hq2
              have hb := Guess.big hE g hc
              have wq : IntKind.u64.wrap (q - 1) = q - 1 := wrap_u64 (by omega) (by omega)
              rw [wq]
              refine onB_dec (fun h5 => ?_) (fun h5 => ⟨(q - 1, r + Y1), by simp only; omega, g.step hE hc (by omega), Le.of_eq rfl⟩)
              rw [g.stop hE hc h5]
              exact fin
            · rw [Guess.low hE g.eq g.up (by omega)]
              exact fin
end Go.Proofs
