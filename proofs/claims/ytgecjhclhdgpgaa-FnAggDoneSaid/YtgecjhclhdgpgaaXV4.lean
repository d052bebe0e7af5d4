import Derived.Test.YtgecjhclhdgpgaaXO10
import Derived.Test.YtgecjhclhdgpgaaXF13
import Derived.Shelf.Strconv.Itoa0
set_option linter.unusedVariables false
set_option linter.unusedSimpArgs false
namespace Go.Proofs
open Go.Shelf
def Try.lays129_ren : Go.Shelf.Ren := ⟨fun | 129 => 152 | n => n, fun | 53 => 27 | 3 => 3 | 4 => 4 | 46 => 145 | 5 => 5 | 9 => 9 | n => n, fun | n => n⟩
theorem Try.lays129 : Go.Proofs.Lays.n129 Try.prog Try.lays129_ren := {
  mixed := by kernel_rfl
  f129 := Try.func152.trans (congrArg some (by kernel_rfl))
  t3 := Try.underlying3
  a3 := Try.isAgg3
  z3 := Try.sizeOf3
  v3 := Try.zeroValue3
  t4 := Try.underlying4
  a4 := Try.isAgg4
  z4 := Try.sizeOf4
  v4 := Try.zeroValue4
  t5 := Try.underlying5
  a5 := Try.isAgg5
  z5 := Try.sizeOf5
  v5 := Try.zeroValue5
  t9 := Try.underlying9
  a9 := Try.isAgg9
  z9 := Try.sizeOf9
  v9 := Try.zeroValue9
  t46 := Try.underlying145
  a46 := Try.isAgg145
  z46 := Try.sizeOf145
  v46 := Try.zeroValue145
  t53 := Try.underlying27
  a53 := Try.isAgg27
  z53 := Try.sizeOf27
  v53 := Try.zeroValue27 }

open Go Go.Ax
def lenL (x : U64) : Int := (Lib.bitLen x.n.toNat : Nat)
theorem s_len64 : SoundC Try.prog 152 (flatT (fun x : U64 => 0 ≤ x.n ∧ x.n ≤ 18446744073709551615) lenL) := by
  refine sound_calls (fun x : U64 => 0 ≤ x.n ∧ x.n ≤ 18446744073709551615) lenL (fun x => [.int .u64 x.n]) (fun x => rfl) (fun x => .int .i64 (lenL x)) (fun a w S β h => ?_) (enters_of Try.func152 (by kernel_rfl) rfl) (fun a w h => ?_)
  · show rep w S β (.lit (.int .i64 (lenL a))) _
    simp [rep, Value.oneCell']
  · exact Any.bits_Len64 Try.lays129 a.n w h.1 h.2
end Go.Proofs
