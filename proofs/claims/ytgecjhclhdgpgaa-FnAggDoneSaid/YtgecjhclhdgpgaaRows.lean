/-
  No cell of these rows narrows 'for every input' (looked for: loops, veiled, ifaces, maps, wideKeys, modest, calm, conditions, laid).
  DERIVED. THE GIVEN ROWS OF THIS SEAT. 4 by the template 'for every input the law returns true; each argument reads behind the call as it read before'; 0 by the template 'total and deterministic' (their statements: YtgecjhclhdgpgaaTotals.lean).
  GIVEN WITH THE SEED: the statements are not yours to turn. If you find one false, say at which input.
  Laid BY PROGRAM, IN A SANDBOX (cutbox-rows.mjs): the forced cells as the released guide's own fill.sh prints them over the translation bcc2980229d2d70e… (all of the seat's roots in one cut). By AI agents, Wed Nov 11 2026. No macro, syntax, notation, axiom, sorry.
-/
import Derived.Test.YtgecjhclhdgpgaaChecked
import GoSem.Claim
import GoSem.ClaimJoined
import GoSem.ClaimMapViews
import Derived.JoinedTies
import Derived.KernelRfl
namespace Go.Proofs.Ytgecjhclhdgpgaa
/- THE CELL 'sum', in the pinned program and in every row, IS THE sha256 OF THE DUMP (.gsa) THAT YtgecjhclhdgpgaaProg.lean LOADS. Nothing in Lean hashes anything: it is a label: what it is worth is what the hold of that sum in a sandbox is worth. -/
noncomputable def Try.pinned : Pinned := { name := "ytgecjhclhdgpgaa", sum := "bcc2980229d2d70ef2a169ff27e6a1bd2d357ffd26b3f420e5505bd0aaa51ac5", checked := Try.checked }
namespace Rows
def none {H : Type} : Left H := { results := [], args := [] }

/-- 'laws.FnAggJoin': WHATEVER THE INPUT: true; the input reads as it did. -/
def fnAggJoinSpec : ChangeSpec := { name := "fnAggJoin", fn := fun _ => fun
  | [d] => { results := [.lit (.bool true)], args := [d] }
  | _ => none }
def fnAggJoinRow : OpenClaim := { program := "ytgecjhclhdgpgaa", sum := "bcc2980229d2d70ef2a169ff27e6a1bd2d357ffd26b3f420e5505bd0aaa51ac5", func := "loop.example/g00699/laws.FnAggJoin", spec := "fnAggJoin", inPlace := ["math/bits.Add64"], unfollowed := true, recurses := true, apart := false }
def FnAggJoinSaid : Prop := fnAggJoinRow.holds Try.pinned (OpenSpec.ofChange fnAggJoinSpec)

/-- ITS FALSE NEIGHBOUR: 'it returns false'. Refute it at one input. -/
def fnAggJoinWrong : ChangeSpec := { name := "fnAggJoin", fn := fun _ => fun
  | [d] => { results := [.lit (.bool false)], args := [d] }
  | _ => none }
def FnAggJoinWrongFalsely : Prop := fnAggJoinRow.holds Try.pinned (OpenSpec.ofChange fnAggJoinWrong)

/-- 'laws.FnPuts': WHATEVER THE INPUT: true; the input reads as it did. -/
def fnPutsSpec : ChangeSpec := { name := "fnPuts", fn := fun _ => fun
  | [d] => { results := [.lit (.bool true)], args := [d] }
  | _ => none }
def fnPutsRow : OpenClaim := { program := "ytgecjhclhdgpgaa", sum := "bcc2980229d2d70ef2a169ff27e6a1bd2d357ffd26b3f420e5505bd0aaa51ac5", func := "loop.example/g00699/laws.FnPuts", spec := "fnPuts", apart := false }
def FnPutsSaid : Prop := fnPutsRow.holds Try.pinned (OpenSpec.ofChange fnPutsSpec)

/-- ITS FALSE NEIGHBOUR: 'it returns false'. Refute it at one input. -/
def fnPutsWrong : ChangeSpec := { name := "fnPuts", fn := fun _ => fun
  | [d] => { results := [.lit (.bool false)], args := [d] }
  | _ => none }
def FnPutsWrongFalsely : Prop := fnPutsRow.holds Try.pinned (OpenSpec.ofChange fnPutsWrong)

/-- 'laws.FnBoth': WHATEVER THE INPUT: true; the input reads as it did. -/
def fnBothSpec : ChangeSpec := { name := "fnBoth", fn := fun _ => fun
  | [d] => { results := [.lit (.bool true)], args := [d] }
  | _ => none }
def fnBothRow : OpenClaim := { program := "ytgecjhclhdgpgaa", sum := "bcc2980229d2d70ef2a169ff27e6a1bd2d357ffd26b3f420e5505bd0aaa51ac5", func := "loop.example/g00699/laws.FnBoth", spec := "fnBoth", unfollowed := true, recurses := true, apart := false }
def FnBothSaid : Prop := fnBothRow.holds Try.pinned (OpenSpec.ofChange fnBothSpec)

/-- ITS FALSE NEIGHBOUR: 'it returns false'. Refute it at one input. -/
def fnBothWrong : ChangeSpec := { name := "fnBoth", fn := fun _ => fun
  | [d] => { results := [.lit (.bool false)], args := [d] }
  | _ => none }
def FnBothWrongFalsely : Prop := fnBothRow.holds Try.pinned (OpenSpec.ofChange fnBothWrong)

/-- 'laws.FnAggDone': WHATEVER THE INPUT: true; the input reads as it did. -/
def fnAggDoneSpec : ChangeSpec := { name := "fnAggDone", fn := fun _ => fun
  | [d] => { results := [.lit (.bool true)], args := [d] }
  | _ => none }
def fnAggDoneRow : OpenClaim := { program := "ytgecjhclhdgpgaa", sum := "bcc2980229d2d70ef2a169ff27e6a1bd2d357ffd26b3f420e5505bd0aaa51ac5", func := "loop.example/g00699/laws.FnAggDone", spec := "fnAggDone", inPlace := ["math/bits.Add64"], unfollowed := true, recurses := true, named := ["math/bits.divideError", "math/bits.overflowError"], apart := false }
def FnAggDoneSaid : Prop := fnAggDoneRow.holds Try.pinned (OpenSpec.ofChange fnAggDoneSpec)

/-- ITS FALSE NEIGHBOUR: 'it returns false'. Refute it at one input. -/
def fnAggDoneWrong : ChangeSpec := { name := "fnAggDone", fn := fun _ => fun
  | [d] => { results := [.lit (.bool false)], args := [d] }
  | _ => none }
def FnAggDoneWrongFalsely : Prop := fnAggDoneRow.holds Try.pinned (OpenSpec.ofChange fnAggDoneWrong)

/- THE SECOND FORM. 'bulk': how many values and letters a reading holds, each counted each time it is reached (what is shared counts as often as it is met; a slice's spare places count too). A statement '..UptoSaid' is the law's where the arguments, and the package variables that the reading takes, are together of bulk at most 1048576: NARROWER than '..Said'. Prove '..Said' where nothing that the law and all that it calls make is longer than what came in: it says more and counts as full. Else prove '..UptoSaid'. A law counts once. -/
mutual
def uptoBulk {H : Type} : DataW H → Nat
  | .lit (.string bytes) => bytes.length + 1
  | .lit _ => 1
  | .nil => 1
  | .ptr d => uptoBulk d + 1
  | .slice elems spare => uptoBulkAll elems + uptoBulkAll spare + 1
  | .agg parts => uptoBulkAll parts + 1
  | .iface _ d => uptoBulk d + 1
  | .map entries => uptoBulkEntries entries + 1
  | .held _ => 1
def uptoBulkAll {H : Type} : List (DataW H) → Nat
  | [] => 0
  | d :: r => uptoBulk d + uptoBulkAll r
def uptoBulkEntries {H : Type} : List (Lit × DataW H) → Nat
  | [] => 0
  | x :: r => uptoBulkEntry x + uptoBulkEntries r
def uptoBulkEntry {H : Type} : Lit × DataW H → Nat
  | (.string bytes, d) => bytes.length + uptoBulk d + 1
  | (_, d) => uptoBulk d + 1
 end
def uptoSmall : (H : Type) → List (DataW H) → Bool := fun _ ds => decide (uptoBulkAll ds ≤ 1048576)
def OpenSpec.upto (s : _root_.Go.ChangeSpec) : _root_.Go.OpenSpec := { _root_.Go.OpenSpec.ofChange s with cond := some uptoSmall }

/-- 'laws.FnAggJoin', WHERE WHAT IT READS IS OF BULK AT MOST 1048576: true; the input reads as it did. -/
def fnAggJoinUptoRow : OpenClaim := { program := "ytgecjhclhdgpgaa", sum := "bcc2980229d2d70ef2a169ff27e6a1bd2d357ffd26b3f420e5505bd0aaa51ac5", func := "loop.example/g00699/laws.FnAggJoin", spec := "fnAggJoin", inPlace := ["math/bits.Add64"], unfollowed := true, recurses := true, apart := false, narrowed := true }
def FnAggJoinUptoSaid : Prop := fnAggJoinUptoRow.holds Try.pinned (OpenSpec.upto fnAggJoinSpec)

/-- 'laws.FnPuts', WHERE WHAT IT READS IS OF BULK AT MOST 1048576: true; the input reads as it did. -/
def fnPutsUptoRow : OpenClaim := { program := "ytgecjhclhdgpgaa", sum := "bcc2980229d2d70ef2a169ff27e6a1bd2d357ffd26b3f420e5505bd0aaa51ac5", func := "loop.example/g00699/laws.FnPuts", spec := "fnPuts", apart := false, narrowed := true }
def FnPutsUptoSaid : Prop := fnPutsUptoRow.holds Try.pinned (OpenSpec.upto fnPutsSpec)

/-- 'laws.FnBoth', WHERE WHAT IT READS IS OF BULK AT MOST 1048576: true; the input reads as it did. -/
def fnBothUptoRow : OpenClaim := { program := "ytgecjhclhdgpgaa", sum := "bcc2980229d2d70ef2a169ff27e6a1bd2d357ffd26b3f420e5505bd0aaa51ac5", func := "loop.example/g00699/laws.FnBoth", spec := "fnBoth", unfollowed := true, recurses := true, apart := false, narrowed := true }
def FnBothUptoSaid : Prop := fnBothUptoRow.holds Try.pinned (OpenSpec.upto fnBothSpec)

/-- 'laws.FnAggDone', WHERE WHAT IT READS IS OF BULK AT MOST 1048576: true; the input reads as it did. -/
def fnAggDoneUptoRow : OpenClaim := { program := "ytgecjhclhdgpgaa", sum := "bcc2980229d2d70ef2a169ff27e6a1bd2d357ffd26b3f420e5505bd0aaa51ac5", func := "loop.example/g00699/laws.FnAggDone", spec := "fnAggDone", inPlace := ["math/bits.Add64"], unfollowed := true, recurses := true, named := ["math/bits.divideError", "math/bits.overflowError"], apart := false, narrowed := true }
def FnAggDoneUptoSaid : Prop := fnAggDoneUptoRow.holds Try.pinned (OpenSpec.upto fnAggDoneSpec)

end Rows
end Go.Proofs.Ytgecjhclhdgpgaa
