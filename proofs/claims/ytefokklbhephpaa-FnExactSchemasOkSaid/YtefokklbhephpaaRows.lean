/-
  NARROWER THAN 'FOR EVERY INPUT', by the rows' own cells (each row's printed sentence says how): FnExactPut: loops.
  DERIVED. THE GIVEN ROWS OF THIS SEAT. 5 by the template 'for every input the law returns true; each argument reads behind the call as it read before'; 0 by the template 'total and deterministic' (their statements: YtefokklbhephpaaTotals.lean).
  GIVEN WITH THE SEED: the statements are not yours to turn. If you find one false, say at which input.
  Laid BY PROGRAM, IN A SANDBOX (cutbox-rows.mjs): the forced cells as the released guide's own fill.sh prints them over the translation 8f061065f0441325… (all of the seat's roots in one cut). By AI agents, Wed Nov 11 2026. No macro, syntax, notation, axiom, sorry.
-/
import Derived.Test.YtefokklbhephpaaChecked
import GoSem.Claim
import GoSem.ClaimJoined
import GoSem.ClaimMapViews
import Derived.JoinedTies
import Derived.KernelRfl
namespace Go.Proofs.Ytefokklbhephpaa
/- THE CELL 'sum', in the pinned program and in every row, IS THE sha256 OF THE DUMP (.gsa) THAT YtefokklbhephpaaProg.lean LOADS. Nothing in Lean hashes anything: it is a label: what it is worth is what the hold of that sum in a sandbox is worth. -/
noncomputable def Try.pinned : Pinned := { name := "ytefokklbhephpaa", sum := "8f061065f04413257f11d368a729dca88d0115ba0e5bb459a6ecca5487cc9976", checked := Try.checked }
namespace Rows
def none {H : Type} : Left H := { results := [], args := [] }

/-- 'laws.FnExactSum': WHATEVER THE INPUT: true; the input reads as it did. -/
def fnExactSumSpec : ChangeSpec := { name := "fnExactSum", fn := fun _ => fun
  | [d] => { results := [.lit (.bool true)], args := [d] }
  | _ => none }
def fnExactSumRow : OpenClaim := { program := "ytefokklbhephpaa", sum := "8f061065f04413257f11d368a729dca88d0115ba0e5bb459a6ecca5487cc9976", func := "loop.example/g00312/laws.FnExactSum", spec := "fnExactSum", apart := false }
def FnExactSumSaid : Prop := fnExactSumRow.holds Try.pinned (OpenSpec.ofChange fnExactSumSpec)

/-- ITS FALSE NEIGHBOUR: 'it returns false'. Refute it at one input. -/
def fnExactSumWrong : ChangeSpec := { name := "fnExactSum", fn := fun _ => fun
  | [d] => { results := [.lit (.bool false)], args := [d] }
  | _ => none }
def FnExactSumWrongFalsely : Prop := fnExactSumRow.holds Try.pinned (OpenSpec.ofChange fnExactSumWrong)

/-- 'laws.FnExactPut': WHATEVER THE INPUT: true; the input reads as it did. -/
def fnExactPutSpec : ChangeSpec := { name := "fnExactPut", fn := fun _ => fun
  | [d1, d2] => { results := [.lit (.bool true)], args := [d1, d2] }
  | _ => none }
def fnExactPutRow : OpenClaim := { program := "ytefokklbhephpaa", sum := "8f061065f04413257f11d368a729dca88d0115ba0e5bb459a6ecca5487cc9976", func := "loop.example/g00312/laws.FnExactPut", spec := "fnExactPut", unfollowed := true, recurses := true, loops := true, apart := false }
def FnExactPutSaid : Prop := fnExactPutRow.holds Try.pinned (OpenSpec.ofChange fnExactPutSpec)

/-- ITS FALSE NEIGHBOUR: 'it returns false'. Refute it at one input. -/
def fnExactPutWrong : ChangeSpec := { name := "fnExactPut", fn := fun _ => fun
  | [d1, d2] => { results := [.lit (.bool false)], args := [d1, d2] }
  | _ => none }
def FnExactPutWrongFalsely : Prop := fnExactPutRow.holds Try.pinned (OpenSpec.ofChange fnExactPutWrong)

/-- 'laws.FnExactTimesBag': WHATEVER THE INPUT: true; the input reads as it did. -/
def fnExactTimesBagSpec : ChangeSpec := { name := "fnExactTimesBag", fn := fun _ => fun
  | [d1, d2] => { results := [.lit (.bool true)], args := [d1, d2] }
  | _ => none }
def fnExactTimesBagRow : OpenClaim := { program := "ytefokklbhephpaa", sum := "8f061065f04413257f11d368a729dca88d0115ba0e5bb459a6ecca5487cc9976", func := "loop.example/g00312/laws.FnExactTimesBag", spec := "fnExactTimesBag", inPlace := ["internal/bytealg.abigen_runtime_cmpstring"], unfollowed := true, recurses := true, apart := false }
def FnExactTimesBagSaid : Prop := fnExactTimesBagRow.holds Try.pinned (OpenSpec.ofChange fnExactTimesBagSpec)

/-- ITS FALSE NEIGHBOUR: 'it returns false'. Refute it at one input. -/
def fnExactTimesBagWrong : ChangeSpec := { name := "fnExactTimesBag", fn := fun _ => fun
  | [d1, d2] => { results := [.lit (.bool false)], args := [d1, d2] }
  | _ => none }
def FnExactTimesBagWrongFalsely : Prop := fnExactTimesBagRow.holds Try.pinned (OpenSpec.ofChange fnExactTimesBagWrong)

/-- 'laws.FnExactNegate': WHATEVER THE INPUT: true; the input reads as it did. -/
def fnExactNegateSpec : ChangeSpec := { name := "fnExactNegate", fn := fun _ => fun
  | [d] => { results := [.lit (.bool true)], args := [d] }
  | _ => none }
def fnExactNegateRow : OpenClaim := { program := "ytefokklbhephpaa", sum := "8f061065f04413257f11d368a729dca88d0115ba0e5bb459a6ecca5487cc9976", func := "loop.example/g00312/laws.FnExactNegate", spec := "fnExactNegate", inPlace := ["internal/bytealg.abigen_runtime_cmpstring"], unfollowed := true, recurses := true, apart := false }
def FnExactNegateSaid : Prop := fnExactNegateRow.holds Try.pinned (OpenSpec.ofChange fnExactNegateSpec)

/-- ITS FALSE NEIGHBOUR: 'it returns false'. Refute it at one input. -/
def fnExactNegateWrong : ChangeSpec := { name := "fnExactNegate", fn := fun _ => fun
  | [d] => { results := [.lit (.bool false)], args := [d] }
  | _ => none }
def FnExactNegateWrongFalsely : Prop := fnExactNegateRow.holds Try.pinned (OpenSpec.ofChange fnExactNegateWrong)

/-- 'laws.FnExactSchemasOk': WHATEVER THE INPUT: true; the input reads as it did. -/
def fnExactSchemasOkSpec : ChangeSpec := { name := "fnExactSchemasOk", fn := fun _ => fun
  | [d] => { results := [.lit (.bool true)], args := [d] }
  | _ => none }
def fnExactSchemasOkRow : OpenClaim := { program := "ytefokklbhephpaa", sum := "8f061065f04413257f11d368a729dca88d0115ba0e5bb459a6ecca5487cc9976", func := "loop.example/g00312/laws.FnExactSchemasOk", spec := "fnExactSchemasOk", unfollowed := true, recurses := true, apart := false }
def FnExactSchemasOkSaid : Prop := fnExactSchemasOkRow.holds Try.pinned (OpenSpec.ofChange fnExactSchemasOkSpec)

/-- ITS FALSE NEIGHBOUR: 'it returns false'. Refute it at one input. -/
def fnExactSchemasOkWrong : ChangeSpec := { name := "fnExactSchemasOk", fn := fun _ => fun
  | [d] => { results := [.lit (.bool false)], args := [d] }
  | _ => none }
def FnExactSchemasOkWrongFalsely : Prop := fnExactSchemasOkRow.holds Try.pinned (OpenSpec.ofChange fnExactSchemasOkWrong)

/- THE SECOND FORM. 'bulk': how many values and letters a reading holds, each counted each time it is reached (what is shared counts as often as it is met; a slice's spare places count too). A statement '..UptoSaid' is the law's where the arguments, and the package variables that the reading takes, are together of bulk at most 1048576: NARROWER than '..Said'. Prove '..Said' where nothing that the law and all that it calls make is longer than what came in: it says more and counts as full. Else prove '..UptoSaid'. A law counts once. -/
mutual
def uptoBulk {H : Type} : DataW H → Nat
  | .lit (.string bytes) => bytes.length + 1
  | .lit _ => 1
  | .nil => 1
  | .ptr d => uptoBulk d + 1
  | .slice elems spare => uptoBulkAll elems + uptoBulkAll spare + 1
  | .agg parts => uptoBulkAll parts + 1
  | .iface _ d => uptoBulk d + 1
  | .map entries => uptoBulkEntries entries + 1
  | .held _ => 1
def uptoBulkAll {H : Type} : List (DataW H) → Nat
  | [] => 0
  | d :: r => uptoBulk d + uptoBulkAll r
def uptoBulkEntries {H : Type} : List (Lit × DataW H) → Nat
  | [] => 0
  | x :: r => uptoBulkEntry x + uptoBulkEntries r
def uptoBulkEntry {H : Type} : Lit × DataW H → Nat
  | (.string bytes, d) => bytes.length + uptoBulk d + 1
  | (_, d) => uptoBulk d + 1
 end
def uptoSmall : (H : Type) → List (DataW H) → Bool := fun _ ds => decide (uptoBulkAll ds ≤ 1048576)
def OpenSpec.upto (s : _root_.Go.ChangeSpec) : _root_.Go.OpenSpec := { _root_.Go.OpenSpec.ofChange s with cond := some uptoSmall }

/-- 'laws.FnExactSum', WHERE WHAT IT READS IS OF BULK AT MOST 1048576: true; the input reads as it did. -/
def fnExactSumUptoRow : OpenClaim := { program := "ytefokklbhephpaa", sum := "8f061065f04413257f11d368a729dca88d0115ba0e5bb459a6ecca5487cc9976", func := "loop.example/g00312/laws.FnExactSum", spec := "fnExactSum", apart := false, narrowed := true }
def FnExactSumUptoSaid : Prop := fnExactSumUptoRow.holds Try.pinned (OpenSpec.upto fnExactSumSpec)

/-- 'laws.FnExactPut', WHERE WHAT IT READS IS OF BULK AT MOST 1048576: true; the input reads as it did. -/
def fnExactPutUptoRow : OpenClaim := { program := "ytefokklbhephpaa", sum := "8f061065f04413257f11d368a729dca88d0115ba0e5bb459a6ecca5487cc9976", func := "loop.example/g00312/laws.FnExactPut", spec := "fnExactPut", unfollowed := true, recurses := true, loops := true, apart := false, narrowed := true }
def FnExactPutUptoSaid : Prop := fnExactPutUptoRow.holds Try.pinned (OpenSpec.upto fnExactPutSpec)

/-- 'laws.FnExactTimesBag', WHERE WHAT IT READS IS OF BULK AT MOST 1048576: true; the input reads as it did. -/
def fnExactTimesBagUptoRow : OpenClaim := { program := "ytefokklbhephpaa", sum := "8f061065f04413257f11d368a729dca88d0115ba0e5bb459a6ecca5487cc9976", func := "loop.example/g00312/laws.FnExactTimesBag", spec := "fnExactTimesBag", inPlace := ["internal/bytealg.abigen_runtime_cmpstring"], unfollowed := true, recurses := true, apart := false, narrowed := true }
def FnExactTimesBagUptoSaid : Prop := fnExactTimesBagUptoRow.holds Try.pinned (OpenSpec.upto fnExactTimesBagSpec)

/-- 'laws.FnExactNegate', WHERE WHAT IT READS IS OF BULK AT MOST 1048576: true; the input reads as it did. -/
def fnExactNegateUptoRow : OpenClaim := { program := "ytefokklbhephpaa", sum := "8f061065f04413257f11d368a729dca88d0115ba0e5bb459a6ecca5487cc9976", func := "loop.example/g00312/laws.FnExactNegate", spec := "fnExactNegate", inPlace := ["internal/bytealg.abigen_runtime_cmpstring"], unfollowed := true, recurses := true, apart := false, narrowed := true }
def FnExactNegateUptoSaid : Prop := fnExactNegateUptoRow.holds Try.pinned (OpenSpec.upto fnExactNegateSpec)

/-- 'laws.FnExactSchemasOk', WHERE WHAT IT READS IS OF BULK AT MOST 1048576: true; the input reads as it did. -/
def fnExactSchemasOkUptoRow : OpenClaim := { program := "ytefokklbhephpaa", sum := "8f061065f04413257f11d368a729dca88d0115ba0e5bb459a6ecca5487cc9976", func := "loop.example/g00312/laws.FnExactSchemasOk", spec := "fnExactSchemasOk", unfollowed := true, recurses := true, apart := false, narrowed := true }
def FnExactSchemasOkUptoSaid : Prop := fnExactSchemasOkUptoRow.holds Try.pinned (OpenSpec.upto fnExactSchemasOkSpec)

end Rows
end Go.Proofs.Ytefokklbhephpaa
