/-
  No cell of these rows narrows 'for every input' (looked for: loops, veiled, ifaces, maps, wideKeys, modest, calm, conditions, laid).
  DERIVED. THE GIVEN ROWS OF THIS SEAT. 5 by the template 'for every input the law returns true; each argument reads behind the call as it read before'; 0 by the template 'total and deterministic' (their statements: YtflkffnelppigaaTotals.lean).
  GIVEN WITH THE SEED: the statements are not yours to turn. If you find one false, say at which input.
  Laid BY PROGRAM, IN A SANDBOX (cutbox-rows.mjs): the forced cells as the released guide's own fill.sh prints them over the translation 8c9a59dcb533e86e… (all of the seat's roots in one cut). By AI agents, Wed Nov 11 2026. No macro, syntax, notation, axiom, sorry.
-/
import Derived.Test.YtflkffnelppigaaChecked
import GoSem.Claim
import GoSem.ClaimJoined
import GoSem.ClaimMapViews
import Derived.JoinedTies
import Derived.KernelRfl
namespace Go.Proofs.Ytflkffnelppigaa
/- THE CELL 'sum', in the pinned program and in every row, IS THE sha256 OF THE DUMP (.gsa) THAT YtflkffnelppigaaProg.lean LOADS. Nothing in Lean hashes anything: it is a label: what it is worth is what the hold of that sum in a sandbox is worth. -/
noncomputable def Try.pinned : Pinned := { name := "ytflkffnelppigaa", sum := "8c9a59dcb533e86ef63e4128a2aa0de19a1ae8adcb0a1218a8b716fa257c6698", checked := Try.checked }
namespace Rows
def none {H : Type} : Left H := { results := [], args := [] }

/-- 'laws.FnExactTimesBag': WHATEVER THE INPUT: true; the input reads as it did. -/
def fnExactTimesBagSpec : ChangeSpec := { name := "fnExactTimesBag", fn := fun _ => fun
  | [d1, d2] => { results := [.lit (.bool true)], args := [d1, d2] }
  | _ => none }
def fnExactTimesBagRow : OpenClaim := { program := "ytflkffnelppigaa", sum := "8c9a59dcb533e86ef63e4128a2aa0de19a1ae8adcb0a1218a8b716fa257c6698", func := "loop.example/g00312/laws.FnExactTimesBag", spec := "fnExactTimesBag", inPlace := ["internal/bytealg.abigen_runtime_cmpstring"], unfollowed := true, recurses := true, apart := false }
def FnExactTimesBagSaid : Prop := fnExactTimesBagRow.holds Try.pinned (OpenSpec.ofChange fnExactTimesBagSpec)

/-- ITS FALSE NEIGHBOUR: 'it returns false'. Refute it at one input. -/
def fnExactTimesBagWrong : ChangeSpec := { name := "fnExactTimesBag", fn := fun _ => fun
  | [d1, d2] => { results := [.lit (.bool false)], args := [d1, d2] }
  | _ => none }
def FnExactTimesBagWrongFalsely : Prop := fnExactTimesBagRow.holds Try.pinned (OpenSpec.ofChange fnExactTimesBagWrong)

/-- 'laws.FnExactNegate': WHATEVER THE INPUT: true; the input reads as it did. -/
def fnExactNegateSpec : ChangeSpec := { name := "fnExactNegate", fn := fun _ => fun
  | [d] => { results := [.lit (.bool true)], args := [d] }
  | _ => none }
def fnExactNegateRow : OpenClaim := { program := "ytflkffnelppigaa", sum := "8c9a59dcb533e86ef63e4128a2aa0de19a1ae8adcb0a1218a8b716fa257c6698", func := "loop.example/g00312/laws.FnExactNegate", spec := "fnExactNegate", inPlace := ["internal/bytealg.abigen_runtime_cmpstring"], unfollowed := true, recurses := true, apart := false }
def FnExactNegateSaid : Prop := fnExactNegateRow.holds Try.pinned (OpenSpec.ofChange fnExactNegateSpec)

/-- ITS FALSE NEIGHBOUR: 'it returns false'. Refute it at one input. -/
def fnExactNegateWrong : ChangeSpec := { name := "fnExactNegate", fn := fun _ => fun
  | [d] => { results := [.lit (.bool false)], args := [d] }
  | _ => none }
def FnExactNegateWrongFalsely : Prop := fnExactNegateRow.holds Try.pinned (OpenSpec.ofChange fnExactNegateWrong)

/-- 'laws.FnExactAddBag': WHATEVER THE INPUT: true; the input reads as it did. -/
def fnExactAddBagSpec : ChangeSpec := { name := "fnExactAddBag", fn := fun _ => fun
  | [d1, d2] => { results := [.lit (.bool true)], args := [d1, d2] }
  | _ => none }
def fnExactAddBagRow : OpenClaim := { program := "ytflkffnelppigaa", sum := "8c9a59dcb533e86ef63e4128a2aa0de19a1ae8adcb0a1218a8b716fa257c6698", func := "loop.example/g00312/laws.FnExactAddBag", spec := "fnExactAddBag", inPlace := ["internal/bytealg.abigen_runtime_cmpstring"], unfollowed := true, recurses := true, apart := false }
def FnExactAddBagSaid : Prop := fnExactAddBagRow.holds Try.pinned (OpenSpec.ofChange fnExactAddBagSpec)

/-- ITS FALSE NEIGHBOUR: 'it returns false'. Refute it at one input. -/
def fnExactAddBagWrong : ChangeSpec := { name := "fnExactAddBag", fn := fun _ => fun
  | [d1, d2] => { results := [.lit (.bool false)], args := [d1, d2] }
  | _ => none }
def FnExactAddBagWrongFalsely : Prop := fnExactAddBagRow.holds Try.pinned (OpenSpec.ofChange fnExactAddBagWrong)

/-- 'laws.FnBag': WHATEVER THE INPUT: true; the input reads as it did. -/
def fnBagSpec : ChangeSpec := { name := "fnBag", fn := fun _ => fun
  | [d] => { results := [.lit (.bool true)], args := [d] }
  | _ => none }
def fnBagRow : OpenClaim := { program := "ytflkffnelppigaa", sum := "8c9a59dcb533e86ef63e4128a2aa0de19a1ae8adcb0a1218a8b716fa257c6698", func := "loop.example/g00312/laws.FnBag", spec := "fnBag", inPlace := ["internal/bytealg.abigen_runtime_cmpstring"], unfollowed := true, recurses := true, apart := false }
def FnBagSaid : Prop := fnBagRow.holds Try.pinned (OpenSpec.ofChange fnBagSpec)

/-- ITS FALSE NEIGHBOUR: 'it returns false'. Refute it at one input. -/
def fnBagWrong : ChangeSpec := { name := "fnBag", fn := fun _ => fun
  | [d] => { results := [.lit (.bool false)], args := [d] }
  | _ => none }
def FnBagWrongFalsely : Prop := fnBagRow.holds Try.pinned (OpenSpec.ofChange fnBagWrong)

/-- 'laws.FnExactChanged': WHATEVER THE INPUT: true; the input reads as it did. -/
def fnExactChangedSpec : ChangeSpec := { name := "fnExactChanged", fn := fun _ => fun
  | [d1, d2] => { results := [.lit (.bool true)], args := [d1, d2] }
  | _ => none }
def fnExactChangedRow : OpenClaim := { program := "ytflkffnelppigaa", sum := "8c9a59dcb533e86ef63e4128a2aa0de19a1ae8adcb0a1218a8b716fa257c6698", func := "loop.example/g00312/laws.FnExactChanged", spec := "fnExactChanged", inPlace := ["internal/bytealg.abigen_runtime_cmpstring"], unfollowed := true, recurses := true, apart := false }
def FnExactChangedSaid : Prop := fnExactChangedRow.holds Try.pinned (OpenSpec.ofChange fnExactChangedSpec)

/-- ITS FALSE NEIGHBOUR: 'it returns false'. Refute it at one input. -/
def fnExactChangedWrong : ChangeSpec := { name := "fnExactChanged", fn := fun _ => fun
  | [d1, d2] => { results := [.lit (.bool false)], args := [d1, d2] }
  | _ => none }
def FnExactChangedWrongFalsely : Prop := fnExactChangedRow.holds Try.pinned (OpenSpec.ofChange fnExactChangedWrong)

/- THE SECOND FORM. 'bulk': how many values and letters a reading holds, each counted each time it is reached (what is shared counts as often as it is met; a slice's spare places count too). A statement '..UptoSaid' is the law's where the arguments, and the package variables that the reading takes, are together of bulk at most 1048576: NARROWER than '..Said'. Prove '..Said' where nothing that the law and all that it calls make is longer than what came in: it says more and counts as full. Else prove '..UptoSaid'. A law counts once. -/
mutual
def uptoBulk {H : Type} : DataW H → Nat
  | .lit (.string bytes) => bytes.length + 1
  | .lit _ => 1
  | .nil => 1
  | .ptr d => uptoBulk d + 1
  | .slice elems spare => uptoBulkAll elems + uptoBulkAll spare + 1
  | .agg parts => uptoBulkAll parts + 1
  | .iface _ d => uptoBulk d + 1
  | .map entries => uptoBulkEntries entries + 1
  | .held _ => 1
def uptoBulkAll {H : Type} : List (DataW H) → Nat
  | [] => 0
  | d :: r => uptoBulk d + uptoBulkAll r
def uptoBulkEntries {H : Type} : List (Lit × DataW H) → Nat
  | [] => 0
  | x :: r => uptoBulkEntry x + uptoBulkEntries r
def uptoBulkEntry {H : Type} : Lit × DataW H → Nat
  | (.string bytes, d) => bytes.length + uptoBulk d + 1
  | (_, d) => uptoBulk d + 1
 end
def uptoSmall : (H : Type) → List (DataW H) → Bool := fun _ ds => decide (uptoBulkAll ds ≤ 1048576)
def OpenSpec.upto (s : _root_.Go.ChangeSpec) : _root_.Go.OpenSpec := { _root_.Go.OpenSpec.ofChange s with cond := some uptoSmall }

/-- 'laws.FnExactTimesBag', WHERE WHAT IT READS IS OF BULK AT MOST 1048576: true; the input reads as it did. -/
def fnExactTimesBagUptoRow : OpenClaim := { program := "ytflkffnelppigaa", sum := "8c9a59dcb533e86ef63e4128a2aa0de19a1ae8adcb0a1218a8b716fa257c6698", func := "loop.example/g00312/laws.FnExactTimesBag", spec := "fnExactTimesBag", inPlace := ["internal/bytealg.abigen_runtime_cmpstring"], unfollowed := true, recurses := true, apart := false, narrowed := true }
def FnExactTimesBagUptoSaid : Prop := fnExactTimesBagUptoRow.holds Try.pinned (OpenSpec.upto fnExactTimesBagSpec)

/-- 'laws.FnExactNegate', WHERE WHAT IT READS IS OF BULK AT MOST 1048576: true; the input reads as it did. -/
def fnExactNegateUptoRow : OpenClaim := { program := "ytflkffnelppigaa", sum := "8c9a59dcb533e86ef63e4128a2aa0de19a1ae8adcb0a1218a8b716fa257c6698", func := "loop.example/g00312/laws.FnExactNegate", spec := "fnExactNegate", inPlace := ["internal/bytealg.abigen_runtime_cmpstring"], unfollowed := true, recurses := true, apart := false, narrowed := true }
def FnExactNegateUptoSaid : Prop := fnExactNegateUptoRow.holds Try.pinned (OpenSpec.upto fnExactNegateSpec)

/-- 'laws.FnExactAddBag', WHERE WHAT IT READS IS OF BULK AT MOST 1048576: true; the input reads as it did. -/
def fnExactAddBagUptoRow : OpenClaim := { program := "ytflkffnelppigaa", sum := "8c9a59dcb533e86ef63e4128a2aa0de19a1ae8adcb0a1218a8b716fa257c6698", func := "loop.example/g00312/laws.FnExactAddBag", spec := "fnExactAddBag", inPlace := ["internal/bytealg.abigen_runtime_cmpstring"], unfollowed := true, recurses := true, apart := false, narrowed := true }
def FnExactAddBagUptoSaid : Prop := fnExactAddBagUptoRow.holds Try.pinned (OpenSpec.upto fnExactAddBagSpec)

/-- 'laws.FnBag', WHERE WHAT IT READS IS OF BULK AT MOST 1048576: true; the input reads as it did. -/
def fnBagUptoRow : OpenClaim := { program := "ytflkffnelppigaa", sum := "8c9a59dcb533e86ef63e4128a2aa0de19a1ae8adcb0a1218a8b716fa257c6698", func := "loop.example/g00312/laws.FnBag", spec := "fnBag", inPlace := ["internal/bytealg.abigen_runtime_cmpstring"], unfollowed := true, recurses := true, apart := false, narrowed := true }
def FnBagUptoSaid : Prop := fnBagUptoRow.holds Try.pinned (OpenSpec.upto fnBagSpec)

/-- 'laws.FnExactChanged', WHERE WHAT IT READS IS OF BULK AT MOST 1048576: true; the input reads as it did. -/
def fnExactChangedUptoRow : OpenClaim := { program := "ytflkffnelppigaa", sum := "8c9a59dcb533e86ef63e4128a2aa0de19a1ae8adcb0a1218a8b716fa257c6698", func := "loop.example/g00312/laws.FnExactChanged", spec := "fnExactChanged", inPlace := ["internal/bytealg.abigen_runtime_cmpstring"], unfollowed := true, recurses := true, apart := false, narrowed := true }
def FnExactChangedUptoSaid : Prop := fnExactChangedUptoRow.holds Try.pinned (OpenSpec.upto fnExactChangedSpec)

end Rows
end Go.Proofs.Ytflkffnelppigaa
