/- For all arguments: the law FnExactReadLog returns true, and its argument reads behind the call as it read before. No condition but the form's own. -/
import Derived.Test.YtnbdlncbfjkpcaaGreatRows
import Derived.Test.YtnbdlncbfjkpcaaGreatAvA9
import Derived.Test.YtnbdlncbfjkpcaaGreatAvA4
import Derived.WalkKit
import Derived.ProofKit
import Derived.OpenShut
import Derived.ShutString
import Derived.ChangeOld
import Derived.Below
import Derived.SizedLaws
set_option linter.all false
set_option linter.unusedVariables false
set_option linter.unusedSimpArgs false
section
namespace Go.Av
open Go.Proofs
theorem law_FnExactReadLog {w : World} (s : ByteArray) :
    Calls Tryz.prog 4 #[.string s] w fun e w' => e = .returned (.bool true) ∧ Go.RowKit.Below w.heap.size w w' := by
  letI := noKn
  refine law_ReadLog (l := bl s) rfl ?_
  rw [bs_bl]
  intro i h1 h2
  match i, h1 with
  | 0, _ => exact .d (.s _)
end Go.Av
namespace Go.Proofs.YtnbdlncbfjkpcaaGreat.fnExactReadLog
open Go.ChangeShapes Go.WideShapes Go.ChangeAt Go.RowKit
open Go.ChangeMaps (open_string shut_string)
set_option linter.unusedVariables false
theorem own : ownKnob Tryz.prog.godebug = none := by kernel_rfl
set_option maxRecDepth 100000 in
theorem lifted (os : Os) (started : os.Started) (H : Type) (enc : TypeId × Value → H) :
    ReturnsInHanded {} Tryz.checked os 4 .any (Rows.fnExactReadLogSpec.pre6 enc Tryz.prog Tryz.f4 Rows.fnExactReadLogRow.domain false) (Rows.fnExactReadLogSpec.post enc Tryz.prog Tryz.f4 false true false false) := by
  refine returnsInHanded_of_change_sized (C := Tryz.checked) own started (by kernel_rfl) Tryz.func4
    (ChangeSpec.witness6 (enc := enc) (C := Tryz.checked) false ⟨#[], #[.string ⟨#[]⟩], []⟩ 8 (by kernel_rfl) (by kernel_rfl) (by kernel_rfl) (by kernel_rfl)) ?_
  intro W base args ds gs before hval0 hW hcnd hsz0 _
  have hsz : (DataW.weightsEach Tryz.prog (Tryz.f4.params.toList ++ Rows.fnExactReadLogSpec.plain.varTypes Tryz.prog) (ds ++ gs)).all (· ≤ reachBytes) = true := hsz0
  have hval : ∀ (j : Nat) t v, Tryz.f4.params[j]? = some t → args[j]? = some v → Value.okWide Tryz.prog W .any base t v := hval0
  have hW' := hW
  obtain ⟨p, q, hA0, hV, rfl, hfz, hnd⟩ := hW
  have hA : DataW.TrodAll enc Tryz.prog W 0 (fun _ => true) true Tryz.f4.params.toList args.toList ds p := hA0
  rw [Tryz.params4] at hA hval hsz
  have hA1 := hA
  obtain ⟨v0, vs0, d0, ds0, p0, q0, hargs, rfl, rfl, h0, r0⟩ := trodAll_cons hA
  obtain ⟨rfl, rfl, rfl⟩ := trodAll_nil r0
  obtain rfl : args = #[v0] := by cases args; simp_all
  obtain ⟨rfl, rfl⟩ := trodVars_none hV
  obtain ⟨st, rfl, _, _, _⟩ := open_string Tryz.underlying9 (hval 0 9 v0 rfl rfl) h0
  clear hA0 hval0 hsz0 hsz
  refine (Go.Av.law_FnExactReadLog st).mono fun e W' ⟨he, bel⟩ => ?_
  subst he
  exact ⟨_, rfl, _, _, _, [], _, [], hW', trodAll_mk1 (shut_bool Tryz.underlying4 _), Go.Av.trodAll_stays (by kernel_rfl) bel (by
    intro t ht
    obtain rfl : t = 9 := by simpa using ht
    exact ⟨by kernel_rfl, by decide⟩) hA1, rfl, bel.frame _, fun h => by cases h⟩
theorem over : Rows.fnExactReadLogRow.holds Tryz.pinned (OpenSpec.ofChange Rows.fnExactReadLogSpec) :=
  OpenClaim.holds_of_wide 4 Tryz.f4 rfl rfl rfl rfl rfl rfl rfl ⟨rfl, rfl, rfl, rfl, rfl⟩ rfl rfl rfl rfl rfl (by kernel_rfl) Tryz.func4 (by kernel_rfl)
    (of_decide_eq_true (by kernel_rfl)) (by unfold Func.isWrapper; first | (rw [if_pos (by decide +kernel)]; kernel_rfl) | (rw [if_neg (by decide +kernel)]; exact ⟨rfl, rfl⟩))
    (fun os started H enc _ => lifted os started H enc)
end Go.Proofs.YtnbdlncbfjkpcaaGreat.fnExactReadLog
namespace Go.Proofs.YtnbdlncbfjkpcaaGreat
/-- The row, under a short name, for the claim. -/
theorem fnExactReadLog_holds : Rows.FnExactReadLogSaid := fnExactReadLog.over
#print axioms fnExactReadLog_holds
end Go.Proofs.YtnbdlncbfjkpcaaGreat
end
