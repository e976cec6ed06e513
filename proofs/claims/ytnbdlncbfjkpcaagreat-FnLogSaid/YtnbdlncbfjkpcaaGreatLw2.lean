/- For every code: the law FnLog returns true, and its argument reads behind the call as it read before. No condition but the form's own. -/
import Derived.Test.YtnbdlncbfjkpcaaGreatRows
import Derived.Test.YtnbdlncbfjkpcaaGreatAvB0
import Derived.Test.YtnbdlncbfjkpcaaGreatAvA4
import Derived.WalkKit
import Derived.ProofKit
import Derived.OpenShut
import Derived.ShutString
import Derived.ChangeOld
import Derived.Below
import Derived.SizedLaws
set_option linter.all false
set_option linter.unusedVariables false
set_option linter.unusedSimpArgs false
section
namespace Go.Av
open Go.Proofs
theorem is_bytes {t : T} (h : Is t (.sl [.i .u8])) : ∃ l : List Int, (∀ x ∈ l, 0 ≤ x ∧ x ≤ 255) ∧ t = .sl .any (l.map cuC) := by
  cases h with
  | sl es m _ hl hs =>
    have key : ∀ es : List (List T), (∀ e ∈ es, e.length = 1) → (∀ e ∈ es, ∀ (j : Nat) (t : T) (sh : Sh), e[j]? = some t → [Sh.i .u8][j]? = some sh → Is t sh) → ∃ l : List Int, (∀ x ∈ l, 0 ≤ x ∧ x ≤ 255) ∧ es = l.map cuC := by
      intro es
      induction es with
      | nil => exact fun _ _ => ⟨[], fun x hx => (nomatch hx), rfl⟩
      | cons e es ih =>
        intro h1 h2
        obtain ⟨l, g1, rfl⟩ := ih (fun e he => h1 e (List.mem_cons_of_mem _ he)) (fun e he => h2 e (List.mem_cons_of_mem _ he))
        match e, h1 e (by simp), h2 e (by simp) with
        | [a], _, h3 =>
          have h4 := h3 0 a _ rfl rfl
          cases h4 with
          | i _ n hw =>
            simp only [Lit.wf, Bool.and_eq_true, decide_eq_true_eq] at hw
            have e1 : IntKind.u8.min = 0 := by decide
            have e2 : IntKind.u8.max = 255 := by decide
            rw [e1, e2] at hw
            refine ⟨n :: l, fun x hx => ?_, rfl⟩
            rcases List.mem_cons.1 hx with rfl | hx
            · exact hw
            · exact g1 x hx
    obtain ⟨l, h1, rfl⟩ := key es (fun e he => hl e he) hs
    exact ⟨l, h1, rfl⟩
theorem law_FnLog {w : World} {v : Value} {tr : T} (hi : Is tr (.sl [.i .u8])) (hr : Rep w (inHeap w) tr v) :
    Calls Tryz.prog 5 #[v] w fun e w' => e = .returned (.bool true) ∧ Go.RowKit.Below w.heap.size w w' := by
  letI : Known := ⟨fun _ _ _ => False⟩
  obtain ⟨l, hU, rfl⟩ := is_bytes hi
  refine calls_true (C := cfg) cfg_hE cfg_hO (ev_FnLog l hU) (fun b o v h => h.elim) rfl ?_ (by simp [okL, TV.ok])
  intro i h1 h2
  have : i = 0 := by simpa using h1
  subst this
  exact .d hr
end Go.Av
namespace Go.Proofs.YtnbdlncbfjkpcaaGreat.fnLog
open Go.ChangeShapes Go.WideShapes Go.ChangeAt Go.RowKit
open Go.ChangeMaps (open_string shut_string)
set_option linter.unusedVariables false
theorem own : ownKnob Tryz.prog.godebug = none := by kernel_rfl
set_option maxRecDepth 100000 in
theorem lifted (os : Os) (started : os.Started) (H : Type) (enc : TypeId × Value → H) :
    ReturnsInHanded {} Tryz.checked os 5 .any (Rows.fnLogSpec.pre6 enc Tryz.prog Tryz.f5 Rows.fnLogRow.domain false) (Rows.fnLogSpec.post enc Tryz.prog Tryz.f5 false true false false) := by
  refine returnsInHanded_of_change_sized (C := Tryz.checked) own started (by kernel_rfl) Tryz.func5
    (ChangeSpec.witness6 (enc := enc) (C := Tryz.checked) false ⟨#[], #[.slice none 0 0], []⟩ 8 (by kernel_rfl) (by kernel_rfl) (by kernel_rfl) (by kernel_rfl)) ?_
  intro W base args ds gs before hval0 hW hcnd hsz0 _
  have hsz : (DataW.weightsEach Tryz.prog (Tryz.f5.params.toList ++ Rows.fnLogSpec.plain.varTypes Tryz.prog) (ds ++ gs)).all (· ≤ reachBytes) = true := hsz0
  have hval : ∀ (j : Nat) t v, Tryz.f5.params[j]? = some t → args[j]? = some v → Value.okWide Tryz.prog W .any base t v := hval0
  have hW' := hW
  obtain ⟨p, q, hA0, hV, rfl, hfz, hnd⟩ := hW
  have hA : DataW.TrodAll enc Tryz.prog W 0 (fun _ => true) true Tryz.f5.params.toList args.toList ds p := hA0
  rw [Tryz.params5] at hA hval hsz
  have hA1 := hA
  obtain ⟨v0, vs0, d0, ds0, p0, q0, hargs, rfl, rfl, h0, r0⟩ := trodAll_cons hA
  obtain ⟨rfl, rfl, rfl⟩ := trodAll_nil r0
  obtain rfl : args = #[v0] := by cases args; simp_all
  obtain ⟨rfl, rfl⟩ := trodVars_none hV
  obtain ⟨tr, hi, hr⟩ := Go.Av.arg_slice (n := 9) (sh := .sl [.i .u8]) Tryz.underlying36 (by kernel_rfl) (hval 0 36 v0 rfl rfl) h0 (by
    intro y hy
    have := List.all_eq_true.1 hsz y (by
      refine Go.Av.weightsEach_mem (i := 0) (t := 36) (d := d0) rfl rfl hy)
    exact of_decide_eq_true this)
  clear hA0 hval0 hsz0 hsz
  refine (Go.Av.law_FnLog hi hr).mono fun e W' ⟨he, bel⟩ => ?_
  subst he
  exact ⟨_, rfl, _, _, _, [], _, [], hW', trodAll_mk1 (shut_bool Tryz.underlying4 _), Go.Av.trodAll_stays (by kernel_rfl) bel (by
    intro t ht
    obtain rfl : t = 36 := by simpa using ht
    exact ⟨by kernel_rfl, by decide⟩) hA1, rfl, bel.frame _, fun h => by cases h⟩
theorem over : Rows.fnLogRow.holds Tryz.pinned (OpenSpec.ofChange Rows.fnLogSpec) :=
  OpenClaim.holds_of_wide 5 Tryz.f5 rfl rfl rfl rfl rfl rfl rfl ⟨rfl, rfl, rfl, rfl, rfl⟩ rfl rfl rfl rfl rfl (by kernel_rfl) Tryz.func5 (by kernel_rfl)
    (of_decide_eq_true (by kernel_rfl)) (by unfold Func.isWrapper; first | (rw [if_pos (by decide +kernel)]; kernel_rfl) | (rw [if_neg (by decide +kernel)]; exact ⟨rfl, rfl⟩))
    (fun os started H enc _ => lifted os started H enc)
end Go.Proofs.YtnbdlncbfjkpcaaGreat.fnLog
namespace Go.Proofs.YtnbdlncbfjkpcaaGreat
/-- The row, under a short name, for the claim. -/
theorem fnLog_holds : Rows.FnLogSaid := fnLog.over
#print axioms fnLog_holds
end Go.Proofs.YtnbdlncbfjkpcaaGreat
end
