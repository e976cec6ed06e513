/- What functions of this seat give. -/
import Derived.Test.YtefokklbhephpaaRows
import Derived.Test.YtefokklbhephpaaGd
import Derived.Test.YtefokklbhephpaaAvE
import Derived.WalkKit
import Derived.ProofKit
import Derived.OpenShut
import Derived.ShutString
import Derived.ChangeOld
import Derived.Below
import Derived.SizedLaws
set_option linter.all false
set_option linter.unusedVariables false
set_option linter.unusedSimpArgs false

section
namespace Go.Av
open Go.Proofs
theorem Is.lim {t : T} {sh : Sh} (h : Is t sh) : t.lim := by
  induction h with
  | b _ => trivial
  | i _ _ _ => trivial
  | s x h => simp only [T.lim]; omega
  | sl es m h hl hs ih =>
    simp only [T.lim]
    refine ⟨by omega, ?_⟩
    have hcs : ∀ e : List T, (∀ t ∈ e, t.lim) → limCs e := by
      intro e
      induction e with
      | nil => intro _; trivial
      | cons a l ihl => intro h; exact ⟨h a (List.mem_cons_self ..), ihl fun t ht => h t (List.mem_cons_of_mem _ ht)⟩
    have hes : ∀ es : List (List T), (∀ e ∈ es, limCs e) → limEs es := by
      intro es
      induction es with
      | nil => intro _; trivial
      | cons a l ihl => intro h; exact ⟨h a (List.mem_cons_self ..), ihl fun t ht => h t (List.mem_cons_of_mem _ ht)⟩
    refine hes es fun e he => hcs e fun t ht => ?_
    obtain ⟨j, hj⟩ := List.getElem?_of_mem ht
    have hjl : j < m.length := by rw [← hl e he]; exact (List.getElem?_eq_some_iff.1 hj).1
    exact ih e he j t m[j] hj (by rw [List.getElem?_eq_getElem hjl])
theorem is_strs {t : T} (h : Is t (.sl [.s])) : ∃ l : List ByteArray, t = .sl .any (l.map sC) :=
  h.list fun e hl hs => by
    match e, hl with
    | [a], _ =>
      obtain ⟨x, rfl⟩ := (hs 0 a .s rfl rfl).str
      exact ⟨x, rfl⟩
theorem is_schemas {t : T} (h : Is t (.sl [.s, .sl [.s]])) : ∃ l : List Sc, t = .sl .any (l.map scC) :=
  h.list fun e hl hs => by
    match e, hl with
    | [a, b], _ =>
      obtain ⟨x, rfl⟩ := (hs 0 a .s rfl rfl).str
      obtain ⟨y, rfl⟩ := is_strs (hs 1 b _ rfl rfl)
      exact ⟨⟨x, y⟩, rfl⟩
theorem law_SchemasOk {w : World} {v : Value} {tr : T} (hi : Is tr (.sl [.s, .sl [.s]])) (hr : Rep w (inHeap w) tr v) :
    Calls Try.prog 7 #[v] w fun e w' => e = .returned (.bool true) ∧ Go.RowKit.Below w.heap.size w w' := by
  obtain ⟨l, rfl⟩ := is_schemas hi
  refine calls_true (C := cfg) cfg_hE cfg_hO (ev_FnExactSchemasOk l hi.lim) rfl ?_ (by simp [okL, TV.ok])
  intro i h1 h2
  have : i = 0 := by simpa using h1
  subst this
  exact .d hr
end Go.Av
namespace Go.Proofs.Ytefokklbhephpaa.fnExactSchemasOk
open Go.ChangeShapes Go.WideShapes Go.ChangeAt Go.RowKit
open Go.ChangeMaps (open_string shut_string)
set_option linter.unusedVariables false
theorem own : ownKnob Try.prog.godebug = none := by kernel_rfl
set_option maxRecDepth 100000 in
theorem lifted (os : Os) (started : os.Started) (H : Type) (enc : TypeId × Value → H) :
    ReturnsInHanded {} Try.checked os 7 .any (Rows.fnExactSchemasOkSpec.pre6 enc Try.prog Try.f7 Rows.fnExactSchemasOkRow.domain false) (Rows.fnExactSchemasOkSpec.post enc Try.prog Try.f7 false true false false) := by
  refine returnsInHanded_of_change_sized (C := Try.checked) own started (by kernel_rfl) Try.func7
    (ChangeSpec.witness6 (enc := enc) (C := Try.checked) false ⟨#[], #[.slice none 0 0], []⟩ 8 (by kernel_rfl) (by kernel_rfl) (by kernel_rfl) (by kernel_rfl)) ?_
  intro W base args ds gs before hval0 hW hcnd hsz0 _
  have hsz : (DataW.weightsEach Try.prog (Try.f7.params.toList ++ Rows.fnExactSchemasOkSpec.plain.varTypes Try.prog) (ds ++ gs)).all (· ≤ reachBytes) = true := hsz0
  have hval : ∀ (j : Nat) t v, Try.f7.params[j]? = some t → args[j]? = some v → Value.okWide Try.prog W .any base t v := hval0
  have hW' := hW
  obtain ⟨p, q, hA0, hV, rfl, hfz, hnd⟩ := hW
  have hA : DataW.TrodAll enc Try.prog W 0 (fun _ => true) true Try.f7.params.toList args.toList ds p := hA0
  rw [Try.params7] at hA hval hsz
  have hA1 := hA
  obtain ⟨v0, vs0, d0, ds0, p0, q0, hargs, rfl, rfl, h0, r0⟩ := trodAll_cons hA
  obtain ⟨rfl, rfl, rfl⟩ := trodAll_nil r0
  obtain rfl : args = #[v0] := by cases args; simp_all
  obtain ⟨rfl, rfl⟩ := trodVars_none hV
  obtain ⟨tr, hi, hr⟩ := Go.Av.arg_slice (n := 5) (sh := .sl [.s, .sl [.s]]) Try.underlying64 (by kernel_rfl) (hval 0 64 v0 rfl rfl) h0 (by
    intro y hy
    have := List.all_eq_true.1 hsz y (by
      refine Go.Av.weightsEach_mem (i := 0) (t := 64) (d := d0) rfl rfl hy)
    exact of_decide_eq_true this)
  clear hA0 hval0 hsz0 hsz
  refine (Go.Av.law_SchemasOk hi hr).mono fun e W' ⟨he, bel⟩ => ?_
  subst he
  exact ⟨_, rfl, _, _, _, [], _, [], hW', trodAll_mk1 (shut_bool Try.underlying4 _), Go.Av.trodAll_stays (by kernel_rfl) bel (by
    intro t ht
    obtain rfl : t = 64 := by simpa using ht
    exact ⟨by kernel_rfl, by decide⟩) hA1, rfl, bel.frame _, fun h => by cases h⟩
theorem over : Rows.fnExactSchemasOkRow.holds Try.pinned (OpenSpec.ofChange Rows.fnExactSchemasOkSpec) :=
  OpenClaim.holds_of_wide 7 Try.f7 rfl rfl rfl rfl rfl rfl rfl ⟨rfl, rfl, rfl, rfl, rfl⟩ rfl rfl rfl rfl rfl (by kernel_rfl) Try.func7 (by kernel_rfl)
    (of_decide_eq_true (by kernel_rfl)) (by unfold Func.isWrapper; first | (rw [if_pos (by decide +kernel)]; kernel_rfl) | (rw [if_neg (by decide +kernel)]; exact ⟨rfl, rfl⟩))
    (fun os started H enc _ => lifted os started H enc)
end Go.Proofs.Ytefokklbhephpaa.fnExactSchemasOk
namespace Go.Proofs.Ytefokklbhephpaa
/-- The row, under a short name, for the claim. -/
theorem fnExactSchemasOk_holds : Rows.FnExactSchemasOkSaid := fnExactSchemasOk.over
#print axioms fnExactSchemasOk_holds
end Go.Proofs.Ytefokklbhephpaa
end
