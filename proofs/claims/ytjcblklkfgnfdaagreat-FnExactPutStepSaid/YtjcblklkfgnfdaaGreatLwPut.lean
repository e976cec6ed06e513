/- What functions of this seat give. -/
import Derived.Test.YtjcblklkfgnfdaaGreatAvCfg
import Derived.Test.YtjcblklkfgnfdaaGreatAvE
import Derived.Test.YtjcblklkfgnfdaaGreatGg
import Derived.Test.YtjcblklkfgnfdaaGreatRows
import Derived.WalkKit
import Derived.ProofKit
import Derived.OpenShut
import Derived.ShutString
import Derived.ChangeOld
import Derived.Below
import Derived.SizedLaws
set_option linter.all false
set_option linter.unusedVariables false
set_option linter.unusedSimpArgs false

section
namespace Go.Av
theorem Is.lim {t : T} {sh : Sh} (h : Is t sh) : t.lim := by
  induction h with
  | b _ => trivial
  | i _ _ _ => trivial
  | s x h => simp only [T.lim]; omega
  | sl es m h hl hs ih =>
    simp only [T.lim]
    refine ⟨by omega, ?_⟩
    have hcs : ∀ e : List T, (∀ t ∈ e, t.lim) → limCs e := by
      intro e
      induction e with
      | nil => intro _; trivial
      | cons a l ihl => intro h; exact ⟨h a (List.mem_cons_self ..), ihl fun t ht => h t (List.mem_cons_of_mem _ ht)⟩
    have hes : ∀ es : List (List T), (∀ e ∈ es, limCs e) → limEs es := by
      intro es
      induction es with
      | nil => intro _; trivial
      | cons a l ihl => intro h; exact ⟨h a (List.mem_cons_self ..), ihl fun t ht => h t (List.mem_cons_of_mem _ ht)⟩
    refine hes es fun e he => hcs e fun t ht => ?_
    obtain ⟨j, hj⟩ := List.getElem?_of_mem ht
    have hjl : j < m.length := by rw [← hl e he]; exact (List.getElem?_eq_some_iff.1 hj).1
    exact ih e he j t m[j] hj (by rw [List.getElem?_eq_getElem hjl])
theorem is_strs {t : T} (h : Is t (.sl [.s])) : ∃ l : List ByteArray, t = .sl .any (l.map sC) :=
  h.list fun e hl hs => by
    match e, hl with
    | [a], _ =>
      obtain ⟨x, rfl⟩ := (hs 0 a .s rfl rfl).str
      exact ⟨x, rfl⟩
theorem is_schemas {t : T} (h : Is t (.sl [.s, .sl [.s]])) : ∃ l : List Sc, t = .sl .any (l.map scC) :=
  h.list fun e hl hs => by
    match e, hl with
    | [a, b], _ =>
      obtain ⟨x, rfl⟩ := (hs 0 a .s rfl rfl).str
      obtain ⟨y, rfl⟩ := is_strs (hs 1 b _ rfl rfl)
      exact ⟨⟨x, y⟩, rfl⟩
theorem is_values {t : T} (h : Is t (.sl [.i .i64, .i .i64, .s])) : ∃ l : List V, t = .sl .any (l.map vC) :=
  h.list fun e hl hs => by
    match e, hl with
    | [a, b, c], _ =>
      obtain ⟨x, rfl⟩ := (hs 0 a _ rfl rfl).int
      obtain ⟨y, rfl⟩ := (hs 1 b _ rfl rfl).int
      obtain ⟨z, rfl⟩ := (hs 2 c _ rfl rfl).str
      exact ⟨⟨x, y, z⟩, rfl⟩
theorem is_counteds {t : T} (h : Is t (.sl [.sl [.i .i64, .i .i64, .s], .i .i64])) : ∃ l : List C, t = .sl .any (l.map cC) :=
  h.list fun e hl hs => by
    match e, hl with
    | [a, b], _ =>
      obtain ⟨x, rfl⟩ := is_values (hs 0 a _ rfl rfl)
      obtain ⟨y, rfl⟩ := (hs 1 b _ rfl rfl).int
      exact ⟨⟨x, y⟩, rfl⟩
theorem is_rels {t : T} (h : Is t (.sl [.s, .i .i64, .sl [.sl [.i .i64, .i .i64, .s], .i .i64]])) : ∃ l : List R, t = .sl .any (l.map rC) :=
  h.list fun e hl hs => by
    match e, hl with
    | [a, b, c], _ =>
      obtain ⟨x, rfl⟩ := (hs 0 a _ rfl rfl).str
      obtain ⟨y, rfl⟩ := (hs 1 b _ rfl rfl).int
      obtain ⟨z, rfl⟩ := is_counteds (hs 2 c _ rfl rfl)
      exact ⟨⟨x, ⟨y, z⟩⟩, rfl⟩
/-- The cells of a struct that is handed over. -/
theorem rv_agg {P : Program} {w : World} {ts : List T} {l : List Sh} {cs : Array Value} (h : Reads w ts l cs.toList) : RV P w (inHeap w) noPl (.agg (ts.map TV.d)) (.agg cs) := by
  obtain ⟨h1, h2, h3⟩ := h
  refine .agg (by simp at h2 ⊢; omega) fun i hi hj => ?_
  have hi' : i < ts.length := by simpa using hi
  have := (h3 i ts[i] l[i] cs[i] (by rw [List.getElem?_eq_getElem hi']) (by rw [List.getElem?_eq_getElem (by omega)]) (by simp [hj])).2
  simpa using RV.d this
theorem Reads.is {w : World} {ts : List T} {l : List Sh} {cs : List Value} (h : Reads w ts l cs) {j : Nat} {t : T} {sh : Sh} (h1 : ts[j]? = some t) (h2 : l[j]? = some sh) : Is t sh := by
  obtain ⟨a, b, c⟩ := h
  have hj : j < cs.length := by rw [b]; exact (List.getElem?_eq_some_iff.1 h2).1
  exact (c j t sh cs[j] h1 h2 (by rw [List.getElem?_eq_getElem hj])).1
end Go.Av
end

section
namespace Go.Av
open Go.Proofs
set_option linter.unusedSimpArgs false
set_option maxHeartbeats 1000000 in
theorem ev_FnExactPutStep (kind : Int) (name : ByteArray) (cols : List ByteArray) (query : ByteArray) (change : List R) (hlim : limCs (spC ⟨kind, name, cols, query, change⟩)) :
    evF cfg 3 [] [.agg [.d (.i .i64 kind), .d (.s name), .d (.sl .any (cols.map sC)), .d (.s query), .d (.sl .any (change.map rC))]] = some (.d (.b true), []) := by
  have hsz := ev_szStep kind name cols query change 1048576 (by omega) (by omega) hlim
  by_cases hb : (1048576 : Int) - (szSp ⟨kind, name, cols, query, change⟩ : Nat) < 0
  · have h1 : left1 1048576 (szSp ⟨kind, name, cols, query, change⟩) = -1 := left1_neg hb
    have hd : decide ((-1 : Int) < 0) = true := rfl
    clear hlim
    (refine (evF_code (C := cfg) (g := 3) (fn := Tryz.f3) rfl Tryz.func3 rfl (by rw [Tryz.ntmps3]; simp) (by kernel_rfl) (by first | decide | simp [keysOf])).trans ?_; rw [Tryz.results3, Tryz.ntmps3])
    repeat' (first | with_reducible refine br_split (fun _ => ?_) (fun _ => ?_) | simp only [*, push_cast, Array.reduceGetElem?, Nat.reduceBEq, Nat.reduceLT, Nat.reduceAdd, Nat.reduceSub, Nat.reduceLeDiff, Nat.reduceMul, Nat.reduceEqDiff, reduceCtorEq, Int.reduceAdd, Int.reduceLT, Int.reduceLE, Int.reduceToNat, Int.reduceNeg, Int.reduceSub, Int.reduceBEq, Int.reduceBNe, Int.reduceGT, Int.reduceGE, Nat.reduceGT] | (rw [drawC_ok]; rotate_left; decide +kernel; exact cfg_mixed))
  · have h1 : left1 1048576 (szSp ⟨kind, name, cols, query, change⟩) = 1048576 - (szSp ⟨kind, name, cols, query, change⟩ : Nat) := left1_pos hb
    have hd : decide ((1048576 : Int) - (szSp ⟨kind, name, cols, query, change⟩ : Nat) < 0) = false := decide_eq_false hb
    have hle : szSp ⟨kind, name, cols, query, change⟩ ≤ 1048576 := by omega
    have hto := ev_toStep kind name cols query change hle
    have hsp := ev_sPutStep kind name cols query change hle
    have him := ev_PutStep kind name cols query change hle
    have heq := ev_eqStep kind name cols query change kind name cols query change hlim
    have hee : decide ((⟨kind, name, cols, query, change⟩ : Sp) = ⟨kind, name, cols, query, change⟩) = true := decide_eq_true rfl
    have hbb : decide (bs (psL ⟨kind, name, cols, query, change⟩) = bs (psL ⟨kind, name, cols, query, change⟩)) = true := decide_eq_true rfl
    clear hlim hle
    (refine (evF_code (C := cfg) (g := 3) (fn := Tryz.f3) rfl Tryz.func3 rfl (by rw [Tryz.ntmps3]; simp) (by kernel_rfl) (by first | decide | simp [keysOf])).trans ?_; rw [Tryz.results3, Tryz.ntmps3])
    repeat' (first | with_reducible refine br_split (fun _ => ?_) (fun _ => ?_) | simp only [*, push_cast, Array.reduceGetElem?, Nat.reduceBEq, Nat.reduceLT, Nat.reduceAdd, Nat.reduceSub, Nat.reduceLeDiff, Nat.reduceMul, Nat.reduceEqDiff, reduceCtorEq, Int.reduceAdd, Int.reduceLT, Int.reduceLE, Int.reduceToNat, Int.reduceNeg, Int.reduceSub, Int.reduceBEq, Int.reduceBNe, Int.reduceGT, Int.reduceGE, Nat.reduceGT] | (rw [drawC_ok]; rotate_left; decide +kernel; exact cfg_mixed))
end Go.Av
end

section
namespace Go.Av
open Go.Proofs
theorem law_FnExactPutStep {w : World} {cs : Array Value} {ts : List T} (h : Reads w ts [.i .i64, .s, .sl [.s], .s, .sl [.s, .i .i64, .sl [.sl [.i .i64, .i .i64, .s], .i .i64]]] cs.toList) :
    Calls Tryz.prog 3 #[.agg cs] w fun e w' => e = .returned (.bool true) ∧ Go.RowKit.Below w.heap.size w w' := by
  match ts, h, h.1 with
  | [t0, t1, t2, t3, t4], h, _ =>
    have i0 := h.is (j := 0) rfl rfl
    obtain ⟨x0, rfl⟩ := (i0).int
    have i1 := h.is (j := 1) rfl rfl
    obtain ⟨x1, rfl⟩ := (i1).str
    have i2 := h.is (j := 2) rfl rfl
    obtain ⟨x2, rfl⟩ := is_strs i2
    have i3 := h.is (j := 3) rfl rfl
    obtain ⟨x3, rfl⟩ := (i3).str
    have i4 := h.is (j := 4) rfl rfl
    obtain ⟨x4, rfl⟩ := is_rels i4
    refine calls_true (C := cfg) cfg_hE cfg_hO (ev_FnExactPutStep _ _ _ _ _ ⟨i0.lim, i1.lim, i2.lim, i3.lim, i4.lim, trivial⟩) rfl ?_ (by simp [okL, TV.ok])
    intro i h1 h2
    have : i = 0 := by simpa using h1
    subst this
    exact rv_agg h
end Go.Av
namespace Go.Proofs.YtjcblklkfgnfdaaGreat.fnExactPutStep
open Go.ChangeShapes Go.WideShapes Go.ChangeAt Go.RowKit
open Go.ChangeMaps (open_string shut_string)
set_option linter.unusedVariables false
theorem own : ownKnob Tryz.prog.godebug = none := by kernel_rfl
set_option maxRecDepth 100000 in
theorem lifted (os : Os) (started : os.Started) (H : Type) (enc : TypeId × Value → H) :
    ReturnsInHanded {} Tryz.checked os 3 .any (Rows.fnExactPutStepSpec.pre6 enc Tryz.prog Tryz.f3 Rows.fnExactPutStepRow.domain false) (Rows.fnExactPutStepSpec.post enc Tryz.prog Tryz.f3 false true false false) := by
  refine returnsInHanded_of_change_sized (C := Tryz.checked) own started (by kernel_rfl) Tryz.func3
    (ChangeSpec.witness6 (enc := enc) (C := Tryz.checked) false ⟨#[], #[.agg #[.int .i64 0, .string ByteArray.empty, .slice none 0 0, .string ByteArray.empty, .slice none 0 0]], []⟩ 8 (by kernel_rfl) (by kernel_rfl) (by kernel_rfl) (by kernel_rfl)) ?_
  intro W base args ds gs before hval0 hW hcnd hsz0 _
  have hsz : (DataW.weightsEach Tryz.prog (Tryz.f3.params.toList ++ Rows.fnExactPutStepSpec.plain.varTypes Tryz.prog) (ds ++ gs)).all (· ≤ reachBytes) = true := hsz0
  have hval : ∀ (j : Nat) t v, Tryz.f3.params[j]? = some t → args[j]? = some v → Value.okWide Tryz.prog W .any base t v := hval0
  have hW' := hW
  obtain ⟨p, q, hA0, hV, rfl, hfz, hnd⟩ := hW
  have hA : DataW.TrodAll enc Tryz.prog W 0 (fun _ => true) true Tryz.f3.params.toList args.toList ds p := hA0
  rw [Tryz.params3] at hA hval hsz
  have hA1 := hA
  obtain ⟨v0, vs0, d0, ds0, p0, q0, hargs, rfl, rfl, h0, r0⟩ := trodAll_cons hA
  obtain ⟨rfl, rfl, rfl⟩ := trodAll_nil r0
  obtain rfl : args = #[v0] := by cases args; simp_all
  obtain ⟨rfl, rfl⟩ := trodVars_none hV
  obtain ⟨cs, ts, rfl, hr⟩ := Go.Av.arg_agg (n := 9) (l := [.i .i64, .s, .sl [.s], .s, .sl [.s, .i .i64, .sl [.sl [.i .i64, .i .i64, .s], .i .i64]]]) Tryz.underlying25 (by kernel_rfl) (hval 0 25 v0 rfl rfl) h0 (by
    intro y hy
    have := List.all_eq_true.1 hsz y (by
      refine Go.Av.weightsEach_mem (i := 0) (t := 25) (d := d0) rfl rfl hy)
    exact of_decide_eq_true this)
  clear hA0 hval0 hsz0 hsz
  refine (Go.Av.law_FnExactPutStep hr).mono fun e W' ⟨he, bel⟩ => ?_
  subst he
  exact ⟨_, rfl, _, _, _, [], _, [], hW', trodAll_mk1 (shut_bool Tryz.underlying4 _), Go.Av.trodAll_stays (by kernel_rfl) bel (by
    intro t ht
    obtain rfl : t = 25 := by simpa using ht
    exact ⟨by kernel_rfl, by decide⟩) hA1, rfl, bel.frame _, fun h => by cases h⟩
theorem over : Rows.fnExactPutStepRow.holds Tryz.pinned (OpenSpec.ofChange Rows.fnExactPutStepSpec) :=
  OpenClaim.holds_of_wide 3 Tryz.f3 rfl rfl rfl rfl rfl rfl rfl ⟨rfl, rfl, rfl, rfl, rfl⟩ rfl rfl rfl rfl rfl (by kernel_rfl) Tryz.func3 (by kernel_rfl)
    (of_decide_eq_true (by kernel_rfl)) (by unfold Func.isWrapper; first | (rw [if_pos (by decide +kernel)]; kernel_rfl) | (rw [if_neg (by decide +kernel)]; exact ⟨rfl, rfl⟩))
    (fun os started H enc _ => lifted os started H enc)
end Go.Proofs.YtjcblklkfgnfdaaGreat.fnExactPutStep
namespace Go.Proofs.YtjcblklkfgnfdaaGreat
/-- The row, under a short name, for the claim. -/
theorem fnExactPutStep_holds : Rows.FnExactPutStepSaid := fnExactPutStep.over
#print axioms fnExactPutStep_holds
end Go.Proofs.YtjcblklkfgnfdaaGreat
end
