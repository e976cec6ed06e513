/- What functions of this seat give. -/
import Derived.Test.YtflkffnelppigaaGe
import Derived.Test.YtflkffnelppigaaRows
import Derived.WalkKit
import Derived.ProofKit
import Derived.OpenShut
import Derived.ShutString
import Derived.ChangeOld
import Derived.Below
import Derived.SizedLaws
set_option linter.all false
set_option linter.unusedVariables false
set_option linter.unusedSimpArgs false

section
namespace Go.Av
open Go.Proofs Go.RowKit
set_option linter.unusedSimpArgs false
set_option linter.unusedVariables false
attribute [local instance] noKn

/-- What the size of relations bounds. -/
def SmR (l : List R) : Prop := l.length ≤ 1048576 ∧ ∀ r ∈ l, r.bag.rows.length ≤ 1048576 ∧ ∀ c ∈ r.bag.rows, c.row.length ≤ 1048576
theorem szRs_all {l : List R} (h : szRs l ≤ 1048576) : SmR l := by
  obtain ⟨h1, h2⟩ := szRs_mem h
  refine ⟨h1, fun r hr => ?_⟩
  have := h2 r hr
  simp only [szR] at this
  exact szB_all (wt := r.bag.w) (by simp only [szB] at this ⊢; omega)
theorem SmR.neg {l : List R} (h : SmR l) : SmR (l.map negR) := by
  refine ⟨by simpa using h.1, fun r hr => ?_⟩
  obtain ⟨x, hx, rfl⟩ := List.mem_map.1 hr
  exact timesBag_small (wt := x.bag.w) (-1) (h.2 x hx).1 (h.2 x hx).2
theorem neg_lim {l : List R} (h : (T.sl .any (l.map rC)).lim) : (T.sl .any ((l.map negR).map rC)).lim := by
  simp only [T.lim, List.length_map, limEs_map] at h ⊢
  refine ⟨h.1, fun r hr => ?_⟩
  obtain ⟨x, hx, rfl⟩ := List.mem_map.1 hr
  have h2 := h.2 x hx
  simp only [rC, limCs] at h2
  have := bC_lim (wt := x.bag.w) (rows := x.bag.rows) (-1) (by simp only [bC, limCs]; exact ⟨trivial, h2.2.2.1, trivial⟩)
  simp only [bC, limCs] at this
  simp only [rC, limCs, negR]
  exact ⟨h2.1, trivial, this.2.1, trivial⟩
theorem cellsR_small {l : List R} (h : SmR l) : (1 : Int) + cellsR l ≤ 9223372036854775807 := by
  have h1 : ∀ r ∈ l, cellsC r.bag.rows ≤ 1048576 * (3 * 1048576 + 1) := fun r hr => by
    have := cellsC_le (h.2 r hr).2
    exact Nat.le_trans this (Nat.mul_le_mul_right _ (h.2 r hr).1)
  have := cellsR_le h1
  have h3 : l.length * (1048576 * (3 * 1048576 + 1) + 2) ≤ 1048576 * (1048576 * (3 * 1048576 + 1) + 2) := Nat.mul_le_mul_right _ h.1
  omega
theorem rAt_pos {l : List R} (h : SmR l) : 0 ≤ rAt l 1 l.length := by
  rw [rAt_in l 1 (by omega) (cellsR_small h)]; omega
theorem mcall_RelS {p : Tok} (hp : p ≠ []) {l : List R} (h : SmR l) :
    MCall Try.prog 20 p (.sl (.tok p) (cnEs p 0 (l.map rC))) (.sl (.tok p) (cnEs p 0 ((markRs mtOf l 1).map rC))) [.d (.sl (.tok p) (cnEs p 0 (l.map rC))), .d (.i .i64 1)] (rAt l 1 l.length) := by
  intro w S β vs hn hlt hnm hl hrv
  have h0 := hrv 0 (by simp) (by rw [← hl]; simp)
  have h1 := hrv 1 (by simp) (by rw [← hl]; simp)
  obtain ⟨v0, v1, rfl⟩ := two_of (vs := vs) (by rw [← hl]; rfl)
  simp only [List.getElem_cons_zero, List.getElem_cons_succ, List.getElem_toArray] at h0 h1
  cases h1 with | d h1 => cases h1 with | i =>
  cases h0 with | d h0 =>
  refine (mok_RelS txtOk w S p (l.map rC) v0 1 hp hn hlt hnm ⟨l, rfl, by have := h.1; omega, fun r hr => ⟨by have := (h.2 r hr).1; omega, fun c hc => by have := (h.2 r hr).2 c hc; omega⟩⟩ h0).mono ?_
  rintro e w' ⟨rfl, h2, h3⟩
  have h4 := root_all hn hp (mkEs_len _ _ _) h0 h2
  simp only [mkEs_rC] at h4
  exact ⟨by rw [mkEs_rC], h3, h4⟩
theorem ev_heldRelSP {l : List R} (h : SmR l) :
    evF cfg 21 [] [.d (.sl .any ((markRs mtOf l 1).map rC)), .d (.i .i64 1)] = some (.d (.i .i64 (rAt l 1 l.length)), []) := by
  have := ev_heldRelS (markRs mtOf l 1) 1 (by rw [markRs_len]; have := h.1; omega) (fun r hr => by
    obtain ⟨i, hi, rfl⟩ := List.mem_iff_getElem.1 hr
    have hi' : i < l.length := by rwa [markRs_len] at hi
    obtain ⟨k', hk⟩ := markRs_rows mtOf l 1 i hi' hi
    obtain ⟨g1, g2⟩ := h.2 _ (List.getElem_mem hi')
    rw [hk]
    refine ⟨by rw [markCs_len]; omega, fun c hc => ?_⟩
    obtain ⟨j, hj, rfl⟩ := List.mem_iff_getElem.1 hc
    have hj' : j < l[i].bag.rows.length := by rwa [markCs_len] at hj
    rw [markCs_row mtOf _ _ j hj' hj]
    have := g2 _ (List.getElem_mem hj')
    omega) (markRs_mkd mtOf l 1 (by omega) (cellsR_small h))
  rwa [rAt_mark, markRs_len] at this
theorem plain_markRelS : Plainly cfg.P 20 := ⟨_, Try.func20, rfl, by kernel_rfl⟩
theorem er_ageR (l : List R) : annEs .any (annEs (.tok []) (l.map rC)) = l.map rC := by
  rw [annEs_annEs, er_rC]
theorem law_Negate {w : World} {l : List R} {vs : Array Value} (hlim : (T.sl .any (l.map rC)).lim)
    (hl : 1 = vs.size) (hrv : ∀ i (hi : i < 1) (hj : i < vs.size), RV Try.prog w (inHeap w) noPl ([TV.d (.sl .any (l.map rC))][i]) vs[i]) :
    Calls Try.prog 4 vs w fun e w' => e = .returned (.bool true) ∧ Go.RowKit.Below w.heap.size w w' := by
  refine law_true (fn := Try.f4) (args := [TV.d (.sl .any (l.map rC))]) (t := 2) Try.func4 rfl (by rw [Try.ntmps4]; simp) Try.results4 (fun b o v h => h.elim) hl hrv (by simp [okL, TV.ok]) ?_
  rw [Try.ntmps4]
  intro Q hQ
  have hsz := ev_szRelS l 1048576 (by omega) (by omega) hlim
  simp only [initL, argT]
  by_cases hb : (1048576 : Int) - (szRs l : Nat) < 0
  · have h1 : left1 1048576 (szRs l) = -1 := left1_neg hb
    have hd : decide ((-1 : Int) < 0) = true := rfl
    have HQ := Hd.mk hQ
    clear hb hrv hl hlim hQ
    apply Wp.last (C := cfg) (g := 4) cfg_hE cfg_hO
    · repeat' (first | with_reducible refine br_split (fun _ => ?_) (fun _ => ?_) | simp only [*, push_cast, Array.reduceGetElem?, Nat.reduceBEq, Nat.reduceLT, Nat.reduceAdd, Nat.reduceSub, Nat.reduceLeDiff, Nat.reduceMul, Nat.reduceEqDiff, reduceCtorEq, Int.reduceAdd, Int.reduceLT, Int.reduceLE, Int.reduceToNat, Int.reduceNeg, Int.reduceSub, Int.reduceBEq, Int.reduceBNe, Int.reduceNe, Int.reduceGT, Int.reduceGE, Nat.reduceGT] | (rw [drawC_ok]; rotate_left; decide +kernel; exact cfg_mixed))
      rfl
    · exact HQ.out _ rfl
  · have h1 : left1 1048576 (szRs l) = 1048576 - (szRs l : Nat) := left1_pos hb
    have hd : decide ((1048576 : Int) - (szRs l : Nat) < 0) = false := decide_eq_false hb
    have hle : szRs l ≤ 1048576 := by omega
    have HQ := Hd.mk hQ
    have c1 := szRs_all hle
    have m1 := c1.neg
    have hto := ev_toRelS l hle
    have hsp := ev_sNegate l c1.1 c1.2
    have him := ev_Negate l c1.1 c1.2
    have m3 := neg_lim hlim
    have hmk1 := mcall_RelS (p := [1, 0]) (by simp) c1
    have k1 := rAt_pos c1
    generalize hN : l.map negR = N at *
    have hq1 := ev_eqRelS N N m3
    have hq2 := ev_eqRelS l l hlim
    have hd1 : decide (N = N) = true := decide_eq_true rfl
    have hd2 : decide (l = l) = true := decide_eq_true rfl
    have hmk2 := mcall_RelS (p := [2, 0]) (by simp) m1
    have k2 := rAt_pos m1
    have hhe := ev_heldRelSP m1
    generalize hK1 : rAt l 1 l.length = K1 at *
    generalize hK2 : rAt N 1 N.length = K2 at *
    have hkk1 : decide (K1 < 0) = false := decide_eq_false (by omega)
    have hkk2 : decide (K2 < 0) = false := decide_eq_false (by omega)
    have hkn : (K2 != K2) = false := bne_self_eq_false _
    have er1 := er_ageR l
    have er2 := er_ageR N
    clear hb hQ hrv hl hlim hle
    clear c1 m1 m3 k1 k2 hK1 hK2 hN
    iterate 5
      apply Wp.seq (C := cfg) (g := 4) cfg_hE cfg_hO
      · repeat' (first | with_reducible refine br_split (fun _ => ?_) (fun _ => ?_) | simp only [*, push_cast, Array.reduceGetElem?, Nat.reduceBEq, Nat.reduceLT, Nat.reduceAdd, Nat.reduceSub, Nat.reduceLeDiff, Nat.reduceMul, Nat.reduceEqDiff, reduceCtorEq, Int.reduceAdd, Int.reduceLT, Int.reduceLE, Int.reduceToNat, Int.reduceNeg, Int.reduceSub, Int.reduceBEq, Int.reduceBNe, Int.reduceNe, Int.reduceGT, Int.reduceGE, Nat.reduceGT] | (rw [drawC_ok]; rotate_left; decide +kernel; exact cfg_mixed))
        rfl
    apply Wp.age (n := 1) rfl rfl
    simp only [ageSt, ageT, ageO, ageTV, ageL, T.ann]
    iterate 5
      apply Wp.seq (C := cfg) (g := 4) cfg_hE cfg_hO
      · repeat' (first | with_reducible refine br_split (fun _ => ?_) (fun _ => ?_) | simp only [*, push_cast, Array.reduceGetElem?, Nat.reduceBEq, Nat.reduceLT, Nat.reduceAdd, Nat.reduceSub, Nat.reduceLeDiff, Nat.reduceMul, Nat.reduceEqDiff, reduceCtorEq, Int.reduceAdd, Int.reduceLT, Int.reduceLE, Int.reduceToNat, Int.reduceNeg, Int.reduceSub, Int.reduceBEq, Int.reduceBNe, Int.reduceNe, Int.reduceGT, Int.reduceGE, Nat.reduceGT] | (rw [drawC_ok]; rotate_left; decide +kernel; exact cfg_mixed))
        rfl
    apply Wp.mark4 (C := cfg) (n := (6, true)) (p := [1, 0]) (f := 20) (k := K1) (t0 := .sl (.tok [1, 0]) (cnEs [1, 0] 0 (l.map rC))) (t1 := .sl (.tok [1, 0]) (cnEs [1, 0] 0 ((markRs mtOf l 1).map rC)))
      (args := [.d (.sl (.tok [1, 0]) (cnEs [1, 0] 0 (l.map rC))), .d (.i .i64 1)])
      (tm := [(6, .d (.sl (.tok [2, 0]) (cnEs [2, 0] 0 (N.map rC)))), (4, .d (.sl (.tok []) (annEs (.tok []) (N.map rC)))), (2, .d (.b false)), (0, .d (.sl (.tok []) (annEs (.tok []) (l.map rC))))])
      (ob := []) cfg_hE cfg_hO (fun _ _ _ h => h)
    case e1 => repeat' (first | with_reducible refine br_split (fun _ => ?_) (fun _ => ?_) | simp only [*, push_cast, Array.reduceGetElem?, Nat.reduceBEq, Nat.reduceLT, Nat.reduceAdd, Nat.reduceSub, Nat.reduceLeDiff, Nat.reduceMul, Nat.reduceEqDiff, reduceCtorEq, Int.reduceAdd, Int.reduceLT, Int.reduceLE, Int.reduceToNat, Int.reduceNeg, Int.reduceSub, Int.reduceBEq, Int.reduceBNe, Int.reduceNe, Int.reduceGT, Int.reduceGE, Nat.reduceGT] | (rw [drawC_ok]; rotate_left; decide +kernel; exact cfg_mixed)); rfl
    case hg => rfl
    case hp => simp
    case hgd => rfl
    case ho => rfl
    case hf => rfl
    case hpl => exact plain_markRelS
    case hargs => rfl
    case hc => exact hmk1
    case h1 => exact .cons rfl (.keep (SafeT.sl (by decide) _)) (.cons rfl (.keep (SafeT.age _)) (.cons rfl (.leaf rfl) (.cons rfl (.keep (SafeT.age _)) .nil)))
    case h2 => exact .nil
    case hput => rfl
    case e2 => repeat' (first | with_reducible refine br_split (fun _ => ?_) (fun _ => ?_) | simp only [*, push_cast, Array.reduceGetElem?, Nat.reduceBEq, Nat.reduceLT, Nat.reduceAdd, Nat.reduceSub, Nat.reduceLeDiff, Nat.reduceMul, Nat.reduceEqDiff, reduceCtorEq, Int.reduceAdd, Int.reduceLT, Int.reduceLE, Int.reduceToNat, Int.reduceNeg, Int.reduceSub, Int.reduceBEq, Int.reduceBNe, Int.reduceNe, Int.reduceGT, Int.reduceGE, Nat.reduceGT] | (rw [drawC_ok]; rotate_left; decide +kernel; exact cfg_mixed)); rfl
    iterate 2
      apply Wp.seq (C := cfg) (g := 4) cfg_hE cfg_hO
      · repeat' (first | with_reducible refine br_split (fun _ => ?_) (fun _ => ?_) | simp only [*, push_cast, Array.reduceGetElem?, Nat.reduceBEq, Nat.reduceLT, Nat.reduceAdd, Nat.reduceSub, Nat.reduceLeDiff, Nat.reduceMul, Nat.reduceEqDiff, reduceCtorEq, Int.reduceAdd, Int.reduceLT, Int.reduceLE, Int.reduceToNat, Int.reduceNeg, Int.reduceSub, Int.reduceBEq, Int.reduceBNe, Int.reduceNe, Int.reduceGT, Int.reduceGE, Nat.reduceGT] | (rw [drawC_ok]; rotate_left; decide +kernel; exact cfg_mixed))
        rfl
    apply Wp.mark4 (C := cfg) (n := (7, true)) (p := [2, 0]) (f := 20) (k := K2) (t0 := .sl (.tok [2, 0]) (cnEs [2, 0] 0 (N.map rC))) (t1 := .sl (.tok [2, 0]) (cnEs [2, 0] 0 ((markRs mtOf N 1).map rC)))
      (args := [.d (.sl (.tok [2, 0]) (cnEs [2, 0] 0 (N.map rC))), .d (.i .i64 1)])
      (tm := [(6, .d (.sl (.tok [2, 0]) (cnEs [2, 0] 0 ((markRs mtOf N 1).map rC)))), (4, .d (.sl (.tok []) (annEs (.tok []) (N.map rC)))), (2, .d (.b false)), (0, .d (.sl (.tok []) (annEs (.tok []) (l.map rC))))])
      (ob := []) cfg_hE cfg_hO (fun _ _ _ h => h)
    case e1 => repeat' (first | with_reducible refine br_split (fun _ => ?_) (fun _ => ?_) | simp only [*, push_cast, Array.reduceGetElem?, Nat.reduceBEq, Nat.reduceLT, Nat.reduceAdd, Nat.reduceSub, Nat.reduceLeDiff, Nat.reduceMul, Nat.reduceEqDiff, reduceCtorEq, Int.reduceAdd, Int.reduceLT, Int.reduceLE, Int.reduceToNat, Int.reduceNeg, Int.reduceSub, Int.reduceBEq, Int.reduceBNe, Int.reduceNe, Int.reduceGT, Int.reduceGE, Nat.reduceGT] | (rw [drawC_ok]; rotate_left; decide +kernel; exact cfg_mixed)); rfl
    case hg => rfl
    case hp => simp
    case hgd => rfl
    case ho => rfl
    case hf => rfl
    case hpl => exact plain_markRelS
    case hargs => rfl
    case hc => exact hmk2
    case h1 => exact .cons rfl .root (.cons rfl (.keep (SafeT.age _)) (.cons rfl (.leaf rfl) (.cons rfl (.keep (SafeT.age _)) .nil)))
    case h2 => exact .nil
    case hput => rfl
    case e2 => repeat' (first | with_reducible refine br_split (fun _ => ?_) (fun _ => ?_) | simp only [*, push_cast, Array.reduceGetElem?, Nat.reduceBEq, Nat.reduceLT, Nat.reduceAdd, Nat.reduceSub, Nat.reduceLeDiff, Nat.reduceMul, Nat.reduceEqDiff, reduceCtorEq, Int.reduceAdd, Int.reduceLT, Int.reduceLE, Int.reduceToNat, Int.reduceNeg, Int.reduceSub, Int.reduceBEq, Int.reduceBNe, Int.reduceNe, Int.reduceGT, Int.reduceGE, Nat.reduceGT] | (rw [drawC_ok]; rotate_left; decide +kernel; exact cfg_mixed)); rfl
    apply Wp.last (C := cfg) (g := 4) cfg_hE cfg_hO
    · repeat' (first | with_reducible refine br_split (fun _ => ?_) (fun _ => ?_) | simp only [*, push_cast, Array.reduceGetElem?, Nat.reduceBEq, Nat.reduceLT, Nat.reduceAdd, Nat.reduceSub, Nat.reduceLeDiff, Nat.reduceMul, Nat.reduceEqDiff, reduceCtorEq, Int.reduceAdd, Int.reduceLT, Int.reduceLE, Int.reduceToNat, Int.reduceNeg, Int.reduceSub, Int.reduceBEq, Int.reduceBNe, Int.reduceNe, Int.reduceGT, Int.reduceGE, Nat.reduceGT] | (rw [drawC_ok]; rotate_left; decide +kernel; exact cfg_mixed))
      rfl
    · exact HQ.out _ rfl
end Go.Av
end

section
namespace Go.Av
open Go.Proofs
theorem law_FnExactNegate {w : World} {v : Value} {tr : T} (hi : Is tr (.sl [.s, .i .i64, .sl [.sl [.i .i64, .i .i64, .s], .i .i64]])) (hr : Rep w (inHeap w) tr v) :
    Calls Try.prog 4 #[v] w fun e w' => e = .returned (.bool true) ∧ Go.RowKit.Below w.heap.size w w' := by
  letI := noKn
  obtain ⟨l, rfl⟩ := is_rels hi
  refine law_Negate (l := l) hi.lim rfl ?_
  intro i h1 h2
  match i, h1 with
  | 0, _ => exact .d hr
end Go.Av
namespace Go.Proofs.Ytflkffnelppigaa.fnExactNegate
open Go.ChangeShapes Go.WideShapes Go.ChangeAt Go.RowKit
open Go.ChangeMaps (open_string shut_string)
set_option linter.unusedVariables false
theorem own : ownKnob Try.prog.godebug = none := by kernel_rfl
set_option maxRecDepth 100000 in
theorem lifted (os : Os) (started : os.Started) (H : Type) (enc : TypeId × Value → H) :
    ReturnsInHanded {} Try.checked os 4 .any (Rows.fnExactNegateSpec.pre6 enc Try.prog Try.f4 Rows.fnExactNegateRow.domain false) (Rows.fnExactNegateSpec.post enc Try.prog Try.f4 false true false false) := by
  refine returnsInHanded_of_change_sized (C := Try.checked) own started (by kernel_rfl) Try.func4
    (ChangeSpec.witness6 (enc := enc) (C := Try.checked) false ⟨#[], #[.slice none 0 0], []⟩ 8 (by kernel_rfl) (by kernel_rfl) (by kernel_rfl) (by kernel_rfl)) ?_
  intro W base args ds gs before hval0 hW hcnd hsz0 _
  have hsz : (DataW.weightsEach Try.prog (Try.f4.params.toList ++ Rows.fnExactNegateSpec.plain.varTypes Try.prog) (ds ++ gs)).all (· ≤ reachBytes) = true := hsz0
  have hval : ∀ (j : Nat) t v, Try.f4.params[j]? = some t → args[j]? = some v → Value.okWide Try.prog W .any base t v := hval0
  have hW' := hW
  obtain ⟨p, q, hA0, hV, rfl, hfz, hnd⟩ := hW
  have hA : DataW.TrodAll enc Try.prog W 0 (fun _ => true) true Try.f4.params.toList args.toList ds p := hA0
  rw [Try.params4] at hA hval hsz
  have hA1 := hA
  obtain ⟨v0, vs0, d0, ds0, p0, q0, hargs, rfl, rfl, h0, r0⟩ := trodAll_cons hA
  obtain ⟨rfl, rfl, rfl⟩ := trodAll_nil r0
  obtain rfl : args = #[v0] := by cases args; simp_all
  obtain ⟨rfl, rfl⟩ := trodVars_none hV
  obtain ⟨tr, hi, hr⟩ := Go.Av.arg_slice (n := 9) (sh := .sl [.s, .i .i64, .sl [.sl [.i .i64, .i .i64, .s], .i .i64]]) Try.underlying34 (by kernel_rfl) (hval 0 34 v0 rfl rfl) h0 (by
    intro y hy
    have := List.all_eq_true.1 hsz y (by
      refine Go.Av.weightsEach_mem (i := 0) (t := 34) (d := d0) rfl rfl hy)
    exact of_decide_eq_true this)
  clear hA0 hval0 hsz0 hsz
  refine (Go.Av.law_FnExactNegate hi hr).mono fun e W' ⟨he, bel⟩ => ?_
  subst he
  exact ⟨_, rfl, _, _, _, [], _, [], hW', trodAll_mk1 (shut_bool Try.underlying4 _), Go.Av.trodAll_stays (by kernel_rfl) bel (by
    intro t ht
    obtain rfl : t = 34 := by simpa using ht
    exact ⟨by kernel_rfl, by decide⟩) hA1, rfl, bel.frame _, fun h => by cases h⟩
theorem over : Rows.fnExactNegateRow.holds Try.pinned (OpenSpec.ofChange Rows.fnExactNegateSpec) :=
  OpenClaim.holds_of_wide 4 Try.f4 rfl rfl rfl rfl rfl rfl rfl ⟨rfl, rfl, rfl, rfl, rfl⟩ rfl rfl rfl rfl rfl (by kernel_rfl) Try.func4 (by kernel_rfl)
    (of_decide_eq_true (by kernel_rfl)) (by unfold Func.isWrapper; first | (rw [if_pos (by decide +kernel)]; kernel_rfl) | (rw [if_neg (by decide +kernel)]; exact ⟨rfl, rfl⟩))
    (fun os started H enc _ => lifted os started H enc)
end Go.Proofs.Ytflkffnelppigaa.fnExactNegate
namespace Go.Proofs.Ytflkffnelppigaa
/-- The row, under a short name, for the claim. -/
theorem fnExactNegate_holds : Rows.FnExactNegateSaid := fnExactNegate.over
#print axioms fnExactNegate_holds
end Go.Proofs.Ytflkffnelppigaa
end
