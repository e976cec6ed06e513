/- What functions of this seat give. -/
import Derived.Test.YtnbdlncbfjkpcaaGreatGl
import Derived.Test.YtnbdlncbfjkpcaaGreatGj
import Derived.Test.YtnbdlncbfjkpcaaGreatRows
import Derived.Test.YtnbdlncbfjkpcaaGreatAvE
import Derived.WalkKit
import Derived.ProofKit
import Derived.OpenShut
import Derived.ShutString
import Derived.ChangeOld
import Derived.Below
import Derived.SizedLaws
set_option linter.all false
section
namespace Go.Av
open Go.Proofs Go.RowKit
attribute [local instance] noKn
theorem er_ageR' (l : List R) : annEs .any (annEs (.tok []) (l.map rC)) = l.map rC := by
  rw [annEs_annEs, er_rC]
theorem er_ageS (l : List ByteArray) : annEs .any (annEs (.tok []) (l.map sC)) = l.map sC := by
  rw [annEs_annEs, er_sC]
structure StB (x : Sp) : Prop where
  ncol : x.cols.length ≤ 256
  nrel : x.change.length ≤ 256
  rel : ∀ r ∈ x.change, r.bag.rows.length ≤ 400 ∧ ∀ c ∈ r.bag.rows, c.row.length ≤ 12
  lim : limCs (spC x)
theorem ev_heldStep (kind : Int) (name : ByteArray) (cols : List ByteArray) (query : ByteArray) (change : List R) (k : Int) (b : StB ⟨kind, name, cols, query, change⟩) (h0 : 0 ≤ k) (h1 : k ≤ 1000) :
    evF cfg 10 [] [.agg [.d (.i .i64 kind), .d (.s name), .d (.sl .any ((markSs mtOf cols k).map sC)), .d (.s query), .d (.sl .any ((markRs mtOf change (sIt k cols.length)).map rC))], .d (.i .i64 k)] = some (.d (.i .i64 (rAt change (sIt k cols.length) change.length)), []) := by
  have hn := b.ncol
  have hr := b.nrel
  have hb := b.rel
  simp only at hn hr hb
  have hs := sIt_in cols.length k h0 (by omega)
  have hcc : ∀ r ∈ change, cellsC r.bag.rows ≤ 400 * (3 * 12 + 1) := fun r hr => by
    have := cellsC_le (hb r hr).2
    exact Nat.le_trans this (Nat.mul_le_mul_right _ (hb r hr).1)
  have hcr := cellsR_le hcc
  have hcr2 : change.length * (400 * (3 * 12 + 1) + 2) ≤ 256 * (400 * (3 * 12 + 1) + 2) := Nat.mul_le_mul_right _ hr
  have hin : sIt k cols.length + cellsR change ≤ 9223372036854775807 := by omega
  have e1 := ev_heldStringS (markSs mtOf cols k) k (by rw [markSs_len]; omega) (markSs_mkd mtOf cols k)
  rw [markSs_len] at e1
  have e2 := ev_heldRelS (markRs mtOf change (sIt k cols.length)) (sIt k cols.length) (by rw [markRs_len]; omega) (fun r hr' => by
    obtain ⟨i, hi, rfl⟩ := List.mem_iff_getElem.1 hr'
    have hi' : i < change.length := by rwa [markRs_len] at hi
    obtain ⟨k', hk⟩ := markRs_rows mtOf change (sIt k cols.length) i hi' hi
    obtain ⟨g1, g2⟩ := hb _ (List.getElem_mem hi')
    rw [hk]
    refine ⟨by rw [markCs_len]; omega, fun c hc => ?_⟩
    obtain ⟨j, hj, rfl⟩ := List.mem_iff_getElem.1 hc
    have hj' : j < change[i].bag.rows.length := by rwa [markCs_len] at hj
    rw [markCs_row mtOf _ _ j hj' hj]
    have := g2 _ (List.getElem_mem hj')
    omega) (markRs_mkd mtOf change _ (by omega) hin)
  rw [rAt_mark, markRs_len] at e2
  have hra := rAt_in change (sIt k cols.length) (by omega) hin
  have c1 : decide (sIt k cols.length < 0) = false := decide_eq_false (by omega)
  have c2 : decide (rAt change (sIt k cols.length) change.length < 0) = false := decide_eq_false (by omega)
  clear hn hr hb hs hcc hcr hcr2 hin hra b h0 h1
  generalize sIt k cols.length = K at *
  generalize rAt change K change.length = K2 at *
  (refine (evF_codeZ (C := cfg) (g := 10) (fn := Tryz.f10) rfl Tryz.func10 rfl (by rw [Tryz.ntmps10]; simp) (by kernel_rfl)).trans ?_; rw [Tryz.results10, Tryz.ntmps10])
  repeat' (first | with_reducible refine br_split (fun _ => ?_) (fun _ => ?_) | simp only [*, push_cast, Array.reduceGetElem?, Nat.reduceBEq, Nat.reduceLT, Nat.reduceAdd, Nat.reduceSub, Nat.reduceLeDiff, Nat.reduceMul, Nat.reduceEqDiff, reduceCtorEq, Int.reduceAdd, Int.reduceLT, Int.reduceLE, Int.reduceToNat, Int.reduceNeg, Int.reduceSub, Int.reduceBEq, Int.reduceBNe, Int.reduceNe, Int.reduceGT, Int.reduceGE, Nat.reduceGT] | (rw [drawC_ok]; rotate_left; decide +kernel; exact cfg_mixed))
end Go.Av
end
section
namespace Go.Av
open Go.Proofs Go.RowKit
attribute [local instance] noKn
@[push_cast] theorem pre_sC (n : Nat) (l : List ByteArray) : preEs n (l.map sC) = l.map sC := by
  induction l with
  | nil => rfl
  | cons x l ih => simp only [List.map_cons, preEs, ih]; rfl
theorem plain_markStep : Plainly cfg.P 9 := ⟨_, Tryz.func9, rfl, by kernel_rfl⟩
theorem law_GetStep1 {w : World} {l : List UInt8} {vs : Array Value} (hl : 1 = vs.size) (hrv : ∀ i (hi : i < 1) (hj : i < vs.size), RV Tryz.prog w (inHeap w) noPl ([TV.d (.s (bs l))][i]) vs[i])
    (hlen : l.length ≤ 1048576) {kind : Int} {name : ByteArray} {cols : List ByteArray} {query : ByteArray} {change : List R} {ok : Bool} (b : StB ⟨kind, name, cols, query, change⟩)
    (hsp : evF cfg 6 [] [.d (.s (bs l))] = some (.tup [.agg [.d (.i .i64 kind), .d (.s name), .d (.sl .any (cols.map sC)), .d (.s query), .d (.sl .any (change.map rC))], .d (.b ok)], []))
    (him : evF cfg 7 [] [.d (.s (bs l))] = some (.tup [.agg [.d (.i .i64 kind), .d (.s name), .d (.sl (.tok [0, 0, 2]) (cols.map sC)), .d (.s query), .d (.sl (.tok [0, 0, 4]) (cnEs [0, 0, 4] 0 (change.map rC)))], .d (.b ok)], [])) :
    Calls Tryz.prog 3 vs w fun e w' => e = .returned (.bool true) ∧ Go.RowKit.Below w.heap.size w w' := by
  refine law_true (fn := Tryz.f3) (args := [TV.d (.s (bs l))]) (t := 2) Tryz.func3 rfl (by rw [Tryz.ntmps3]; simp) Tryz.results3 (fun b o v h => h.elim) hl hrv (by simp [okL, TV.ok]) ?_
  rw [Tryz.ntmps3]
  intro Q hQ
  simp only [initL, argT]
  have HQ := Hd.mk hQ
  clear hQ
  have hz := bs_size l
  have c1 : decide ((l.length : Int) > 1048576) = false := decide_eq_false (by omega)
  have heq := ev_eqStep kind name cols query change kind name cols query change b.lim
  have hd1 : decide ((⟨kind, name, cols, query, change⟩ : Sp) = ⟨kind, name, cols, query, change⟩) = true := decide_eq_true rfl
  have hd2 : decide (kind = kind) = true := decide_eq_true rfl
  have hok : (ok != ok) = false := bne_self_eq_false _
  have hhe := ev_heldStep kind name cols query change 1 b (by omega) (by omega)
  have hmk := mcall_Step txtOk [0, 0, 0] (cols := cols) (change := change) (by have := b.ncol; simp only at this; omega) (by have := b.nrel; simp only at this; omega) (fun r hr => by
    have := b.rel r hr
    exact ⟨by omega, fun c hc => by have := this.2 c hc; omega⟩) kind name query 1
  have hK2 : 0 ≤ rAt change (sIt 1 cols.length) change.length := by
    have hn := b.ncol
    have hr := b.nrel
    have hb := b.rel
    simp only at hn hr hb
    have hs := sIt_in cols.length 1 (by omega) (by omega)
    have hcc : ∀ r ∈ change, cellsC r.bag.rows ≤ 400 * (3 * 12 + 1) := fun r hr => by
      have := cellsC_le (hb r hr).2
      exact Nat.le_trans this (Nat.mul_le_mul_right _ (hb r hr).1)
    have hcr := cellsR_le hcc
    have hcr2 : change.length * (400 * (3 * 12 + 1) + 2) ≤ 256 * (400 * (3 * 12 + 1) + 2) := Nat.mul_le_mul_right _ hr
    rw [rAt_in change _ (by omega) (by omega)]
    omega
  generalize hK : rAt change (sIt 1 cols.length) change.length = K at *
  have hkk : decide (K < 0) = false := decide_eq_false (by omega)
  have hkn : (K != K) = false := bne_self_eq_false _
  have er1 := er_ageR' change
  have er2 := er_ageS cols
  clear hrv hl hlen b hK2 hK
  iterate 3
    apply Wp.seq (C := cfg) (g := 3) cfg_hE cfg_hO
    · repeat' (first | with_reducible refine br_split (fun _ => ?_) (fun _ => ?_) | simp only [*, push_cast, Array.reduceGetElem?, Nat.reduceBEq, Nat.reduceLT, Nat.reduceAdd, Nat.reduceSub, Nat.reduceLeDiff, Nat.reduceMul, Nat.reduceEqDiff, reduceCtorEq, Int.reduceAdd, Int.reduceLT, Int.reduceLE, Int.reduceToNat, Int.reduceNeg, Int.reduceSub, Int.reduceBEq, Int.reduceBNe, Int.reduceNe, Int.reduceGT, Int.reduceGE, Nat.reduceGT] | (rw [drawC_ok]; rotate_left; decide +kernel; exact cfg_mixed))
      rfl
  apply Wp.age (n := 0) rfl rfl
  simp only [ageSt, ageT, ageO, ageTV, ageL, T.ann]
  iterate 3
    apply Wp.seq (C := cfg) (g := 3) cfg_hE cfg_hO
    · repeat' (first | with_reducible refine br_split (fun _ => ?_) (fun _ => ?_) | simp only [*, push_cast, Array.reduceGetElem?, Nat.reduceBEq, Nat.reduceLT, Nat.reduceAdd, Nat.reduceSub, Nat.reduceLeDiff, Nat.reduceMul, Nat.reduceEqDiff, reduceCtorEq, Int.reduceAdd, Int.reduceLT, Int.reduceLE, Int.reduceToNat, Int.reduceNeg, Int.reduceSub, Int.reduceBEq, Int.reduceBNe, Int.reduceNe, Int.reduceGT, Int.reduceGE, Nat.reduceGT] | (rw [drawC_ok]; rotate_left; decide +kernel; exact cfg_mixed))
      rfl
  simp only [List.cons_append, List.nil_append, cn_sC] at hmk
  apply Wp.mark4M (C := cfg) (n := (2, true)) (p := [0, 0, 0]) (Rt := stepR [0, 0, 0] cols change 1) (f := 9) (k := K)
    (args := [.agg [.d (.i .i64 kind), .d (.s name), .d (.sl (.tok [0, 0, 0, 2]) (cols.map sC)), .d (.s query), .d (.sl (.tok [0, 0, 0, 4]) (cnEs [0, 0, 0, 4] 0 (change.map rC)))], .d (.i .i64 1)])
    (tm := [(6, .d (.b ok)), (5, .ptr 105 0), (4, .d (.b ok)), (3, .ptr 103 0), (2, .d (.b false)), (0, .d (.s (bs l)))])
    (ob := [(105, .box [.d (.i .i64 kind), .d (.s name), .d (.sl (.tok [0, 0, 0, 2]) ((markSs mtOf cols 1).map sC)), .d (.s query), .d (.sl (.tok [0, 0, 0, 4]) (cnEs [0, 0, 0, 4] 0 ((markRs mtOf change (sIt 1 cols.length)).map rC)))]), (103, .box [.d (.i .i64 kind), .d (.s name), .d (.sl (.tok []) (annEs (.tok []) (cols.map sC))), .d (.s query), .d (.sl (.tok []) (annEs (.tok []) (change.map rC)))])]) cfg_hE cfg_hO (fun _ _ _ h => h)
  case e1 => repeat' (first | with_reducible refine br_split (fun _ => ?_) (fun _ => ?_) | simp only [*, push_cast, Array.reduceGetElem?, Nat.reduceBEq, Nat.reduceLT, Nat.reduceAdd, Nat.reduceSub, Nat.reduceLeDiff, Nat.reduceMul, Nat.reduceEqDiff, reduceCtorEq, Int.reduceAdd, Int.reduceLT, Int.reduceLE, Int.reduceToNat, Int.reduceNeg, Int.reduceSub, Int.reduceBEq, Int.reduceBNe, Int.reduceNe, Int.reduceGT, Int.reduceGE, Nat.reduceGT] | (rw [drawC_ok]; rotate_left; decide +kernel; exact cfg_mixed)); rfl
  case hg => rfl
  case hp => simp
  case hgd => rfl
  case ho => rfl
  case hf => rfl
  case hpl => exact plain_markStep
  case hargs => rfl
  case hc => exact hmk
  case h1 => exact .cons rfl (.leaf rfl) (.cons rfl .ptr (.cons rfl (.leaf rfl) (.cons rfl .ptr (.cons rfl (.leaf rfl) (.cons rfl (.leaf rfl) .nil)))))
  case h2 => exact .cons rfl (.cons (.leaf rfl) (.cons (.leaf rfl) (.cons (.root (.inl ⟨by simp only [List.cons_append, List.nil_append, cn_sC], by simp only [List.cons_append, List.nil_append, cn_sC]⟩)) (.cons (.leaf rfl) (.cons (.root (.inr ⟨rfl, rfl⟩)) .nil))))) (.cons rfl (.cons (.leaf rfl) (.cons (.leaf rfl) (.cons (.keep (SafeT.age _)) (.cons (.leaf rfl) (.cons (.keep (SafeT.age _)) .nil))))) .nil)
  case hput => rfl
  case e2 => repeat' (first | with_reducible refine br_split (fun _ => ?_) (fun _ => ?_) | simp only [*, push_cast, Array.reduceGetElem?, Nat.reduceBEq, Nat.reduceLT, Nat.reduceAdd, Nat.reduceSub, Nat.reduceLeDiff, Nat.reduceMul, Nat.reduceEqDiff, reduceCtorEq, Int.reduceAdd, Int.reduceLT, Int.reduceLE, Int.reduceToNat, Int.reduceNeg, Int.reduceSub, Int.reduceBEq, Int.reduceBNe, Int.reduceNe, Int.reduceGT, Int.reduceGE, Nat.reduceGT] | (rw [drawC_ok]; rotate_left; decide +kernel; exact cfg_mixed)); rfl
  apply Wp.last (C := cfg) (g := 3) cfg_hE cfg_hO
  · repeat' (first | with_reducible refine br_split (fun _ => ?_) (fun _ => ?_) | simp only [*, push_cast, Array.reduceGetElem?, Nat.reduceBEq, Nat.reduceLT, Nat.reduceAdd, Nat.reduceSub, Nat.reduceLeDiff, Nat.reduceMul, Nat.reduceEqDiff, reduceCtorEq, Int.reduceAdd, Int.reduceLT, Int.reduceLE, Int.reduceToNat, Int.reduceNeg, Int.reduceSub, Int.reduceBEq, Int.reduceBNe, Int.reduceNe, Int.reduceGT, Int.reduceGE, Nat.reduceGT] | (rw [drawC_ok]; rotate_left; decide +kernel; exact cfg_mixed))
    rfl
  · exact HQ.out _ rfl
end Go.Av
end
section
namespace Go.Av
open Go.Proofs Go.RowKit
attribute [local instance] noKn
theorem OkS.stb {x : Sp} (h : OkS x) (hl : (psL x).length ≤ 1048576) : StB x := by
  have hsz := szSp_enc h
  simp only [szSp] at hsz
  obtain ⟨c1, c2⟩ := szSs_mem (l := x.cols) (n := 1048576) (by omega)
  obtain ⟨d1, d2⟩ := szRs_mem (l := x.change) (n := 1048576) (by omega)
  refine ⟨by have := h.ncol; omega, by have := h.nrel; omega, fun r hr => ?_, ?_⟩
  · obtain ⟨e1, e2⟩ := bagOk_len (h.rels r hr).2.1.ok
    exact ⟨e1, fun c hc => (e2 c hc).1⟩
  · simp only [spC, limCs, T.lim, limEs_map, List.length_map]
    refine ⟨trivial, by omega, ⟨by omega, fun c hc => ?_⟩, by omega, ⟨by omega, fun r hr => ?_⟩, trivial⟩
    · have := c2 c hc
      simp only [sC, limCs, T.lim]
      exact ⟨by omega, trivial⟩
    · have hr2 := d2 r hr
      simp only [szR, Go.Av.szB] at hr2
      obtain ⟨e1, e2⟩ := szCs_mem (l := r.bag.rows) (n := 1048576) (by omega)
      simp only [rC, limCs, T.lim, limEs_map, List.length_map]
      refine ⟨by omega, trivial, ⟨by omega, fun c hc => ?_⟩, trivial⟩
      have hc2 := e2 c hc
      simp only [szC] at hc2
      obtain ⟨f1, f2⟩ := szVs_mem (l := c.row) (n := 1048576) (by omega)
      simp only [cC, limCs, T.lim, limEs_map, List.length_map]
      refine ⟨⟨by omega, fun v hv => ?_⟩, trivial, trivial⟩
      have := f2 v hv
      simp only [szV] at this
      simp only [vC, limCs, T.lim]
      exact ⟨trivial, trivial, by omega, trivial⟩
theorem law_GetStep {w : World} {l : List UInt8} {vs : Array Value} (hl : 1 = vs.size) (hrv : ∀ i (hi : i < 1) (hj : i < vs.size), RV Tryz.prog w (inHeap w) noPl ([TV.d (.s (bs l))][i]) vs[i]) :
    Calls Tryz.prog 3 vs w fun e w' => e = .returned (.bool true) ∧ Go.RowKit.Below w.heap.size w w' := by
  by_cases hlen : l.length ≤ 1048576
  · by_cases hx : ∃ x, OkS x ∧ l = psL x
    · obtain ⟨⟨kind, name, cols, query, change⟩, hS, rfl⟩ := hx
      exact law_GetStep1 hl hrv hlen (hS.stb hlen) (ev_sGetStep_yes kind name cols query change hS hlen) (ev_GetStep_yes kind name cols query change hS hlen)
    · have hno : ∀ x, OkS x → l ≠ psL x := fun x h1 h2 => hx ⟨x, h1, h2⟩
      refine law_GetStep1 (kind := 0) (name := ⟨#[]⟩) (cols := []) (query := ⟨#[]⟩) (change := []) (ok := false) hl hrv hlen ⟨by simp, by simp, fun r hr => (nomatch hr), ?_⟩ (ev_sGetStep_no l hlen hno) (ev_GetStep_no l hlen hno)
      simp [spC, limCs, T.lim, limEs, size_nil]
  · refine law_true (fn := Tryz.f3) (args := [TV.d (.s (bs l))]) (t := 2) Tryz.func3 rfl (by rw [Tryz.ntmps3]; simp) Tryz.results3 (fun b o v h => h.elim) hl hrv (by simp [okL, TV.ok]) ?_
    rw [Tryz.ntmps3]
    intro Q hQ
    simp only [initL, argT]
    have HQ := Hd.mk hQ
    clear hQ
    have hz := bs_size l
    have c1 : decide ((l.length : Int) > 1048576) = true := decide_eq_true (by omega)
    clear hlen hrv hl
    apply Wp.last (C := cfg) (g := 3) cfg_hE cfg_hO
    · repeat' (first | with_reducible refine br_split (fun _ => ?_) (fun _ => ?_) | simp only [*, push_cast, Array.reduceGetElem?, Nat.reduceBEq, Nat.reduceLT, Nat.reduceAdd, Nat.reduceSub, Nat.reduceLeDiff, Nat.reduceMul, Nat.reduceEqDiff, reduceCtorEq, Int.reduceAdd, Int.reduceLT, Int.reduceLE, Int.reduceToNat, Int.reduceNeg, Int.reduceSub, Int.reduceBEq, Int.reduceBNe, Int.reduceNe, Int.reduceGT, Int.reduceGE, Nat.reduceGT] | (rw [drawC_ok]; rotate_left; decide +kernel; exact cfg_mixed))
      rfl
    · exact HQ.out _ rfl
end Go.Av
end
section
namespace Go.Av
open Go.Proofs
theorem law_FnExactGetStep {w : World} (s : ByteArray) :
    Calls Tryz.prog 3 #[.string s] w fun e w' => e = .returned (.bool true) ∧ Go.RowKit.Below w.heap.size w w' := by
  letI := noKn
  refine law_GetStep (l := bl s) rfl ?_
  rw [bs_bl]
  intro i h1 h2
  match i, h1 with
  | 0, _ => exact .d (.s _)
end Go.Av
namespace Go.Proofs.YtnbdlncbfjkpcaaGreat.fnExactGetStep
open Go.ChangeShapes Go.WideShapes Go.ChangeAt Go.RowKit
open Go.ChangeMaps (open_string shut_string)
theorem own : ownKnob Tryz.prog.godebug = none := by kernel_rfl
set_option maxRecDepth 100000 in
theorem lifted (os : Os) (started : os.Started) (H : Type) (enc : TypeId × Value → H) :
    ReturnsInHanded {} Tryz.checked os 3 .any (Rows.fnExactGetStepSpec.pre6 enc Tryz.prog Tryz.f3 Rows.fnExactGetStepRow.domain false) (Rows.fnExactGetStepSpec.post enc Tryz.prog Tryz.f3 false true false false) := by
  refine returnsInHanded_of_change_sized (C := Tryz.checked) own started (by kernel_rfl) Tryz.func3
    (ChangeSpec.witness6 (enc := enc) (C := Tryz.checked) false ⟨#[], #[.string ⟨#[]⟩], []⟩ 8 (by kernel_rfl) (by kernel_rfl) (by kernel_rfl) (by kernel_rfl)) ?_
  intro W base args ds gs before hval0 hW hcnd hsz0 _
  have hsz : (DataW.weightsEach Tryz.prog (Tryz.f3.params.toList ++ Rows.fnExactGetStepSpec.plain.varTypes Tryz.prog) (ds ++ gs)).all (· ≤ reachBytes) = true := hsz0
  have hval : ∀ (j : Nat) t v, Tryz.f3.params[j]? = some t → args[j]? = some v → Value.okWide Tryz.prog W .any base t v := hval0
  have hW' := hW
  obtain ⟨p, q, hA0, hV, rfl, hfz, hnd⟩ := hW
  have hA : DataW.TrodAll enc Tryz.prog W 0 (fun _ => true) true Tryz.f3.params.toList args.toList ds p := hA0
  rw [Tryz.params3] at hA hval hsz
  have hA1 := hA
  obtain ⟨v0, vs0, d0, ds0, p0, q0, hargs, rfl, rfl, h0, r0⟩ := trodAll_cons hA
  obtain ⟨rfl, rfl, rfl⟩ := trodAll_nil r0
  obtain rfl : args = #[v0] := by cases args; simp_all
  obtain ⟨rfl, rfl⟩ := trodVars_none hV
  obtain ⟨st, rfl, _, _, _⟩ := open_string Tryz.underlying9 (hval 0 9 v0 rfl rfl) h0
  clear hA0 hval0 hsz0 hsz
  refine (Go.Av.law_FnExactGetStep st).mono fun e W' ⟨he, bel⟩ => ?_
  subst he
  exact ⟨_, rfl, _, _, _, [], _, [], hW', trodAll_mk1 (shut_bool Tryz.underlying4 _), Go.Av.trodAll_stays (by kernel_rfl) bel (by
    intro t ht
    obtain rfl : t = 9 := by simpa using ht
    exact ⟨by kernel_rfl, by decide⟩) hA1, rfl, bel.frame _, fun h => by cases h⟩
theorem over : Rows.fnExactGetStepRow.holds Tryz.pinned (OpenSpec.ofChange Rows.fnExactGetStepSpec) :=
  OpenClaim.holds_of_wide 3 Tryz.f3 rfl rfl rfl rfl rfl rfl rfl ⟨rfl, rfl, rfl, rfl, rfl⟩ rfl rfl rfl rfl rfl (by kernel_rfl) Tryz.func3 (by kernel_rfl)
    (of_decide_eq_true (by kernel_rfl)) (by unfold Func.isWrapper; first | (rw [if_pos (by decide +kernel)]; kernel_rfl) | (rw [if_neg (by decide +kernel)]; exact ⟨rfl, rfl⟩))
    (fun os started H enc _ => lifted os started H enc)
end Go.Proofs.YtnbdlncbfjkpcaaGreat.fnExactGetStep
namespace Go.Proofs.YtnbdlncbfjkpcaaGreat
theorem fnExactGetStep_holds : Rows.FnExactGetStepSaid := fnExactGetStep.over
#print axioms fnExactGetStep_holds
end Go.Proofs.YtnbdlncbfjkpcaaGreat
end
