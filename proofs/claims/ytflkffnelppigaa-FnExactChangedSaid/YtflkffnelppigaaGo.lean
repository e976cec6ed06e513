/- What functions of this seat give. -/
import Derived.Test.YtflkffnelppigaaGk
import Derived.Test.YtflkffnelppigaaAvCfg
import Derived.Test.YtflkffnelppigaaGn
import Derived.Test.YtflkffnelppigaaGe
set_option linter.all false
set_option linter.unusedVariables false
set_option linter.unusedSimpArgs false

section
namespace Go.Av
open Go.Proofs
set_option linter.unusedSimpArgs false
theorem norm_small {a b : List C} (ha : Canon a) (hb : Full b) (hl : a.length + b.length ≤ 1048576) (h1 : ∀ c ∈ a, c.row.length ≤ 1048576) (h2 : ∀ c ∈ b, c.row.length ≤ 1048576) : (norm (a ++ b)).length ≤ 1048576 ∧ ∀ c ∈ norm (a ++ b), c.row.length ≤ 1048576 := by
  have := sumR_all (a := a) (b := b) (n := 1) (i := b.length) (k := a.length) ha.1 (Nat.le_refl _) h1 h2
  rw [List.take_length, sumR_one ha hb] at this
  exact ⟨by omega, this.2.2⟩
theorem ev_sAddBag (wa wb : Int) (ra rb : List C) (hl : ra.length + rb.length ≤ 1048576) (h1 : ∀ c ∈ ra, c.row.length ≤ 1048576) (h2 : ∀ c ∈ rb, c.row.length ≤ 1048576) :
    evF cfg 22 [] [.agg [.d (.i .i64 wa), .d (.sl .any (ra.map cC))], .agg [.d (.i .i64 wb), .d (.sl .any (rb.map cC))]] = some (.agg [.d (.i .i64 wa), .d (.sl .any ((addBag ⟨wa, ra⟩ ⟨wb, rb⟩).rows.map cC))], []) := by
  have ha := ev_sBagOk wa ra (by omega) (fun c hc => by have := h1 c hc; omega)
  have hb := ev_sBagOk wb rb (by omega) (fun c hc => by have := h2 c hc; omega)
  have hc := ev_l02Copy wa ra (by omega) h1
  cases hA : bagOk ⟨wa, ra⟩ with
  | false =>
    have hq : (addBag ⟨wa, ra⟩ ⟨wb, rb⟩).rows = ra := by simp [addBag, hA]
    rw [hq]
    clear hq h1 h2 hl
    (refine (evF_code (C := cfg) (g := 22) (fn := Try.f22) rfl Try.func22 rfl (by rw [Try.ntmps22]; simp) (by kernel_rfl) (by first | decide | simp [keysOf])).trans ?_; rw [Try.results22, Try.ntmps22])
    repeat' (first | with_reducible refine br_split (fun _ => ?_) (fun _ => ?_) | simp only [*, push_cast, Array.reduceGetElem?, Nat.reduceBEq, Nat.reduceLT, Nat.reduceAdd, Nat.reduceSub, Nat.reduceLeDiff, Nat.reduceMul, Nat.reduceEqDiff, reduceCtorEq, Int.reduceAdd, Int.reduceLT, Int.reduceLE, Int.reduceToNat, Int.reduceNeg, Int.reduceSub, Int.reduceBEq, Int.reduceBNe, Int.reduceNe, Int.reduceGT, Int.reduceGE, Nat.reduceGT] | (rw [drawC_ok]; rotate_left; decide +kernel; exact cfg_mixed))
  | true =>
    cases hB : bagOk ⟨wb, rb⟩ with
    | false =>
      have hq : (addBag ⟨wa, ra⟩ ⟨wb, rb⟩).rows = ra := by simp [addBag, hB]
      rw [hq]
      clear hq h1 h2 hl
      (refine (evF_code (C := cfg) (g := 22) (fn := Try.f22) rfl Try.func22 rfl (by rw [Try.ntmps22]; simp) (by kernel_rfl) (by first | decide | simp [keysOf])).trans ?_; rw [Try.results22, Try.ntmps22])
      repeat' (first | with_reducible refine br_split (fun _ => ?_) (fun _ => ?_) | simp only [*, push_cast, Array.reduceGetElem?, Nat.reduceBEq, Nat.reduceLT, Nat.reduceAdd, Nat.reduceSub, Nat.reduceLeDiff, Nat.reduceMul, Nat.reduceEqDiff, reduceCtorEq, Int.reduceAdd, Int.reduceLT, Int.reduceLE, Int.reduceToNat, Int.reduceNeg, Int.reduceSub, Int.reduceBEq, Int.reduceBNe, Int.reduceNe, Int.reduceGT, Int.reduceGE, Nat.reduceGT] | (rw [drawC_ok]; rotate_left; decide +kernel; exact cfg_mixed))
    | true =>
      cases hw : (wa != wb) with
      | true =>
        have hne : wa ≠ wb := by simpa using hw
        have hq : (addBag ⟨wa, ra⟩ ⟨wb, rb⟩).rows = ra := by simp [addBag, hne]
        rw [hq]
        clear hq h1 h2 hl hne
        (refine (evF_code (C := cfg) (g := 22) (fn := Try.f22) rfl Try.func22 rfl (by rw [Try.ntmps22]; simp) (by kernel_rfl) (by first | decide | simp [keysOf])).trans ?_; rw [Try.results22, Try.ntmps22])
        repeat' (first | with_reducible refine br_split (fun _ => ?_) (fun _ => ?_) | simp only [*, push_cast, Array.reduceGetElem?, Nat.reduceBEq, Nat.reduceLT, Nat.reduceAdd, Nat.reduceSub, Nat.reduceLeDiff, Nat.reduceMul, Nat.reduceEqDiff, reduceCtorEq, Int.reduceAdd, Int.reduceLT, Int.reduceLE, Int.reduceToNat, Int.reduceNeg, Int.reduceSub, Int.reduceBEq, Int.reduceBNe, Int.reduceNe, Int.reduceGT, Int.reduceGE, Nat.reduceGT] | (rw [drawC_ok]; rotate_left; decide +kernel; exact cfg_mixed))
      | false =>
        have hwe : wa = wb := by simpa using hw
        have hs := ev_l02Sum wa wb 1 ra rb hl h1 h2 (bagOk_asc hA)
        rw [sumR_one (bagOk_canon hA) (bagOk_full hB)] at hs
        obtain ⟨n1, n2⟩ := norm_small (a := ra) (b := rb) (bagOk_canon hA) (bagOk_full hB) hl h1 h2
        have ho := ev_sBagOk wa (norm (ra ++ rb)) (by omega) (fun c hc => by have := n2 c hc; omega)
        cases hO : bagOk ⟨wa, norm (ra ++ rb)⟩ with
        | true =>
          have hq : (addBag ⟨wa, ra⟩ ⟨wb, rb⟩).rows = norm (ra ++ rb) := by subst hwe; simp [addBag, hA, hB, hO]
          rw [hq]
          clear hq h1 h2 hl hwe n1 n2
          (refine (evF_code (C := cfg) (g := 22) (fn := Try.f22) rfl Try.func22 rfl (by rw [Try.ntmps22]; simp) (by kernel_rfl) (by first | decide | simp [keysOf])).trans ?_; rw [Try.results22, Try.ntmps22])
          repeat' (first | with_reducible refine br_split (fun _ => ?_) (fun _ => ?_) | simp only [*, push_cast, Array.reduceGetElem?, Nat.reduceBEq, Nat.reduceLT, Nat.reduceAdd, Nat.reduceSub, Nat.reduceLeDiff, Nat.reduceMul, Nat.reduceEqDiff, reduceCtorEq, Int.reduceAdd, Int.reduceLT, Int.reduceLE, Int.reduceToNat, Int.reduceNeg, Int.reduceSub, Int.reduceBEq, Int.reduceBNe, Int.reduceNe, Int.reduceGT, Int.reduceGE, Nat.reduceGT] | (rw [drawC_ok]; rotate_left; decide +kernel; exact cfg_mixed))
        | false =>
          have hq : (addBag ⟨wa, ra⟩ ⟨wb, rb⟩).rows = ra := by subst hwe; simp [addBag, hA, hB, hO]
          rw [hq]
          clear hq h1 h2 hl hwe n1 n2
          (refine (evF_code (C := cfg) (g := 22) (fn := Try.f22) rfl Try.func22 rfl (by rw [Try.ntmps22]; simp) (by kernel_rfl) (by first | decide | simp [keysOf])).trans ?_; rw [Try.results22, Try.ntmps22])
          repeat' (first | with_reducible refine br_split (fun _ => ?_) (fun _ => ?_) | simp only [*, push_cast, Array.reduceGetElem?, Nat.reduceBEq, Nat.reduceLT, Nat.reduceAdd, Nat.reduceSub, Nat.reduceLeDiff, Nat.reduceMul, Nat.reduceEqDiff, reduceCtorEq, Int.reduceAdd, Int.reduceLT, Int.reduceLE, Int.reduceToNat, Int.reduceNeg, Int.reduceSub, Int.reduceBEq, Int.reduceBNe, Int.reduceNe, Int.reduceGT, Int.reduceGE, Nat.reduceGT] | (rw [drawC_ok]; rotate_left; decide +kernel; exact cfg_mixed))
end Go.Av
end

section
namespace Go.Av
open Go.Proofs
set_option linter.unusedSimpArgs false
theorem ev_sum (wa wb : Int) (ra rb : List C) (hl : ra.length + rb.length ≤ 1048576) (hs : Short (ra ++ rb)) (hw : ∀ c ∈ ra ++ rb, w64 c.n = c.n) :
    evF cfg 61 [] [.agg [.d (.i .i64 wa), .d (.sl .any (ra.map cC))], .agg [.d (.i .i64 wb), .d (.sl .any (rb.map cC))]] = some (.agg [.d (.i .i64 wa), .d (.sl (.tok [0, 1]) (cnEs [0, 1] 0 ((norm (ra ++ rb)).map cC)))], []) := by
  have hc := ev_Concat ra rb (by omega) (by omega)
  have hg := ev_gathered_norm wa (ra ++ rb) (by simpa using hl) hs hw
  have hcan : canOk (.agg [.d (.i .i64 wa), .d (.sl (.tok [1, 0, 1]) (cnEs [1, 0, 1] 0 ((norm (ra ++ rb)).map cC)))]) [] := canOk_one _ [1, 0, 1] (.sl .any ((norm (ra ++ rb)).map cC)) (by simp [tkTV, tkL, tkT, T.cn]) rfl
  clear hl hs hw
  (refine (evF_codeZ (C := cfg) (g := 61) (fn := Try.f61) rfl Try.func61 rfl (by rw [Try.ntmps61]; simp) (by kernel_rfl)).trans ?_; rw [Try.results61, Try.ntmps61])
  repeat' (first | with_reducible refine br_split (fun _ => ?_) (fun _ => ?_) | simp only [*, push_cast, Array.reduceGetElem?, Nat.reduceBEq, Nat.reduceLT, Nat.reduceAdd, Nat.reduceSub, Nat.reduceLeDiff, Nat.reduceMul, Nat.reduceEqDiff, reduceCtorEq, Int.reduceAdd, Int.reduceLT, Int.reduceLE, Int.reduceToNat, Int.reduceNeg, Int.reduceSub, Int.reduceBEq, Int.reduceBNe, Int.reduceNe, Int.reduceGT, Int.reduceGE, Nat.reduceGT] | (rw [drawC_ok]; rotate_left; decide +kernel; exact cfg_mixed))
theorem ev_AddBag (wa wb : Int) (ra rb : List C) (hl : ra.length + rb.length ≤ 1048576) (h1 : ∀ c ∈ ra, c.row.length ≤ 1048576) (h2 : ∀ c ∈ rb, c.row.length ≤ 1048576) :
    evF cfg 23 [] [.agg [.d (.i .i64 wa), .d (.sl .any (ra.map cC))], .agg [.d (.i .i64 wb), .d (.sl .any (rb.map cC))]] = some (.agg [.d (.i .i64 wa), .d (.sl (.tok [0, 1]) (cnEs [0, 1] 0 ((addBag ⟨wa, ra⟩ ⟨wb, rb⟩).rows.map cC)))], []) := by
  have ha := ev_BagOk wa ra (by omega) (fun c hc => by have := h1 c hc; omega)
  have hb := ev_BagOk wb rb (by omega) (fun c hc => by have := h2 c hc; omega)
  have hc := ev_own wa ra (by omega) h1
  have hcan := canOk_fz (.agg [.d (.i .i64 wa), .d (.sl (.tok [1]) (cnEs [0, 1, 40] 0 (ra.map cC)))]) [1] [0, 1, 40] (ra.map cC) (by simp [tkTV, tkL, tkT, annTok]) (by simp) rfl
  have hcan1 := canOk_fz (.agg [.d (.i .i64 wa), .d (.sl (.tok [2]) (cnEs [1, 1, 40] 0 (ra.map cC)))]) [2] [1, 1, 40] (ra.map cC) (by simp [tkTV, tkL, tkT, annTok]) (by simp) rfl
  cases hA : bagOk ⟨wa, ra⟩ with
  | false =>
    have hq : (addBag ⟨wa, ra⟩ ⟨wb, rb⟩).rows = ra := by simp [addBag, hA]
    rw [hq]
    clear hq h1 h2 hl
    (refine (evF_codeZ (C := cfg) (g := 23) (fn := Try.f23) rfl Try.func23 rfl (by rw [Try.ntmps23]; simp) (by kernel_rfl)).trans ?_; rw [Try.results23, Try.ntmps23])
    repeat' (first | with_reducible refine br_split (fun _ => ?_) (fun _ => ?_) | simp only [*, push_cast, Array.reduceGetElem?, Nat.reduceBEq, Nat.reduceLT, Nat.reduceAdd, Nat.reduceSub, Nat.reduceLeDiff, Nat.reduceMul, Nat.reduceEqDiff, reduceCtorEq, Int.reduceAdd, Int.reduceLT, Int.reduceLE, Int.reduceToNat, Int.reduceNeg, Int.reduceSub, Int.reduceBEq, Int.reduceBNe, Int.reduceNe, Int.reduceGT, Int.reduceGE, Nat.reduceGT] | (rw [drawC_ok]; rotate_left; decide +kernel; exact cfg_mixed))
  | true =>
    cases hB : bagOk ⟨wb, rb⟩ with
    | false =>
      have hq : (addBag ⟨wa, ra⟩ ⟨wb, rb⟩).rows = ra := by simp [addBag, hB]
      rw [hq]
      clear hq h1 h2 hl
      (refine (evF_codeZ (C := cfg) (g := 23) (fn := Try.f23) rfl Try.func23 rfl (by rw [Try.ntmps23]; simp) (by kernel_rfl)).trans ?_; rw [Try.results23, Try.ntmps23])
      repeat' (first | with_reducible refine br_split (fun _ => ?_) (fun _ => ?_) | simp only [*, push_cast, Array.reduceGetElem?, Nat.reduceBEq, Nat.reduceLT, Nat.reduceAdd, Nat.reduceSub, Nat.reduceLeDiff, Nat.reduceMul, Nat.reduceEqDiff, reduceCtorEq, Int.reduceAdd, Int.reduceLT, Int.reduceLE, Int.reduceToNat, Int.reduceNeg, Int.reduceSub, Int.reduceBEq, Int.reduceBNe, Int.reduceNe, Int.reduceGT, Int.reduceGE, Nat.reduceGT] | (rw [drawC_ok]; rotate_left; decide +kernel; exact cfg_mixed))
    | true =>
      cases hw : (wa != wb) with
      | true =>
        have hne : wa ≠ wb := by simpa using hw
        have hq : (addBag ⟨wa, ra⟩ ⟨wb, rb⟩).rows = ra := by simp [addBag, hne]
        rw [hq]
        clear hq h1 h2 hl hne
        (refine (evF_codeZ (C := cfg) (g := 23) (fn := Try.f23) rfl Try.func23 rfl (by rw [Try.ntmps23]; simp) (by kernel_rfl)).trans ?_; rw [Try.results23, Try.ntmps23])
        repeat' (first | with_reducible refine br_split (fun _ => ?_) (fun _ => ?_) | simp only [*, push_cast, Array.reduceGetElem?, Nat.reduceBEq, Nat.reduceLT, Nat.reduceAdd, Nat.reduceSub, Nat.reduceLeDiff, Nat.reduceMul, Nat.reduceEqDiff, reduceCtorEq, Int.reduceAdd, Int.reduceLT, Int.reduceLE, Int.reduceToNat, Int.reduceNeg, Int.reduceSub, Int.reduceBEq, Int.reduceBNe, Int.reduceNe, Int.reduceGT, Int.reduceGE, Nat.reduceGT] | (rw [drawC_ok]; rotate_left; decide +kernel; exact cfg_mixed))
      | false =>
        have hwe : wa = wb := by simpa using hw
        have hs := ev_sum wa wb ra rb hl (fun c hc => by
          rcases List.mem_append.1 hc with hc | hc
          · exact h1 c hc
          · exact h2 c hc) (fun c hc => by
          rcases List.mem_append.1 hc with hc | hc
          · exact (bagOk_full hA c hc).1
          · exact (bagOk_full hB c hc).1)
        obtain ⟨n1, n2⟩ := norm_small (a := ra) (b := rb) (bagOk_canon hA) (bagOk_full hB) hl h1 h2
        have ho := ev_BagOk wa (norm (ra ++ rb)) (by omega) (fun c hc => by have := n2 c hc; omega)
        cases hO : bagOk ⟨wa, norm (ra ++ rb)⟩ with
        | true =>
          have hq : (addBag ⟨wa, ra⟩ ⟨wb, rb⟩).rows = norm (ra ++ rb) := by subst hwe; simp [addBag, hA, hB, hO]
          rw [hq]
          have hcan2 : canOk (.agg [.d (.i .i64 wa), .d (.sl (.tok [0, 0, 1]) (cnEs [0, 0, 1] 0 ((norm (ra ++ rb)).map cC)))]) [] := canOk_one _ [0, 0, 1] (.sl .any ((norm (ra ++ rb)).map cC)) (by simp [tkTV, tkL, tkT, T.cn]) rfl
          clear hq h1 h2 hl hwe n1 n2
          (refine (evF_codeZ (C := cfg) (g := 23) (fn := Try.f23) rfl Try.func23 rfl (by rw [Try.ntmps23]; simp) (by kernel_rfl)).trans ?_; rw [Try.results23, Try.ntmps23])
          repeat' (first | with_reducible refine br_split (fun _ => ?_) (fun _ => ?_) | simp only [*, push_cast, Array.reduceGetElem?, Nat.reduceBEq, Nat.reduceLT, Nat.reduceAdd, Nat.reduceSub, Nat.reduceLeDiff, Nat.reduceMul, Nat.reduceEqDiff, reduceCtorEq, Int.reduceAdd, Int.reduceLT, Int.reduceLE, Int.reduceToNat, Int.reduceNeg, Int.reduceSub, Int.reduceBEq, Int.reduceBNe, Int.reduceNe, Int.reduceGT, Int.reduceGE, Nat.reduceGT] | (rw [drawC_ok]; rotate_left; decide +kernel; exact cfg_mixed))
        | false =>
          have hq : (addBag ⟨wa, ra⟩ ⟨wb, rb⟩).rows = ra := by subst hwe; simp [addBag, hA, hB, hO]
          rw [hq]
          clear hq h1 h2 hl hwe n1 n2
          (refine (evF_codeZ (C := cfg) (g := 23) (fn := Try.f23) rfl Try.func23 rfl (by rw [Try.ntmps23]; simp) (by kernel_rfl)).trans ?_; rw [Try.results23, Try.ntmps23])
          repeat' (first | with_reducible refine br_split (fun _ => ?_) (fun _ => ?_) | simp only [*, push_cast, Array.reduceGetElem?, Nat.reduceBEq, Nat.reduceLT, Nat.reduceAdd, Nat.reduceSub, Nat.reduceLeDiff, Nat.reduceMul, Nat.reduceEqDiff, reduceCtorEq, Int.reduceAdd, Int.reduceLT, Int.reduceLE, Int.reduceToNat, Int.reduceNeg, Int.reduceSub, Int.reduceBEq, Int.reduceBNe, Int.reduceNe, Int.reduceGT, Int.reduceGE, Nat.reduceGT] | (rw [drawC_ok]; rotate_left; decide +kernel; exact cfg_mixed))
end Go.Av
end

section
namespace Go.Av
open Go.Proofs Go.RowKit
set_option linter.unusedSimpArgs false
set_option linter.unusedVariables false
attribute [local instance] noKn

theorem foldl_putC_row : ∀ (l a : List C) (c : C), c ∈ l.foldl putC a → (∃ d ∈ a, d.row = c.row) ∨ ∃ d ∈ l, d.row = c.row
  | [], a, c, h => .inl ⟨c, h, rfl⟩
  | x :: l, a, c, h => by
    rcases foldl_putC_row l (putC a x) c h with ⟨d, hd, e⟩ | ⟨d, hd, e⟩
    · rcases putC_mem hd with hd | hd
      · exact .inl ⟨d, hd, e⟩
      · exact .inr ⟨x, List.mem_cons_self .., by rw [← hd, e]⟩
    · exact .inr ⟨d, List.mem_cons_of_mem _ hd, e⟩
theorem norm_row {l : List C} {c : C} (h : c ∈ norm l) : ∃ d ∈ l, d.row = c.row := by
  rcases foldl_putC_row l [] c h with ⟨d, hd, _⟩ | h
  · cases hd
  · exact h
theorem addBag_small {a b : B} (hl : a.rows.length + b.rows.length ≤ 1048576) (h1 : ∀ c ∈ a.rows, c.row.length ≤ 1048576) (h2 : ∀ c ∈ b.rows, c.row.length ≤ 1048576) : (addBag a b).rows.length ≤ 1048576 ∧ ∀ c ∈ (addBag a b).rows, c.row.length ≤ 1048576 := by
  unfold addBag
  split
  · rename_i h
    simp only [Bool.and_eq_true] at h
    split
    · exact norm_small (bagOk_canon h.1) (bagOk_full h.2.1) hl h1 h2
    · exact ⟨by omega, h1⟩
  · exact ⟨by omega, h1⟩
theorem addBag_lim {a b : B} (hl : a.rows.length + b.rows.length ≤ 1048576) (h1 : ∀ c ∈ a.rows, c.row.length ≤ 1048576) (h2 : ∀ c ∈ b.rows, c.row.length ≤ 1048576) (ha : limCs (bC a)) (hb : limCs (bC b)) : limCs (bC ⟨a.w, (addBag a b).rows⟩) := by
  have hs := addBag_small hl h1 h2
  simp only [bC, limCs, T.lim, limEs_map, List.length_map] at ha hb ⊢
  refine ⟨trivial, ⟨by omega, fun c hc => ?_⟩, trivial⟩
  have key : ∃ d, (d ∈ a.rows ∨ d ∈ b.rows) ∧ d.row = c.row := by
    unfold addBag at hc
    split at hc
    · split at hc
      · obtain ⟨d, hd, e⟩ := norm_row hc
        exact ⟨d, List.mem_append.1 hd, e⟩
      · exact ⟨c, .inl hc, rfl⟩
    · exact ⟨c, .inl hc, rfl⟩
  obtain ⟨d, hd, e⟩ := key
  have : limCs (cC d) := by
    rcases hd with hd | hd
    · exact ha.2.1.2 d hd
    · exact hb.2.1.2 d hd
  simp only [cC, limCs, T.lim] at this ⊢
  rw [← e]
  exact ⟨this.1, trivial, trivial⟩
theorem law_AddBag {w : World} {wa wb : Int} {ra rb : List C} {vs : Array Value} (hlimA : limCs (bC ⟨wa, ra⟩)) (hlimB : limCs (bC ⟨wb, rb⟩))
    (hl : 2 = vs.size) (hrv : ∀ i (hi : i < 2) (hj : i < vs.size), RV Try.prog w (inHeap w) noPl ([TV.agg [.d (.i .i64 wa), .d (.sl .any (ra.map cC))], TV.agg [.d (.i .i64 wb), .d (.sl .any (rb.map cC))]][i]) vs[i]) :
    Calls Try.prog 5 vs w fun e w' => e = .returned (.bool true) ∧ Go.RowKit.Below w.heap.size w w' := by
  refine law_true (fn := Try.f5) (args := [TV.agg [.d (.i .i64 wa), .d (.sl .any (ra.map cC))], TV.agg [.d (.i .i64 wb), .d (.sl .any (rb.map cC))]]) (t := 4) Try.func5 rfl (by rw [Try.ntmps5]; simp) Try.results5 (fun b o v h => h.elim) hl hrv (by simp [okL, TV.ok]) ?_
  rw [Try.ntmps5]
  intro Q hQ
  have hsz := ev_szBag wa ra 1048576 (by omega) (by omega) hlimA
  simp only [initL, argT]
  have HQ := Hd.mk hQ
  clear hQ
  by_cases hb : (1048576 : Int) - (szB ⟨wa, ra⟩ : Nat) < 0
  · have h1 : left1 1048576 (szB ⟨wa, ra⟩) = -1 := left1_neg hb
    have hd : decide ((-1 : Int) < 0) = true := rfl
    clear hb hrv hl hlimA hlimB
    apply Wp.last (C := cfg) (g := 5) cfg_hE cfg_hO
    · repeat' (first | with_reducible refine br_split (fun _ => ?_) (fun _ => ?_) | simp only [*, push_cast, Array.reduceGetElem?, Nat.reduceBEq, Nat.reduceLT, Nat.reduceAdd, Nat.reduceSub, Nat.reduceLeDiff, Nat.reduceMul, Nat.reduceEqDiff, reduceCtorEq, Int.reduceAdd, Int.reduceLT, Int.reduceLE, Int.reduceToNat, Int.reduceNeg, Int.reduceSub, Int.reduceBEq, Int.reduceBNe, Int.reduceNe, Int.reduceGT, Int.reduceGE, Nat.reduceGT] | (rw [drawC_ok]; rotate_left; decide +kernel; exact cfg_mixed))
      rfl
    · exact HQ.out _ rfl
  · have h1 : left1 1048576 (szB ⟨wa, ra⟩) = 1048576 - (szB ⟨wa, ra⟩ : Nat) := left1_pos hb
    have hd : decide ((1048576 : Int) - (szB ⟨wa, ra⟩ : Nat) < 0) = false := decide_eq_false hb
    have hsz2 := ev_szBag wb rb (1048576 - (szB ⟨wa, ra⟩ : Nat)) (by omega) (by omega) hlimB
    by_cases hb2 : ((1048576 : Int) - (szB ⟨wa, ra⟩ : Nat)) - (szB ⟨wb, rb⟩ : Nat) < 0
    · have h2 : left1 (1048576 - (szB ⟨wa, ra⟩ : Nat)) (szB ⟨wb, rb⟩) = -1 := left1_neg hb2
      have hd2 : decide ((-1 : Int) < 0) = true := rfl
      clear hb hb2 hrv hl hlimA hlimB
      apply Wp.last (C := cfg) (g := 5) cfg_hE cfg_hO
      · repeat' (first | with_reducible refine br_split (fun _ => ?_) (fun _ => ?_) | simp only [*, push_cast, Array.reduceGetElem?, Nat.reduceBEq, Nat.reduceLT, Nat.reduceAdd, Nat.reduceSub, Nat.reduceLeDiff, Nat.reduceMul, Nat.reduceEqDiff, reduceCtorEq, Int.reduceAdd, Int.reduceLT, Int.reduceLE, Int.reduceToNat, Int.reduceNeg, Int.reduceSub, Int.reduceBEq, Int.reduceBNe, Int.reduceNe, Int.reduceGT, Int.reduceGE, Nat.reduceGT] | (rw [drawC_ok]; rotate_left; decide +kernel; exact cfg_mixed))
        rfl
      · exact HQ.out _ rfl
    · have h2 : left1 (1048576 - (szB ⟨wa, ra⟩ : Nat)) (szB ⟨wb, rb⟩) = 1048576 - (szB ⟨wa, ra⟩ : Nat) - (szB ⟨wb, rb⟩ : Nat) := left1_pos hb2
      have hd2 : decide ((1048576 : Int) - (szB ⟨wa, ra⟩ : Nat) - (szB ⟨wb, rb⟩ : Nat) < 0) = false := decide_eq_false hb2
      have hleA : szB ⟨wa, ra⟩ ≤ 1048576 := by omega
      have hleB : szB ⟨wb, rb⟩ ≤ 1048576 := by omega
      obtain ⟨c1, c2⟩ := szB_all hleA
      obtain ⟨b1, b2⟩ := szB_all hleB
      have hlen : ra.length + rb.length ≤ 1048576 := by
        have l1 : ra.length ≤ szB ⟨wa, ra⟩ := by simp [szB, szCs]
        have l2 : rb.length ≤ szB ⟨wb, rb⟩ := by simp [szB, szCs]
        omega
      have htoA := ev_toBag wa ra hleA
      have htoB := ev_toBag wb rb hleB
      have hsp := ev_sAddBag wa wb ra rb hlen c2 b2
      have him := ev_AddBag wa wb ra rb hlen c2 b2
      obtain ⟨m1, m2⟩ := addBag_small (a := ⟨wa, ra⟩) (b := ⟨wb, rb⟩) hlen c2 b2
      have m3 := addBag_lim (a := ⟨wa, ra⟩) (b := ⟨wb, rb⟩) hlen c2 b2 hlimA hlimB
      generalize hM : (addBag ⟨wa, ra⟩ ⟨wb, rb⟩).rows = M at *
      have hq1 := ev_eqBag wa M wa M m3
      have hq2 := ev_eqBag wa ra wa ra hlimA
      have hq3 := ev_eqBag wb rb wb rb hlimB
      have hd3 : decide ((⟨wa, M⟩ : B) = ⟨wa, M⟩) = true := decide_eq_true rfl
      have hd4 : decide ((⟨wa, ra⟩ : B) = ⟨wa, ra⟩) = true := decide_eq_true rfl
      have hd5 : decide ((⟨wb, rb⟩ : B) = ⟨wb, rb⟩) = true := decide_eq_true rfl
      have hmk1 := mcall_BagP (p := [2, 0, 1]) (by simp) c1 c2 wa
      have sA := cells_small c1 c2
      have sB := cells_small b1 b2
      have hK1v : qAt ra 1 ra.length = 1 + cellsC ra := qAt_in ra 1 (by omega) sA
      have hmk2 := mcall_Bag txtOk (p := [3, 0, 1]) (by simp) (l := rb) (by omega) (fun c hc => by have := b2 c hc; omega) wb (qAt ra 1 ra.length)
      simp only [mkEs_cC] at hmk2
      have hmk3 := mcall_BagP (p := [4, 0, 1]) (by simp) m1 m2 wa
      have hhe := ev_heldBagP wa m1 m2
      have k3 := qAt_pos m1 m2
      have cA := cellsC_le c2
      have cB := cellsC_le b2
      have hcA : ra.length * (3 * 1048576 + 1) ≤ 1048576 * (3 * 1048576 + 1) := Nat.mul_le_mul_right _ c1
      have hcB : rb.length * (3 * 1048576 + 1) ≤ 1048576 * (3 * 1048576 + 1) := Nat.mul_le_mul_right _ b1
      have hK2v : qAt rb (qAt ra 1 ra.length) rb.length = qAt ra 1 ra.length + cellsC rb := qAt_in rb _ (by omega) (by omega)
      generalize hK1 : qAt ra 1 ra.length = K1 at *
      generalize hK2 : qAt rb K1 rb.length = K2 at *
      generalize hK3 : qAt M 1 M.length = K3 at *
      have hkk2 : decide (K2 < 0) = false := decide_eq_false (by omega)
      have hkk3 : decide (K3 < 0) = false := decide_eq_false (by omega)
      have hkn : (K3 != K3) = false := bne_self_eq_false _
      have er1 := er_age ra
      have er2 := er_age rb
      have er3 := er_age M
      clear hb hb2 hrv hl hlimA hlimB hleA hleB c1 c2 b1 b2 hlen m1 m2 m3 sA sB hK1v hK2v cA cB hcA hcB hK1 hK2 hK3 k3 hM
      iterate 7
        apply Wp.seq (C := cfg) (g := 5) cfg_hE cfg_hO
        · repeat' (first | with_reducible refine br_split (fun _ => ?_) (fun _ => ?_) | simp only [*, push_cast, Array.reduceGetElem?, Nat.reduceBEq, Nat.reduceLT, Nat.reduceAdd, Nat.reduceSub, Nat.reduceLeDiff, Nat.reduceMul, Nat.reduceEqDiff, reduceCtorEq, Int.reduceAdd, Int.reduceLT, Int.reduceLE, Int.reduceToNat, Int.reduceNeg, Int.reduceSub, Int.reduceBEq, Int.reduceBNe, Int.reduceNe, Int.reduceGT, Int.reduceGE, Nat.reduceGT] | (rw [drawC_ok]; rotate_left; decide +kernel; exact cfg_mixed))
          rfl
      apply Wp.age (n := 2) rfl rfl
      simp only [ageSt, ageT, ageO, ageTV, ageL, T.ann]
      iterate 7
        apply Wp.seq (C := cfg) (g := 5) cfg_hE cfg_hO
        · repeat' (first | with_reducible refine br_split (fun _ => ?_) (fun _ => ?_) | simp only [*, push_cast, Array.reduceGetElem?, Nat.reduceBEq, Nat.reduceLT, Nat.reduceAdd, Nat.reduceSub, Nat.reduceLeDiff, Nat.reduceMul, Nat.reduceEqDiff, reduceCtorEq, Int.reduceAdd, Int.reduceLT, Int.reduceLE, Int.reduceToNat, Int.reduceNeg, Int.reduceSub, Int.reduceBEq, Int.reduceBNe, Int.reduceNe, Int.reduceGT, Int.reduceGE, Nat.reduceGT] | (rw [drawC_ok]; rotate_left; decide +kernel; exact cfg_mixed))
          rfl
      apply Wp.mark4 (C := cfg) (n := (10, true)) (p := [2, 0, 1]) (f := 13) (k := K1) (t0 := .sl (.tok [2, 0, 1]) (cnEs [2, 0, 1] 0 (ra.map cC))) (t1 := .sl (.tok [2, 0, 1]) (cnEs [2, 0, 1] 0 ((markCs mtOf ra 1).map cC)))
        (args := [.agg [.d (.i .i64 wa), .d (.sl (.tok [2, 0, 1]) (cnEs [2, 0, 1] 0 (ra.map cC)))], .d (.i .i64 1)])
        (tm := [(9, .ptr 109 0), (8, .ptr 108 0), (6, .ptr 106 0), (4, .d (.b false)), (3, .ptr 103 0), (2, .ptr 102 0)])
        (ob := [(109, .box [.d (.i .i64 wa), .d (.sl (.tok [4, 0, 1]) (cnEs [4, 0, 1] 0 (M.map cC)))]), (108, .box [.d (.i .i64 wb), .d (.sl (.tok [3, 0, 1]) (cnEs [3, 0, 1] 0 (rb.map cC)))]), (106, .box [.d (.i .i64 wa), .d (.sl (.tok []) (annEs (.tok []) (M.map cC)))]), (103, .box [.d (.i .i64 wb), .d (.sl (.tok []) (annEs (.tok []) (rb.map cC)))]), (102, .box [.d (.i .i64 wa), .d (.sl (.tok []) (annEs (.tok []) (ra.map cC)))])]) cfg_hE cfg_hO (fun _ _ _ h => h)
      case e1 => repeat' (first | with_reducible refine br_split (fun _ => ?_) (fun _ => ?_) | simp only [*, push_cast, Array.reduceGetElem?, Nat.reduceBEq, Nat.reduceLT, Nat.reduceAdd, Nat.reduceSub, Nat.reduceLeDiff, Nat.reduceMul, Nat.reduceEqDiff, reduceCtorEq, Int.reduceAdd, Int.reduceLT, Int.reduceLE, Int.reduceToNat, Int.reduceNeg, Int.reduceSub, Int.reduceBEq, Int.reduceBNe, Int.reduceNe, Int.reduceGT, Int.reduceGE, Nat.reduceGT] | (rw [drawC_ok]; rotate_left; decide +kernel; exact cfg_mixed)); rfl
      case hg => rfl
      case hp => simp
      case hgd => rfl
      case ho => rfl
      case hf => rfl
      case hpl => exact plain_markBag
      case hargs => rfl
      case hc => exact hmk1
      case h1 => exact .cons rfl .ptr (.cons rfl .ptr (.cons rfl .ptr (.cons rfl (.leaf rfl) (.cons rfl .ptr (.cons rfl .ptr .nil)))))
      case h2 => exact .cons rfl (.cons (.leaf rfl) (.cons (.keep (SafeT.sl (by decide) _)) .nil)) (.cons rfl (.cons (.leaf rfl) (.cons (.keep (SafeT.sl (by decide) _)) .nil)) (.cons rfl (.cons (.leaf rfl) (.cons (.keep (SafeT.age _)) .nil)) (.cons rfl (.cons (.leaf rfl) (.cons (.keep (SafeT.age _)) .nil)) (.cons rfl (.cons (.leaf rfl) (.cons (.keep (SafeT.age _)) .nil)) .nil))))
      case hput => rfl
      case e2 => repeat' (first | with_reducible refine br_split (fun _ => ?_) (fun _ => ?_) | simp only [*, push_cast, Array.reduceGetElem?, Nat.reduceBEq, Nat.reduceLT, Nat.reduceAdd, Nat.reduceSub, Nat.reduceLeDiff, Nat.reduceMul, Nat.reduceEqDiff, reduceCtorEq, Int.reduceAdd, Int.reduceLT, Int.reduceLE, Int.reduceToNat, Int.reduceNeg, Int.reduceSub, Int.reduceBEq, Int.reduceBNe, Int.reduceNe, Int.reduceGT, Int.reduceGE, Nat.reduceGT] | (rw [drawC_ok]; rotate_left; decide +kernel; exact cfg_mixed)); rfl
      apply Wp.mark4 (C := cfg) (n := (10, true)) (p := [3, 0, 1]) (f := 13) (k := K2) (t0 := .sl (.tok [3, 0, 1]) (cnEs [3, 0, 1] 0 (rb.map cC))) (t1 := .sl (.tok [3, 0, 1]) (cnEs [3, 0, 1] 0 ((markCs mtOf rb K1).map cC)))
        (args := [.agg [.d (.i .i64 wb), .d (.sl (.tok [3, 0, 1]) (cnEs [3, 0, 1] 0 (rb.map cC)))], .d (.i .i64 K1)])
        (tm := [(10, .unk), (9, .ptr 109 0), (6, .ptr 106 0), (4, .d (.b false)), (3, .ptr 103 0), (2, .ptr 102 0)])
        (ob := [(109, .box [.d (.i .i64 wa), .d (.sl (.tok [4, 0, 1]) (cnEs [4, 0, 1] 0 (M.map cC)))]), (106, .box [.d (.i .i64 wa), .d (.sl (.tok []) (annEs (.tok []) (M.map cC)))]), (103, .box [.d (.i .i64 wb), .d (.sl (.tok []) (annEs (.tok []) (rb.map cC)))]), (102, .box [.d (.i .i64 wa), .d (.sl (.tok []) (annEs (.tok []) (ra.map cC)))])]) cfg_hE cfg_hO (fun _ _ _ h => h)
      case e1 => repeat' (first | with_reducible refine br_split (fun _ => ?_) (fun _ => ?_) | simp only [*, push_cast, Array.reduceGetElem?, Nat.reduceBEq, Nat.reduceLT, Nat.reduceAdd, Nat.reduceSub, Nat.reduceLeDiff, Nat.reduceMul, Nat.reduceEqDiff, reduceCtorEq, Int.reduceAdd, Int.reduceLT, Int.reduceLE, Int.reduceToNat, Int.reduceNeg, Int.reduceSub, Int.reduceBEq, Int.reduceBNe, Int.reduceNe, Int.reduceGT, Int.reduceGE, Nat.reduceGT] | (rw [drawC_ok]; rotate_left; decide +kernel; exact cfg_mixed)); rfl
      case hg => rfl
      case hp => simp
      case hgd => rfl
      case ho => rfl
      case hf => rfl
      case hpl => exact plain_markBag
      case hargs => rfl
      case hc => exact hmk2
      case h1 => exact .cons rfl trivial (.cons rfl .ptr (.cons rfl .ptr (.cons rfl (.leaf rfl) (.cons rfl .ptr (.cons rfl .ptr .nil)))))
      case h2 => exact .cons rfl (.cons (.leaf rfl) (.cons (.keep (SafeT.sl (by decide) _)) .nil)) (.cons rfl (.cons (.leaf rfl) (.cons (.keep (SafeT.age _)) .nil)) (.cons rfl (.cons (.leaf rfl) (.cons (.keep (SafeT.age _)) .nil)) (.cons rfl (.cons (.leaf rfl) (.cons (.keep (SafeT.age _)) .nil)) .nil)))
      case hput => rfl
      case e2 => repeat' (first | with_reducible refine br_split (fun _ => ?_) (fun _ => ?_) | simp only [*, push_cast, Array.reduceGetElem?, Nat.reduceBEq, Nat.reduceLT, Nat.reduceAdd, Nat.reduceSub, Nat.reduceLeDiff, Nat.reduceMul, Nat.reduceEqDiff, reduceCtorEq, Int.reduceAdd, Int.reduceLT, Int.reduceLE, Int.reduceToNat, Int.reduceNeg, Int.reduceSub, Int.reduceBEq, Int.reduceBNe, Int.reduceNe, Int.reduceGT, Int.reduceGE, Nat.reduceGT] | (rw [drawC_ok]; rotate_left; decide +kernel; exact cfg_mixed)); rfl
      iterate 2
        apply Wp.seq (C := cfg) (g := 5) cfg_hE cfg_hO
        · repeat' (first | with_reducible refine br_split (fun _ => ?_) (fun _ => ?_) | simp only [*, push_cast, Array.reduceGetElem?, Nat.reduceBEq, Nat.reduceLT, Nat.reduceAdd, Nat.reduceSub, Nat.reduceLeDiff, Nat.reduceMul, Nat.reduceEqDiff, reduceCtorEq, Int.reduceAdd, Int.reduceLT, Int.reduceLE, Int.reduceToNat, Int.reduceNeg, Int.reduceSub, Int.reduceBEq, Int.reduceBNe, Int.reduceNe, Int.reduceGT, Int.reduceGE, Nat.reduceGT] | (rw [drawC_ok]; rotate_left; decide +kernel; exact cfg_mixed))
          rfl
      apply Wp.mark4 (C := cfg) (n := (11, true)) (p := [4, 0, 1]) (f := 13) (k := K3) (t0 := .sl (.tok [4, 0, 1]) (cnEs [4, 0, 1] 0 (M.map cC))) (t1 := .sl (.tok [4, 0, 1]) (cnEs [4, 0, 1] 0 ((markCs mtOf M 1).map cC)))
        (args := [.agg [.d (.i .i64 wa), .d (.sl (.tok [4, 0, 1]) (cnEs [4, 0, 1] 0 (M.map cC)))], .d (.i .i64 1)])
        (tm := [(9, .ptr 109 0), (6, .ptr 106 0), (4, .d (.b false)), (3, .ptr 103 0), (2, .ptr 102 0)])
        (ob := [(109, .box [.d (.i .i64 wa), .d (.sl (.tok [4, 0, 1]) (cnEs [4, 0, 1] 0 ((markCs mtOf M 1).map cC)))]), (106, .box [.d (.i .i64 wa), .d (.sl (.tok []) (annEs (.tok []) (M.map cC)))]), (103, .box [.d (.i .i64 wb), .d (.sl (.tok []) (annEs (.tok []) (rb.map cC)))]), (102, .box [.d (.i .i64 wa), .d (.sl (.tok []) (annEs (.tok []) (ra.map cC)))])]) cfg_hE cfg_hO (fun _ _ _ h => h)
      case e1 => repeat' (first | with_reducible refine br_split (fun _ => ?_) (fun _ => ?_) | simp only [*, push_cast, Array.reduceGetElem?, Nat.reduceBEq, Nat.reduceLT, Nat.reduceAdd, Nat.reduceSub, Nat.reduceLeDiff, Nat.reduceMul, Nat.reduceEqDiff, reduceCtorEq, Int.reduceAdd, Int.reduceLT, Int.reduceLE, Int.reduceToNat, Int.reduceNeg, Int.reduceSub, Int.reduceBEq, Int.reduceBNe, Int.reduceNe, Int.reduceGT, Int.reduceGE, Nat.reduceGT] | (rw [drawC_ok]; rotate_left; decide +kernel; exact cfg_mixed)); rfl
      case hg => rfl
      case hp => simp
      case hgd => rfl
      case ho => rfl
      case hf => rfl
      case hpl => exact plain_markBag
      case hargs => rfl
      case hc => exact hmk3
      case h1 => exact .cons rfl .ptr (.cons rfl .ptr (.cons rfl (.leaf rfl) (.cons rfl .ptr (.cons rfl .ptr .nil))))
      case h2 => exact .cons rfl (.cons (.leaf rfl) (.cons .root .nil)) (.cons rfl (.cons (.leaf rfl) (.cons (.keep (SafeT.age _)) .nil)) (.cons rfl (.cons (.leaf rfl) (.cons (.keep (SafeT.age _)) .nil)) (.cons rfl (.cons (.leaf rfl) (.cons (.keep (SafeT.age _)) .nil)) .nil)))
      case hput => rfl
      case e2 => repeat' (first | with_reducible refine br_split (fun _ => ?_) (fun _ => ?_) | simp only [*, push_cast, Array.reduceGetElem?, Nat.reduceBEq, Nat.reduceLT, Nat.reduceAdd, Nat.reduceSub, Nat.reduceLeDiff, Nat.reduceMul, Nat.reduceEqDiff, reduceCtorEq, Int.reduceAdd, Int.reduceLT, Int.reduceLE, Int.reduceToNat, Int.reduceNeg, Int.reduceSub, Int.reduceBEq, Int.reduceBNe, Int.reduceNe, Int.reduceGT, Int.reduceGE, Nat.reduceGT] | (rw [drawC_ok]; rotate_left; decide +kernel; exact cfg_mixed)); rfl
      apply Wp.last (C := cfg) (g := 5) cfg_hE cfg_hO
      · repeat' (first | with_reducible refine br_split (fun _ => ?_) (fun _ => ?_) | simp only [*, push_cast, Array.reduceGetElem?, Nat.reduceBEq, Nat.reduceLT, Nat.reduceAdd, Nat.reduceSub, Nat.reduceLeDiff, Nat.reduceMul, Nat.reduceEqDiff, reduceCtorEq, Int.reduceAdd, Int.reduceLT, Int.reduceLE, Int.reduceToNat, Int.reduceNeg, Int.reduceSub, Int.reduceBEq, Int.reduceBNe, Int.reduceNe, Int.reduceGT, Int.reduceGE, Nat.reduceGT] | (rw [drawC_ok]; rotate_left; decide +kernel; exact cfg_mixed))
        rfl
      · exact HQ.out _ rfl
end Go.Av
end

section
namespace Go.Av
open Go.Proofs
set_option linter.unusedSimpArgs false
def relTV (r : R) : TV := .agg [.d (.i .i64 r.bag.w), .d (.sl .any (r.bag.rows.map cC))]
def findR (l : List R) (s : ByteArray) : Option R := l.find? fun r => decide (r.name = s)
theorem findR_go {l : List R} {s : ByteArray} {i : Nat} (h : i < l.length) : findR (l.drop i) s = if l[i].name = s then some l[i] else findR (l.drop (i + 1)) s := by
  unfold findR
  rw [List.drop_eq_getElem_cons h, List.find?_cons]
  by_cases e : l[i].name = s <;> simp [e]
theorem ev_l04Rel (l : List R) (s : ByteArray) (hl : l.length ≤ 1048576) : evF cfg 83 [] [.d (.sl .any (l.map rC)), .d (.s s)] =
    some (match findR l s with | some r => .tup [relTV r, .d (.b true)] | none => .tup [.agg [.d (.i .i64 0), .d (.sl .any [])], .d (.b false)], []) := by
  have H := Hd.mk hl
  clear hl
  (refine (evF_code (C := cfg) (g := 83) (fn := Try.f83) rfl Try.func83 rfl (by rw [Try.ntmps83]; simp) (by kernel_rfl) (by first | decide | simp [keysOf])).trans ?_; rw [Try.results83, Try.ntmps83])
  repeat' (first | with_reducible refine br_split (fun _ => ?_) (fun _ => ?_) | simp only [*, push_cast, Array.reduceGetElem?, Nat.reduceBEq, Nat.reduceLT, Nat.reduceAdd, Nat.reduceSub, Nat.reduceLeDiff, Nat.reduceMul, Nat.reduceEqDiff, reduceCtorEq, Int.reduceAdd, Int.reduceLT, Int.reduceLE, Int.reduceToNat, Int.reduceNeg, Int.reduceSub, Int.reduceBEq, Int.reduceBNe, Int.reduceNe, Int.reduceGT, Int.reduceGE, Nat.reduceGT] | (rw [drawC_ok]; rotate_left; decide +kernel; exact cfg_mixed))
  generalize hE : evM cfg _ _ _ _ _ = RR
  generalize hF : findR l s = F
  have key : ∃ r, RR = some r ∧ ((∃ x, F = some x ∧ r = (Exit.ret, { t := [(4, .ptr 50 0), (5, .d (.b true))], o := [(50, .box [.d (.i .i64 x.bag.w), .d (.sl .any (x.bag.rows.map cC))])], ks := [50], n := 0, sz := 26, u := noU })) ∨ (F = none ∧ r = (Exit.exit 0, { t := [(4, .ptr 50 0)], o := [(50, .box [.d (.i .i64 0), .nl])], ks := [50], n := 0, sz := 26, u := noU }))) := by
    rw [← hE]
    refine evM_ex (α := Nat) (fun i => { t := [(0, .d (.sl .any (l.map rC))), (1, .d (.s s)), (4, .ptr 50 0), (6, .d (.i .i64 (i : Nat)))], o := [(50, .box [.d (.i .i64 0), .nl])], ks := [50], n := 0, sz := 26, u := noU })
      (fun _ r => ((∃ x, F = some x ∧ r = (Exit.ret, { t := [(4, .ptr 50 0), (5, .d (.b true))], o := [(50, .box [.d (.i .i64 x.bag.w), .d (.sl .any (x.bag.rows.map cC))])], ks := [50], n := 0, sz := 26, u := noU })) ∨ (F = none ∧ r = (Exit.exit 0, { t := [(4, .ptr 50 0)], o := [(50, .box [.d (.i .i64 0), .nl])], ks := [50], n := 0, sz := 26, u := noU })))) (fun i => findR (l.drop i) s = F) (fun i => l.length - i) ?_ 0 hF
    clear hE RR hF
    rintro i hi ih
    have hl := H.out
    by_cases hc : i < l.length
    · have c1 := dec_lt hc
      have c2 := dec_ltN hc
      have g1 : (l.map rC)[i]? = some [.s l[i].name, .i .i64 l[i].bag.w, .sl .any (l[i].bag.rows.map cC)] := get_map rC l i hc
      have w1 : IntKind.i64.wrap ((i : Int) + 1) = (i : Int) + 1 := wrap_succ (by omega)
      rw [findR_go hc] at hi
      by_cases he : l[i].name = s
      · rw [if_pos he] at hi
        refine ⟨_, ?_, .inl ⟨l[i], hi.symm, rfl⟩⟩
        have hd2 : decide (s = l[i].name) = true := decide_eq_true he.symm
        have hd3 : decide (l[i].name = s) = true := decide_eq_true he
        clear ih hl hi he
        repeat' (first | with_reducible refine br_split (fun _ => ?_) (fun _ => ?_) | simp only [*, push_cast, Array.reduceGetElem?, Nat.reduceBEq, Nat.reduceLT, Nat.reduceAdd, Nat.reduceSub, Nat.reduceLeDiff, Nat.reduceMul, Nat.reduceEqDiff, reduceCtorEq, Int.reduceAdd, Int.reduceLT, Int.reduceLE, Int.reduceToNat, Int.reduceNeg, Int.reduceSub, Int.reduceBEq, Int.reduceBNe, Int.reduceNe, Int.reduceGT, Int.reduceGE, Nat.reduceGT] | (rw [drawC_ok]; rotate_left; decide +kernel; exact cfg_mixed))
      · rw [if_neg he] at hi
        obtain ⟨r, hr, hq⟩ := ih (i + 1) hi (by omega)
        refine ⟨_, ?_, hq⟩
        rw [show ((i + 1 : Nat) : Int) = (i : Int) + 1 from rfl] at hr
        have hd2 : decide (s = l[i].name) = false := decide_eq_false fun h => he h.symm
        have hd3 : decide (l[i].name = s) = false := decide_eq_false he
        clear ih hl hi hq he
        repeat' (first | with_reducible refine br_split (fun _ => ?_) (fun _ => ?_) | simp only [*, push_cast, Array.reduceGetElem?, Nat.reduceBEq, Nat.reduceLT, Nat.reduceAdd, Nat.reduceSub, Nat.reduceLeDiff, Nat.reduceMul, Nat.reduceEqDiff, reduceCtorEq, Int.reduceAdd, Int.reduceLT, Int.reduceLE, Int.reduceToNat, Int.reduceNeg, Int.reduceSub, Int.reduceBEq, Int.reduceBNe, Int.reduceNe, Int.reduceGT, Int.reduceGE, Nat.reduceGT] | (rw [drawC_ok]; rotate_left; decide +kernel; exact cfg_mixed))
    · have c1 : decide ((i : Int) < (l.length : Int)) = false := decide_eq_false (by omega)
      rw [List.drop_eq_nil_of_le (by omega)] at hi
      refine ⟨_, ?_, .inr ⟨hi.symm, rfl⟩⟩
      clear ih hl hc hi
      repeat' (first | with_reducible refine br_split (fun _ => ?_) (fun _ => ?_) | simp only [*, push_cast, Array.reduceGetElem?, Nat.reduceBEq, Nat.reduceLT, Nat.reduceAdd, Nat.reduceSub, Nat.reduceLeDiff, Nat.reduceMul, Nat.reduceEqDiff, reduceCtorEq, Int.reduceAdd, Int.reduceLT, Int.reduceLE, Int.reduceToNat, Int.reduceNeg, Int.reduceSub, Int.reduceBEq, Int.reduceBNe, Int.reduceNe, Int.reduceGT, Int.reduceGE, Nat.reduceGT] | (rw [drawC_ok]; rotate_left; decide +kernel; exact cfg_mixed))
  obtain ⟨_, rfl, ⟨x, rfl, rfl⟩ | ⟨rfl, rfl⟩⟩ := key
  · clear hE hF
    simp only [relTV]
    repeat' (first | with_reducible refine br_split (fun _ => ?_) (fun _ => ?_) | simp only [*, push_cast, Array.reduceGetElem?, Nat.reduceBEq, Nat.reduceLT, Nat.reduceAdd, Nat.reduceSub, Nat.reduceLeDiff, Nat.reduceMul, Nat.reduceEqDiff, reduceCtorEq, Int.reduceAdd, Int.reduceLT, Int.reduceLE, Int.reduceToNat, Int.reduceNeg, Int.reduceSub, Int.reduceBEq, Int.reduceBNe, Int.reduceNe, Int.reduceGT, Int.reduceGE, Nat.reduceGT] | (rw [drawC_ok]; rotate_left; decide +kernel; exact cfg_mixed))
  · clear hE hF
    repeat' (first | with_reducible refine br_split (fun _ => ?_) (fun _ => ?_) | simp only [*, push_cast, Array.reduceGetElem?, Nat.reduceBEq, Nat.reduceLT, Nat.reduceAdd, Nat.reduceSub, Nat.reduceLeDiff, Nat.reduceMul, Nat.reduceEqDiff, reduceCtorEq, Int.reduceAdd, Int.reduceLT, Int.reduceLE, Int.reduceToNat, Int.reduceNeg, Int.reduceSub, Int.reduceBEq, Int.reduceBNe, Int.reduceNe, Int.reduceGT, Int.reduceGE, Nat.reduceGT] | (rw [drawC_ok]; rotate_left; decide +kernel; exact cfg_mixed))
end Go.Av
end
