/- What functions of this seat give. -/
import Derived.Test.YtflkffnelppigaaGk
import Derived.Test.YtflkffnelppigaaAvCfg
import Derived.Test.YtflkffnelppigaaGn
set_option linter.all false
set_option linter.unusedVariables false
set_option linter.unusedSimpArgs false

section
namespace Go.Av
open Go.Proofs
set_option linter.unusedSimpArgs false
theorem norm_small {a b : List C} (ha : Canon a) (hb : Full b) (hl : a.length + b.length ≤ 1048576) (h1 : ∀ c ∈ a, c.row.length ≤ 1048576) (h2 : ∀ c ∈ b, c.row.length ≤ 1048576) : (norm (a ++ b)).length ≤ 1048576 ∧ ∀ c ∈ norm (a ++ b), c.row.length ≤ 1048576 := by
  have := sumR_all (a := a) (b := b) (n := 1) (i := b.length) (k := a.length) ha.1 (Nat.le_refl _) h1 h2
  rw [List.take_length, sumR_one ha hb] at this
  exact ⟨by omega, this.2.2⟩
theorem ev_sAddBag (wa wb : Int) (ra rb : List C) (hl : ra.length + rb.length ≤ 1048576) (h1 : ∀ c ∈ ra, c.row.length ≤ 1048576) (h2 : ∀ c ∈ rb, c.row.length ≤ 1048576) :
    evF cfg 22 [] [.agg [.d (.i .i64 wa), .d (.sl .any (ra.map cC))], .agg [.d (.i .i64 wb), .d (.sl .any (rb.map cC))]] = some (.agg [.d (.i .i64 wa), .d (.sl .any ((addBag ⟨wa, ra⟩ ⟨wb, rb⟩).rows.map cC))], []) := by
  have ha := ev_sBagOk wa ra (by omega) (fun c hc => by have := h1 c hc; omega)
  have hb := ev_sBagOk wb rb (by omega) (fun c hc => by have := h2 c hc; omega)
  have hc := ev_l02Copy wa ra (by omega) h1
  cases hA : bagOk ⟨wa, ra⟩ with
  | false =>
    have hq : (addBag ⟨wa, ra⟩ ⟨wb, rb⟩).rows = ra := by simp [addBag, hA]
    rw [hq]
    clear hq h1 h2 hl
    (refine (evF_code (C := cfg) (g := 22) (fn := Try.f22) rfl Try.func22 rfl (by rw [Try.ntmps22]; simp) (by kernel_rfl) (by first | decide | simp [keysOf])).trans ?_; rw [Try.results22, Try.ntmps22])
    repeat' (first | with_reducible refine br_split (fun _ => ?_) (fun _ => ?_) | simp only [*, push_cast, Array.reduceGetElem?, Nat.reduceBEq, Nat.reduceLT, Nat.reduceAdd, Nat.reduceSub, Nat.reduceLeDiff, Nat.reduceMul, Nat.reduceEqDiff, reduceCtorEq, Int.reduceAdd, Int.reduceLT, Int.reduceLE, Int.reduceToNat, Int.reduceNeg, Int.reduceSub, Int.reduceBEq, Int.reduceBNe, Int.reduceNe, Int.reduceGT, Int.reduceGE, Nat.reduceGT] | (rw [drawC_ok]; rotate_left; decide +kernel; exact cfg_mixed))
  | true =>
    cases hB : bagOk ⟨wb, rb⟩ with
    | false =>
      have hq : (addBag ⟨wa, ra⟩ ⟨wb, rb⟩).rows = ra := by simp [addBag, hB]
      rw [hq]
      clear hq h1 h2 hl
      (refine (evF_code (C := cfg) (g := 22) (fn := Try.f22) rfl Try.func22 rfl (by rw [Try.ntmps22]; simp) (by kernel_rfl) (by first | decide | simp [keysOf])).trans ?_; rw [Try.results22, Try.ntmps22])
      repeat' (first | with_reducible refine br_split (fun _ => ?_) (fun _ => ?_) | simp only [*, push_cast, Array.reduceGetElem?, Nat.reduceBEq, Nat.reduceLT, Nat.reduceAdd, Nat.reduceSub, Nat.reduceLeDiff, Nat.reduceMul, Nat.reduceEqDiff, reduceCtorEq, Int.reduceAdd, Int.reduceLT, Int.reduceLE, Int.reduceToNat, Int.reduceNeg, Int.reduceSub, Int.reduceBEq, Int.reduceBNe, Int.reduceNe, Int.reduceGT, Int.reduceGE, Nat.reduceGT] | (rw [drawC_ok]; rotate_left; decide +kernel; exact cfg_mixed))
    | true =>
      cases hw : (wa != wb) with
      | true =>
        have hne : wa ≠ wb := by simpa using hw
        have hq : (addBag ⟨wa, ra⟩ ⟨wb, rb⟩).rows = ra := by simp [addBag, hne]
        rw [hq]
        clear hq h1 h2 hl hne
        (refine (evF_code (C := cfg) (g := 22) (fn := Try.f22) rfl Try.func22 rfl (by rw [Try.ntmps22]; simp) (by kernel_rfl) (by first | decide | simp [keysOf])).trans ?_; rw [Try.results22, Try.ntmps22])
        repeat' (first | with_reducible refine br_split (fun _ => ?_) (fun _ => ?_) | simp only [*, push_cast, Array.reduceGetElem?, Nat.reduceBEq, Nat.reduceLT, Nat.reduceAdd, Nat.reduceSub, Nat.reduceLeDiff, Nat.reduceMul, Nat.reduceEqDiff, reduceCtorEq, Int.reduceAdd, Int.reduceLT, Int.reduceLE, Int.reduceToNat, Int.reduceNeg, Int.reduceSub, Int.reduceBEq, Int.reduceBNe, Int.reduceNe, Int.reduceGT, Int.reduceGE, Nat.reduceGT] | (rw [drawC_ok]; rotate_left; decide +kernel; exact cfg_mixed))
      | false =>
        have hwe : wa = wb := by simpa using hw
        have hs := ev_l02Sum wa wb 1 ra rb hl h1 h2 (bagOk_asc hA)
        rw [sumR_one (bagOk_canon hA) (bagOk_full hB)] at hs
        obtain ⟨n1, n2⟩ := norm_small (a := ra) (b := rb) (bagOk_canon hA) (bagOk_full hB) hl h1 h2
        have ho := ev_sBagOk wa (norm (ra ++ rb)) (by omega) (fun c hc => by have := n2 c hc; omega)
        cases hO : bagOk ⟨wa, norm (ra ++ rb)⟩ with
        | true =>
          have hq : (addBag ⟨wa, ra⟩ ⟨wb, rb⟩).rows = norm (ra ++ rb) := by subst hwe; simp [addBag, hA, hB, hO]
          rw [hq]
          clear hq h1 h2 hl hwe n1 n2
          (refine (evF_code (C := cfg) (g := 22) (fn := Try.f22) rfl Try.func22 rfl (by rw [Try.ntmps22]; simp) (by kernel_rfl) (by first | decide | simp [keysOf])).trans ?_; rw [Try.results22, Try.ntmps22])
          repeat' (first | with_reducible refine br_split (fun _ => ?_) (fun _ => ?_) | simp only [*, push_cast, Array.reduceGetElem?, Nat.reduceBEq, Nat.reduceLT, Nat.reduceAdd, Nat.reduceSub, Nat.reduceLeDiff, Nat.reduceMul, Nat.reduceEqDiff, reduceCtorEq, Int.reduceAdd, Int.reduceLT, Int.reduceLE, Int.reduceToNat, Int.reduceNeg, Int.reduceSub, Int.reduceBEq, Int.reduceBNe, Int.reduceNe, Int.reduceGT, Int.reduceGE, Nat.reduceGT] | (rw [drawC_ok]; rotate_left; decide +kernel; exact cfg_mixed))
        | false =>
          have hq : (addBag ⟨wa, ra⟩ ⟨wb, rb⟩).rows = ra := by subst hwe; simp [addBag, hA, hB, hO]
          rw [hq]
          clear hq h1 h2 hl hwe n1 n2
          (refine (evF_code (C := cfg) (g := 22) (fn := Try.f22) rfl Try.func22 rfl (by rw [Try.ntmps22]; simp) (by kernel_rfl) (by first | decide | simp [keysOf])).trans ?_; rw [Try.results22, Try.ntmps22])
          repeat' (first | with_reducible refine br_split (fun _ => ?_) (fun _ => ?_) | simp only [*, push_cast, Array.reduceGetElem?, Nat.reduceBEq, Nat.reduceLT, Nat.reduceAdd, Nat.reduceSub, Nat.reduceLeDiff, Nat.reduceMul, Nat.reduceEqDiff, reduceCtorEq, Int.reduceAdd, Int.reduceLT, Int.reduceLE, Int.reduceToNat, Int.reduceNeg, Int.reduceSub, Int.reduceBEq, Int.reduceBNe, Int.reduceNe, Int.reduceGT, Int.reduceGE, Nat.reduceGT] | (rw [drawC_ok]; rotate_left; decide +kernel; exact cfg_mixed))
end Go.Av
end

section
namespace Go.Av
open Go.Proofs
set_option linter.unusedSimpArgs false
theorem ev_sum (wa wb : Int) (ra rb : List C) (hl : ra.length + rb.length ≤ 1048576) (hs : Short (ra ++ rb)) (hw : ∀ c ∈ ra ++ rb, w64 c.n = c.n) :
    evF cfg 61 [] [.agg [.d (.i .i64 wa), .d (.sl .any (ra.map cC))], .agg [.d (.i .i64 wb), .d (.sl .any (rb.map cC))]] = some (.agg [.d (.i .i64 wa), .d (.sl (.tok [0, 1]) (cnEs [0, 1] 0 ((norm (ra ++ rb)).map cC)))], []) := by
  have hc := ev_Concat ra rb (by omega) (by omega)
  have hg := ev_gathered_norm wa (ra ++ rb) (by simpa using hl) hs hw
  have hcan : canOk (.agg [.d (.i .i64 wa), .d (.sl (.tok [1, 0, 1]) (cnEs [1, 0, 1] 0 ((norm (ra ++ rb)).map cC)))]) [] := canOk_one _ [1, 0, 1] (.sl .any ((norm (ra ++ rb)).map cC)) (by simp [tkTV, tkL, tkT, T.cn]) rfl
  clear hl hs hw
  (refine (evF_codeZ (C := cfg) (g := 61) (fn := Try.f61) rfl Try.func61 rfl (by rw [Try.ntmps61]; simp) (by kernel_rfl)).trans ?_; rw [Try.results61, Try.ntmps61])
  repeat' (first | with_reducible refine br_split (fun _ => ?_) (fun _ => ?_) | simp only [*, push_cast, Array.reduceGetElem?, Nat.reduceBEq, Nat.reduceLT, Nat.reduceAdd, Nat.reduceSub, Nat.reduceLeDiff, Nat.reduceMul, Nat.reduceEqDiff, reduceCtorEq, Int.reduceAdd, Int.reduceLT, Int.reduceLE, Int.reduceToNat, Int.reduceNeg, Int.reduceSub, Int.reduceBEq, Int.reduceBNe, Int.reduceNe, Int.reduceGT, Int.reduceGE, Nat.reduceGT] | (rw [drawC_ok]; rotate_left; decide +kernel; exact cfg_mixed))
theorem ev_AddBag (wa wb : Int) (ra rb : List C) (hl : ra.length + rb.length ≤ 1048576) (h1 : ∀ c ∈ ra, c.row.length ≤ 1048576) (h2 : ∀ c ∈ rb, c.row.length ≤ 1048576) :
    evF cfg 23 [] [.agg [.d (.i .i64 wa), .d (.sl .any (ra.map cC))], .agg [.d (.i .i64 wb), .d (.sl .any (rb.map cC))]] = some (.agg [.d (.i .i64 wa), .d (.sl (.tok [0, 1]) (cnEs [0, 1] 0 ((addBag ⟨wa, ra⟩ ⟨wb, rb⟩).rows.map cC)))], []) := by
  have ha := ev_BagOk wa ra (by omega) (fun c hc => by have := h1 c hc; omega)
  have hb := ev_BagOk wb rb (by omega) (fun c hc => by have := h2 c hc; omega)
  have hc := ev_own wa ra (by omega) h1
  have hcan := canOk_fz (.agg [.d (.i .i64 wa), .d (.sl (.tok [1]) (cnEs [0, 1, 40] 0 (ra.map cC)))]) [1] [0, 1, 40] (ra.map cC) (by simp [tkTV, tkL, tkT, annTok]) (by simp) rfl
  have hcan1 := canOk_fz (.agg [.d (.i .i64 wa), .d (.sl (.tok [2]) (cnEs [1, 1, 40] 0 (ra.map cC)))]) [2] [1, 1, 40] (ra.map cC) (by simp [tkTV, tkL, tkT, annTok]) (by simp) rfl
  cases hA : bagOk ⟨wa, ra⟩ with
  | false =>
    have hq : (addBag ⟨wa, ra⟩ ⟨wb, rb⟩).rows = ra := by simp [addBag, hA]
    rw [hq]
    clear hq h1 h2 hl
    (refine (evF_codeZ (C := cfg) (g := 23) (fn := Try.f23) rfl Try.func23 rfl (by rw [Try.ntmps23]; simp) (by kernel_rfl)).trans ?_; rw [Try.results23, Try.ntmps23])
    repeat' (first | with_reducible refine br_split (fun _ => ?_) (fun _ => ?_) | simp only [*, push_cast, Array.reduceGetElem?, Nat.reduceBEq, Nat.reduceLT, Nat.reduceAdd, Nat.reduceSub, Nat.reduceLeDiff, Nat.reduceMul, Nat.reduceEqDiff, reduceCtorEq, Int.reduceAdd, Int.reduceLT, Int.reduceLE, Int.reduceToNat, Int.reduceNeg, Int.reduceSub, Int.reduceBEq, Int.reduceBNe, Int.reduceNe, Int.reduceGT, Int.reduceGE, Nat.reduceGT] | (rw [drawC_ok]; rotate_left; decide +kernel; exact cfg_mixed))
  | true =>
    cases hB : bagOk ⟨wb, rb⟩ with
    | false =>
      have hq : (addBag ⟨wa, ra⟩ ⟨wb, rb⟩).rows = ra := by simp [addBag, hB]
      rw [hq]
      clear hq h1 h2 hl
      (refine (evF_codeZ (C := cfg) (g := 23) (fn := Try.f23) rfl Try.func23 rfl (by rw [Try.ntmps23]; simp) (by kernel_rfl)).trans ?_; rw [Try.results23, Try.ntmps23])
      repeat' (first | with_reducible refine br_split (fun _ => ?_) (fun _ => ?_) | simp only [*, push_cast, Array.reduceGetElem?, Nat.reduceBEq, Nat.reduceLT, Nat.reduceAdd, Nat.reduceSub, Nat.reduceLeDiff, Nat.reduceMul, Nat.reduceEqDiff, reduceCtorEq, Int.reduceAdd, Int.reduceLT, Int.reduceLE, Int.reduceToNat, Int.reduceNeg, Int.reduceSub, Int.reduceBEq, Int.reduceBNe, Int.reduceNe, Int.reduceGT, Int.reduceGE, Nat.reduceGT] | (rw [drawC_ok]; rotate_left; decide +kernel; exact cfg_mixed))
    | true =>
      cases hw : (wa != wb) with
      | true =>
        have hne : wa ≠ wb := by simpa using hw
        have hq : (addBag ⟨wa, ra⟩ ⟨wb, rb⟩).rows = ra := by simp [addBag, hne]
        rw [hq]
        clear hq h1 h2 hl hne
        (refine (evF_codeZ (C := cfg) (g := 23) (fn := Try.f23) rfl Try.func23 rfl (by rw [Try.ntmps23]; simp) (by kernel_rfl)).trans ?_; rw [Try.results23, Try.ntmps23])
        repeat' (first | with_reducible refine br_split (fun _ => ?_) (fun _ => ?_) | simp only [*, push_cast, Array.reduceGetElem?, Nat.reduceBEq, Nat.reduceLT, Nat.reduceAdd, Nat.reduceSub, Nat.reduceLeDiff, Nat.reduceMul, Nat.reduceEqDiff, reduceCtorEq, Int.reduceAdd, Int.reduceLT, Int.reduceLE, Int.reduceToNat, Int.reduceNeg, Int.reduceSub, Int.reduceBEq, Int.reduceBNe, Int.reduceNe, Int.reduceGT, Int.reduceGE, Nat.reduceGT] | (rw [drawC_ok]; rotate_left; decide +kernel; exact cfg_mixed))
      | false =>
        have hwe : wa = wb := by simpa using hw
        have hs := ev_sum wa wb ra rb hl (fun c hc => by
          rcases List.mem_append.1 hc with hc | hc
          · exact h1 c hc
          · exact h2 c hc) (fun c hc => by
          rcases List.mem_append.1 hc with hc | hc
          · exact (bagOk_full hA c hc).1
          · exact (bagOk_full hB c hc).1)
        obtain ⟨n1, n2⟩ := norm_small (a := ra) (b := rb) (bagOk_canon hA) (bagOk_full hB) hl h1 h2
        have ho := ev_BagOk wa (norm (ra ++ rb)) (by omega) (fun c hc => by have := n2 c hc; omega)
        cases hO : bagOk ⟨wa, norm (ra ++ rb)⟩ with
        | true =>
          have hq : (addBag ⟨wa, ra⟩ ⟨wb, rb⟩).rows = norm (ra ++ rb) := by subst hwe; simp [addBag, hA, hB, hO]
          rw [hq]
          have hcan2 : canOk (.agg [.d (.i .i64 wa), .d (.sl (.tok [0, 0, 1]) (cnEs [0, 0, 1] 0 ((norm (ra ++ rb)).map cC)))]) [] := canOk_one _ [0, 0, 1] (.sl .any ((norm (ra ++ rb)).map cC)) (by simp [tkTV, tkL, tkT, T.cn]) rfl
          clear hq h1 h2 hl hwe n1 n2
          (refine (evF_codeZ (C := cfg) (g := 23) (fn := Try.f23) rfl Try.func23 rfl (by rw [Try.ntmps23]; simp) (by kernel_rfl)).trans ?_; rw [Try.results23, Try.ntmps23])
          repeat' (first | with_reducible refine br_split (fun _ => ?_) (fun _ => ?_) | simp only [*, push_cast, Array.reduceGetElem?, Nat.reduceBEq, Nat.reduceLT, Nat.reduceAdd, Nat.reduceSub, Nat.reduceLeDiff, Nat.reduceMul, Nat.reduceEqDiff, reduceCtorEq, Int.reduceAdd, Int.reduceLT, Int.reduceLE, Int.reduceToNat, Int.reduceNeg, Int.reduceSub, Int.reduceBEq, Int.reduceBNe, Int.reduceNe, Int.reduceGT, Int.reduceGE, Nat.reduceGT] | (rw [drawC_ok]; rotate_left; decide +kernel; exact cfg_mixed))
        | false =>
          have hq : (addBag ⟨wa, ra⟩ ⟨wb, rb⟩).rows = ra := by subst hwe; simp [addBag, hA, hB, hO]
          rw [hq]
          clear hq h1 h2 hl hwe n1 n2
          (refine (evF_codeZ (C := cfg) (g := 23) (fn := Try.f23) rfl Try.func23 rfl (by rw [Try.ntmps23]; simp) (by kernel_rfl)).trans ?_; rw [Try.results23, Try.ntmps23])
          repeat' (first | with_reducible refine br_split (fun _ => ?_) (fun _ => ?_) | simp only [*, push_cast, Array.reduceGetElem?, Nat.reduceBEq, Nat.reduceLT, Nat.reduceAdd, Nat.reduceSub, Nat.reduceLeDiff, Nat.reduceMul, Nat.reduceEqDiff, reduceCtorEq, Int.reduceAdd, Int.reduceLT, Int.reduceLE, Int.reduceToNat, Int.reduceNeg, Int.reduceSub, Int.reduceBEq, Int.reduceBNe, Int.reduceNe, Int.reduceGT, Int.reduceGE, Nat.reduceGT] | (rw [drawC_ok]; rotate_left; decide +kernel; exact cfg_mixed))
end Go.Av
end

section
namespace Go.Av
set_option linter.unusedVariables false
theorem timesBag_sm {wt : Int} {rows : List C} (n : Int) (h1 : rows.length ≤ 1048576) (h2 : ∀ c ∈ rows, c.row.length ≤ 1048576) : (timesBag ⟨wt, rows⟩ n).rows.length ≤ 1048576 ∧ ∀ c ∈ (timesBag ⟨wt, rows⟩ n).rows, c.row.length ≤ 1048576 := by
  unfold timesBag right
  split
  · split
    · refine ⟨by simpa using h1, fun c hc => ?_⟩
      obtain ⟨d, hd, rfl⟩ := List.mem_map.1 hc
      exact h2 d hd
    · exact ⟨Nat.zero_le _, fun c hc => (by cases hc)⟩
  · exact ⟨Nat.zero_le _, fun c hc => (by cases hc)⟩
theorem foldl_putC_rw : ∀ (l a : List C) (c : C), c ∈ l.foldl putC a → (∃ d ∈ a, d.row = c.row) ∨ ∃ d ∈ l, d.row = c.row
  | [], a, c, h => .inl ⟨c, h, rfl⟩
  | x :: l, a, c, h => by
    rcases foldl_putC_rw l (putC a x) c h with ⟨d, hd, e⟩ | ⟨d, hd, e⟩
    · rcases putC_mem hd with hd | hd
      · exact .inl ⟨d, hd, e⟩
      · exact .inr ⟨x, List.mem_cons_self .., by rw [← hd, e]⟩
    · exact .inr ⟨d, List.mem_cons_of_mem _ hd, e⟩
theorem nrow {l : List C} {c : C} (h : c ∈ norm l) : ∃ d ∈ l, d.row = c.row := by
  rcases foldl_putC_rw l [] c h with ⟨d, hd, _⟩ | h
  · cases hd
  · exact h
theorem addBag_sm {a b : B} (hl : a.rows.length + b.rows.length ≤ 1048576) (h1 : ∀ c ∈ a.rows, c.row.length ≤ 1048576) (h2 : ∀ c ∈ b.rows, c.row.length ≤ 1048576) : (addBag a b).rows.length ≤ 1048576 ∧ ∀ c ∈ (addBag a b).rows, c.row.length ≤ 1048576 := by
  unfold addBag
  split
  · rename_i h
    simp only [Bool.and_eq_true] at h
    split
    · exact norm_small (bagOk_canon h.1) (bagOk_full h.2.1) hl h1 h2
    · exact ⟨by omega, h1⟩
  · exact ⟨by omega, h1⟩
end Go.Av
end
