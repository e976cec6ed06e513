/- What functions of this seat give. -/
import Derived.Test.YtflkffnelppigaaGa
set_option linter.all false
set_option linter.unusedVariables false
set_option linter.unusedSimpArgs false

section
namespace Go.Av
open Go.Proofs
set_option linter.unusedSimpArgs false

@[push_cast] theorem ev_l01In (x a b : Int) : evF cfg 46 [] [.d (.i .i64 x), .d (.i .i64 a), .d (.i .i64 b)] = some (.d (.b (decide (a ≤ x) && decide (x ≤ b))), []) := by
  (refine (evF_code (C := cfg) (g := 46) (fn := Try.f46) rfl Try.func46 rfl (by rw [Try.ntmps46]; simp) (by kernel_rfl) (by first | decide | simp [keysOf])).trans ?_; rw [Try.results46, Try.ntmps46])
  repeat' (first | with_reducible refine br_split (fun _ => ?_) (fun _ => ?_) | simp only [*, push_cast, Array.reduceGetElem?, Nat.reduceBEq, Nat.reduceLT, Nat.reduceAdd, Nat.reduceSub, Nat.reduceLeDiff, Nat.reduceMul, Nat.reduceEqDiff, reduceCtorEq, Int.reduceAdd, Int.reduceLT, Int.reduceLE, Int.reduceToNat, Int.reduceNeg, Int.reduceSub, Int.reduceBEq, Int.reduceBNe, Int.reduceNe, Int.reduceGT, Int.reduceGE, Nat.reduceGT] | (rw [drawC_ok]; rotate_left; decide +kernel; exact cfg_mixed))
@[push_cast] theorem ev_within (x a b : Int) : evF cfg 50 [] [.d (.i .i64 x), .d (.i .i64 a), .d (.i .i64 b)] = some (.d (.b (decide (a ≤ x) && decide (x ≤ b))), []) := by
  (refine (evF_code (C := cfg) (g := 50) (fn := Try.f50) rfl Try.func50 rfl (by rw [Try.ntmps50]; simp) (by kernel_rfl) (by first | decide | simp [keysOf])).trans ?_; rw [Try.results50, Try.ntmps50])
  repeat' (first | with_reducible refine br_split (fun _ => ?_) (fun _ => ?_) | simp only [*, push_cast, Array.reduceGetElem?, Nat.reduceBEq, Nat.reduceLT, Nat.reduceAdd, Nat.reduceSub, Nat.reduceLeDiff, Nat.reduceMul, Nat.reduceEqDiff, reduceCtorEq, Int.reduceAdd, Int.reduceLT, Int.reduceLE, Int.reduceToNat, Int.reduceNeg, Int.reduceSub, Int.reduceBEq, Int.reduceBNe, Int.reduceNe, Int.reduceGT, Int.reduceGE, Nat.reduceGT] | (rw [drawC_ok]; rotate_left; decide +kernel; exact cfg_mixed))
@[push_cast] theorem ev_sValueOk (k n : Int) (s : ByteArray) : evF cfg 102 [] [.agg [.d (.i .i64 k), .d (.i .i64 n), .d (.s s)]] = some (.d (.b (valueOk ⟨k, n, s⟩)), []) := by
  (refine (evF_code (C := cfg) (g := 102) (fn := Try.f102) rfl Try.func102 rfl (by rw [Try.ntmps102]; simp) (by kernel_rfl) (by first | decide | simp [keysOf])).trans ?_; rw [Try.results102, Try.ntmps102])
  repeat' (first | with_reducible refine br_split (fun _ => ?_) (fun _ => ?_) | simp only [*, push_cast, Array.reduceGetElem?, Nat.reduceBEq, Nat.reduceLT, Nat.reduceAdd, Nat.reduceSub, Nat.reduceLeDiff, Nat.reduceMul, Nat.reduceEqDiff, reduceCtorEq, Int.reduceAdd, Int.reduceLT, Int.reduceLE, Int.reduceToNat, Int.reduceNeg, Int.reduceSub, Int.reduceBEq, Int.reduceBNe, Int.reduceNe, Int.reduceGT, Int.reduceGE, Nat.reduceGT] | (rw [drawC_ok]; rotate_left; decide +kernel; exact cfg_mixed))
  all_goals simp_all [valueOk]
  all_goals omega
@[push_cast] theorem ev_ValueOk (k n : Int) (s : ByteArray) : evF cfg 101 [] [.agg [.d (.i .i64 k), .d (.i .i64 n), .d (.s s)]] = some (.d (.b (valueOk ⟨k, n, s⟩)), []) := by
  (refine (evF_code (C := cfg) (g := 101) (fn := Try.f101) rfl Try.func101 rfl (by rw [Try.ntmps101]; simp) (by kernel_rfl) (by first | decide | simp [keysOf])).trans ?_; rw [Try.results101, Try.ntmps101])
  repeat' (first | with_reducible refine br_split (fun _ => ?_) (fun _ => ?_) | simp only [*, push_cast, Array.reduceGetElem?, Nat.reduceBEq, Nat.reduceLT, Nat.reduceAdd, Nat.reduceSub, Nat.reduceLeDiff, Nat.reduceMul, Nat.reduceEqDiff, reduceCtorEq, Int.reduceAdd, Int.reduceLT, Int.reduceLE, Int.reduceToNat, Int.reduceNeg, Int.reduceSub, Int.reduceBEq, Int.reduceBNe, Int.reduceNe, Int.reduceGT, Int.reduceGE, Nat.reduceGT] | (rw [drawC_ok]; rotate_left; decide +kernel; exact cfg_mixed))
  all_goals simp_all [valueOk]
  all_goals omega

@[push_cast] theorem ev_isNaNI (a : Int) : evF cfg 117 [] [.d (.i .i64 a)] = some (.d (.b false), []) := by
  (refine (evF_code (C := cfg) (g := 117) (fn := Try.f117) rfl Try.func117 rfl (by rw [Try.ntmps117]; simp) (by kernel_rfl) (by first | decide | simp [keysOf])).trans ?_; rw [Try.results117, Try.ntmps117])
  repeat' (first | with_reducible refine br_split (fun _ => ?_) (fun _ => ?_) | simp only [*, push_cast, Array.reduceGetElem?, Nat.reduceBEq, Nat.reduceLT, Nat.reduceAdd, Nat.reduceSub, Nat.reduceLeDiff, Nat.reduceMul, Nat.reduceEqDiff, reduceCtorEq, Int.reduceAdd, Int.reduceLT, Int.reduceLE, Int.reduceToNat, Int.reduceNeg, Int.reduceSub, Int.reduceBEq, Int.reduceBNe, Int.reduceNe, Int.reduceGT, Int.reduceGE, Nat.reduceGT] | (rw [drawC_ok]; rotate_left; decide +kernel; exact cfg_mixed))
@[push_cast] theorem ev_cmpI (a b : Int) : evF cfg 104 [] [.d (.i .i64 a), .d (.i .i64 b)] = some (.d (.i .i64 (cmpI a b)), []) := by
  (refine (evF_code (C := cfg) (g := 104) (fn := Try.f104) rfl Try.func104 rfl (by rw [Try.ntmps104]; simp) (by kernel_rfl) (by first | decide | simp [keysOf])).trans ?_; rw [Try.results104, Try.ntmps104])
  repeat' (first | with_reducible refine br_split (fun _ => ?_) (fun _ => ?_) | simp only [*, push_cast, Array.reduceGetElem?, Nat.reduceBEq, Nat.reduceLT, Nat.reduceAdd, Nat.reduceSub, Nat.reduceLeDiff, Nat.reduceMul, Nat.reduceEqDiff, reduceCtorEq, Int.reduceAdd, Int.reduceLT, Int.reduceLE, Int.reduceToNat, Int.reduceNeg, Int.reduceSub, Int.reduceBEq, Int.reduceBNe, Int.reduceNe, Int.reduceGT, Int.reduceGE, Nat.reduceGT] | (rw [drawC_ok]; rotate_left; decide +kernel; exact cfg_mixed))
  · simp_all [cmpI]
  · simp_all [cmpI]
  · simp_all [cmpI]
    have h1 : ¬ a < b := by omega
    have h2 : ¬ b < a := by omega
    simp [h1, h2]
@[push_cast] theorem ev_cmpStr (a b : ByteArray) : evF cfg 118 [] [.d (.s a), .d (.s b)] = some (.d (.i .i64 (cmpS a b)), []) := by
  (refine (evF_code (C := cfg) (g := 118) (fn := Try.f118) rfl Try.func118 rfl (by rw [Try.ntmps118]; simp) (by kernel_rfl) (by first | decide | simp [keysOf])).trans ?_; rw [Try.results118, Try.ntmps118])
  repeat' (first | with_reducible refine br_split (fun _ => ?_) (fun _ => ?_) | simp only [*, cmpE, push_cast, Array.reduceGetElem?, Nat.reduceBEq, Nat.reduceLT, Nat.reduceAdd, Nat.reduceSub, Nat.reduceLeDiff, Nat.reduceMul, Nat.reduceEqDiff, reduceCtorEq, Int.reduceAdd, Int.reduceLT, Int.reduceLE, Int.reduceToNat, Int.reduceNeg, Int.reduceSub, Int.reduceBEq, Int.reduceBNe, Int.reduceNe, Int.reduceGT, Int.reduceGE, Nat.reduceGT] | (rw [drawC_ok]; rotate_left; decide +kernel; exact cfg_mixed))
  rfl
@[push_cast] theorem ev_stringsCompare (a b : ByteArray) : evF cfg 105 [] [.d (.s a), .d (.s b)] = some (.d (.i .i64 (cmpS a b)), []) := by
  (refine (evF_code (C := cfg) (g := 105) (fn := Try.f105) rfl Try.func105 rfl (by rw [Try.ntmps105]; simp) (by kernel_rfl) (by first | decide | simp [keysOf])).trans ?_; rw [Try.results105, Try.ntmps105])
  repeat' (first | with_reducible refine br_split (fun _ => ?_) (fun _ => ?_) | simp only [*, push_cast, Array.reduceGetElem?, Nat.reduceBEq, Nat.reduceLT, Nat.reduceAdd, Nat.reduceSub, Nat.reduceLeDiff, Nat.reduceMul, Nat.reduceEqDiff, reduceCtorEq, Int.reduceAdd, Int.reduceLT, Int.reduceLE, Int.reduceToNat, Int.reduceNeg, Int.reduceSub, Int.reduceBEq, Int.reduceBNe, Int.reduceNe, Int.reduceGT, Int.reduceGE, Nat.reduceGT] | (rw [drawC_ok]; rotate_left; decide +kernel; exact cfg_mixed))
theorem ev_cmpOr3 (a b c : Int) : evF cfg 103 [] [.d (.sl .any [[.i .i64 a], [.i .i64 b], [.i .i64 c]])] = some (.d (.i .i64 (if a ≠ 0 then a else if b ≠ 0 then b else c)), []) := by
  (refine (evF_code (C := cfg) (g := 103) (fn := Try.f103) rfl Try.func103 rfl (by rw [Try.ntmps103]; simp) (by kernel_rfl) (by first | decide | simp [keysOf])).trans ?_; rw [Try.results103, Try.ntmps103])
  repeat' (first | with_reducible refine br_split (fun _ => ?_) (fun _ => ?_) | simp only [*, push_cast, Array.reduceGetElem?, Nat.reduceBEq, Nat.reduceLT, Nat.reduceAdd, Nat.reduceSub, Nat.reduceLeDiff, Nat.reduceMul, Nat.reduceEqDiff, reduceCtorEq, Int.reduceAdd, Int.reduceLT, Int.reduceLE, Int.reduceToNat, Int.reduceNeg, Int.reduceSub, Int.reduceBEq, Int.reduceBNe, Int.reduceNe, Int.reduceGT, Int.reduceGE, Nat.reduceGT] | (rw [drawC_ok]; rotate_left; decide +kernel; exact cfg_mixed))
  rw [evM_eq]
  repeat' (first | with_reducible refine br_split (fun _ => ?_) (fun _ => ?_) | simp only [*, push_cast, Array.reduceGetElem?, Nat.reduceBEq, Nat.reduceLT, Nat.reduceAdd, Nat.reduceSub, Nat.reduceLeDiff, Nat.reduceMul, Nat.reduceEqDiff, reduceCtorEq, Int.reduceAdd, Int.reduceLT, Int.reduceLE, Int.reduceToNat, Int.reduceNeg, Int.reduceSub, Int.reduceBEq, Int.reduceBNe, Int.reduceNe, Int.reduceGT, Int.reduceGE, Nat.reduceGT] | (rw [drawC_ok]; rotate_left; decide +kernel; exact cfg_mixed))
  · simp_all
  rw [evM_eq]
  repeat' (first | with_reducible refine br_split (fun _ => ?_) (fun _ => ?_) | simp only [*, push_cast, Array.reduceGetElem?, Nat.reduceBEq, Nat.reduceLT, Nat.reduceAdd, Nat.reduceSub, Nat.reduceLeDiff, Nat.reduceMul, Nat.reduceEqDiff, reduceCtorEq, Int.reduceAdd, Int.reduceLT, Int.reduceLE, Int.reduceToNat, Int.reduceNeg, Int.reduceSub, Int.reduceBEq, Int.reduceBNe, Int.reduceNe, Int.reduceGT, Int.reduceGE, Nat.reduceGT] | (rw [drawC_ok]; rotate_left; decide +kernel; exact cfg_mixed))
  · simp_all
  rw [evM_eq]
  repeat' (first | with_reducible refine br_split (fun _ => ?_) (fun _ => ?_) | simp only [*, push_cast, Array.reduceGetElem?, Nat.reduceBEq, Nat.reduceLT, Nat.reduceAdd, Nat.reduceSub, Nat.reduceLeDiff, Nat.reduceMul, Nat.reduceEqDiff, reduceCtorEq, Int.reduceAdd, Int.reduceLT, Int.reduceLE, Int.reduceToNat, Int.reduceNeg, Int.reduceSub, Int.reduceBEq, Int.reduceBNe, Int.reduceNe, Int.reduceGT, Int.reduceGE, Nat.reduceGT] | (rw [drawC_ok]; rotate_left; decide +kernel; exact cfg_mixed))
  · simp_all
  rw [evM_eq]
  repeat' (first | with_reducible refine br_split (fun _ => ?_) (fun _ => ?_) | simp only [*, push_cast, Array.reduceGetElem?, Nat.reduceBEq, Nat.reduceLT, Nat.reduceAdd, Nat.reduceSub, Nat.reduceLeDiff, Nat.reduceMul, Nat.reduceEqDiff, reduceCtorEq, Int.reduceAdd, Int.reduceLT, Int.reduceLE, Int.reduceToNat, Int.reduceNeg, Int.reduceSub, Int.reduceBEq, Int.reduceBNe, Int.reduceNe, Int.reduceGT, Int.reduceGE, Nat.reduceGT] | (rw [drawC_ok]; rotate_left; decide +kernel; exact cfg_mixed))
  · simp_all
theorem ev_CompareValue (k n k' n' : Int) (s s' : ByteArray) : evF cfg 80 [] [.agg [.d (.i .i64 k), .d (.i .i64 n), .d (.s s)], .agg [.d (.i .i64 k'), .d (.i .i64 n'), .d (.s s')]] = some (.d (.i .i64 (cmpV ⟨k, n, s⟩ ⟨k', n', s'⟩)), []) := by
  have ho := ev_cmpOr3
  (refine (evF_code (C := cfg) (g := 80) (fn := Try.f80) rfl Try.func80 rfl (by rw [Try.ntmps80]; simp) (by kernel_rfl) (by first | decide | simp [keysOf])).trans ?_; rw [Try.results80, Try.ntmps80])
  repeat' (first | with_reducible refine br_split (fun _ => ?_) (fun _ => ?_) | simp only [*, push_cast, Array.reduceGetElem?, Nat.reduceBEq, Nat.reduceLT, Nat.reduceAdd, Nat.reduceSub, Nat.reduceLeDiff, Nat.reduceMul, Nat.reduceEqDiff, reduceCtorEq, Int.reduceAdd, Int.reduceLT, Int.reduceLE, Int.reduceToNat, Int.reduceNeg, Int.reduceSub, Int.reduceBEq, Int.reduceBNe, Int.reduceNe, Int.reduceGT, Int.reduceGE, Nat.reduceGT] | (rw [drawC_ok]; rotate_left; decide +kernel; exact cfg_mixed))
  rfl
theorem ev_sCompareValue (k n k' n' : Int) (s s' : ByteArray) : evF cfg 81 [] [.agg [.d (.i .i64 k), .d (.i .i64 n), .d (.s s)], .agg [.d (.i .i64 k'), .d (.i .i64 n'), .d (.s s')]] = some (.d (.i .i64 (cmpV ⟨k, n, s⟩ ⟨k', n', s'⟩)), []) := by
  (refine (evF_code (C := cfg) (g := 81) (fn := Try.f81) rfl Try.func81 rfl (by rw [Try.ntmps81]; simp) (by kernel_rfl) (by first | decide | simp [keysOf])).trans ?_; rw [Try.results81, Try.ntmps81])
  repeat' (first | with_reducible refine br_split (fun _ => ?_) (fun _ => ?_) | simp only [*, push_cast, Array.reduceGetElem?, Nat.reduceBEq, Nat.reduceLT, Nat.reduceAdd, Nat.reduceSub, Nat.reduceLeDiff, Nat.reduceMul, Nat.reduceEqDiff, reduceCtorEq, Int.reduceAdd, Int.reduceLT, Int.reduceLE, Int.reduceToNat, Int.reduceNeg, Int.reduceSub, Int.reduceBEq, Int.reduceBNe, Int.reduceNe, Int.reduceGT, Int.reduceGE, Nat.reduceGT] | (rw [drawC_ok]; rotate_left; decide +kernel; exact cfg_mixed))
  all_goals simp_all [cmpV, cmpI, cmpS_spec]
  all_goals (repeat' split)
  all_goals first
    | omega
    | simp_all
    | (intros; omega)
  all_goals first | omega | (intros; omega)
end Go.Av
end

section
namespace Go.Av
open Go.Proofs
set_option linter.unusedSimpArgs false

attribute [push_cast] ev_CompareValue ev_sCompareValue

theorem ev_CompareFunc (a b : List V) (hl : a.length ≤ 1099511627776) : evF cfg 79 []
    [.d (.sl .any (a.map vC)), .d (.sl .any (b.map vC)), .clo 80 []] = some (.d (.i .i64 (cmpRow a b)), []) := by
  (refine (evF_code (C := cfg) (g := 79) (fn := Try.f79) rfl Try.func79 rfl (by rw [Try.ntmps79]; simp) (by kernel_rfl) (by first | decide | simp [keysOf])).trans ?_; rw [Try.results79, Try.ntmps79])
  repeat' (first | with_reducible refine br_split (fun _ => ?_) (fun _ => ?_) | simp only [*, push_cast, Array.reduceGetElem?, Nat.reduceBEq, Nat.reduceLT, Nat.reduceAdd, Nat.reduceSub, Nat.reduceLeDiff, Nat.reduceMul, Nat.reduceEqDiff, reduceCtorEq, Int.reduceAdd, Int.reduceLT, Int.reduceLE, Int.reduceToNat, Int.reduceNeg, Int.reduceSub, Int.reduceBEq, Int.reduceBNe, Int.reduceNe, Int.reduceGT, Int.reduceGE, Nat.reduceGT] | (rw [drawC_ok]; rotate_left; decide +kernel; exact cfg_mixed))
  rw [evM_for0 a.length (fun i j => { t := [(0, .d (.sl .any (a.map vC))), (1, .d (.sl .any (b.map vC))), (2, .clo 80 []), (11, .d (.sl .any (a.map vC))), (12, .d (.i .i64 a.length)), (13, .d (.i .i64 j))], o := [], ks := [], n := 0, sz := 39, u := noU })
    (fun i => br (cmpL1 (a.drop i) (b.drop i) != 0) (some (.ret, { t := [(6, .d (.i .i64 (cmpL1 (a.drop i) (b.drop i))))], o := [], ks := [], n := 0, sz := 39, u := noU })) (some (.exit 0, { t := [(0, .d (.sl .any (a.map vC))), (1, .d (.sl .any (b.map vC)))], o := [], ks := [], n := 0, sz := 39, u := noU })) ⟨⟩) ?step ?last]
  case step =>
    intro i hi ih
    have hc : (a.map vC)[i]? = some [.i .i64 a[i].k, .i .i64 a[i].n, .s a[i].s] := get_map vC a i hi
    have hd := dec_lt hi
    have hw := wrap_succ (i := i) (by omega)
    rw [List.drop_eq_getElem_cons hi]
    by_cases hb : i < b.length
    · have hc2 : (b.map vC)[i]? = some [.i .i64 b[i].k, .i .i64 b[i].n, .s b[i].s] := get_map vC b i hb
      have hg : decide ((i : Int) ≥ (b.length : Int)) = false := decide_eq_false (by omega)
      rw [List.drop_eq_getElem_cons hb, cmpL1]
      by_cases he : cmpV a[i] b[i] ≠ 0
      · have h1 : (cmpV a[i] b[i] != 0) = true := by simpa using he
        rw [if_pos he]
        clear he
        repeat' (first | with_reducible refine br_split (fun _ => ?_) (fun _ => ?_) | simp only [*, push_cast, Array.reduceGetElem?, Nat.reduceBEq, Nat.reduceLT, Nat.reduceAdd, Nat.reduceSub, Nat.reduceLeDiff, Nat.reduceMul, Nat.reduceEqDiff, reduceCtorEq, Int.reduceAdd, Int.reduceLT, Int.reduceLE, Int.reduceToNat, Int.reduceNeg, Int.reduceSub, Int.reduceBEq, Int.reduceBNe, Int.reduceNe, Int.reduceGT, Int.reduceGE, Nat.reduceGT] | (rw [drawC_ok]; rotate_left; decide +kernel; exact cfg_mixed))
      · have h1 : (cmpV a[i] b[i] != 0) = false := by simpa using he
        rw [if_neg he]
        clear he
        repeat' (first | with_reducible refine br_split (fun _ => ?_) (fun _ => ?_) | simp only [*, push_cast, Array.reduceGetElem?, Nat.reduceBEq, Nat.reduceLT, Nat.reduceAdd, Nat.reduceSub, Nat.reduceLeDiff, Nat.reduceMul, Nat.reduceEqDiff, reduceCtorEq, Int.reduceAdd, Int.reduceLT, Int.reduceLE, Int.reduceToNat, Int.reduceNeg, Int.reduceSub, Int.reduceBEq, Int.reduceBNe, Int.reduceNe, Int.reduceGT, Int.reduceGE, Nat.reduceGT] | (rw [drawC_ok]; rotate_left; decide +kernel; exact cfg_mixed))
    · have hg : decide ((i : Int) ≥ (b.length : Int)) = true := decide_eq_true (by omega)
      rw [List.drop_eq_nil_of_le (by omega : b.length ≤ i), cmpL1]
      have h1 : ((1 : Int) != 0) = true := rfl
      repeat' (first | with_reducible refine br_split (fun _ => ?_) (fun _ => ?_) | simp only [*, push_cast, Array.reduceGetElem?, Nat.reduceBEq, Nat.reduceLT, Nat.reduceAdd, Nat.reduceSub, Nat.reduceLeDiff, Nat.reduceMul, Nat.reduceEqDiff, reduceCtorEq, Int.reduceAdd, Int.reduceLT, Int.reduceLE, Int.reduceToNat, Int.reduceNeg, Int.reduceSub, Int.reduceBEq, Int.reduceBNe, Int.reduceNe, Int.reduceGT, Int.reduceGE, Nat.reduceGT] | (rw [drawC_ok]; rotate_left; decide +kernel; exact cfg_mixed))
  case last =>
    rw [List.drop_length, cmpL1]
    have h1 : ((0 : Int) != 0) = false := rfl
    repeat' (first | with_reducible refine br_split (fun _ => ?_) (fun _ => ?_) | simp only [*, push_cast, Array.reduceGetElem?, Nat.reduceBEq, Nat.reduceLT, Nat.reduceAdd, Nat.reduceSub, Nat.reduceLeDiff, Nat.reduceMul, Nat.reduceEqDiff, reduceCtorEq, Int.reduceAdd, Int.reduceLT, Int.reduceLE, Int.reduceToNat, Int.reduceNeg, Int.reduceSub, Int.reduceBEq, Int.reduceBNe, Int.reduceNe, Int.reduceGT, Int.reduceGE, Nat.reduceGT] | (rw [drawC_ok]; rotate_left; decide +kernel; exact cfg_mixed))
  · rw [List.drop_zero, List.drop_zero, cmpRow_1]
    by_cases he : cmpL1 a b ≠ 0
    · have h1 : (cmpL1 a b != 0) = true := by simpa using he
      rw [if_pos he]
      clear he
      repeat' (first | with_reducible refine br_split (fun _ => ?_) (fun _ => ?_) | simp only [*, push_cast, Array.reduceGetElem?, Nat.reduceBEq, Nat.reduceLT, Nat.reduceAdd, Nat.reduceSub, Nat.reduceLeDiff, Nat.reduceMul, Nat.reduceEqDiff, reduceCtorEq, Int.reduceAdd, Int.reduceLT, Int.reduceLE, Int.reduceToNat, Int.reduceNeg, Int.reduceSub, Int.reduceBEq, Int.reduceBNe, Int.reduceNe, Int.reduceGT, Int.reduceGE, Nat.reduceGT] | (rw [drawC_ok]; rotate_left; decide +kernel; exact cfg_mixed))
    · have h1 : (cmpL1 a b != 0) = false := by simpa using he
      rw [if_neg he]
      clear he
      by_cases hx : a.length < b.length
      · rw [if_pos hx]
        have := dec_lt hx
        repeat' (first | with_reducible refine br_split (fun _ => ?_) (fun _ => ?_) | simp only [*, push_cast, Array.reduceGetElem?, Nat.reduceBEq, Nat.reduceLT, Nat.reduceAdd, Nat.reduceSub, Nat.reduceLeDiff, Nat.reduceMul, Nat.reduceEqDiff, reduceCtorEq, Int.reduceAdd, Int.reduceLT, Int.reduceLE, Int.reduceToNat, Int.reduceNeg, Int.reduceSub, Int.reduceBEq, Int.reduceBNe, Int.reduceNe, Int.reduceGT, Int.reduceGE, Nat.reduceGT] | (rw [drawC_ok]; rotate_left; decide +kernel; exact cfg_mixed))
      · rw [if_neg hx]
        have : decide ((a.length : Int) < (b.length : Int)) = false := decide_eq_false (by omega)
        repeat' (first | with_reducible refine br_split (fun _ => ?_) (fun _ => ?_) | simp only [*, push_cast, Array.reduceGetElem?, Nat.reduceBEq, Nat.reduceLT, Nat.reduceAdd, Nat.reduceSub, Nat.reduceLeDiff, Nat.reduceMul, Nat.reduceEqDiff, reduceCtorEq, Int.reduceAdd, Int.reduceLT, Int.reduceLE, Int.reduceToNat, Int.reduceNeg, Int.reduceSub, Int.reduceBEq, Int.reduceBNe, Int.reduceNe, Int.reduceGT, Int.reduceGE, Nat.reduceGT] | (rw [drawC_ok]; rotate_left; decide +kernel; exact cfg_mixed))
theorem ev_CompareRow (a b : List V) (hl : a.length ≤ 1099511627776) : evF cfg 41 [] [.d (.sl .any (a.map vC)), .d (.sl .any (b.map vC))] = some (.d (.i .i64 (cmpRow a b)), []) := by
  have := ev_CompareFunc a b hl
  (refine (evF_code (C := cfg) (g := 41) (fn := Try.f41) rfl Try.func41 rfl (by rw [Try.ntmps41]; simp) (by kernel_rfl) (by first | decide | simp [keysOf])).trans ?_; rw [Try.results41, Try.ntmps41])
  repeat' (first | with_reducible refine br_split (fun _ => ?_) (fun _ => ?_) | simp only [*, push_cast, Array.reduceGetElem?, Nat.reduceBEq, Nat.reduceLT, Nat.reduceAdd, Nat.reduceSub, Nat.reduceLeDiff, Nat.reduceMul, Nat.reduceEqDiff, reduceCtorEq, Int.reduceAdd, Int.reduceLT, Int.reduceLE, Int.reduceToNat, Int.reduceNeg, Int.reduceSub, Int.reduceBEq, Int.reduceBNe, Int.reduceNe, Int.reduceGT, Int.reduceGE, Nat.reduceGT] | (rw [drawC_ok]; rotate_left; decide +kernel; exact cfg_mixed))
theorem ev_sCompareRow (a b : List V) (hl : a.length ≤ 1099511627776) : evF cfg 42 [] [.d (.sl .any (a.map vC)), .d (.sl .any (b.map vC))] = some (.d (.i .i64 (cmpRow a b)), []) := by
  (refine (evF_code (C := cfg) (g := 42) (fn := Try.f42) rfl Try.func42 rfl (by rw [Try.ntmps42]; simp) (by kernel_rfl) (by first | decide | simp [keysOf])).trans ?_; rw [Try.results42, Try.ntmps42])
  repeat' (first | with_reducible refine br_split (fun _ => ?_) (fun _ => ?_) | simp only [*, push_cast, Array.reduceGetElem?, Nat.reduceBEq, Nat.reduceLT, Nat.reduceAdd, Nat.reduceSub, Nat.reduceLeDiff, Nat.reduceMul, Nat.reduceEqDiff, reduceCtorEq, Int.reduceAdd, Int.reduceLT, Int.reduceLE, Int.reduceToNat, Int.reduceNeg, Int.reduceSub, Int.reduceBEq, Int.reduceBNe, Int.reduceNe, Int.reduceGT, Int.reduceGE, Nat.reduceGT] | (rw [drawC_ok]; rotate_left; decide +kernel; exact cfg_mixed))
  rw [evM_for0 a.length (fun i j => { t := [(0, .d (.sl .any (a.map vC))), (1, .d (.sl .any (b.map vC))), (5, .d (.i .i64 j))], o := [], ks := [], n := 0, sz := 43, u := noU })
    (fun i => br (cmpL2 (a.drop i) (b.drop i) != 0) (some (.ret, { t := [(4, .d (.i .i64 (cmpL2 (a.drop i) (b.drop i))))], o := [], ks := [], n := 0, sz := 43, u := noU })) (some (.exit 0, { t := [(0, .d (.sl .any (a.map vC))), (1, .d (.sl .any (b.map vC)))], o := [], ks := [], n := 0, sz := 43, u := noU })) ⟨⟩) ?step ?last]
  case step =>
    intro i hi ih
    have hc : (a.map vC)[i]? = some [.i .i64 a[i].k, .i .i64 a[i].n, .s a[i].s] := get_map vC a i hi
    have hd := dec_lt hi
    have hw := wrap_succ (i := i) (by omega)
    rw [List.drop_eq_getElem_cons hi]
    by_cases hb : i < b.length
    · have hc2 : (b.map vC)[i]? = some [.i .i64 b[i].k, .i .i64 b[i].n, .s b[i].s] := get_map vC b i hb
      have hg := dec_lt hb
      rw [List.drop_eq_getElem_cons hb, cmpL2]
      by_cases he : cmpV a[i] b[i] ≠ 0
      · have h1 : (cmpV a[i] b[i] != 0) = true := by simpa using he
        rw [if_pos he]
        clear he
        repeat' (first | with_reducible refine br_split (fun _ => ?_) (fun _ => ?_) | simp only [*, push_cast, Array.reduceGetElem?, Nat.reduceBEq, Nat.reduceLT, Nat.reduceAdd, Nat.reduceSub, Nat.reduceLeDiff, Nat.reduceMul, Nat.reduceEqDiff, reduceCtorEq, Int.reduceAdd, Int.reduceLT, Int.reduceLE, Int.reduceToNat, Int.reduceNeg, Int.reduceSub, Int.reduceBEq, Int.reduceBNe, Int.reduceNe, Int.reduceGT, Int.reduceGE, Nat.reduceGT] | (rw [drawC_ok]; rotate_left; decide +kernel; exact cfg_mixed))
      · have h1 : (cmpV a[i] b[i] != 0) = false := by simpa using he
        rw [if_neg he]
        clear he
        repeat' (first | with_reducible refine br_split (fun _ => ?_) (fun _ => ?_) | simp only [*, push_cast, Array.reduceGetElem?, Nat.reduceBEq, Nat.reduceLT, Nat.reduceAdd, Nat.reduceSub, Nat.reduceLeDiff, Nat.reduceMul, Nat.reduceEqDiff, reduceCtorEq, Int.reduceAdd, Int.reduceLT, Int.reduceLE, Int.reduceToNat, Int.reduceNeg, Int.reduceSub, Int.reduceBEq, Int.reduceBNe, Int.reduceNe, Int.reduceGT, Int.reduceGE, Nat.reduceGT] | (rw [drawC_ok]; rotate_left; decide +kernel; exact cfg_mixed))
    · have hg : decide ((i : Int) < (b.length : Int)) = false := decide_eq_false (by omega)
      rw [List.drop_eq_nil_of_le (by omega : b.length ≤ i), cmpL2]
      have h1 : ((0 : Int) != 0) = false := rfl
      repeat' (first | with_reducible refine br_split (fun _ => ?_) (fun _ => ?_) | simp only [*, push_cast, Array.reduceGetElem?, Nat.reduceBEq, Nat.reduceLT, Nat.reduceAdd, Nat.reduceSub, Nat.reduceLeDiff, Nat.reduceMul, Nat.reduceEqDiff, reduceCtorEq, Int.reduceAdd, Int.reduceLT, Int.reduceLE, Int.reduceToNat, Int.reduceNeg, Int.reduceSub, Int.reduceBEq, Int.reduceBNe, Int.reduceNe, Int.reduceGT, Int.reduceGE, Nat.reduceGT] | (rw [drawC_ok]; rotate_left; decide +kernel; exact cfg_mixed))
  case last =>
    rw [List.drop_length, cmpL2]
    have h1 : ((0 : Int) != 0) = false := rfl
    repeat' (first | with_reducible refine br_split (fun _ => ?_) (fun _ => ?_) | simp only [*, push_cast, Array.reduceGetElem?, Nat.reduceBEq, Nat.reduceLT, Nat.reduceAdd, Nat.reduceSub, Nat.reduceLeDiff, Nat.reduceMul, Nat.reduceEqDiff, reduceCtorEq, Int.reduceAdd, Int.reduceLT, Int.reduceLE, Int.reduceToNat, Int.reduceNeg, Int.reduceSub, Int.reduceBEq, Int.reduceBNe, Int.reduceNe, Int.reduceGT, Int.reduceGE, Nat.reduceGT] | (rw [drawC_ok]; rotate_left; decide +kernel; exact cfg_mixed))
  · rw [List.drop_zero, List.drop_zero, cmpRow_2]
    by_cases he : cmpL2 a b ≠ 0
    · have h1 : (cmpL2 a b != 0) = true := by simpa using he
      rw [if_pos he]
      clear he
      repeat' (first | with_reducible refine br_split (fun _ => ?_) (fun _ => ?_) | simp only [*, push_cast, Array.reduceGetElem?, Nat.reduceBEq, Nat.reduceLT, Nat.reduceAdd, Nat.reduceSub, Nat.reduceLeDiff, Nat.reduceMul, Nat.reduceEqDiff, reduceCtorEq, Int.reduceAdd, Int.reduceLT, Int.reduceLE, Int.reduceToNat, Int.reduceNeg, Int.reduceSub, Int.reduceBEq, Int.reduceBNe, Int.reduceNe, Int.reduceGT, Int.reduceGE, Nat.reduceGT] | (rw [drawC_ok]; rotate_left; decide +kernel; exact cfg_mixed))
    · have h1 : (cmpL2 a b != 0) = false := by simpa using he
      rw [if_neg he]
      clear he
      by_cases hx : a.length < b.length
      · rw [if_pos hx]
        have := dec_lt hx
        repeat' (first | with_reducible refine br_split (fun _ => ?_) (fun _ => ?_) | simp only [*, push_cast, Array.reduceGetElem?, Nat.reduceBEq, Nat.reduceLT, Nat.reduceAdd, Nat.reduceSub, Nat.reduceLeDiff, Nat.reduceMul, Nat.reduceEqDiff, reduceCtorEq, Int.reduceAdd, Int.reduceLT, Int.reduceLE, Int.reduceToNat, Int.reduceNeg, Int.reduceSub, Int.reduceBEq, Int.reduceBNe, Int.reduceNe, Int.reduceGT, Int.reduceGE, Nat.reduceGT] | (rw [drawC_ok]; rotate_left; decide +kernel; exact cfg_mixed))
      · rw [if_neg hx]
        have : decide ((a.length : Int) < (b.length : Int)) = false := decide_eq_false (by omega)
        by_cases hy : b.length < a.length
        · rw [if_pos hy]
          have : decide ((a.length : Int) > (b.length : Int)) = true := decide_eq_true (by omega)
          repeat' (first | with_reducible refine br_split (fun _ => ?_) (fun _ => ?_) | simp only [*, push_cast, Array.reduceGetElem?, Nat.reduceBEq, Nat.reduceLT, Nat.reduceAdd, Nat.reduceSub, Nat.reduceLeDiff, Nat.reduceMul, Nat.reduceEqDiff, reduceCtorEq, Int.reduceAdd, Int.reduceLT, Int.reduceLE, Int.reduceToNat, Int.reduceNeg, Int.reduceSub, Int.reduceBEq, Int.reduceBNe, Int.reduceNe, Int.reduceGT, Int.reduceGE, Nat.reduceGT] | (rw [drawC_ok]; rotate_left; decide +kernel; exact cfg_mixed))
        · rw [if_neg hy]
          have : decide ((a.length : Int) > (b.length : Int)) = false := decide_eq_false (by omega)
          repeat' (first | with_reducible refine br_split (fun _ => ?_) (fun _ => ?_) | simp only [*, push_cast, Array.reduceGetElem?, Nat.reduceBEq, Nat.reduceLT, Nat.reduceAdd, Nat.reduceSub, Nat.reduceLeDiff, Nat.reduceMul, Nat.reduceEqDiff, reduceCtorEq, Int.reduceAdd, Int.reduceLT, Int.reduceLE, Int.reduceToNat, Int.reduceNeg, Int.reduceSub, Int.reduceBEq, Int.reduceBNe, Int.reduceNe, Int.reduceGT, Int.reduceGE, Nat.reduceGT] | (rw [drawC_ok]; rotate_left; decide +kernel; exact cfg_mixed))
theorem ev_l02Row (l : List V) (w : Int) (hl : l.length ≤ 1099511627776) : evF cfg 78 [] [.d (.sl .any (l.map vC)), .d (.i .i64 w)] = some (.d (.b (((l.length : Int) == w) && l.all valueOk)), []) := by
  (refine (evF_code (C := cfg) (g := 78) (fn := Try.f78) rfl Try.func78 rfl (by rw [Try.ntmps78]; simp) (by kernel_rfl) (by first | decide | simp [keysOf])).trans ?_; rw [Try.results78, Try.ntmps78])
  repeat' (first | with_reducible refine br_split (fun _ => ?_) (fun _ => ?_) | simp only [*, push_cast, Array.reduceGetElem?, Nat.reduceBEq, Nat.reduceLT, Nat.reduceAdd, Nat.reduceSub, Nat.reduceLeDiff, Nat.reduceMul, Nat.reduceEqDiff, reduceCtorEq, Int.reduceAdd, Int.reduceLT, Int.reduceLE, Int.reduceToNat, Int.reduceNeg, Int.reduceSub, Int.reduceBEq, Int.reduceBNe, Int.reduceNe, Int.reduceGT, Int.reduceGE, Nat.reduceGT] | (rw [drawC_ok]; rotate_left; decide +kernel; exact cfg_mixed))
  rw [evM_for0 l.length (fun i j => { t := [(0, .d (.sl .any (l.map vC))), (1, .d (.i .i64 w)), (5, .d (.i .i64 j))], o := [], ks := [], n := 0, sz := 22, u := noU })
    (fun i => br ((l.drop i).all valueOk) (some (.exit 0, { t := [(0, .d (.sl .any (l.map vC))), (1, .d (.i .i64 w))], o := [], ks := [], n := 0, sz := 22, u := noU })) (some (.ret, { t := [(4, .d (.b false))], o := [], ks := [], n := 0, sz := 22, u := noU })) ⟨⟩) ?step ?last]
  case step =>
    intro i hi ih
    have hc : (l.map vC)[i]? = some [.i .i64 l[i].k, .i .i64 l[i].n, .s l[i].s] := get_map vC l i hi
    have hd := dec_lt hi
    have hw := wrap_succ (i := i) (by omega)
    rw [List.drop_eq_getElem_cons hi, List.all_cons]
    repeat' (first | with_reducible refine br_split (fun _ => ?_) (fun _ => ?_) | simp only [*, push_cast, Array.reduceGetElem?, Nat.reduceBEq, Nat.reduceLT, Nat.reduceAdd, Nat.reduceSub, Nat.reduceLeDiff, Nat.reduceMul, Nat.reduceEqDiff, reduceCtorEq, Int.reduceAdd, Int.reduceLT, Int.reduceLE, Int.reduceToNat, Int.reduceNeg, Int.reduceSub, Int.reduceBEq, Int.reduceBNe, Int.reduceNe, Int.reduceGT, Int.reduceGE, Nat.reduceGT] | (rw [drawC_ok]; rotate_left; decide +kernel; exact cfg_mixed))
  case last =>
    rw [List.drop_length, List.all_nil]
    repeat' (first | with_reducible refine br_split (fun _ => ?_) (fun _ => ?_) | simp only [*, push_cast, Array.reduceGetElem?, Nat.reduceBEq, Nat.reduceLT, Nat.reduceAdd, Nat.reduceSub, Nat.reduceLeDiff, Nat.reduceMul, Nat.reduceEqDiff, reduceCtorEq, Int.reduceAdd, Int.reduceLT, Int.reduceLE, Int.reduceToNat, Int.reduceNeg, Int.reduceSub, Int.reduceBEq, Int.reduceBNe, Int.reduceNe, Int.reduceGT, Int.reduceGE, Nat.reduceGT] | (rw [drawC_ok]; rotate_left; decide +kernel; exact cfg_mixed))
  · rw [List.drop_zero]
    cases h : l.all valueOk <;> repeat' (first | with_reducible refine br_split (fun _ => ?_) (fun _ => ?_) | simp only [*, push_cast, Array.reduceGetElem?, Nat.reduceBEq, Nat.reduceLT, Nat.reduceAdd, Nat.reduceSub, Nat.reduceLeDiff, Nat.reduceMul, Nat.reduceEqDiff, reduceCtorEq, Int.reduceAdd, Int.reduceLT, Int.reduceLE, Int.reduceToNat, Int.reduceNeg, Int.reduceSub, Int.reduceBEq, Int.reduceBNe, Int.reduceNe, Int.reduceGT, Int.reduceGE, Nat.reduceGT] | (rw [drawC_ok]; rotate_left; decide +kernel; exact cfg_mixed))
theorem ev_isRow (l : List V) (w : Int) (hl : l.length ≤ 1099511627776) : evF cfg 77 [] [.d (.sl .any (l.map vC)), .d (.i .i64 w)] = some (.d (.b (((l.length : Int) == w) && l.all valueOk)), []) := by
  have ha := ev_areAllValue_0 (h := 101) (p := valueOk) l hl rfl rfl rfl (fun x _ => ev_ValueOk _ _ _)
  (refine (evF_code (C := cfg) (g := 77) (fn := Try.f77) rfl Try.func77 rfl (by rw [Try.ntmps77]; simp) (by kernel_rfl) (by first | decide | simp [keysOf])).trans ?_; rw [Try.results77, Try.ntmps77])
  repeat' (first | with_reducible refine br_split (fun _ => ?_) (fun _ => ?_) | simp only [*, push_cast, Array.reduceGetElem?, Nat.reduceBEq, Nat.reduceLT, Nat.reduceAdd, Nat.reduceSub, Nat.reduceLeDiff, Nat.reduceMul, Nat.reduceEqDiff, reduceCtorEq, Int.reduceAdd, Int.reduceLT, Int.reduceLE, Int.reduceToNat, Int.reduceNeg, Int.reduceSub, Int.reduceBEq, Int.reduceBNe, Int.reduceNe, Int.reduceGT, Int.reduceGE, Nat.reduceGT] | (rw [drawC_ok]; rotate_left; decide +kernel; exact cfg_mixed))
end Go.Av
end

section
namespace Go.Av
open Go.Proofs
set_option linter.unusedSimpArgs false

theorem ev_BagOk (w : Int) (rows : List C) (hl : rows.length ≤ 140737488355328) (hr : ∀ c ∈ rows, c.row.length ≤ 1099511627776) : evF cfg 39 [] [.agg [.d (.i .i64 w), .d (.sl .any (rows.map cC))]] = some (.d (.b (bagOk ⟨w, rows⟩)), []) := by
  cases hw0 : (decide (0 ≤ w) && decide (w ≤ 12)) with
  | false =>
    (refine (evF_code (C := cfg) (g := 39) (fn := Try.f39) rfl Try.func39 rfl (by rw [Try.ntmps39]; simp) (by kernel_rfl) (by first | decide | simp [keysOf])).trans ?_; rw [Try.results39, Try.ntmps39])
    repeat' (first | with_reducible refine br_split (fun _ => ?_) (fun _ => ?_) | simp only [*, push_cast, Array.reduceGetElem?, Nat.reduceBEq, Nat.reduceLT, Nat.reduceAdd, Nat.reduceSub, Nat.reduceLeDiff, Nat.reduceMul, Nat.reduceEqDiff, reduceCtorEq, Int.reduceAdd, Int.reduceLT, Int.reduceLE, Int.reduceToNat, Int.reduceNeg, Int.reduceSub, Int.reduceBEq, Int.reduceBNe, Int.reduceNe, Int.reduceGT, Int.reduceGE, Nat.reduceGT] | (rw [drawC_ok]; rotate_left; decide +kernel; exact cfg_mixed))
    simp [bagOk, hw0]
  | true =>
  cases hl0 : decide ((rows.length : Int) > 400) with
  | true =>
    (refine (evF_code (C := cfg) (g := 39) (fn := Try.f39) rfl Try.func39 rfl (by rw [Try.ntmps39]; simp) (by kernel_rfl) (by first | decide | simp [keysOf])).trans ?_; rw [Try.results39, Try.ntmps39])
    repeat' (first | with_reducible refine br_split (fun _ => ?_) (fun _ => ?_) | simp only [*, push_cast, Array.reduceGetElem?, Nat.reduceBEq, Nat.reduceLT, Nat.reduceAdd, Nat.reduceSub, Nat.reduceLeDiff, Nat.reduceMul, Nat.reduceEqDiff, reduceCtorEq, Int.reduceAdd, Int.reduceLT, Int.reduceLE, Int.reduceToNat, Int.reduceNeg, Int.reduceSub, Int.reduceBEq, Int.reduceBNe, Int.reduceNe, Int.reduceGT, Int.reduceGE, Nat.reduceGT] | (rw [drawC_ok]; rotate_left; decide +kernel; exact cfg_mixed))
    simp only [bagOk, hw0, hl0]
    rfl
  | false =>
  (refine (evF_code (C := cfg) (g := 39) (fn := Try.f39) rfl Try.func39 rfl (by rw [Try.ntmps39]; simp) (by kernel_rfl) (by first | decide | simp [keysOf])).trans ?_; rw [Try.results39, Try.ntmps39])
  repeat' (first | with_reducible refine br_split (fun _ => ?_) (fun _ => ?_) | simp only [*, push_cast, Array.reduceGetElem?, Nat.reduceBEq, Nat.reduceLT, Nat.reduceAdd, Nat.reduceSub, Nat.reduceLeDiff, Nat.reduceMul, Nat.reduceEqDiff, reduceCtorEq, Int.reduceAdd, Int.reduceLT, Int.reduceLE, Int.reduceToNat, Int.reduceNeg, Int.reduceSub, Int.reduceBEq, Int.reduceBNe, Int.reduceNe, Int.reduceGT, Int.reduceGE, Nat.reduceGT] | (rw [drawC_ok]; rotate_left; decide +kernel; exact cfg_mixed))
  rw [evM_for0 rows.length (fun i j => { t := [(1, .ptr 50 0), (16, .d (.sl .any (rows.map cC))), (17, .d (.i .i64 rows.length)), (18, .d (.i .i64 j))], o := [(50, .box [.d (.i .i64 w), .d (.sl .any (rows.map cC))])], ks := [50], n := 0, sz := 58, u := noU })
    (fun i => br (okRest w (prevAt rows i) (rows.drop i)) (some (.exit 0, { t := [], o := [], ks := [], n := 0, sz := 58, u := noU })) (some (.ret, { t := [(2, .d (.b false))], o := [], ks := [], n := 0, sz := 58, u := noU })) ⟨⟩) ?step ?last]
  case step =>
    intro i hi ih
    have hc : (rows.map cC)[i]? = some [.sl .any (rows[i].row.map vC), .i .i64 rows[i].n] := get_map cC rows i hi
    have hd := dec_lt hi
    have hw : IntKind.i64.wrap ((i : Int) + 1) = (i : Int) + 1 := i64_in (by omega) (by omega)
    have h1 := ev_isRow rows[i].row w (hr _ (List.getElem_mem hi))
    rw [okRest_at hi, okC]
    by_cases h0 : i = 0
    · have hp : decide ((i : Int) > 0) = false := decide_eq_false (by omega)
      have h3 : okPrev rows[i] (prevAt rows i) = true := by subst h0; rfl
      rw [h3]
      clear h3 h0
      repeat' (first | with_reducible refine br_split (fun _ => ?_) (fun _ => ?_) | simp only [*, push_cast, Array.reduceGetElem?, Nat.reduceBEq, Nat.reduceLT, Nat.reduceAdd, Nat.reduceSub, Nat.reduceLeDiff, Nat.reduceMul, Nat.reduceEqDiff, reduceCtorEq, Int.reduceAdd, Int.reduceLT, Int.reduceLE, Int.reduceToNat, Int.reduceNeg, Int.reduceSub, Int.reduceBEq, Int.reduceBNe, Int.reduceNe, Int.reduceGT, Int.reduceGE, Nat.reduceGT] | (rw [drawC_ok]; rotate_left; decide +kernel; exact cfg_mixed))
    · obtain ⟨k, hk⟩ : ∃ k, i = k + 1 := ⟨i - 1, by omega⟩
      have hkl : k < rows.length := by omega
      have hc2 : (rows.map cC)[k]? = some [.sl .any (rows[k].row.map vC), .i .i64 rows[k].n] := get_map cC rows k hkl
      have hp : decide ((i : Int) > 0) = true := decide_eq_true (by omega)
      have hw2 : IntKind.i64.wrap ((i : Int) - 1) = (k : Int) := by rw [i64_in (by omega) (by omega)]; omega
      have h2 := ev_CompareRow rows[k].row rows[i].row (hr _ (List.getElem_mem hkl))
      have h3 : okPrev rows[i] (prevAt rows i) = !(decide (cmpRow rows[k].row rows[i].row ≥ 0)) := by subst hk; simp [prevAt, hkl, okPrev]
      rw [h3]
      clear h3 hk h0
      repeat' (first | with_reducible refine br_split (fun _ => ?_) (fun _ => ?_) | simp only [*, push_cast, Array.reduceGetElem?, Nat.reduceBEq, Nat.reduceLT, Nat.reduceAdd, Nat.reduceSub, Nat.reduceLeDiff, Nat.reduceMul, Nat.reduceEqDiff, reduceCtorEq, Int.reduceAdd, Int.reduceLT, Int.reduceLE, Int.reduceToNat, Int.reduceNeg, Int.reduceSub, Int.reduceBEq, Int.reduceBNe, Int.reduceNe, Int.reduceGT, Int.reduceGE, Nat.reduceGT] | (rw [drawC_ok]; rotate_left; decide +kernel; exact cfg_mixed))
  case last =>
    rw [List.drop_length, okRest]
    repeat' (first | with_reducible refine br_split (fun _ => ?_) (fun _ => ?_) | simp only [*, push_cast, Array.reduceGetElem?, Nat.reduceBEq, Nat.reduceLT, Nat.reduceAdd, Nat.reduceSub, Nat.reduceLeDiff, Nat.reduceMul, Nat.reduceEqDiff, reduceCtorEq, Int.reduceAdd, Int.reduceLT, Int.reduceLE, Int.reduceToNat, Int.reduceNeg, Int.reduceSub, Int.reduceBEq, Int.reduceBNe, Int.reduceNe, Int.reduceGT, Int.reduceGE, Nat.reduceGT] | (rw [drawC_ok]; rotate_left; decide +kernel; exact cfg_mixed))
  · rw [List.drop_zero]
    have : prevAt rows 0 = none := rfl
    rw [this]
    have hb : bagOk ⟨w, rows⟩ = okRest w none rows := by simp only [bagOk, hw0, hl0, okRows, Bool.not_false, Bool.true_and]
    rw [hb]
    cases h : okRest w none rows <;> repeat' (first | with_reducible refine br_split (fun _ => ?_) (fun _ => ?_) | simp only [*, push_cast, Array.reduceGetElem?, Nat.reduceBEq, Nat.reduceLT, Nat.reduceAdd, Nat.reduceSub, Nat.reduceLeDiff, Nat.reduceMul, Nat.reduceEqDiff, reduceCtorEq, Int.reduceAdd, Int.reduceLT, Int.reduceLE, Int.reduceToNat, Int.reduceNeg, Int.reduceSub, Int.reduceBEq, Int.reduceBNe, Int.reduceNe, Int.reduceGT, Int.reduceGE, Nat.reduceGT] | (rw [drawC_ok]; rotate_left; decide +kernel; exact cfg_mixed))

theorem ev_sBagOk (w : Int) (rows : List C) (hl : rows.length ≤ 140737488355328) (hr : ∀ c ∈ rows, c.row.length ≤ 1099511627776) : evF cfg 40 [] [.agg [.d (.i .i64 w), .d (.sl .any (rows.map cC))]] = some (.d (.b (bagOk ⟨w, rows⟩)), []) := by
  (refine (evF_code (C := cfg) (g := 40) (fn := Try.f40) rfl Try.func40 rfl (by rw [Try.ntmps40]; simp) (by kernel_rfl) (by first | decide | simp [keysOf])).trans ?_; rw [Try.results40, Try.ntmps40])
  repeat' (first | with_reducible refine br_split (fun _ => ?_) (fun _ => ?_) | simp only [*, push_cast, Array.reduceGetElem?, Nat.reduceBEq, Nat.reduceLT, Nat.reduceAdd, Nat.reduceSub, Nat.reduceLeDiff, Nat.reduceMul, Nat.reduceEqDiff, reduceCtorEq, Int.reduceAdd, Int.reduceLT, Int.reduceLE, Int.reduceToNat, Int.reduceNeg, Int.reduceSub, Int.reduceBEq, Int.reduceBNe, Int.reduceNe, Int.reduceGT, Int.reduceGE, Nat.reduceGT] | (rw [drawC_ok]; rotate_left; decide +kernel; exact cfg_mixed))
  rw [evM_for0 rows.length (fun i j => { t := [(1, .ptr 50 0), (3, .d (.i .i64 j))], o := [(50, .box [.d (.i .i64 w), .d (.sl .any (rows.map cC))])], ks := [50], n := 0, sz := 60, u := noU })
    (fun i => br (okRest w (prevAt rows i) (rows.drop i)) (some (.exit 0, { t := [(1, .ptr 50 0)], o := [(50, .box [.d (.i .i64 w), .d (.sl .any (rows.map cC))])], ks := [50], n := 0, sz := 60, u := noU })) (some (.ret, { t := [(2, .d (.b false))], o := [], ks := [], n := 0, sz := 60, u := noU })) ⟨⟩) ?step ?last]
  case step =>
    intro i hi ih
    have hc : (rows.map cC)[i]? = some [.sl .any (rows[i].row.map vC), .i .i64 rows[i].n] := get_map cC rows i hi
    have hd := dec_lt hi
    have hw : IntKind.i64.wrap ((i : Int) + 1) = (i : Int) + 1 := i64_in (by omega) (by omega)
    have h1 := ev_l02Row rows[i].row w (hr _ (List.getElem_mem hi))
    rw [okRest_at hi, okC]
    by_cases h0 : i = 0
    · have hp : decide ((i : Int) > 0) = false := decide_eq_false (by omega)
      have h3 : okPrev rows[i] (prevAt rows i) = true := by subst h0; rfl
      rw [h3]
      clear h3 h0
      repeat' (first | with_reducible refine br_split (fun _ => ?_) (fun _ => ?_) | simp only [*, push_cast, Array.reduceGetElem?, Nat.reduceBEq, Nat.reduceLT, Nat.reduceAdd, Nat.reduceSub, Nat.reduceLeDiff, Nat.reduceMul, Nat.reduceEqDiff, reduceCtorEq, Int.reduceAdd, Int.reduceLT, Int.reduceLE, Int.reduceToNat, Int.reduceNeg, Int.reduceSub, Int.reduceBEq, Int.reduceBNe, Int.reduceNe, Int.reduceGT, Int.reduceGE, Nat.reduceGT] | (rw [drawC_ok]; rotate_left; decide +kernel; exact cfg_mixed))
    · obtain ⟨k, hk⟩ : ∃ k, i = k + 1 := ⟨i - 1, by omega⟩
      have hkl : k < rows.length := by omega
      have hc2 : (rows.map cC)[k]? = some [.sl .any (rows[k].row.map vC), .i .i64 rows[k].n] := get_map cC rows k hkl
      have hp : decide ((i : Int) > 0) = true := decide_eq_true (by omega)
      have hw2 : IntKind.i64.wrap ((i : Int) - 1) = (k : Int) := by rw [i64_in (by omega) (by omega)]; omega
      have h2 := ev_sCompareRow rows[k].row rows[i].row (hr _ (List.getElem_mem hkl))
      have h3 : okPrev rows[i] (prevAt rows i) = !(decide (cmpRow rows[k].row rows[i].row ≥ 0)) := by subst hk; simp [prevAt, hkl, okPrev]
      rw [h3]
      clear h3 hk h0
      repeat' (first | with_reducible refine br_split (fun _ => ?_) (fun _ => ?_) | simp only [*, push_cast, Array.reduceGetElem?, Nat.reduceBEq, Nat.reduceLT, Nat.reduceAdd, Nat.reduceSub, Nat.reduceLeDiff, Nat.reduceMul, Nat.reduceEqDiff, reduceCtorEq, Int.reduceAdd, Int.reduceLT, Int.reduceLE, Int.reduceToNat, Int.reduceNeg, Int.reduceSub, Int.reduceBEq, Int.reduceBNe, Int.reduceNe, Int.reduceGT, Int.reduceGE, Nat.reduceGT] | (rw [drawC_ok]; rotate_left; decide +kernel; exact cfg_mixed))
  case last =>
    rw [List.drop_length, okRest]
    repeat' (first | with_reducible refine br_split (fun _ => ?_) (fun _ => ?_) | simp only [*, push_cast, Array.reduceGetElem?, Nat.reduceBEq, Nat.reduceLT, Nat.reduceAdd, Nat.reduceSub, Nat.reduceLeDiff, Nat.reduceMul, Nat.reduceEqDiff, reduceCtorEq, Int.reduceAdd, Int.reduceLT, Int.reduceLE, Int.reduceToNat, Int.reduceNeg, Int.reduceSub, Int.reduceBEq, Int.reduceBNe, Int.reduceNe, Int.reduceGT, Int.reduceGE, Nat.reduceGT] | (rw [drawC_ok]; rotate_left; decide +kernel; exact cfg_mixed))
  · rw [List.drop_zero]
    have : prevAt rows 0 = none := rfl
    rw [this]
    cases h : okRest w none rows with
    | false =>
      have hb : bagOk ⟨w, rows⟩ = false := by simp [bagOk, okRows, h]
      repeat' (first | with_reducible refine br_split (fun _ => ?_) (fun _ => ?_) | simp only [*, push_cast, Array.reduceGetElem?, Nat.reduceBEq, Nat.reduceLT, Nat.reduceAdd, Nat.reduceSub, Nat.reduceLeDiff, Nat.reduceMul, Nat.reduceEqDiff, reduceCtorEq, Int.reduceAdd, Int.reduceLT, Int.reduceLE, Int.reduceToNat, Int.reduceNeg, Int.reduceSub, Int.reduceBEq, Int.reduceBNe, Int.reduceNe, Int.reduceGT, Int.reduceGE, Nat.reduceGT] | (rw [drawC_ok]; rotate_left; decide +kernel; exact cfg_mixed))
    | true =>
      have hb : bagOk ⟨w, rows⟩ = ((decide (0 ≤ w) && decide (w ≤ 12)) && decide ((rows.length : Int) ≤ 400)) := by simp only [bagOk, okRows, h, Bool.and_true]; congr 1; by_cases hx : (rows.length : Int) > 400 <;> simp [hx] <;> omega
      rw [hb]
      cases hw0 : (decide (0 ≤ w) && decide (w ≤ 12)) <;> repeat' (first | with_reducible refine br_split (fun _ => ?_) (fun _ => ?_) | simp only [*, push_cast, Array.reduceGetElem?, Nat.reduceBEq, Nat.reduceLT, Nat.reduceAdd, Nat.reduceSub, Nat.reduceLeDiff, Nat.reduceMul, Nat.reduceEqDiff, reduceCtorEq, Int.reduceAdd, Int.reduceLT, Int.reduceLE, Int.reduceToNat, Int.reduceNeg, Int.reduceSub, Int.reduceBEq, Int.reduceBNe, Int.reduceNe, Int.reduceGT, Int.reduceGE, Nat.reduceGT] | (rw [drawC_ok]; rotate_left; decide +kernel; exact cfg_mixed))

end Go.Av
end

section
namespace Go.Av
open Go.Proofs
set_option linter.unusedSimpArgs false
theorem ev_own (w : Int) (rows : List C) (hl : rows.length ≤ 1048576) (hr : ∀ c ∈ rows, c.row.length ≤ 1048576) : evF cfg 51 [] [.agg [.d (.i .i64 w), .d (.sl .any (rows.map cC))]] = some (.agg [.d (.i .i64 w), .own 40], [(40, .arr .any 2 (cnEs [1, 40] 0 (rows.map cC)))]) := by
  have hcan := canOk_own (cZ fun i => [i]) rows (cZ_nm fun i => ⟨[], rfl⟩) (A := .any) (m := 2) (k := 40) (r := .agg [.d (.i .i64 w), .own 40]) rfl rfl
  (refine (evF_codeZ (C := cfg) (g := 51) (fn := Try.f51) rfl Try.func51 rfl (by rw [Try.ntmps51]; simp) (by kernel_rfl)).trans ?_; rw [Try.results51, Try.ntmps51])
  repeat' (first | with_reducible refine br_split (fun _ => ?_) (fun _ => ?_) | simp only [*, push_cast, Array.reduceGetElem?, Nat.reduceBEq, Nat.reduceLT, Nat.reduceAdd, Nat.reduceSub, Nat.reduceLeDiff, Nat.reduceMul, Nat.reduceEqDiff, reduceCtorEq, Int.reduceAdd, Int.reduceLT, Int.reduceLE, Int.reduceToNat, Int.reduceNeg, Int.reduceSub, Int.reduceBEq, Int.reduceBNe, Int.reduceNe, Int.reduceGT, Int.reduceGE, Nat.reduceGT] | (rw [drawC_ok]; rotate_left; decide +kernel; exact cfg_mixed))
  rw [show ([] : List (List T)) = (rows.take 0).mapIdx (cZ fun i => [i]) from rfl]
  rw [evM_for0 rows.length (fun i j => { t := [(2, .ptr 50 0), (3, .ptr 51 0), (10, .d (.sl .any (rows.map cC))), (11, .d (.i .i64 rows.length)), (12, .d (.i .i64 j))], o := [(50, .box [.d (.i .i64 0), .nl]), (51, .box [.d (.i .i64 w), .own 52]), (52, .arr .any 2 ((rows.take i).mapIdx (cZ fun i => [i])))], ks := [50, 51, 52], n := 0, sz := 29, u := noU, g := some (i, false) })
    (fun i => some (.exit 0, { t := [(2, .ptr 50 0), (3, .ptr 51 0)], o := [(50, .box [.d (.i .i64 0), .nl]), (51, .box [.d (.i .i64 w), .own 52]), (52, .arr .any 2 (rows.mapIdx (cZ fun i => [i])))], ks := [50, 51, 52], n := 0, sz := 29, u := noU, g := some (rows.length, false) })) ?step ?last]
  case step =>
    intro i hi ih
    have hc : (rows.map cC)[i]? = some [.sl .any (rows[i].row.map vC), .i .i64 rows[i].n] := get_map cC rows i hi
    have hd := dec_lt hi
    have hw : IntKind.i64.wrap ((i : Int) + 1) = (i : Int) + 1 := wrap_succ (by omega)
    have h1 := len_ok (n := rows[i].row.length) 32 (by have := hr _ (List.getElem_mem hi); omega) (by omega)
    have h2 := len_ok (n := (rows.take i).length + 1) 32 (by simp; omega) (by omega)
    have h2' : ((rows.take i).mapIdx (cZ fun i => [i])).length = (rows.take i).length := by simp
    have h3 : (rows.take i).mapIdx (cZ fun i => [i]) ++ [[.sl (.tok [i]) (rows[i].row.map vC), .i .i64 rows[i].n]] = _ := take_snocI (cZ fun i => [i]) hi
    repeat' (first | with_reducible refine br_split (fun _ => ?_) (fun _ => ?_) | simp only [*, push_cast, Array.reduceGetElem?, Nat.reduceBEq, Nat.reduceLT, Nat.reduceAdd, Nat.reduceSub, Nat.reduceLeDiff, Nat.reduceMul, Nat.reduceEqDiff, reduceCtorEq, Int.reduceAdd, Int.reduceLT, Int.reduceLE, Int.reduceToNat, Int.reduceNeg, Int.reduceSub, Int.reduceBEq, Int.reduceBNe, Int.reduceNe, Int.reduceGT, Int.reduceGE, Nat.reduceGT] | (rw [drawC_ok]; rotate_left; decide +kernel; exact cfg_mixed))
  case last =>
    have : rows.take rows.length = rows := List.take_length
    repeat' (first | with_reducible refine br_split (fun _ => ?_) (fun _ => ?_) | simp only [*, push_cast, Array.reduceGetElem?, Nat.reduceBEq, Nat.reduceLT, Nat.reduceAdd, Nat.reduceSub, Nat.reduceLeDiff, Nat.reduceMul, Nat.reduceEqDiff, reduceCtorEq, Int.reduceAdd, Int.reduceLT, Int.reduceLE, Int.reduceToNat, Int.reduceNeg, Int.reduceSub, Int.reduceBEq, Int.reduceBNe, Int.reduceNe, Int.reduceGT, Int.reduceGE, Nat.reduceGT] | (rw [drawC_ok]; rotate_left; decide +kernel; exact cfg_mixed))
  · repeat' (first | with_reducible refine br_split (fun _ => ?_) (fun _ => ?_) | simp only [*, push_cast, Array.reduceGetElem?, Nat.reduceBEq, Nat.reduceLT, Nat.reduceAdd, Nat.reduceSub, Nat.reduceLeDiff, Nat.reduceMul, Nat.reduceEqDiff, reduceCtorEq, Int.reduceAdd, Int.reduceLT, Int.reduceLE, Int.reduceToNat, Int.reduceNeg, Int.reduceSub, Int.reduceBEq, Int.reduceBNe, Int.reduceNe, Int.reduceGT, Int.reduceGE, Nat.reduceGT] | (rw [drawC_ok]; rotate_left; decide +kernel; exact cfg_mixed))
end Go.Av
end
