/- What functions of this seat give. -/
import Derived.Test.YtnbdlncbfjkpcaaGreatGa
set_option linter.all false
set_option linter.unusedVariables false
set_option linter.unusedSimpArgs false

section
namespace Go.Av
open Go.Proofs
set_option linter.unusedSimpArgs false

@[push_cast] theorem ev_l01In (x a b : Int) : evF cfg 67 [] [.d (.i .i64 x), .d (.i .i64 a), .d (.i .i64 b)] = some (.d (.b (decide (a ≤ x) && decide (x ≤ b))), []) := by
  (refine (evF_code (C := cfg) (g := 67) (fn := Tryz.f67) rfl Tryz.func67 rfl (by rw [Tryz.ntmps67]; simp) (by kernel_rfl) (by first | decide | simp [keysOf])).trans ?_; rw [Tryz.results67, Tryz.ntmps67])
  repeat' (first | with_reducible refine br_split (fun _ => ?_) (fun _ => ?_) | simp only [*, push_cast, Array.reduceGetElem?, Nat.reduceBEq, Nat.reduceLT, Nat.reduceAdd, Nat.reduceSub, Nat.reduceLeDiff, Nat.reduceMul, Nat.reduceEqDiff, reduceCtorEq, Int.reduceAdd, Int.reduceLT, Int.reduceLE, Int.reduceToNat, Int.reduceNeg, Int.reduceSub, Int.reduceBEq, Int.reduceBNe, Int.reduceNe, Int.reduceGT, Int.reduceGE, Nat.reduceGT] | (rw [drawC_ok]; rotate_left; decide +kernel; exact cfg_mixed))
@[push_cast] theorem ev_within (x a b : Int) : evF cfg 58 [] [.d (.i .i64 x), .d (.i .i64 a), .d (.i .i64 b)] = some (.d (.b (decide (a ≤ x) && decide (x ≤ b))), []) := by
  (refine (evF_code (C := cfg) (g := 58) (fn := Tryz.f58) rfl Tryz.func58 rfl (by rw [Tryz.ntmps58]; simp) (by kernel_rfl) (by first | decide | simp [keysOf])).trans ?_; rw [Tryz.results58, Tryz.ntmps58])
  repeat' (first | with_reducible refine br_split (fun _ => ?_) (fun _ => ?_) | simp only [*, push_cast, Array.reduceGetElem?, Nat.reduceBEq, Nat.reduceLT, Nat.reduceAdd, Nat.reduceSub, Nat.reduceLeDiff, Nat.reduceMul, Nat.reduceEqDiff, reduceCtorEq, Int.reduceAdd, Int.reduceLT, Int.reduceLE, Int.reduceToNat, Int.reduceNeg, Int.reduceSub, Int.reduceBEq, Int.reduceBNe, Int.reduceNe, Int.reduceGT, Int.reduceGE, Nat.reduceGT] | (rw [drawC_ok]; rotate_left; decide +kernel; exact cfg_mixed))
@[push_cast] theorem ev_sValueOk (k n : Int) (s : ByteArray) : evF cfg 99 [] [.agg [.d (.i .i64 k), .d (.i .i64 n), .d (.s s)]] = some (.d (.b (valueOk ⟨k, n, s⟩)), []) := by
  (refine (evF_code (C := cfg) (g := 99) (fn := Tryz.f99) rfl Tryz.func99 rfl (by rw [Tryz.ntmps99]; simp) (by kernel_rfl) (by first | decide | simp [keysOf])).trans ?_; rw [Tryz.results99, Tryz.ntmps99])
  repeat' (first | with_reducible refine br_split (fun _ => ?_) (fun _ => ?_) | simp only [*, push_cast, Array.reduceGetElem?, Nat.reduceBEq, Nat.reduceLT, Nat.reduceAdd, Nat.reduceSub, Nat.reduceLeDiff, Nat.reduceMul, Nat.reduceEqDiff, reduceCtorEq, Int.reduceAdd, Int.reduceLT, Int.reduceLE, Int.reduceToNat, Int.reduceNeg, Int.reduceSub, Int.reduceBEq, Int.reduceBNe, Int.reduceNe, Int.reduceGT, Int.reduceGE, Nat.reduceGT] | (rw [drawC_ok]; rotate_left; decide +kernel; exact cfg_mixed))
  all_goals simp_all [valueOk]
  all_goals omega
@[push_cast] theorem ev_ValueOk (k n : Int) (s : ByteArray) : evF cfg 100 [] [.agg [.d (.i .i64 k), .d (.i .i64 n), .d (.s s)]] = some (.d (.b (valueOk ⟨k, n, s⟩)), []) := by
  (refine (evF_code (C := cfg) (g := 100) (fn := Tryz.f100) rfl Tryz.func100 rfl (by rw [Tryz.ntmps100]; simp) (by kernel_rfl) (by first | decide | simp [keysOf])).trans ?_; rw [Tryz.results100, Tryz.ntmps100])
  repeat' (first | with_reducible refine br_split (fun _ => ?_) (fun _ => ?_) | simp only [*, push_cast, Array.reduceGetElem?, Nat.reduceBEq, Nat.reduceLT, Nat.reduceAdd, Nat.reduceSub, Nat.reduceLeDiff, Nat.reduceMul, Nat.reduceEqDiff, reduceCtorEq, Int.reduceAdd, Int.reduceLT, Int.reduceLE, Int.reduceToNat, Int.reduceNeg, Int.reduceSub, Int.reduceBEq, Int.reduceBNe, Int.reduceNe, Int.reduceGT, Int.reduceGE, Nat.reduceGT] | (rw [drawC_ok]; rotate_left; decide +kernel; exact cfg_mixed))
  all_goals simp_all [valueOk]
  all_goals omega

@[push_cast] theorem ev_isNaNI (a : Int) : evF cfg 150 [] [.d (.i .i64 a)] = some (.d (.b false), []) := by
  (refine (evF_code (C := cfg) (g := 150) (fn := Tryz.f150) rfl Tryz.func150 rfl (by rw [Tryz.ntmps150]; simp) (by kernel_rfl) (by first | decide | simp [keysOf])).trans ?_; rw [Tryz.results150, Tryz.ntmps150])
  repeat' (first | with_reducible refine br_split (fun _ => ?_) (fun _ => ?_) | simp only [*, push_cast, Array.reduceGetElem?, Nat.reduceBEq, Nat.reduceLT, Nat.reduceAdd, Nat.reduceSub, Nat.reduceLeDiff, Nat.reduceMul, Nat.reduceEqDiff, reduceCtorEq, Int.reduceAdd, Int.reduceLT, Int.reduceLE, Int.reduceToNat, Int.reduceNeg, Int.reduceSub, Int.reduceBEq, Int.reduceBNe, Int.reduceNe, Int.reduceGT, Int.reduceGE, Nat.reduceGT] | (rw [drawC_ok]; rotate_left; decide +kernel; exact cfg_mixed))
@[push_cast] theorem ev_cmpI (a b : Int) : evF cfg 134 [] [.d (.i .i64 a), .d (.i .i64 b)] = some (.d (.i .i64 (cmpI a b)), []) := by
  (refine (evF_code (C := cfg) (g := 134) (fn := Tryz.f134) rfl Tryz.func134 rfl (by rw [Tryz.ntmps134]; simp) (by kernel_rfl) (by first | decide | simp [keysOf])).trans ?_; rw [Tryz.results134, Tryz.ntmps134])
  repeat' (first | with_reducible refine br_split (fun _ => ?_) (fun _ => ?_) | simp only [*, push_cast, Array.reduceGetElem?, Nat.reduceBEq, Nat.reduceLT, Nat.reduceAdd, Nat.reduceSub, Nat.reduceLeDiff, Nat.reduceMul, Nat.reduceEqDiff, reduceCtorEq, Int.reduceAdd, Int.reduceLT, Int.reduceLE, Int.reduceToNat, Int.reduceNeg, Int.reduceSub, Int.reduceBEq, Int.reduceBNe, Int.reduceNe, Int.reduceGT, Int.reduceGE, Nat.reduceGT] | (rw [drawC_ok]; rotate_left; decide +kernel; exact cfg_mixed))
  · simp_all [cmpI]
  · simp_all [cmpI]
  · simp_all [cmpI]
    have h1 : ¬ a < b := by omega
    have h2 : ¬ b < a := by omega
    simp [h1, h2]
@[push_cast] theorem ev_cmpStr (a b : ByteArray) : evF cfg 151 [] [.d (.s a), .d (.s b)] = some (.d (.i .i64 (cmpS a b)), []) := by
  (refine (evF_code (C := cfg) (g := 151) (fn := Tryz.f151) rfl Tryz.func151 rfl (by rw [Tryz.ntmps151]; simp) (by kernel_rfl) (by first | decide | simp [keysOf])).trans ?_; rw [Tryz.results151, Tryz.ntmps151])
  repeat' (first | with_reducible refine br_split (fun _ => ?_) (fun _ => ?_) | simp only [*, cmpE, push_cast, Array.reduceGetElem?, Nat.reduceBEq, Nat.reduceLT, Nat.reduceAdd, Nat.reduceSub, Nat.reduceLeDiff, Nat.reduceMul, Nat.reduceEqDiff, reduceCtorEq, Int.reduceAdd, Int.reduceLT, Int.reduceLE, Int.reduceToNat, Int.reduceNeg, Int.reduceSub, Int.reduceBEq, Int.reduceBNe, Int.reduceNe, Int.reduceGT, Int.reduceGE, Nat.reduceGT] | (rw [drawC_ok]; rotate_left; decide +kernel; exact cfg_mixed))
  rfl
@[push_cast] theorem ev_stringsCompare (a b : ByteArray) : evF cfg 135 [] [.d (.s a), .d (.s b)] = some (.d (.i .i64 (cmpS a b)), []) := by
  (refine (evF_code (C := cfg) (g := 135) (fn := Tryz.f135) rfl Tryz.func135 rfl (by rw [Tryz.ntmps135]; simp) (by kernel_rfl) (by first | decide | simp [keysOf])).trans ?_; rw [Tryz.results135, Tryz.ntmps135])
  repeat' (first | with_reducible refine br_split (fun _ => ?_) (fun _ => ?_) | simp only [*, push_cast, Array.reduceGetElem?, Nat.reduceBEq, Nat.reduceLT, Nat.reduceAdd, Nat.reduceSub, Nat.reduceLeDiff, Nat.reduceMul, Nat.reduceEqDiff, reduceCtorEq, Int.reduceAdd, Int.reduceLT, Int.reduceLE, Int.reduceToNat, Int.reduceNeg, Int.reduceSub, Int.reduceBEq, Int.reduceBNe, Int.reduceNe, Int.reduceGT, Int.reduceGE, Nat.reduceGT] | (rw [drawC_ok]; rotate_left; decide +kernel; exact cfg_mixed))
theorem ev_cmpOr3 (a b c : Int) : evF cfg 133 [] [.d (.sl .any [[.i .i64 a], [.i .i64 b], [.i .i64 c]])] = some (.d (.i .i64 (if a ≠ 0 then a else if b ≠ 0 then b else c)), []) := by
  (refine (evF_code (C := cfg) (g := 133) (fn := Tryz.f133) rfl Tryz.func133 rfl (by rw [Tryz.ntmps133]; simp) (by kernel_rfl) (by first | decide | simp [keysOf])).trans ?_; rw [Tryz.results133, Tryz.ntmps133])
  repeat' (first | with_reducible refine br_split (fun _ => ?_) (fun _ => ?_) | simp only [*, push_cast, Array.reduceGetElem?, Nat.reduceBEq, Nat.reduceLT, Nat.reduceAdd, Nat.reduceSub, Nat.reduceLeDiff, Nat.reduceMul, Nat.reduceEqDiff, reduceCtorEq, Int.reduceAdd, Int.reduceLT, Int.reduceLE, Int.reduceToNat, Int.reduceNeg, Int.reduceSub, Int.reduceBEq, Int.reduceBNe, Int.reduceNe, Int.reduceGT, Int.reduceGE, Nat.reduceGT] | (rw [drawC_ok]; rotate_left; decide +kernel; exact cfg_mixed))
  rw [evM_eq]
  repeat' (first | with_reducible refine br_split (fun _ => ?_) (fun _ => ?_) | simp only [*, push_cast, Array.reduceGetElem?, Nat.reduceBEq, Nat.reduceLT, Nat.reduceAdd, Nat.reduceSub, Nat.reduceLeDiff, Nat.reduceMul, Nat.reduceEqDiff, reduceCtorEq, Int.reduceAdd, Int.reduceLT, Int.reduceLE, Int.reduceToNat, Int.reduceNeg, Int.reduceSub, Int.reduceBEq, Int.reduceBNe, Int.reduceNe, Int.reduceGT, Int.reduceGE, Nat.reduceGT] | (rw [drawC_ok]; rotate_left; decide +kernel; exact cfg_mixed))
  · simp_all
  rw [evM_eq]
  repeat' (first | with_reducible refine br_split (fun _ => ?_) (fun _ => ?_) | simp only [*, push_cast, Array.reduceGetElem?, Nat.reduceBEq, Nat.reduceLT, Nat.reduceAdd, Nat.reduceSub, Nat.reduceLeDiff, Nat.reduceMul, Nat.reduceEqDiff, reduceCtorEq, Int.reduceAdd, Int.reduceLT, Int.reduceLE, Int.reduceToNat, Int.reduceNeg, Int.reduceSub, Int.reduceBEq, Int.reduceBNe, Int.reduceNe, Int.reduceGT, Int.reduceGE, Nat.reduceGT] | (rw [drawC_ok]; rotate_left; decide +kernel; exact cfg_mixed))
  · simp_all
  rw [evM_eq]
  repeat' (first | with_reducible refine br_split (fun _ => ?_) (fun _ => ?_) | simp only [*, push_cast, Array.reduceGetElem?, Nat.reduceBEq, Nat.reduceLT, Nat.reduceAdd, Nat.reduceSub, Nat.reduceLeDiff, Nat.reduceMul, Nat.reduceEqDiff, reduceCtorEq, Int.reduceAdd, Int.reduceLT, Int.reduceLE, Int.reduceToNat, Int.reduceNeg, Int.reduceSub, Int.reduceBEq, Int.reduceBNe, Int.reduceNe, Int.reduceGT, Int.reduceGE, Nat.reduceGT] | (rw [drawC_ok]; rotate_left; decide +kernel; exact cfg_mixed))
  · simp_all
  rw [evM_eq]
  repeat' (first | with_reducible refine br_split (fun _ => ?_) (fun _ => ?_) | simp only [*, push_cast, Array.reduceGetElem?, Nat.reduceBEq, Nat.reduceLT, Nat.reduceAdd, Nat.reduceSub, Nat.reduceLeDiff, Nat.reduceMul, Nat.reduceEqDiff, reduceCtorEq, Int.reduceAdd, Int.reduceLT, Int.reduceLE, Int.reduceToNat, Int.reduceNeg, Int.reduceSub, Int.reduceBEq, Int.reduceBNe, Int.reduceNe, Int.reduceGT, Int.reduceGE, Nat.reduceGT] | (rw [drawC_ok]; rotate_left; decide +kernel; exact cfg_mixed))
  · simp_all
theorem ev_CompareValue (k n k' n' : Int) (s s' : ByteArray) : evF cfg 120 [] [.agg [.d (.i .i64 k), .d (.i .i64 n), .d (.s s)], .agg [.d (.i .i64 k'), .d (.i .i64 n'), .d (.s s')]] = some (.d (.i .i64 (cmpV ⟨k, n, s⟩ ⟨k', n', s'⟩)), []) := by
  have ho := ev_cmpOr3
  (refine (evF_code (C := cfg) (g := 120) (fn := Tryz.f120) rfl Tryz.func120 rfl (by rw [Tryz.ntmps120]; simp) (by kernel_rfl) (by first | decide | simp [keysOf])).trans ?_; rw [Tryz.results120, Tryz.ntmps120])
  repeat' (first | with_reducible refine br_split (fun _ => ?_) (fun _ => ?_) | simp only [*, push_cast, Array.reduceGetElem?, Nat.reduceBEq, Nat.reduceLT, Nat.reduceAdd, Nat.reduceSub, Nat.reduceLeDiff, Nat.reduceMul, Nat.reduceEqDiff, reduceCtorEq, Int.reduceAdd, Int.reduceLT, Int.reduceLE, Int.reduceToNat, Int.reduceNeg, Int.reduceSub, Int.reduceBEq, Int.reduceBNe, Int.reduceNe, Int.reduceGT, Int.reduceGE, Nat.reduceGT] | (rw [drawC_ok]; rotate_left; decide +kernel; exact cfg_mixed))
  rfl
theorem ev_sCompareValue (k n k' n' : Int) (s s' : ByteArray) : evF cfg 121 [] [.agg [.d (.i .i64 k), .d (.i .i64 n), .d (.s s)], .agg [.d (.i .i64 k'), .d (.i .i64 n'), .d (.s s')]] = some (.d (.i .i64 (cmpV ⟨k, n, s⟩ ⟨k', n', s'⟩)), []) := by
  (refine (evF_code (C := cfg) (g := 121) (fn := Tryz.f121) rfl Tryz.func121 rfl (by rw [Tryz.ntmps121]; simp) (by kernel_rfl) (by first | decide | simp [keysOf])).trans ?_; rw [Tryz.results121, Tryz.ntmps121])
  repeat' (first | with_reducible refine br_split (fun _ => ?_) (fun _ => ?_) | simp only [*, push_cast, Array.reduceGetElem?, Nat.reduceBEq, Nat.reduceLT, Nat.reduceAdd, Nat.reduceSub, Nat.reduceLeDiff, Nat.reduceMul, Nat.reduceEqDiff, reduceCtorEq, Int.reduceAdd, Int.reduceLT, Int.reduceLE, Int.reduceToNat, Int.reduceNeg, Int.reduceSub, Int.reduceBEq, Int.reduceBNe, Int.reduceNe, Int.reduceGT, Int.reduceGE, Nat.reduceGT] | (rw [drawC_ok]; rotate_left; decide +kernel; exact cfg_mixed))
  all_goals simp_all [cmpV, cmpI, cmpS_spec]
  all_goals (repeat' split)
  all_goals first
    | omega
    | simp_all
    | (intros; omega)
  all_goals first | omega | (intros; omega)
end Go.Av
end

section
namespace Go.Av
open Go.Proofs
set_option linter.unusedSimpArgs false

attribute [push_cast] ev_CompareValue ev_sCompareValue

theorem ev_CompareFunc (a b : List V) (hl : a.length ≤ 1099511627776) : evF cfg 119 []
    [.d (.sl .any (a.map vC)), .d (.sl .any (b.map vC)), .clo 120 []] = some (.d (.i .i64 (cmpRow a b)), []) := by
  (refine (evF_code (C := cfg) (g := 119) (fn := Tryz.f119) rfl Tryz.func119 rfl (by rw [Tryz.ntmps119]; simp) (by kernel_rfl) (by first | decide | simp [keysOf])).trans ?_; rw [Tryz.results119, Tryz.ntmps119])
  repeat' (first | with_reducible refine br_split (fun _ => ?_) (fun _ => ?_) | simp only [*, push_cast, Array.reduceGetElem?, Nat.reduceBEq, Nat.reduceLT, Nat.reduceAdd, Nat.reduceSub, Nat.reduceLeDiff, Nat.reduceMul, Nat.reduceEqDiff, reduceCtorEq, Int.reduceAdd, Int.reduceLT, Int.reduceLE, Int.reduceToNat, Int.reduceNeg, Int.reduceSub, Int.reduceBEq, Int.reduceBNe, Int.reduceNe, Int.reduceGT, Int.reduceGE, Nat.reduceGT] | (rw [drawC_ok]; rotate_left; decide +kernel; exact cfg_mixed))
  rw [evM_for0 a.length (fun i j => { t := [(0, .d (.sl .any (a.map vC))), (1, .d (.sl .any (b.map vC))), (2, .clo 120 []), (11, .d (.sl .any (a.map vC))), (12, .d (.i .i64 a.length)), (13, .d (.i .i64 j))], o := [], ks := [], n := 0, sz := 39, u := noU })
    (fun i => br (cmpL1 (a.drop i) (b.drop i) != 0) (some (.ret, { t := [(6, .d (.i .i64 (cmpL1 (a.drop i) (b.drop i))))], o := [], ks := [], n := 0, sz := 39, u := noU })) (some (.exit 0, { t := [(0, .d (.sl .any (a.map vC))), (1, .d (.sl .any (b.map vC)))], o := [], ks := [], n := 0, sz := 39, u := noU })) ⟨⟩) ?step ?last]
  case step =>
    intro i hi ih
    have hc : (a.map vC)[i]? = some [.i .i64 a[i].k, .i .i64 a[i].n, .s a[i].s] := get_map vC a i hi
    have hd := dec_lt hi
    have hw := wrap_succ (i := i) (by omega)
    rw [List.drop_eq_getElem_cons hi]
    by_cases hb : i < b.length
    · have hc2 : (b.map vC)[i]? = some [.i .i64 b[i].k, .i .i64 b[i].n, .s b[i].s] := get_map vC b i hb
      have hg : decide ((i : Int) ≥ (b.length : Int)) = false := decide_eq_false (by omega)
      rw [List.drop_eq_getElem_cons hb, cmpL1]
      by_cases he : cmpV a[i] b[i] ≠ 0
      · have h1 : (cmpV a[i] b[i] != 0) = true := by simpa using he
        rw [if_pos he]
        clear he
        repeat' (first | with_reducible refine br_split (fun _ => ?_) (fun _ => ?_) | simp only [*, push_cast, Array.reduceGetElem?, Nat.reduceBEq, Nat.reduceLT, Nat.reduceAdd, Nat.reduceSub, Nat.reduceLeDiff, Nat.reduceMul, Nat.reduceEqDiff, reduceCtorEq, Int.reduceAdd, Int.reduceLT, Int.reduceLE, Int.reduceToNat, Int.reduceNeg, Int.reduceSub, Int.reduceBEq, Int.reduceBNe, Int.reduceNe, Int.reduceGT, Int.reduceGE, Nat.reduceGT] | (rw [drawC_ok]; rotate_left; decide +kernel; exact cfg_mixed))
      · have h1 : (cmpV a[i] b[i] != 0) = false := by simpa using he
        rw [if_neg he]
        clear he
        repeat' (first | with_reducible refine br_split (fun _ => ?_) (fun _ => ?_) | simp only [*, push_cast, Array.reduceGetElem?, Nat.reduceBEq, Nat.reduceLT, Nat.reduceAdd, Nat.reduceSub, Nat.reduceLeDiff, Nat.reduceMul, Nat.reduceEqDiff, reduceCtorEq, Int.reduceAdd, Int.reduceLT, Int.reduceLE, Int.reduceToNat, Int.reduceNeg, Int.reduceSub, Int.reduceBEq, Int.reduceBNe, Int.reduceNe, Int.reduceGT, Int.reduceGE, Nat.reduceGT] | (rw [drawC_ok]; rotate_left; decide +kernel; exact cfg_mixed))
    · have hg : decide ((i : Int) ≥ (b.length : Int)) = true := decide_eq_true (by omega)
      rw [List.drop_eq_nil_of_le (by omega : b.length ≤ i), cmpL1]
      have h1 : ((1 : Int) != 0) = true := rfl
      repeat' (first | with_reducible refine br_split (fun _ => ?_) (fun _ => ?_) | simp only [*, push_cast, Array.reduceGetElem?, Nat.reduceBEq, Nat.reduceLT, Nat.reduceAdd, Nat.reduceSub, Nat.reduceLeDiff, Nat.reduceMul, Nat.reduceEqDiff, reduceCtorEq, Int.reduceAdd, Int.reduceLT, Int.reduceLE, Int.reduceToNat, Int.reduceNeg, Int.reduceSub, Int.reduceBEq, Int.reduceBNe, Int.reduceNe, Int.reduceGT, Int.reduceGE, Nat.reduceGT] | (rw [drawC_ok]; rotate_left; decide +kernel; exact cfg_mixed))
  case last =>
    rw [List.drop_length, cmpL1]
    have h1 : ((0 : Int) != 0) = false := rfl
    repeat' (first | with_reducible refine br_split (fun _ => ?_) (fun _ => ?_) | simp only [*, push_cast, Array.reduceGetElem?, Nat.reduceBEq, Nat.reduceLT, Nat.reduceAdd, Nat.reduceSub, Nat.reduceLeDiff, Nat.reduceMul, Nat.reduceEqDiff, reduceCtorEq, Int.reduceAdd, Int.reduceLT, Int.reduceLE, Int.reduceToNat, Int.reduceNeg, Int.reduceSub, Int.reduceBEq, Int.reduceBNe, Int.reduceNe, Int.reduceGT, Int.reduceGE, Nat.reduceGT] | (rw [drawC_ok]; rotate_left; decide +kernel; exact cfg_mixed))
  · rw [List.drop_zero, List.drop_zero, cmpRow_1]
    by_cases he : cmpL1 a b ≠ 0
    · have h1 : (cmpL1 a b != 0) = true := by simpa using he
      rw [if_pos he]
      clear he
      repeat' (first | with_reducible refine br_split (fun _ => ?_) (fun _ => ?_) | simp only [*, push_cast, Array.reduceGetElem?, Nat.reduceBEq, Nat.reduceLT, Nat.reduceAdd, Nat.reduceSub, Nat.reduceLeDiff, Nat.reduceMul, Nat.reduceEqDiff, reduceCtorEq, Int.reduceAdd, Int.reduceLT, Int.reduceLE, Int.reduceToNat, Int.reduceNeg, Int.reduceSub, Int.reduceBEq, Int.reduceBNe, Int.reduceNe, Int.reduceGT, Int.reduceGE, Nat.reduceGT] | (rw [drawC_ok]; rotate_left; decide +kernel; exact cfg_mixed))
    · have h1 : (cmpL1 a b != 0) = false := by simpa using he
      rw [if_neg he]
      clear he
      by_cases hx : a.length < b.length
      · rw [if_pos hx]
        have := dec_lt hx
        repeat' (first | with_reducible refine br_split (fun _ => ?_) (fun _ => ?_) | simp only [*, push_cast, Array.reduceGetElem?, Nat.reduceBEq, Nat.reduceLT, Nat.reduceAdd, Nat.reduceSub, Nat.reduceLeDiff, Nat.reduceMul, Nat.reduceEqDiff, reduceCtorEq, Int.reduceAdd, Int.reduceLT, Int.reduceLE, Int.reduceToNat, Int.reduceNeg, Int.reduceSub, Int.reduceBEq, Int.reduceBNe, Int.reduceNe, Int.reduceGT, Int.reduceGE, Nat.reduceGT] | (rw [drawC_ok]; rotate_left; decide +kernel; exact cfg_mixed))
      · rw [if_neg hx]
        have : decide ((a.length : Int) < (b.length : Int)) = false := decide_eq_false (by omega)
        repeat' (first | with_reducible refine br_split (fun _ => ?_) (fun _ => ?_) | simp only [*, push_cast, Array.reduceGetElem?, Nat.reduceBEq, Nat.reduceLT, Nat.reduceAdd, Nat.reduceSub, Nat.reduceLeDiff, Nat.reduceMul, Nat.reduceEqDiff, reduceCtorEq, Int.reduceAdd, Int.reduceLT, Int.reduceLE, Int.reduceToNat, Int.reduceNeg, Int.reduceSub, Int.reduceBEq, Int.reduceBNe, Int.reduceNe, Int.reduceGT, Int.reduceGE, Nat.reduceGT] | (rw [drawC_ok]; rotate_left; decide +kernel; exact cfg_mixed))
theorem ev_CompareRow (a b : List V) (hl : a.length ≤ 1099511627776) : evF cfg 95 [] [.d (.sl .any (a.map vC)), .d (.sl .any (b.map vC))] = some (.d (.i .i64 (cmpRow a b)), []) := by
  have := ev_CompareFunc a b hl
  (refine (evF_code (C := cfg) (g := 95) (fn := Tryz.f95) rfl Tryz.func95 rfl (by rw [Tryz.ntmps95]; simp) (by kernel_rfl) (by first | decide | simp [keysOf])).trans ?_; rw [Tryz.results95, Tryz.ntmps95])
  repeat' (first | with_reducible refine br_split (fun _ => ?_) (fun _ => ?_) | simp only [*, push_cast, Array.reduceGetElem?, Nat.reduceBEq, Nat.reduceLT, Nat.reduceAdd, Nat.reduceSub, Nat.reduceLeDiff, Nat.reduceMul, Nat.reduceEqDiff, reduceCtorEq, Int.reduceAdd, Int.reduceLT, Int.reduceLE, Int.reduceToNat, Int.reduceNeg, Int.reduceSub, Int.reduceBEq, Int.reduceBNe, Int.reduceNe, Int.reduceGT, Int.reduceGE, Nat.reduceGT] | (rw [drawC_ok]; rotate_left; decide +kernel; exact cfg_mixed))
theorem ev_sCompareRow (a b : List V) (hl : a.length ≤ 1099511627776) : evF cfg 98 [] [.d (.sl .any (a.map vC)), .d (.sl .any (b.map vC))] = some (.d (.i .i64 (cmpRow a b)), []) := by
  (refine (evF_code (C := cfg) (g := 98) (fn := Tryz.f98) rfl Tryz.func98 rfl (by rw [Tryz.ntmps98]; simp) (by kernel_rfl) (by first | decide | simp [keysOf])).trans ?_; rw [Tryz.results98, Tryz.ntmps98])
  repeat' (first | with_reducible refine br_split (fun _ => ?_) (fun _ => ?_) | simp only [*, push_cast, Array.reduceGetElem?, Nat.reduceBEq, Nat.reduceLT, Nat.reduceAdd, Nat.reduceSub, Nat.reduceLeDiff, Nat.reduceMul, Nat.reduceEqDiff, reduceCtorEq, Int.reduceAdd, Int.reduceLT, Int.reduceLE, Int.reduceToNat, Int.reduceNeg, Int.reduceSub, Int.reduceBEq, Int.reduceBNe, Int.reduceNe, Int.reduceGT, Int.reduceGE, Nat.reduceGT] | (rw [drawC_ok]; rotate_left; decide +kernel; exact cfg_mixed))
  rw [evM_for0 a.length (fun i j => { t := [(0, .d (.sl .any (a.map vC))), (1, .d (.sl .any (b.map vC))), (5, .d (.i .i64 j))], o := [], ks := [], n := 0, sz := 43, u := noU })
    (fun i => br (cmpL2 (a.drop i) (b.drop i) != 0) (some (.ret, { t := [(4, .d (.i .i64 (cmpL2 (a.drop i) (b.drop i))))], o := [], ks := [], n := 0, sz := 43, u := noU })) (some (.exit 0, { t := [(0, .d (.sl .any (a.map vC))), (1, .d (.sl .any (b.map vC)))], o := [], ks := [], n := 0, sz := 43, u := noU })) ⟨⟩) ?step ?last]
  case step =>
    intro i hi ih
    have hc : (a.map vC)[i]? = some [.i .i64 a[i].k, .i .i64 a[i].n, .s a[i].s] := get_map vC a i hi
    have hd := dec_lt hi
    have hw := wrap_succ (i := i) (by omega)
    rw [List.drop_eq_getElem_cons hi]
    by_cases hb : i < b.length
    · have hc2 : (b.map vC)[i]? = some [.i .i64 b[i].k, .i .i64 b[i].n, .s b[i].s] := get_map vC b i hb
      have hg := dec_lt hb
      rw [List.drop_eq_getElem_cons hb, cmpL2]
      by_cases he : cmpV a[i] b[i] ≠ 0
      · have h1 : (cmpV a[i] b[i] != 0) = true := by simpa using he
        rw [if_pos he]
        clear he
        repeat' (first | with_reducible refine br_split (fun _ => ?_) (fun _ => ?_) | simp only [*, push_cast, Array.reduceGetElem?, Nat.reduceBEq, Nat.reduceLT, Nat.reduceAdd, Nat.reduceSub, Nat.reduceLeDiff, Nat.reduceMul, Nat.reduceEqDiff, reduceCtorEq, Int.reduceAdd, Int.reduceLT, Int.reduceLE, Int.reduceToNat, Int.reduceNeg, Int.reduceSub, Int.reduceBEq, Int.reduceBNe, Int.reduceNe, Int.reduceGT, Int.reduceGE, Nat.reduceGT] | (rw [drawC_ok]; rotate_left; decide +kernel; exact cfg_mixed))
      · have h1 : (cmpV a[i] b[i] != 0) = false := by simpa using he
        rw [if_neg he]
        clear he
        repeat' (first | with_reducible refine br_split (fun _ => ?_) (fun _ => ?_) | simp only [*, push_cast, Array.reduceGetElem?, Nat.reduceBEq, Nat.reduceLT, Nat.reduceAdd, Nat.reduceSub, Nat.reduceLeDiff, Nat.reduceMul, Nat.reduceEqDiff, reduceCtorEq, Int.reduceAdd, Int.reduceLT, Int.reduceLE, Int.reduceToNat, Int.reduceNeg, Int.reduceSub, Int.reduceBEq, Int.reduceBNe, Int.reduceNe, Int.reduceGT, Int.reduceGE, Nat.reduceGT] | (rw [drawC_ok]; rotate_left; decide +kernel; exact cfg_mixed))
    · have hg : decide ((i : Int) < (b.length : Int)) = false := decide_eq_false (by omega)
      rw [List.drop_eq_nil_of_le (by omega : b.length ≤ i), cmpL2]
      have h1 : ((0 : Int) != 0) = false := rfl
      repeat' (first | with_reducible refine br_split (fun _ => ?_) (fun _ => ?_) | simp only [*, push_cast, Array.reduceGetElem?, Nat.reduceBEq, Nat.reduceLT, Nat.reduceAdd, Nat.reduceSub, Nat.reduceLeDiff, Nat.reduceMul, Nat.reduceEqDiff, reduceCtorEq, Int.reduceAdd, Int.reduceLT, Int.reduceLE, Int.reduceToNat, Int.reduceNeg, Int.reduceSub, Int.reduceBEq, Int.reduceBNe, Int.reduceNe, Int.reduceGT, Int.reduceGE, Nat.reduceGT] | (rw [drawC_ok]; rotate_left; decide +kernel; exact cfg_mixed))
  case last =>
    rw [List.drop_length, cmpL2]
    have h1 : ((0 : Int) != 0) = false := rfl
    repeat' (first | with_reducible refine br_split (fun _ => ?_) (fun _ => ?_) | simp only [*, push_cast, Array.reduceGetElem?, Nat.reduceBEq, Nat.reduceLT, Nat.reduceAdd, Nat.reduceSub, Nat.reduceLeDiff, Nat.reduceMul, Nat.reduceEqDiff, reduceCtorEq, Int.reduceAdd, Int.reduceLT, Int.reduceLE, Int.reduceToNat, Int.reduceNeg, Int.reduceSub, Int.reduceBEq, Int.reduceBNe, Int.reduceNe, Int.reduceGT, Int.reduceGE, Nat.reduceGT] | (rw [drawC_ok]; rotate_left; decide +kernel; exact cfg_mixed))
  · rw [List.drop_zero, List.drop_zero, cmpRow_2]
    by_cases he : cmpL2 a b ≠ 0
    · have h1 : (cmpL2 a b != 0) = true := by simpa using he
      rw [if_pos he]
      clear he
      repeat' (first | with_reducible refine br_split (fun _ => ?_) (fun _ => ?_) | simp only [*, push_cast, Array.reduceGetElem?, Nat.reduceBEq, Nat.reduceLT, Nat.reduceAdd, Nat.reduceSub, Nat.reduceLeDiff, Nat.reduceMul, Nat.reduceEqDiff, reduceCtorEq, Int.reduceAdd, Int.reduceLT, Int.reduceLE, Int.reduceToNat, Int.reduceNeg, Int.reduceSub, Int.reduceBEq, Int.reduceBNe, Int.reduceNe, Int.reduceGT, Int.reduceGE, Nat.reduceGT] | (rw [drawC_ok]; rotate_left; decide +kernel; exact cfg_mixed))
    · have h1 : (cmpL2 a b != 0) = false := by simpa using he
      rw [if_neg he]
      clear he
      by_cases hx : a.length < b.length
      · rw [if_pos hx]
        have := dec_lt hx
        repeat' (first | with_reducible refine br_split (fun _ => ?_) (fun _ => ?_) | simp only [*, push_cast, Array.reduceGetElem?, Nat.reduceBEq, Nat.reduceLT, Nat.reduceAdd, Nat.reduceSub, Nat.reduceLeDiff, Nat.reduceMul, Nat.reduceEqDiff, reduceCtorEq, Int.reduceAdd, Int.reduceLT, Int.reduceLE, Int.reduceToNat, Int.reduceNeg, Int.reduceSub, Int.reduceBEq, Int.reduceBNe, Int.reduceNe, Int.reduceGT, Int.reduceGE, Nat.reduceGT] | (rw [drawC_ok]; rotate_left; decide +kernel; exact cfg_mixed))
      · rw [if_neg hx]
        have : decide ((a.length : Int) < (b.length : Int)) = false := decide_eq_false (by omega)
        by_cases hy : b.length < a.length
        · rw [if_pos hy]
          have : decide ((a.length : Int) > (b.length : Int)) = true := decide_eq_true (by omega)
          repeat' (first | with_reducible refine br_split (fun _ => ?_) (fun _ => ?_) | simp only [*, push_cast, Array.reduceGetElem?, Nat.reduceBEq, Nat.reduceLT, Nat.reduceAdd, Nat.reduceSub, Nat.reduceLeDiff, Nat.reduceMul, Nat.reduceEqDiff, reduceCtorEq, Int.reduceAdd, Int.reduceLT, Int.reduceLE, Int.reduceToNat, Int.reduceNeg, Int.reduceSub, Int.reduceBEq, Int.reduceBNe, Int.reduceNe, Int.reduceGT, Int.reduceGE, Nat.reduceGT] | (rw [drawC_ok]; rotate_left; decide +kernel; exact cfg_mixed))
        · rw [if_neg hy]
          have : decide ((a.length : Int) > (b.length : Int)) = false := decide_eq_false (by omega)
          repeat' (first | with_reducible refine br_split (fun _ => ?_) (fun _ => ?_) | simp only [*, push_cast, Array.reduceGetElem?, Nat.reduceBEq, Nat.reduceLT, Nat.reduceAdd, Nat.reduceSub, Nat.reduceLeDiff, Nat.reduceMul, Nat.reduceEqDiff, reduceCtorEq, Int.reduceAdd, Int.reduceLT, Int.reduceLE, Int.reduceToNat, Int.reduceNeg, Int.reduceSub, Int.reduceBEq, Int.reduceBNe, Int.reduceNe, Int.reduceGT, Int.reduceGE, Nat.reduceGT] | (rw [drawC_ok]; rotate_left; decide +kernel; exact cfg_mixed))
theorem ev_l02Row (l : List V) (w : Int) (hl : l.length ≤ 1099511627776) : evF cfg 97 [] [.d (.sl .any (l.map vC)), .d (.i .i64 w)] = some (.d (.b (((l.length : Int) == w) && l.all valueOk)), []) := by
  (refine (evF_code (C := cfg) (g := 97) (fn := Tryz.f97) rfl Tryz.func97 rfl (by rw [Tryz.ntmps97]; simp) (by kernel_rfl) (by first | decide | simp [keysOf])).trans ?_; rw [Tryz.results97, Tryz.ntmps97])
  repeat' (first | with_reducible refine br_split (fun _ => ?_) (fun _ => ?_) | simp only [*, push_cast, Array.reduceGetElem?, Nat.reduceBEq, Nat.reduceLT, Nat.reduceAdd, Nat.reduceSub, Nat.reduceLeDiff, Nat.reduceMul, Nat.reduceEqDiff, reduceCtorEq, Int.reduceAdd, Int.reduceLT, Int.reduceLE, Int.reduceToNat, Int.reduceNeg, Int.reduceSub, Int.reduceBEq, Int.reduceBNe, Int.reduceNe, Int.reduceGT, Int.reduceGE, Nat.reduceGT] | (rw [drawC_ok]; rotate_left; decide +kernel; exact cfg_mixed))
  rw [evM_for0 l.length (fun i j => { t := [(0, .d (.sl .any (l.map vC))), (1, .d (.i .i64 w)), (5, .d (.i .i64 j))], o := [], ks := [], n := 0, sz := 22, u := noU })
    (fun i => br ((l.drop i).all valueOk) (some (.exit 0, { t := [(0, .d (.sl .any (l.map vC))), (1, .d (.i .i64 w))], o := [], ks := [], n := 0, sz := 22, u := noU })) (some (.ret, { t := [(4, .d (.b false))], o := [], ks := [], n := 0, sz := 22, u := noU })) ⟨⟩) ?step ?last]
  case step =>
    intro i hi ih
    have hc : (l.map vC)[i]? = some [.i .i64 l[i].k, .i .i64 l[i].n, .s l[i].s] := get_map vC l i hi
    have hd := dec_lt hi
    have hw := wrap_succ (i := i) (by omega)
    rw [List.drop_eq_getElem_cons hi, List.all_cons]
    repeat' (first | with_reducible refine br_split (fun _ => ?_) (fun _ => ?_) | simp only [*, push_cast, Array.reduceGetElem?, Nat.reduceBEq, Nat.reduceLT, Nat.reduceAdd, Nat.reduceSub, Nat.reduceLeDiff, Nat.reduceMul, Nat.reduceEqDiff, reduceCtorEq, Int.reduceAdd, Int.reduceLT, Int.reduceLE, Int.reduceToNat, Int.reduceNeg, Int.reduceSub, Int.reduceBEq, Int.reduceBNe, Int.reduceNe, Int.reduceGT, Int.reduceGE, Nat.reduceGT] | (rw [drawC_ok]; rotate_left; decide +kernel; exact cfg_mixed))
  case last =>
    rw [List.drop_length, List.all_nil]
    repeat' (first | with_reducible refine br_split (fun _ => ?_) (fun _ => ?_) | simp only [*, push_cast, Array.reduceGetElem?, Nat.reduceBEq, Nat.reduceLT, Nat.reduceAdd, Nat.reduceSub, Nat.reduceLeDiff, Nat.reduceMul, Nat.reduceEqDiff, reduceCtorEq, Int.reduceAdd, Int.reduceLT, Int.reduceLE, Int.reduceToNat, Int.reduceNeg, Int.reduceSub, Int.reduceBEq, Int.reduceBNe, Int.reduceNe, Int.reduceGT, Int.reduceGE, Nat.reduceGT] | (rw [drawC_ok]; rotate_left; decide +kernel; exact cfg_mixed))
  · rw [List.drop_zero]
    cases h : l.all valueOk <;> repeat' (first | with_reducible refine br_split (fun _ => ?_) (fun _ => ?_) | simp only [*, push_cast, Array.reduceGetElem?, Nat.reduceBEq, Nat.reduceLT, Nat.reduceAdd, Nat.reduceSub, Nat.reduceLeDiff, Nat.reduceMul, Nat.reduceEqDiff, reduceCtorEq, Int.reduceAdd, Int.reduceLT, Int.reduceLE, Int.reduceToNat, Int.reduceNeg, Int.reduceSub, Int.reduceBEq, Int.reduceBNe, Int.reduceNe, Int.reduceGT, Int.reduceGE, Nat.reduceGT] | (rw [drawC_ok]; rotate_left; decide +kernel; exact cfg_mixed))
theorem ev_isRow (l : List V) (w : Int) (hl : l.length ≤ 1099511627776) : evF cfg 94 [] [.d (.sl .any (l.map vC)), .d (.i .i64 w)] = some (.d (.b (((l.length : Int) == w) && l.all valueOk)), []) := by
  have ha := ev_areAllValue_0 (h := 100) (p := valueOk) l hl rfl rfl rfl (fun x _ => ev_ValueOk _ _ _)
  (refine (evF_code (C := cfg) (g := 94) (fn := Tryz.f94) rfl Tryz.func94 rfl (by rw [Tryz.ntmps94]; simp) (by kernel_rfl) (by first | decide | simp [keysOf])).trans ?_; rw [Tryz.results94, Tryz.ntmps94])
  repeat' (first | with_reducible refine br_split (fun _ => ?_) (fun _ => ?_) | simp only [*, push_cast, Array.reduceGetElem?, Nat.reduceBEq, Nat.reduceLT, Nat.reduceAdd, Nat.reduceSub, Nat.reduceLeDiff, Nat.reduceMul, Nat.reduceEqDiff, reduceCtorEq, Int.reduceAdd, Int.reduceLT, Int.reduceLE, Int.reduceToNat, Int.reduceNeg, Int.reduceSub, Int.reduceBEq, Int.reduceBNe, Int.reduceNe, Int.reduceGT, Int.reduceGE, Nat.reduceGT] | (rw [drawC_ok]; rotate_left; decide +kernel; exact cfg_mixed))
end Go.Av
end

section
namespace Go.Av
open Go.Proofs
set_option linter.unusedSimpArgs false

theorem ev_BagOk (w : Int) (rows : List C) (hl : rows.length ≤ 140737488355328) (hr : ∀ c ∈ rows, c.row.length ≤ 1099511627776) : evF cfg 63 [] [.agg [.d (.i .i64 w), .d (.sl .any (rows.map cC))]] = some (.d (.b (bagOk ⟨w, rows⟩)), []) := by
  cases hw0 : (decide (0 ≤ w) && decide (w ≤ 12)) with
  | false =>
    (refine (evF_code (C := cfg) (g := 63) (fn := Tryz.f63) rfl Tryz.func63 rfl (by rw [Tryz.ntmps63]; simp) (by kernel_rfl) (by first | decide | simp [keysOf])).trans ?_; rw [Tryz.results63, Tryz.ntmps63])
    repeat' (first | with_reducible refine br_split (fun _ => ?_) (fun _ => ?_) | simp only [*, push_cast, Array.reduceGetElem?, Nat.reduceBEq, Nat.reduceLT, Nat.reduceAdd, Nat.reduceSub, Nat.reduceLeDiff, Nat.reduceMul, Nat.reduceEqDiff, reduceCtorEq, Int.reduceAdd, Int.reduceLT, Int.reduceLE, Int.reduceToNat, Int.reduceNeg, Int.reduceSub, Int.reduceBEq, Int.reduceBNe, Int.reduceNe, Int.reduceGT, Int.reduceGE, Nat.reduceGT] | (rw [drawC_ok]; rotate_left; decide +kernel; exact cfg_mixed))
    simp [bagOk, hw0]
  | true =>
  cases hl0 : decide ((rows.length : Int) > 400) with
  | true =>
    (refine (evF_code (C := cfg) (g := 63) (fn := Tryz.f63) rfl Tryz.func63 rfl (by rw [Tryz.ntmps63]; simp) (by kernel_rfl) (by first | decide | simp [keysOf])).trans ?_; rw [Tryz.results63, Tryz.ntmps63])
    repeat' (first | with_reducible refine br_split (fun _ => ?_) (fun _ => ?_) | simp only [*, push_cast, Array.reduceGetElem?, Nat.reduceBEq, Nat.reduceLT, Nat.reduceAdd, Nat.reduceSub, Nat.reduceLeDiff, Nat.reduceMul, Nat.reduceEqDiff, reduceCtorEq, Int.reduceAdd, Int.reduceLT, Int.reduceLE, Int.reduceToNat, Int.reduceNeg, Int.reduceSub, Int.reduceBEq, Int.reduceBNe, Int.reduceNe, Int.reduceGT, Int.reduceGE, Nat.reduceGT] | (rw [drawC_ok]; rotate_left; decide +kernel; exact cfg_mixed))
    simp only [bagOk, hw0, hl0]
    rfl
  | false =>
  (refine (evF_code (C := cfg) (g := 63) (fn := Tryz.f63) rfl Tryz.func63 rfl (by rw [Tryz.ntmps63]; simp) (by kernel_rfl) (by first | decide | simp [keysOf])).trans ?_; rw [Tryz.results63, Tryz.ntmps63])
  repeat' (first | with_reducible refine br_split (fun _ => ?_) (fun _ => ?_) | simp only [*, push_cast, Array.reduceGetElem?, Nat.reduceBEq, Nat.reduceLT, Nat.reduceAdd, Nat.reduceSub, Nat.reduceLeDiff, Nat.reduceMul, Nat.reduceEqDiff, reduceCtorEq, Int.reduceAdd, Int.reduceLT, Int.reduceLE, Int.reduceToNat, Int.reduceNeg, Int.reduceSub, Int.reduceBEq, Int.reduceBNe, Int.reduceNe, Int.reduceGT, Int.reduceGE, Nat.reduceGT] | (rw [drawC_ok]; rotate_left; decide +kernel; exact cfg_mixed))
  rw [evM_for0 rows.length (fun i j => { t := [(1, .ptr 50 0), (16, .d (.sl .any (rows.map cC))), (17, .d (.i .i64 rows.length)), (18, .d (.i .i64 j))], o := [(50, .box [.d (.i .i64 w), .d (.sl .any (rows.map cC))])], ks := [50], n := 0, sz := 58, u := noU })
    (fun i => br (okRest w (prevAt rows i) (rows.drop i)) (some (.exit 0, { t := [], o := [], ks := [], n := 0, sz := 58, u := noU })) (some (.ret, { t := [(2, .d (.b false))], o := [], ks := [], n := 0, sz := 58, u := noU })) ⟨⟩) ?step ?last]
  case step =>
    intro i hi ih
    have hc : (rows.map cC)[i]? = some [.sl .any (rows[i].row.map vC), .i .i64 rows[i].n] := get_map cC rows i hi
    have hd := dec_lt hi
    have hw : IntKind.i64.wrap ((i : Int) + 1) = (i : Int) + 1 := i64_in (by omega) (by omega)
    have h1 := ev_isRow rows[i].row w (hr _ (List.getElem_mem hi))
    rw [okRest_at hi, okC]
    by_cases h0 : i = 0
    · have hp : decide ((i : Int) > 0) = false := decide_eq_false (by omega)
      have h3 : okPrev rows[i] (prevAt rows i) = true := by subst h0; rfl
      rw [h3]
      clear h3 h0
      repeat' (first | with_reducible refine br_split (fun _ => ?_) (fun _ => ?_) | simp only [*, push_cast, Array.reduceGetElem?, Nat.reduceBEq, Nat.reduceLT, Nat.reduceAdd, Nat.reduceSub, Nat.reduceLeDiff, Nat.reduceMul, Nat.reduceEqDiff, reduceCtorEq, Int.reduceAdd, Int.reduceLT, Int.reduceLE, Int.reduceToNat, Int.reduceNeg, Int.reduceSub, Int.reduceBEq, Int.reduceBNe, Int.reduceNe, Int.reduceGT, Int.reduceGE, Nat.reduceGT] | (rw [drawC_ok]; rotate_left; decide +kernel; exact cfg_mixed))
    · obtain ⟨k, hk⟩ : ∃ k, i = k + 1 := ⟨i - 1, by omega⟩
      have hkl : k < rows.length := by omega
      have hc2 : (rows.map cC)[k]? = some [.sl .any (rows[k].row.map vC), .i .i64 rows[k].n] := get_map cC rows k hkl
      have hp : decide ((i : Int) > 0) = true := decide_eq_true (by omega)
      have hw2 : IntKind.i64.wrap ((i : Int) - 1) = (k : Int) := by rw [i64_in (by omega) (by omega)]; omega
      have h2 := ev_CompareRow rows[k].row rows[i].row (hr _ (List.getElem_mem hkl))
      have h3 : okPrev rows[i] (prevAt rows i) = !(decide (cmpRow rows[k].row rows[i].row ≥ 0)) := by subst hk; simp [prevAt, hkl, okPrev]
      rw [h3]
      clear h3 hk h0
      repeat' (first | with_reducible refine br_split (fun _ => ?_) (fun _ => ?_) | simp only [*, push_cast, Array.reduceGetElem?, Nat.reduceBEq, Nat.reduceLT, Nat.reduceAdd, Nat.reduceSub, Nat.reduceLeDiff, Nat.reduceMul, Nat.reduceEqDiff, reduceCtorEq, Int.reduceAdd, Int.reduceLT, Int.reduceLE, Int.reduceToNat, Int.reduceNeg, Int.reduceSub, Int.reduceBEq, Int.reduceBNe, Int.reduceNe, Int.reduceGT, Int.reduceGE, Nat.reduceGT] | (rw [drawC_ok]; rotate_left; decide +kernel; exact cfg_mixed))
  case last =>
    rw [List.drop_length, okRest]
    repeat' (first | with_reducible refine br_split (fun _ => ?_) (fun _ => ?_) | simp only [*, push_cast, Array.reduceGetElem?, Nat.reduceBEq, Nat.reduceLT, Nat.reduceAdd, Nat.reduceSub, Nat.reduceLeDiff, Nat.reduceMul, Nat.reduceEqDiff, reduceCtorEq, Int.reduceAdd, Int.reduceLT, Int.reduceLE, Int.reduceToNat, Int.reduceNeg, Int.reduceSub, Int.reduceBEq, Int.reduceBNe, Int.reduceNe, Int.reduceGT, Int.reduceGE, Nat.reduceGT] | (rw [drawC_ok]; rotate_left; decide +kernel; exact cfg_mixed))
  · rw [List.drop_zero]
    have : prevAt rows 0 = none := rfl
    rw [this]
    have hb : bagOk ⟨w, rows⟩ = okRest w none rows := by simp only [bagOk, hw0, hl0, okRows, Bool.not_false, Bool.true_and]
    rw [hb]
    cases h : okRest w none rows <;> repeat' (first | with_reducible refine br_split (fun _ => ?_) (fun _ => ?_) | simp only [*, push_cast, Array.reduceGetElem?, Nat.reduceBEq, Nat.reduceLT, Nat.reduceAdd, Nat.reduceSub, Nat.reduceLeDiff, Nat.reduceMul, Nat.reduceEqDiff, reduceCtorEq, Int.reduceAdd, Int.reduceLT, Int.reduceLE, Int.reduceToNat, Int.reduceNeg, Int.reduceSub, Int.reduceBEq, Int.reduceBNe, Int.reduceNe, Int.reduceGT, Int.reduceGE, Nat.reduceGT] | (rw [drawC_ok]; rotate_left; decide +kernel; exact cfg_mixed))

theorem ev_sBagOk (w : Int) (rows : List C) (hl : rows.length ≤ 140737488355328) (hr : ∀ c ∈ rows, c.row.length ≤ 1099511627776) : evF cfg 66 [] [.agg [.d (.i .i64 w), .d (.sl .any (rows.map cC))]] = some (.d (.b (bagOk ⟨w, rows⟩)), []) := by
  (refine (evF_code (C := cfg) (g := 66) (fn := Tryz.f66) rfl Tryz.func66 rfl (by rw [Tryz.ntmps66]; simp) (by kernel_rfl) (by first | decide | simp [keysOf])).trans ?_; rw [Tryz.results66, Tryz.ntmps66])
  repeat' (first | with_reducible refine br_split (fun _ => ?_) (fun _ => ?_) | simp only [*, push_cast, Array.reduceGetElem?, Nat.reduceBEq, Nat.reduceLT, Nat.reduceAdd, Nat.reduceSub, Nat.reduceLeDiff, Nat.reduceMul, Nat.reduceEqDiff, reduceCtorEq, Int.reduceAdd, Int.reduceLT, Int.reduceLE, Int.reduceToNat, Int.reduceNeg, Int.reduceSub, Int.reduceBEq, Int.reduceBNe, Int.reduceNe, Int.reduceGT, Int.reduceGE, Nat.reduceGT] | (rw [drawC_ok]; rotate_left; decide +kernel; exact cfg_mixed))
  rw [evM_for0 rows.length (fun i j => { t := [(1, .ptr 50 0), (3, .d (.i .i64 j))], o := [(50, .box [.d (.i .i64 w), .d (.sl .any (rows.map cC))])], ks := [50], n := 0, sz := 60, u := noU })
    (fun i => br (okRest w (prevAt rows i) (rows.drop i)) (some (.exit 0, { t := [(1, .ptr 50 0)], o := [(50, .box [.d (.i .i64 w), .d (.sl .any (rows.map cC))])], ks := [50], n := 0, sz := 60, u := noU })) (some (.ret, { t := [(2, .d (.b false))], o := [], ks := [], n := 0, sz := 60, u := noU })) ⟨⟩) ?step ?last]
  case step =>
    intro i hi ih
    have hc : (rows.map cC)[i]? = some [.sl .any (rows[i].row.map vC), .i .i64 rows[i].n] := get_map cC rows i hi
    have hd := dec_lt hi
    have hw : IntKind.i64.wrap ((i : Int) + 1) = (i : Int) + 1 := i64_in (by omega) (by omega)
    have h1 := ev_l02Row rows[i].row w (hr _ (List.getElem_mem hi))
    rw [okRest_at hi, okC]
    by_cases h0 : i = 0
    · have hp : decide ((i : Int) > 0) = false := decide_eq_false (by omega)
      have h3 : okPrev rows[i] (prevAt rows i) = true := by subst h0; rfl
      rw [h3]
      clear h3 h0
      repeat' (first | with_reducible refine br_split (fun _ => ?_) (fun _ => ?_) | simp only [*, push_cast, Array.reduceGetElem?, Nat.reduceBEq, Nat.reduceLT, Nat.reduceAdd, Nat.reduceSub, Nat.reduceLeDiff, Nat.reduceMul, Nat.reduceEqDiff, reduceCtorEq, Int.reduceAdd, Int.reduceLT, Int.reduceLE, Int.reduceToNat, Int.reduceNeg, Int.reduceSub, Int.reduceBEq, Int.reduceBNe, Int.reduceNe, Int.reduceGT, Int.reduceGE, Nat.reduceGT] | (rw [drawC_ok]; rotate_left; decide +kernel; exact cfg_mixed))
    · obtain ⟨k, hk⟩ : ∃ k, i = k + 1 := ⟨i - 1, by omega⟩
      have hkl : k < rows.length := by omega
      have hc2 : (rows.map cC)[k]? = some [.sl .any (rows[k].row.map vC), .i .i64 rows[k].n] := get_map cC rows k hkl
      have hp : decide ((i : Int) > 0) = true := decide_eq_true (by omega)
      have hw2 : IntKind.i64.wrap ((i : Int) - 1) = (k : Int) := by rw [i64_in (by omega) (by omega)]; omega
      have h2 := ev_sCompareRow rows[k].row rows[i].row (hr _ (List.getElem_mem hkl))
      have h3 : okPrev rows[i] (prevAt rows i) = !(decide (cmpRow rows[k].row rows[i].row ≥ 0)) := by subst hk; simp [prevAt, hkl, okPrev]
      rw [h3]
      clear h3 hk h0
      repeat' (first | with_reducible refine br_split (fun _ => ?_) (fun _ => ?_) | simp only [*, push_cast, Array.reduceGetElem?, Nat.reduceBEq, Nat.reduceLT, Nat.reduceAdd, Nat.reduceSub, Nat.reduceLeDiff, Nat.reduceMul, Nat.reduceEqDiff, reduceCtorEq, Int.reduceAdd, Int.reduceLT, Int.reduceLE, Int.reduceToNat, Int.reduceNeg, Int.reduceSub, Int.reduceBEq, Int.reduceBNe, Int.reduceNe, Int.reduceGT, Int.reduceGE, Nat.reduceGT] | (rw [drawC_ok]; rotate_left; decide +kernel; exact cfg_mixed))
  case last =>
    rw [List.drop_length, okRest]
    repeat' (first | with_reducible refine br_split (fun _ => ?_) (fun _ => ?_) | simp only [*, push_cast, Array.reduceGetElem?, Nat.reduceBEq, Nat.reduceLT, Nat.reduceAdd, Nat.reduceSub, Nat.reduceLeDiff, Nat.reduceMul, Nat.reduceEqDiff, reduceCtorEq, Int.reduceAdd, Int.reduceLT, Int.reduceLE, Int.reduceToNat, Int.reduceNeg, Int.reduceSub, Int.reduceBEq, Int.reduceBNe, Int.reduceNe, Int.reduceGT, Int.reduceGE, Nat.reduceGT] | (rw [drawC_ok]; rotate_left; decide +kernel; exact cfg_mixed))
  · rw [List.drop_zero]
    have : prevAt rows 0 = none := rfl
    rw [this]
    cases h : okRest w none rows with
    | false =>
      have hb : bagOk ⟨w, rows⟩ = false := by simp [bagOk, okRows, h]
      repeat' (first | with_reducible refine br_split (fun _ => ?_) (fun _ => ?_) | simp only [*, push_cast, Array.reduceGetElem?, Nat.reduceBEq, Nat.reduceLT, Nat.reduceAdd, Nat.reduceSub, Nat.reduceLeDiff, Nat.reduceMul, Nat.reduceEqDiff, reduceCtorEq, Int.reduceAdd, Int.reduceLT, Int.reduceLE, Int.reduceToNat, Int.reduceNeg, Int.reduceSub, Int.reduceBEq, Int.reduceBNe, Int.reduceNe, Int.reduceGT, Int.reduceGE, Nat.reduceGT] | (rw [drawC_ok]; rotate_left; decide +kernel; exact cfg_mixed))
    | true =>
      have hb : bagOk ⟨w, rows⟩ = ((decide (0 ≤ w) && decide (w ≤ 12)) && decide ((rows.length : Int) ≤ 400)) := by simp only [bagOk, okRows, h, Bool.and_true]; congr 1; by_cases hx : (rows.length : Int) > 400 <;> simp [hx] <;> omega
      rw [hb]
      cases hw0 : (decide (0 ≤ w) && decide (w ≤ 12)) <;> repeat' (first | with_reducible refine br_split (fun _ => ?_) (fun _ => ?_) | simp only [*, push_cast, Array.reduceGetElem?, Nat.reduceBEq, Nat.reduceLT, Nat.reduceAdd, Nat.reduceSub, Nat.reduceLeDiff, Nat.reduceMul, Nat.reduceEqDiff, reduceCtorEq, Int.reduceAdd, Int.reduceLT, Int.reduceLE, Int.reduceToNat, Int.reduceNeg, Int.reduceSub, Int.reduceBEq, Int.reduceBNe, Int.reduceNe, Int.reduceGT, Int.reduceGE, Nat.reduceGT] | (rw [drawC_ok]; rotate_left; decide +kernel; exact cfg_mixed))

end Go.Av
end
