/- What functions of this seat give. -/
import Derived.Test.YtflkffnelppigaaGb
set_option linter.all false
set_option linter.unusedVariables false
set_option linter.unusedSimpArgs false

section
namespace Go.Av
open Go.Proofs
set_option linter.unusedSimpArgs false

@[push_cast] theorem ev_l02CopyRow (l : List V) (hl : l.length ≤ 1099511627776) : evF cfg 47 [] [.d (.sl .any (l.map vC))] = some (.d (.sl .any (l.map vC)), []) := by
  have h1 := len_ok (n := l.length) 32 hl (by omega)
  (refine (evF_code (C := cfg) (g := 47) (fn := Try.f47) rfl Try.func47 rfl (by rw [Try.ntmps47]; simp) (by kernel_rfl) (by first | decide | simp [keysOf])).trans ?_; rw [Try.results47, Try.ntmps47])
  repeat' (first | with_reducible refine br_split (fun _ => ?_) (fun _ => ?_) | simp only [*, push_cast, Array.reduceGetElem?, Nat.reduceBEq, Nat.reduceLT, Nat.reduceAdd, Nat.reduceSub, Nat.reduceLeDiff, Nat.reduceMul, Nat.reduceEqDiff, reduceCtorEq, Int.reduceAdd, Int.reduceLT, Int.reduceLE, Int.reduceToNat, Int.reduceNeg, Int.reduceSub, Int.reduceBEq, Int.reduceBNe, Int.reduceNe, Int.reduceGT, Int.reduceGE, Nat.reduceGT] | (rw [drawC_ok]; rotate_left; decide +kernel; exact cfg_mixed))
theorem ev_l02Right (w : Int) (rows : List C) (hl : rows.length ≤ 1099511627776) (hr : ∀ c ∈ rows, c.row.length ≤ 1099511627776) : evF cfg 48 [] [.agg [.d (.i .i64 w), .d (.sl .any (rows.map cC))]] =
    some (.agg [.d (.i .i64 w), .d (.sl .any ((right ⟨w, rows⟩).rows.map cC))], []) := by
  have h1 := ev_sBagOk w rows (by omega) hr
  cases hb : bagOk ⟨w, rows⟩ with
  | true =>
    have h2 : right ⟨w, rows⟩ = ⟨w, rows⟩ := by simp [right, hb]
    (refine (evF_code (C := cfg) (g := 48) (fn := Try.f48) rfl Try.func48 rfl (by rw [Try.ntmps48]; simp) (by kernel_rfl) (by first | decide | simp [keysOf])).trans ?_; rw [Try.results48, Try.ntmps48])
    repeat' (first | with_reducible refine br_split (fun _ => ?_) (fun _ => ?_) | simp only [*, push_cast, Array.reduceGetElem?, Nat.reduceBEq, Nat.reduceLT, Nat.reduceAdd, Nat.reduceSub, Nat.reduceLeDiff, Nat.reduceMul, Nat.reduceEqDiff, reduceCtorEq, Int.reduceAdd, Int.reduceLT, Int.reduceLE, Int.reduceToNat, Int.reduceNeg, Int.reduceSub, Int.reduceBEq, Int.reduceBNe, Int.reduceNe, Int.reduceGT, Int.reduceGE, Nat.reduceGT] | (rw [drawC_ok]; rotate_left; decide +kernel; exact cfg_mixed))
  | false =>
    have h2 : right ⟨w, rows⟩ = ⟨w, []⟩ := by simp [right, hb]
    (refine (evF_code (C := cfg) (g := 48) (fn := Try.f48) rfl Try.func48 rfl (by rw [Try.ntmps48]; simp) (by kernel_rfl) (by first | decide | simp [keysOf])).trans ?_; rw [Try.results48, Try.ntmps48])
    repeat' (first | with_reducible refine br_split (fun _ => ?_) (fun _ => ?_) | simp only [*, push_cast, Array.reduceGetElem?, Nat.reduceBEq, Nat.reduceLT, Nat.reduceAdd, Nat.reduceSub, Nat.reduceLeDiff, Nat.reduceMul, Nat.reduceEqDiff, reduceCtorEq, Int.reduceAdd, Int.reduceLT, Int.reduceLE, Int.reduceToNat, Int.reduceNeg, Int.reduceSub, Int.reduceBEq, Int.reduceBNe, Int.reduceNe, Int.reduceGT, Int.reduceGE, Nat.reduceGT] | (rw [drawC_ok]; rotate_left; decide +kernel; exact cfg_mixed))
theorem ev_sTimesBag (w : Int) (rows : List C) (n : Int) (hl : rows.length ≤ 1048576) (hr : ∀ c ∈ rows, c.row.length ≤ 1048576) : evF cfg 9 [] [.agg [.d (.i .i64 w), .d (.sl .any (rows.map cC))], .d (.i .i64 n)] =
    some (.agg [.d (.i .i64 w), .d (.sl .any ((timesBag ⟨w, rows⟩ n).rows.map cC))], []) := by
  have hb := ev_sBagOk w rows (by omega) (fun c hc => by have := hr c hc; omega)
  by_cases h0 : n = 0
  · subst h0
    have hq : (timesBag ⟨w, rows⟩ 0).rows = [] := by
      unfold timesBag
      split
      · cases rows with
        | nil => unfold right; split <;> rfl
        | cons a l => simp [right, bagOk, okRows, okRest, okC, tRow]
      · rfl
    have hrt := ev_l02Right w [] (by simp) (by simp)
    have hrn : (right ⟨w, []⟩).rows = [] := by unfold right; split <;> rfl
    simp only [List.map_nil, hrn] at hrt
    rw [hq]
    clear hq hrn
    (refine (evF_code (C := cfg) (g := 9) (fn := Try.f9) rfl Try.func9 rfl (by rw [Try.ntmps9]; simp) (by kernel_rfl) (by first | decide | simp [keysOf])).trans ?_; rw [Try.results9, Try.ntmps9])
    repeat' (first | with_reducible refine br_split (fun _ => ?_) (fun _ => ?_) | simp only [*, push_cast, Array.reduceGetElem?, Nat.reduceBEq, Nat.reduceLT, Nat.reduceAdd, Nat.reduceSub, Nat.reduceLeDiff, Nat.reduceMul, Nat.reduceEqDiff, reduceCtorEq, Int.reduceAdd, Int.reduceLT, Int.reduceLE, Int.reduceToNat, Int.reduceNeg, Int.reduceSub, Int.reduceBEq, Int.reduceBNe, Int.reduceNe, Int.reduceGT, Int.reduceGE, Nat.reduceGT] | (rw [drawC_ok]; rotate_left; decide +kernel; exact cfg_mixed))
    rw [evM_eq]
    cases hc0 : decide ((0 : Int) < (rows.length : Int)) <;> repeat' (first | with_reducible refine br_split (fun _ => ?_) (fun _ => ?_) | simp only [*, push_cast, Array.reduceGetElem?, Nat.reduceBEq, Nat.reduceLT, Nat.reduceAdd, Nat.reduceSub, Nat.reduceLeDiff, Nat.reduceMul, Nat.reduceEqDiff, reduceCtorEq, Int.reduceAdd, Int.reduceLT, Int.reduceLE, Int.reduceToNat, Int.reduceNeg, Int.reduceSub, Int.reduceBEq, Int.reduceBNe, Int.reduceNe, Int.reduceGT, Int.reduceGE, Nat.reduceGT] | (rw [drawC_ok]; rotate_left; decide +kernel; exact cfg_mixed))
  · have hn0 : (n != 0) = true := by simpa using h0
    cases hok : (bagOk ⟨w, rows⟩ && inN n) with
    | false =>
      have hq : timesBag ⟨w, rows⟩ n = ⟨w, []⟩ := by simp [timesBag, hok]
      have hrt := ev_l02Right w [] (by simp) (by simp)
      have hrn : (right ⟨w, []⟩).rows = [] := by unfold right; split <;> rfl
      simp only [List.map_nil, hrn] at hrt
      rw [hq]
      clear hq hrn h0
      unfold inN at hok
      (refine (evF_code (C := cfg) (g := 9) (fn := Try.f9) rfl Try.func9 rfl (by rw [Try.ntmps9]; simp) (by kernel_rfl) (by first | decide | simp [keysOf])).trans ?_; rw [Try.results9, Try.ntmps9])
      repeat' (first | with_reducible refine br_split (fun _ => ?_) (fun _ => ?_) | simp only [*, push_cast, Array.reduceGetElem?, Nat.reduceBEq, Nat.reduceLT, Nat.reduceAdd, Nat.reduceSub, Nat.reduceLeDiff, Nat.reduceMul, Nat.reduceEqDiff, reduceCtorEq, Int.reduceAdd, Int.reduceLT, Int.reduceLE, Int.reduceToNat, Int.reduceNeg, Int.reduceSub, Int.reduceBEq, Int.reduceBNe, Int.reduceNe, Int.reduceGT, Int.reduceGE, Nat.reduceGT] | (rw [drawC_ok]; rotate_left; decide +kernel; exact cfg_mixed))
      rw [evM_eq]
      cases hc0 : decide ((0 : Int) < (rows.length : Int)) with
      | false => repeat' (first | with_reducible refine br_split (fun _ => ?_) (fun _ => ?_) | simp only [*, push_cast, Array.reduceGetElem?, Nat.reduceBEq, Nat.reduceLT, Nat.reduceAdd, Nat.reduceSub, Nat.reduceLeDiff, Nat.reduceMul, Nat.reduceEqDiff, reduceCtorEq, Int.reduceAdd, Int.reduceLT, Int.reduceLE, Int.reduceToNat, Int.reduceNeg, Int.reduceSub, Int.reduceBEq, Int.reduceBNe, Int.reduceNe, Int.reduceGT, Int.reduceGE, Nat.reduceGT] | (rw [drawC_ok]; rotate_left; decide +kernel; exact cfg_mixed))
      | true =>
        cases hbb : bagOk ⟨w, rows⟩ with
        | false => repeat' (first | with_reducible refine br_split (fun _ => ?_) (fun _ => ?_) | simp only [*, push_cast, Array.reduceGetElem?, Nat.reduceBEq, Nat.reduceLT, Nat.reduceAdd, Nat.reduceSub, Nat.reduceLeDiff, Nat.reduceMul, Nat.reduceEqDiff, reduceCtorEq, Int.reduceAdd, Int.reduceLT, Int.reduceLE, Int.reduceToNat, Int.reduceNeg, Int.reduceSub, Int.reduceBEq, Int.reduceBNe, Int.reduceNe, Int.reduceGT, Int.reduceGE, Nat.reduceGT] | (rw [drawC_ok]; rotate_left; decide +kernel; exact cfg_mixed))
        | true =>
          rw [hbb, Bool.true_and] at hok
          repeat' (first | with_reducible refine br_split (fun _ => ?_) (fun _ => ?_) | simp only [*, push_cast, Array.reduceGetElem?, Nat.reduceBEq, Nat.reduceLT, Nat.reduceAdd, Nat.reduceSub, Nat.reduceLeDiff, Nat.reduceMul, Nat.reduceEqDiff, reduceCtorEq, Int.reduceAdd, Int.reduceLT, Int.reduceLE, Int.reduceToNat, Int.reduceNeg, Int.reduceSub, Int.reduceBEq, Int.reduceBNe, Int.reduceNe, Int.reduceGT, Int.reduceGE, Nat.reduceGT] | (rw [drawC_ok]; rotate_left; decide +kernel; exact cfg_mixed))
    | true =>
      have hq : timesBag ⟨w, rows⟩ n = right ⟨w, rows.map (tRow n)⟩ := by simp [timesBag, hok]
      have hrt := ev_l02Right w (rows.map (tRow n)) (by simp; omega) (by
        intro c hc
        obtain ⟨d, hd, rfl⟩ := List.mem_map.1 hc
        have := hr d hd
        simp only [tRow]; omega)
      rw [hq]
      simp only [Bool.and_eq_true] at hok
      obtain ⟨hbb, hin⟩ := hok
      have hbl := bagOk_len hbb
      unfold inN at hin
      clear hq h0
      (refine (evF_code (C := cfg) (g := 9) (fn := Try.f9) rfl Try.func9 rfl (by rw [Try.ntmps9]; simp) (by kernel_rfl) (by first | decide | simp [keysOf])).trans ?_; rw [Try.results9, Try.ntmps9])
      repeat' (first | with_reducible refine br_split (fun _ => ?_) (fun _ => ?_) | simp only [*, push_cast, Array.reduceGetElem?, Nat.reduceBEq, Nat.reduceLT, Nat.reduceAdd, Nat.reduceSub, Nat.reduceLeDiff, Nat.reduceMul, Nat.reduceEqDiff, reduceCtorEq, Int.reduceAdd, Int.reduceLT, Int.reduceLE, Int.reduceToNat, Int.reduceNeg, Int.reduceSub, Int.reduceBEq, Int.reduceBNe, Int.reduceNe, Int.reduceGT, Int.reduceGE, Nat.reduceGT] | (rw [drawC_ok]; rotate_left; decide +kernel; exact cfg_mixed))
      rw [show ([] : List (List T)) = ((rows.map (tRow n)).take 0).map cC from rfl]
      rw [evM_for0 rows.length (fun i j => { t := [(1, .d (.i .i64 n)), (2, .ptr 50 0), (4, .ptr 51 0), (5, .ptr 52 0), (6, .d (.i .i64 j))], o := [(50, .box [.d (.i .i64 w), .d (.sl .any (rows.map cC))]), (51, .box [.d (.i .i64 0), .nl]), (52, .box [.d (.i .i64 w), .own 53]), (53, .arr .any 2 (((rows.map (tRow n)).take i).map cC))], ks := [50, 51, 52, 53], n := 0, sz := 53, u := noU })
        (fun i => some (.exit 0, { t := [(4, .ptr 50 0), (5, .ptr 51 0)], o := [(50, .box [.d (.i .i64 0), .nl]), (51, .box [.d (.i .i64 w), .own 52]), (52, .arr .any 2 ((rows.map (tRow n)).map cC))], ks := [50, 51, 52], n := 0, sz := 53, u := noU })) ?step ?last]
      case step =>
        intro i hi ih
        have hc : (rows.map cC)[i]? = some [.sl .any (rows[i].row.map vC), .i .i64 rows[i].n] := get_map cC rows i hi
        have hd := dec_lt hi
        have hw : IntKind.i64.wrap ((i : Int) + 1) = (i : Int) + 1 := wrap_succ (by omega)
        have h1 := ev_l02CopyRow rows[i].row (by have := hr _ (List.getElem_mem hi); omega)
        have h2 := len_ok (n := ((rows.map (tRow n)).take i).length + 1) 32 (by simp; omega) (by omega)
        have hm : IntKind.i64.wrap (n * rows[i].n) = rows[i].n * n := by
          obtain ⟨_, h3, h4⟩ := hbl.2 _ (List.getElem_mem hi)
          simp only [Bool.and_eq_true, decide_eq_true_eq] at hin
          rw [Int.mul_comm]
          have a1 : rows[i].n * n ≤ 1000000000 * 1000000000 := by
            rcases Int.le_total 0 n with h | h
            · exact Int.le_trans (Int.mul_le_mul_of_nonneg_right h4 h) (Int.mul_le_mul_of_nonneg_left hin.2 (by omega))
            · have := Int.mul_le_mul_of_nonpos_right h3 h
              have h5 : (-1000000000) * n ≤ (-1000000000) * (-1000000000) := Int.mul_le_mul_of_nonpos_left (by omega) hin.1
              omega
          have a2 : -(1000000000 * 1000000000) ≤ rows[i].n * n := by
            rcases Int.le_total 0 n with h | h
            · have := Int.mul_le_mul_of_nonneg_right h3 h
              have h5 : (-1000000000) * 1000000000 ≤ (-1000000000) * n := Int.mul_le_mul_of_nonpos_left (by omega) hin.2
              omega
            · have := Int.mul_le_mul_of_nonpos_right h4 h
              have h5 : 1000000000 * (-1000000000) ≤ 1000000000 * n := Int.mul_le_mul_of_nonneg_left hin.1 (by omega)
              omega
          exact i64_in (by omega) (by omega)
        have h3 : ((rows.map (tRow n)).take i).map cC ++ [[.sl .any (rows[i].row.map vC), .i .i64 (rows[i].n * n)]] = ((rows.map (tRow n)).take (i + 1)).map cC := by
          have := take_snoc cC (l := rows.map (tRow n)) (i := i) (by simpa using hi)
          simpa [cC, tRow] using this
        clear hbl
        repeat' (first | with_reducible refine br_split (fun _ => ?_) (fun _ => ?_) | simp only [*, push_cast, Array.reduceGetElem?, Nat.reduceBEq, Nat.reduceLT, Nat.reduceAdd, Nat.reduceSub, Nat.reduceLeDiff, Nat.reduceMul, Nat.reduceEqDiff, reduceCtorEq, Int.reduceAdd, Int.reduceLT, Int.reduceLE, Int.reduceToNat, Int.reduceNeg, Int.reduceSub, Int.reduceBEq, Int.reduceBNe, Int.reduceNe, Int.reduceGT, Int.reduceGE, Nat.reduceGT] | (rw [drawC_ok]; rotate_left; decide +kernel; exact cfg_mixed))
      case last =>
        have : (rows.map (tRow n)).take rows.length = rows.map (tRow n) := List.take_of_length_le (by simp)
        repeat' (first | with_reducible refine br_split (fun _ => ?_) (fun _ => ?_) | simp only [*, push_cast, Array.reduceGetElem?, Nat.reduceBEq, Nat.reduceLT, Nat.reduceAdd, Nat.reduceSub, Nat.reduceLeDiff, Nat.reduceMul, Nat.reduceEqDiff, reduceCtorEq, Int.reduceAdd, Int.reduceLT, Int.reduceLE, Int.reduceToNat, Int.reduceNeg, Int.reduceSub, Int.reduceBEq, Int.reduceBNe, Int.reduceNe, Int.reduceGT, Int.reduceGE, Nat.reduceGT] | (rw [drawC_ok]; rotate_left; decide +kernel; exact cfg_mixed))
      · repeat' (first | with_reducible refine br_split (fun _ => ?_) (fun _ => ?_) | simp only [*, push_cast, Array.reduceGetElem?, Nat.reduceBEq, Nat.reduceLT, Nat.reduceAdd, Nat.reduceSub, Nat.reduceLeDiff, Nat.reduceMul, Nat.reduceEqDiff, reduceCtorEq, Int.reduceAdd, Int.reduceLT, Int.reduceLE, Int.reduceToNat, Int.reduceNeg, Int.reduceSub, Int.reduceBEq, Int.reduceBNe, Int.reduceNe, Int.reduceGT, Int.reduceGE, Nat.reduceGT] | (rw [drawC_ok]; rotate_left; decide +kernel; exact cfg_mixed))
end Go.Av
end

section
namespace Go.Av
open Go.Proofs
set_option linter.unusedSimpArgs false

theorem mul_in {a n : Int} (h3 : -1000000000 ≤ a) (h4 : a ≤ 1000000000) (h1 : -1000000000 ≤ n) (h2 : n ≤ 1000000000) : IntKind.i64.wrap (a * n) = a * n := by
  have a1 : a * n ≤ 1000000000 * 1000000000 := by
    rcases Int.le_total 0 n with h | h
    · exact Int.le_trans (Int.mul_le_mul_of_nonneg_right h4 h) (Int.mul_le_mul_of_nonneg_left h2 (by omega))
    · have := Int.mul_le_mul_of_nonpos_right h3 h
      have h5 : (-1000000000) * n ≤ (-1000000000) * (-1000000000) := Int.mul_le_mul_of_nonpos_left (by omega) h1
      omega
  have a2 : -(1000000000 * 1000000000) ≤ a * n := by
    rcases Int.le_total 0 n with h | h
    · have := Int.mul_le_mul_of_nonneg_right h3 h
      have h5 : (-1000000000) * 1000000000 ≤ (-1000000000) * n := Int.mul_le_mul_of_nonpos_left (by omega) h2
      omega
    · have := Int.mul_le_mul_of_nonpos_right h4 h
      have h5 : 1000000000 * (-1000000000) ≤ 1000000000 * n := Int.mul_le_mul_of_nonneg_left h1 (by omega)
      omega
  exact i64_in (by omega) (by omega)

theorem ev_TimesBag (w : Int) (rows : List C) (n : Int) (hl : rows.length ≤ 1048576) (hr : ∀ c ∈ rows, c.row.length ≤ 1048576) : evF cfg 11 [] [.agg [.d (.i .i64 w), .d (.sl .any (rows.map cC))], .d (.i .i64 n)] =
    some (.agg [.d (.i .i64 w), .d (.sl (.tok [0, 1]) (cnEs [0, 1] 0 ((timesBag ⟨w, rows⟩ n).rows.map cC)))], []) := by
  have hb := ev_BagOk w rows (by omega) (fun c hc => by have := hr c hc; omega)
  have ho := ev_own w rows hl hr
  have hb2 := ev_BagOk w (rows.map (tRow n)) (by simp; omega) (by
    intro c hc
    obtain ⟨d, hd, rfl⟩ := List.mem_map.1 hc
    have := hr d hd
    simp only [tRow]; omega)
  have hcan0 : canOk (.agg [.d (.i .i64 w), .d (.sl .any [])]) [] := by simp [canOk, tkTV, tkL, tkT, tkEs, annTok, tkO, flatTV, flatL, arrO, keysOf]
  have hcan := canOk_fz (.agg [.d (.i .i64 w), .d (.sl (.tok [1]) (cnEs [0, 1, 40] 0 ((rows.map (tRow n)).map cC)))]) [1] [0, 1, 40] ((rows.map (tRow n)).map cC) (by simp [tkTV, tkL, tkT, annTok]) (by simp) rfl
  cases hbb : bagOk ⟨w, rows⟩ with
  | false =>
    have hq : timesBag ⟨w, rows⟩ n = ⟨w, []⟩ := by simp [timesBag, hbb]
    rw [hq]
    (refine (evF_codeZ (C := cfg) (g := 11) (fn := Try.f11) rfl Try.func11 rfl (by rw [Try.ntmps11]; simp) (by kernel_rfl)).trans ?_; rw [Try.results11, Try.ntmps11])
    repeat' (first | with_reducible refine br_split (fun _ => ?_) (fun _ => ?_) | simp only [*, push_cast, Array.reduceGetElem?, Nat.reduceBEq, Nat.reduceLT, Nat.reduceAdd, Nat.reduceSub, Nat.reduceLeDiff, Nat.reduceMul, Nat.reduceEqDiff, reduceCtorEq, Int.reduceAdd, Int.reduceLT, Int.reduceLE, Int.reduceToNat, Int.reduceNeg, Int.reduceSub, Int.reduceBEq, Int.reduceBNe, Int.reduceNe, Int.reduceGT, Int.reduceGE, Nat.reduceGT] | (rw [drawC_ok]; rotate_left; decide +kernel; exact cfg_mixed))
  | true =>
    cases hin : inN n with
    | false =>
      have hq : timesBag ⟨w, rows⟩ n = ⟨w, []⟩ := by simp [timesBag, hin]
      rw [hq]
      unfold inN at hin
      (refine (evF_codeZ (C := cfg) (g := 11) (fn := Try.f11) rfl Try.func11 rfl (by rw [Try.ntmps11]; simp) (by kernel_rfl)).trans ?_; rw [Try.results11, Try.ntmps11])
      repeat' (first | with_reducible refine br_split (fun _ => ?_) (fun _ => ?_) | simp only [*, push_cast, Array.reduceGetElem?, Nat.reduceBEq, Nat.reduceLT, Nat.reduceAdd, Nat.reduceSub, Nat.reduceLeDiff, Nat.reduceMul, Nat.reduceEqDiff, reduceCtorEq, Int.reduceAdd, Int.reduceLT, Int.reduceLE, Int.reduceToNat, Int.reduceNeg, Int.reduceSub, Int.reduceBEq, Int.reduceBNe, Int.reduceNe, Int.reduceGT, Int.reduceGE, Nat.reduceGT] | (rw [drawC_ok]; rotate_left; decide +kernel; exact cfg_mixed))
    | true =>
      have hq : timesBag ⟨w, rows⟩ n = right ⟨w, rows.map (tRow n)⟩ := by simp [timesBag, hbb, hin]
      rw [hq]
      have hbl := bagOk_len hbb
      unfold inN at hin
      clear hq
      (refine (evF_codeZ (C := cfg) (g := 11) (fn := Try.f11) rfl Try.func11 rfl (by rw [Try.ntmps11]; simp) (by kernel_rfl)).trans ?_; rw [Try.results11, Try.ntmps11])
      repeat' (first | with_reducible refine br_split (fun _ => ?_) (fun _ => ?_) | simp only [*, push_cast, Array.reduceGetElem?, Nat.reduceBEq, Nat.reduceLT, Nat.reduceAdd, Nat.reduceSub, Nat.reduceLeDiff, Nat.reduceMul, Nat.reduceEqDiff, reduceCtorEq, Int.reduceAdd, Int.reduceLT, Int.reduceLE, Int.reduceToNat, Int.reduceNeg, Int.reduceSub, Int.reduceBEq, Int.reduceBNe, Int.reduceNe, Int.reduceGT, Int.reduceGE, Nat.reduceGT] | (rw [drawC_ok]; rotate_left; decide +kernel; exact cfg_mixed))
      rw [show cnEs [0, 1, 40] 0 (rows.map cC) = cnEs [0, 1, 40] 0 ((upd (tRow n) rows 0).map cC) from by rw [upd_zero]]
      rw [evM_for0 rows.length (fun i j => { t := [(1, .d (.i .i64 n)), (2, .ptr 50 0), (4, .ptr 51 0), (5, .ptr 52 0), (22, .d (.i .i64 rows.length)), (23, .d (.i .i64 j))], o := [(50, .box [.d (.i .i64 w), .d (.sl .any (rows.map cC))]), (51, .box [.d (.i .i64 0), .nl]), (52, .box [.d (.i .i64 w), .own 53]), (53, .arr .any 2 (cnEs [0, 1, 40] 0 ((upd (tRow n) rows i).map cC)))], ks := [50, 51, 52, 53], n := 0, sz := 44, u := noU, g := some (1, false) })
        (fun i => some (.exit 0, { t := [(2, .ptr 50 0), (4, .ptr 51 0), (5, .ptr 52 0)], o := [(50, .box [.d (.i .i64 w), .d (.sl .any (rows.map cC))]), (51, .box [.d (.i .i64 0), .nl]), (52, .box [.d (.i .i64 w), .own 53]), (53, .arr .any 2 (cnEs [0, 1, 40] 0 ((rows.map (tRow n)).map cC)))], ks := [50, 51, 52, 53], n := 0, sz := 44, u := noU, g := some (1, false) })) ?step ?last]
      case step =>
        intro i hi ih
        have hc : (cnEs [0, 1, 40] 0 ((upd (tRow n) rows i).map cC))[i]? = some [.sl (.tok [0, 1, 40, i, 0]) (rows[i].row.map vC), .i .i64 rows[i].n] := by rw [upd_getZ (tRow n) cC _ hi, cn_cC]; rfl
        have hd := dec_lt hi
        have hdn := dec_ltN hi
        have hw : IntKind.i64.wrap ((i : Int) + 1) = (i : Int) + 1 := wrap_succ (by omega)
        have hul := upd_len (tRow n) rows i
        have hm : IntKind.i64.wrap (rows[i].n * n) = rows[i].n * n := by
          obtain ⟨_, h3, h4⟩ := hbl.2 _ (List.getElem_mem hi)
          simp only [Bool.and_eq_true, decide_eq_true_eq] at hin
          exact mul_in h3 h4 hin.1 hin.2
        have h3 : (cnEs [0, 1, 40] 0 ((upd (tRow n) rows i).map cC)).set i [.sl (.tok [0, 1, 40, i, 0]) (rows[i].row.map vC), .i .i64 (rows[i].n * n)] = cnEs [0, 1, 40] 0 ((upd (tRow n) rows (i + 1)).map cC) := by rw [← upd_setZ (tRow n) cC _ hi, cn_cC]; rfl
        clear hbl
        repeat' (first | with_reducible refine br_split (fun _ => ?_) (fun _ => ?_) | simp only [*, push_cast, Array.reduceGetElem?, Nat.reduceBEq, Nat.reduceLT, Nat.reduceAdd, Nat.reduceSub, Nat.reduceLeDiff, Nat.reduceMul, Nat.reduceEqDiff, reduceCtorEq, Int.reduceAdd, Int.reduceLT, Int.reduceLE, Int.reduceToNat, Int.reduceNeg, Int.reduceSub, Int.reduceBEq, Int.reduceBNe, Int.reduceNe, Int.reduceGT, Int.reduceGE, Nat.reduceGT] | (rw [drawC_ok]; rotate_left; decide +kernel; exact cfg_mixed))
      case last =>
        have h1 := upd_all (tRow n) rows
        have h0 := upd_zero (tRow n) rows
        repeat' (first | with_reducible refine br_split (fun _ => ?_) (fun _ => ?_) | simp only [*, push_cast, Array.reduceGetElem?, Nat.reduceBEq, Nat.reduceLT, Nat.reduceAdd, Nat.reduceSub, Nat.reduceLeDiff, Nat.reduceMul, Nat.reduceEqDiff, reduceCtorEq, Int.reduceAdd, Int.reduceLT, Int.reduceLE, Int.reduceToNat, Int.reduceNeg, Int.reduceSub, Int.reduceBEq, Int.reduceBNe, Int.reduceNe, Int.reduceGT, Int.reduceGE, Nat.reduceGT] | (rw [drawC_ok]; rotate_left; decide +kernel; exact cfg_mixed))
      · cases h5 : bagOk ⟨w, rows.map (tRow n)⟩ with
        | true =>
          have h6 : right ⟨w, rows.map (tRow n)⟩ = ⟨w, rows.map (tRow n)⟩ := by simp [right, h5]
          repeat' (first | with_reducible refine br_split (fun _ => ?_) (fun _ => ?_) | simp only [*, push_cast, Array.reduceGetElem?, Nat.reduceBEq, Nat.reduceLT, Nat.reduceAdd, Nat.reduceSub, Nat.reduceLeDiff, Nat.reduceMul, Nat.reduceEqDiff, reduceCtorEq, Int.reduceAdd, Int.reduceLT, Int.reduceLE, Int.reduceToNat, Int.reduceNeg, Int.reduceSub, Int.reduceBEq, Int.reduceBNe, Int.reduceNe, Int.reduceGT, Int.reduceGE, Nat.reduceGT] | (rw [drawC_ok]; rotate_left; decide +kernel; exact cfg_mixed))
        | false =>
          have h6 : right ⟨w, rows.map (tRow n)⟩ = ⟨w, []⟩ := by simp [right, h5]
          repeat' (first | with_reducible refine br_split (fun _ => ?_) (fun _ => ?_) | simp only [*, push_cast, Array.reduceGetElem?, Nat.reduceBEq, Nat.reduceLT, Nat.reduceAdd, Nat.reduceSub, Nat.reduceLeDiff, Nat.reduceMul, Nat.reduceEqDiff, reduceCtorEq, Int.reduceAdd, Int.reduceLT, Int.reduceLE, Int.reduceToNat, Int.reduceNeg, Int.reduceSub, Int.reduceBEq, Int.reduceBNe, Int.reduceNe, Int.reduceGT, Int.reduceGE, Nat.reduceGT] | (rw [drawC_ok]; rotate_left; decide +kernel; exact cfg_mixed))
end Go.Av
end
