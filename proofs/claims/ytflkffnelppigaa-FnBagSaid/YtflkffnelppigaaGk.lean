/- What functions of this seat give. -/
import Derived.Test.YtflkffnelppigaaGb
import Derived.Test.YtflkffnelppigaaAvCfg
set_option linter.all false
set_option linter.unusedVariables false
set_option linter.unusedSimpArgs false

section
namespace Go.Av
open Go.Proofs
set_option linter.unusedSimpArgs false
@[push_cast] theorem ev_l02CopyRow (l : List V) (hl : l.length ≤ 1099511627776) : evF cfg 47 [] [.d (.sl .any (l.map vC))] = some (.d (.sl .any (l.map vC)), []) := by
  have h1 := len_ok (n := l.length) 32 hl (by omega)
  (refine (evF_code (C := cfg) (g := 47) (fn := Try.f47) rfl Try.func47 rfl (by rw [Try.ntmps47]; simp) (by kernel_rfl) (by first | decide | simp [keysOf])).trans ?_; rw [Try.results47, Try.ntmps47])
  repeat' (first | with_reducible refine br_split (fun _ => ?_) (fun _ => ?_) | simp only [*, push_cast, Array.reduceGetElem?, Nat.reduceBEq, Nat.reduceLT, Nat.reduceAdd, Nat.reduceSub, Nat.reduceLeDiff, Nat.reduceMul, Nat.reduceEqDiff, reduceCtorEq, Int.reduceAdd, Int.reduceLT, Int.reduceLE, Int.reduceToNat, Int.reduceNeg, Int.reduceSub, Int.reduceBEq, Int.reduceBNe, Int.reduceNe, Int.reduceGT, Int.reduceGE, Nat.reduceGT] | (rw [drawC_ok]; rotate_left; decide +kernel; exact cfg_mixed))
theorem ev_l02Copy (w : Int) (rows : List C) (hl : rows.length ≤ 1048576) (hr : ∀ c ∈ rows, c.row.length ≤ 1048576) : evF cfg 59 [] [.agg [.d (.i .i64 w), .d (.sl .any (rows.map cC))]] = some (.agg [.d (.i .i64 w), .own 40], [(40, .arr .any 2 (rows.map cC))]) := by
  (refine (evF_code (C := cfg) (g := 59) (fn := Try.f59) rfl Try.func59 rfl (by rw [Try.ntmps59]; simp) (by kernel_rfl) (by first | decide | simp [keysOf])).trans ?_; rw [Try.results59, Try.ntmps59])
  repeat' (first | with_reducible refine br_split (fun _ => ?_) (fun _ => ?_) | simp only [*, push_cast, Array.reduceGetElem?, Nat.reduceBEq, Nat.reduceLT, Nat.reduceAdd, Nat.reduceSub, Nat.reduceLeDiff, Nat.reduceMul, Nat.reduceEqDiff, reduceCtorEq, Int.reduceAdd, Int.reduceLT, Int.reduceLE, Int.reduceToNat, Int.reduceNeg, Int.reduceSub, Int.reduceBEq, Int.reduceBNe, Int.reduceNe, Int.reduceGT, Int.reduceGE, Nat.reduceGT] | (rw [drawC_ok]; rotate_left; decide +kernel; exact cfg_mixed))
  rw [show ([] : List (List T)) = (rows.take 0).map cC from rfl]
  rw [evM_for0 rows.length (fun i j => { t := [(1, .ptr 50 0), (2, .ptr 51 0), (3, .ptr 52 0), (4, .d (.i .i64 j))], o := [(50, .box [.d (.i .i64 w), .d (.sl .any (rows.map cC))]), (51, .box [.d (.i .i64 0), .nl]), (52, .box [.d (.i .i64 w), .own 53]), (53, .arr .any 2 ((rows.take i).map cC))], ks := [50, 51, 52, 53], n := 0, sz := 35, u := noU })
    (fun i => some (.exit 0, { t := [(2, .ptr 50 0), (3, .ptr 51 0)], o := [(50, .box [.d (.i .i64 0), .nl]), (51, .box [.d (.i .i64 w), .own 52]), (52, .arr .any 2 (rows.map cC))], ks := [50, 51, 52], n := 0, sz := 35, u := noU })) ?step ?last]
  case step =>
    intro i hi ih
    have hc : (rows.map cC)[i]? = some [.sl .any (rows[i].row.map vC), .i .i64 rows[i].n] := get_map cC rows i hi
    have hd := dec_lt hi
    have hw : IntKind.i64.wrap ((i : Int) + 1) = (i : Int) + 1 := wrap_succ (by omega)
    have h1 := ev_l02CopyRow rows[i].row (by have := hr _ (List.getElem_mem hi); omega)
    have h2 := len_ok (n := (rows.take i).length + 1) 32 (by simp; omega) (by omega)
    have h3 : (rows.take i).map cC ++ [[.sl .any (rows[i].row.map vC), .i .i64 rows[i].n]] = _ := take_snoc cC hi
    repeat' (first | with_reducible refine br_split (fun _ => ?_) (fun _ => ?_) | simp only [*, push_cast, Array.reduceGetElem?, Nat.reduceBEq, Nat.reduceLT, Nat.reduceAdd, Nat.reduceSub, Nat.reduceLeDiff, Nat.reduceMul, Nat.reduceEqDiff, reduceCtorEq, Int.reduceAdd, Int.reduceLT, Int.reduceLE, Int.reduceToNat, Int.reduceNeg, Int.reduceSub, Int.reduceBEq, Int.reduceBNe, Int.reduceNe, Int.reduceGT, Int.reduceGE, Nat.reduceGT] | (rw [drawC_ok]; rotate_left; decide +kernel; exact cfg_mixed))
  case last =>
    have : rows.take rows.length = rows := List.take_length
    repeat' (first | with_reducible refine br_split (fun _ => ?_) (fun _ => ?_) | simp only [*, push_cast, Array.reduceGetElem?, Nat.reduceBEq, Nat.reduceLT, Nat.reduceAdd, Nat.reduceSub, Nat.reduceLeDiff, Nat.reduceMul, Nat.reduceEqDiff, reduceCtorEq, Int.reduceAdd, Int.reduceLT, Int.reduceLE, Int.reduceToNat, Int.reduceNeg, Int.reduceSub, Int.reduceBEq, Int.reduceBNe, Int.reduceNe, Int.reduceGT, Int.reduceGE, Nat.reduceGT] | (rw [drawC_ok]; rotate_left; decide +kernel; exact cfg_mixed))
  · repeat' (first | with_reducible refine br_split (fun _ => ?_) (fun _ => ?_) | simp only [*, push_cast, Array.reduceGetElem?, Nat.reduceBEq, Nat.reduceLT, Nat.reduceAdd, Nat.reduceSub, Nat.reduceLeDiff, Nat.reduceMul, Nat.reduceEqDiff, reduceCtorEq, Int.reduceAdd, Int.reduceLT, Int.reduceLE, Int.reduceToNat, Int.reduceNeg, Int.reduceSub, Int.reduceBEq, Int.reduceBNe, Int.reduceNe, Int.reduceGT, Int.reduceGE, Nat.reduceGT] | (rw [drawC_ok]; rotate_left; decide +kernel; exact cfg_mixed))
theorem dec_le_f {i j : Nat} (h : i < j) : decide ((j : Int) < (i : Int)) = false := decide_eq_false (by omega)
theorem putw1 (w n : Int) (rows : List C) (r : List V) (hl : rows.length ≤ 1048576) (hr : ∀ c ∈ rows, c.row.length ≤ 1048576) (hrl : r.length ≤ 1048576) (ha : Asc rows) (hp : posOf rows r < rows.length) (he : cmpRow rows[posOf rows r].row r = 0) (hn : ¬ w64 (n + rows[posOf rows r].n) = 0) : evF cfg 74 [(0, .arr .any 2 (rows.map cC))] [.agg [.d (.i .i64 w), .own 0], .d (.sl .any (r.map vC)), .d (.i .i64 n)] = some (.agg [.d (.i .i64 w), .own 0], [(0, .arr .any 2 ((putC rows ⟨r, n⟩).map cC))]) := by
  have hz : posOf rows r ≤ rows.length := posOf_le rows r
  have hc : (rows.map cC)[posOf rows r]? = some [.sl .any (rows[posOf rows r].row.map vC), .i .i64 rows[posOf rows r].n] := get_map cC rows _ hp
  have hd := dec_lt hp
  have hcmp := ev_sCompareRow rows[posOf rows r].row r (by have := hr _ (List.getElem_mem hp); omega)
  have hdm := dec_ltN hp
  have hpc := putC_at (x := ⟨r, n⟩) ha hp he
  rw [if_neg hn] at hpc
  rw [hpc]
  have heb : (cmpRow rows[posOf rows r].row r == 0) = true := by simpa using he
  have hnb : (IntKind.i64.wrap (n + rows[posOf rows r].n) != 0) = true := by simpa using hn
  have hst : (rows.map cC).set (posOf rows r) [.sl .any (rows[posOf rows r].row.map vC), .i .i64 (IntKind.i64.wrap (n + rows[posOf rows r].n))] = (rows.set (posOf rows r) ⟨rows[posOf rows r].row, w64 (n + rows[posOf rows r].n)⟩).map cC := by rw [List.map_set]; rfl
  clear hpc he hn
  (refine (evF_code (C := cfg) (g := 74) (fn := Try.f74) rfl Try.func74 rfl (by rw [Try.ntmps74]; simp) (by kernel_rfl) (by first | decide | simp [keysOf])).trans ?_; rw [Try.results74, Try.ntmps74])
  repeat' (first | with_reducible refine br_split (fun _ => ?_) (fun _ => ?_) | simp only [*, push_cast, Array.reduceGetElem?, Nat.reduceBEq, Nat.reduceLT, Nat.reduceAdd, Nat.reduceSub, Nat.reduceLeDiff, Nat.reduceMul, Nat.reduceEqDiff, reduceCtorEq, Int.reduceAdd, Int.reduceLT, Int.reduceLE, Int.reduceToNat, Int.reduceNeg, Int.reduceSub, Int.reduceBEq, Int.reduceBNe, Int.reduceNe, Int.reduceGT, Int.reduceGE, Nat.reduceGT] | (rw [drawC_ok]; rotate_left; decide +kernel; exact cfg_mixed))
  rw [evM_bs0 (ltAt rows r) rows.length (fun i j => { t := [(1, .d (.sl .any (r.map vC))), (2, .d (.i .i64 n)), (3, .ptr 50 0), (6, .ptr 51 0), (7, .d (.i .i64 i)), (8, .d (.i .i64 j))], o := [(0, .arr .any 2 (rows.map cC)), (50, .box [.d (.i .i64 w), .own 0]), (51, .box [.d (.i .i64 0), .nl])], ks := [0, 50, 51], n := 0, sz := 100, u := noU })
    (fun i => some (.exit 0, { t := [(1, .d (.sl .any (r.map vC))), (2, .d (.i .i64 n)), (3, .ptr 50 0), (6, .ptr 51 0), (7, .d (.i .i64 (i : Nat)))], o := [(0, .arr .any 2 (rows.map cC)), (50, .box [.d (.i .i64 w), .own 0]), (51, .box [.d (.i .i64 0), .nl])], ks := [0, 50, 51], n := 0, sz := 100, u := noU })) ?step1 ?last1]
  case step1 =>
    intro i j m hij hj hm h1 h2
    have hml : m < rows.length := by omega
    have hc : (rows.map cC)[m]? = some [.sl .any (rows[m].row.map vC), .i .i64 rows[m].n] := get_map cC rows m hml
    have hd := dec_lt hij
    have hq : IntKind.i64.wrap ((i : Int) + (j : Int)) = (i : Int) + (j : Int) := i64_in (by omega) (by omega)
    have hq2 : IntKind.i64.wrap (((i : Int) + (j : Int)).tdiv 2) = (m : Int) := by rw [mid_div, ← hm]; exact i64_in (by omega) (by omega)
    have hw : IntKind.i64.wrap ((m : Int) + 1) = (m : Int) + 1 := wrap_succ (by omega)
    have hcmp := ev_sCompareRow rows[m].row r (by have := hr _ (List.getElem_mem hml); omega)
    have hdm := dec_ltN hml
    have hp := ltAt_get (r := r) hml
    cases hb : ltAt rows r m with
    | true =>
      have h3 := h1 hb
      rw [hp] at hb
      clear h1 h2 hm hp
      repeat' (first | with_reducible refine br_split (fun _ => ?_) (fun _ => ?_) | simp only [*, push_cast, Array.reduceGetElem?, Nat.reduceBEq, Nat.reduceLT, Nat.reduceAdd, Nat.reduceSub, Nat.reduceLeDiff, Nat.reduceMul, Nat.reduceEqDiff, reduceCtorEq, Int.reduceAdd, Int.reduceLT, Int.reduceLE, Int.reduceToNat, Int.reduceNeg, Int.reduceSub, Int.reduceBEq, Int.reduceBNe, Int.reduceNe, Int.reduceGT, Int.reduceGE, Nat.reduceGT] | (rw [drawC_ok]; rotate_left; decide +kernel; exact cfg_mixed))
    | false =>
      have h3 := h2 hb
      rw [hp] at hb
      clear h1 h2 hm hp
      repeat' (first | with_reducible refine br_split (fun _ => ?_) (fun _ => ?_) | simp only [*, push_cast, Array.reduceGetElem?, Nat.reduceBEq, Nat.reduceLT, Nat.reduceAdd, Nat.reduceSub, Nat.reduceLeDiff, Nat.reduceMul, Nat.reduceEqDiff, reduceCtorEq, Int.reduceAdd, Int.reduceLT, Int.reduceLE, Int.reduceToNat, Int.reduceNeg, Int.reduceSub, Int.reduceBEq, Int.reduceBNe, Int.reduceNe, Int.reduceGT, Int.reduceGE, Nat.reduceGT] | (rw [drawC_ok]; rotate_left; decide +kernel; exact cfg_mixed))
  case last1 =>
    intro i hi
    repeat' (first | with_reducible refine br_split (fun _ => ?_) (fun _ => ?_) | simp only [*, push_cast, Array.reduceGetElem?, Nat.reduceBEq, Nat.reduceLT, Nat.reduceAdd, Nat.reduceSub, Nat.reduceLeDiff, Nat.reduceMul, Nat.reduceEqDiff, reduceCtorEq, Int.reduceAdd, Int.reduceLT, Int.reduceLE, Int.reduceToNat, Int.reduceNeg, Int.reduceSub, Int.reduceBEq, Int.reduceBNe, Int.reduceNe, Int.reduceGT, Int.reduceGE, Nat.reduceGT] | (rw [drawC_ok]; rotate_left; decide +kernel; exact cfg_mixed))
  rw [show bs2 (ltAt rows r) 0 rows.length = posOf rows r from rfl]
  clear hr
  repeat' (first | with_reducible refine br_split (fun _ => ?_) (fun _ => ?_) | simp only [*, push_cast, Array.reduceGetElem?, Nat.reduceBEq, Nat.reduceLT, Nat.reduceAdd, Nat.reduceSub, Nat.reduceLeDiff, Nat.reduceMul, Nat.reduceEqDiff, reduceCtorEq, Int.reduceAdd, Int.reduceLT, Int.reduceLE, Int.reduceToNat, Int.reduceNeg, Int.reduceSub, Int.reduceBEq, Int.reduceBNe, Int.reduceNe, Int.reduceGT, Int.reduceGE, Nat.reduceGT] | (rw [drawC_ok]; rotate_left; decide +kernel; exact cfg_mixed))
theorem putw2 (w n : Int) (rows : List C) (r : List V) (hl : rows.length ≤ 1048576) (hr : ∀ c ∈ rows, c.row.length ≤ 1048576) (hrl : r.length ≤ 1048576) (ha : Asc rows) (hp : posOf rows r < rows.length) (he : cmpRow rows[posOf rows r].row r = 0) (hn : w64 (n + rows[posOf rows r].n) = 0) : evF cfg 74 [(0, .arr .any 2 (rows.map cC))] [.agg [.d (.i .i64 w), .own 0], .d (.sl .any (r.map vC)), .d (.i .i64 n)] = some (.agg [.d (.i .i64 w), .own 40], [(0, .fz .any 2 (rows.map cC)), (40, .arr .any 2 ((putC rows ⟨r, n⟩).map cC))]) := by
  have hz : posOf rows r ≤ rows.length := posOf_le rows r
  have hc : (rows.map cC)[posOf rows r]? = some [.sl .any (rows[posOf rows r].row.map vC), .i .i64 rows[posOf rows r].n] := get_map cC rows _ hp
  have hd := dec_lt hp
  have hcmp := ev_sCompareRow rows[posOf rows r].row r (by have := hr _ (List.getElem_mem hp); omega)
  have hdm := dec_ltN hp
  have hpc := putC_at (x := ⟨r, n⟩) ha hp he
  rw [if_pos hn] at hpc
  rw [hpc]
  have heb : (cmpRow rows[posOf rows r].row r == 0) = true := by simpa using he
  have hnb : (IntKind.i64.wrap (n + rows[posOf rows r].n) != 0) = false := by simpa using hn
  have hw : IntKind.i64.wrap ((posOf rows r : Int) + 1) = (posOf rows r : Int) + 1 := wrap_succ (by omega)
  have hs1 : decide (0 ≤ (posOf rows r : Int) ∧ (posOf rows r : Int) ≤ (rows.length : Int)) = true := decide_eq_true (by omega)
  have hmt : (rows.map cC).take (posOf rows r) = (rows.take (posOf rows r)).map cC := by rw [List.map_take]
  have hmd : (rows.map cC).drop (posOf rows r + 1) = (rows.drop (posOf rows r + 1)).map cC := by rw [List.map_drop]
  have hl1 := len_ok (n := (rows.take (posOf rows r)).length) 32 (by simp; omega) (by omega)
  have hl2 := len_ok (n := (rows.take (posOf rows r)).length + (rows.drop (posOf rows r + 1)).length) 32 (by simp; omega) (by omega)
  have htn : ((posOf rows r : Int) + 1).toNat = posOf rows r + 1 := by omega
  have hs2 : decide (0 ≤ (posOf rows r : Int) + 1 ∧ (posOf rows r : Int) + 1 ≤ (rows.length : Int) ∧ (rows.length : Int) ≤ (rows.length : Int)) = true := decide_eq_true (by omega)
  have htl : List.take rows.length (rows.map cC) = rows.map cC := List.take_of_length_le (by simp)
  clear hpc he hn
  (refine (evF_code (C := cfg) (g := 74) (fn := Try.f74) rfl Try.func74 rfl (by rw [Try.ntmps74]; simp) (by kernel_rfl) (by first | decide | simp [keysOf])).trans ?_; rw [Try.results74, Try.ntmps74])
  repeat' (first | with_reducible refine br_split (fun _ => ?_) (fun _ => ?_) | simp only [*, push_cast, Array.reduceGetElem?, Nat.reduceBEq, Nat.reduceLT, Nat.reduceAdd, Nat.reduceSub, Nat.reduceLeDiff, Nat.reduceMul, Nat.reduceEqDiff, reduceCtorEq, Int.reduceAdd, Int.reduceLT, Int.reduceLE, Int.reduceToNat, Int.reduceNeg, Int.reduceSub, Int.reduceBEq, Int.reduceBNe, Int.reduceNe, Int.reduceGT, Int.reduceGE, Nat.reduceGT] | (rw [drawC_ok]; rotate_left; decide +kernel; exact cfg_mixed))
  rw [evM_bs0 (ltAt rows r) rows.length (fun i j => { t := [(1, .d (.sl .any (r.map vC))), (2, .d (.i .i64 n)), (3, .ptr 50 0), (6, .ptr 51 0), (7, .d (.i .i64 i)), (8, .d (.i .i64 j))], o := [(0, .arr .any 2 (rows.map cC)), (50, .box [.d (.i .i64 w), .own 0]), (51, .box [.d (.i .i64 0), .nl])], ks := [0, 50, 51], n := 0, sz := 100, u := noU })
    (fun i => some (.exit 0, { t := [(1, .d (.sl .any (r.map vC))), (2, .d (.i .i64 n)), (3, .ptr 50 0), (6, .ptr 51 0), (7, .d (.i .i64 (i : Nat)))], o := [(0, .arr .any 2 (rows.map cC)), (50, .box [.d (.i .i64 w), .own 0]), (51, .box [.d (.i .i64 0), .nl])], ks := [0, 50, 51], n := 0, sz := 100, u := noU })) ?step2 ?last2]
  case step2 =>
    intro i j m hij hj hm h1 h2
    have hml : m < rows.length := by omega
    have hc : (rows.map cC)[m]? = some [.sl .any (rows[m].row.map vC), .i .i64 rows[m].n] := get_map cC rows m hml
    have hd := dec_lt hij
    have hq : IntKind.i64.wrap ((i : Int) + (j : Int)) = (i : Int) + (j : Int) := i64_in (by omega) (by omega)
    have hq2 : IntKind.i64.wrap (((i : Int) + (j : Int)).tdiv 2) = (m : Int) := by rw [mid_div, ← hm]; exact i64_in (by omega) (by omega)
    have hw : IntKind.i64.wrap ((m : Int) + 1) = (m : Int) + 1 := wrap_succ (by omega)
    have hcmp := ev_sCompareRow rows[m].row r (by have := hr _ (List.getElem_mem hml); omega)
    have hdm := dec_ltN hml
    have hp := ltAt_get (r := r) hml
    cases hb : ltAt rows r m with
    | true =>
      have h3 := h1 hb
      rw [hp] at hb
      clear h1 h2 hm hp
      repeat' (first | with_reducible refine br_split (fun _ => ?_) (fun _ => ?_) | simp only [*, push_cast, Array.reduceGetElem?, Nat.reduceBEq, Nat.reduceLT, Nat.reduceAdd, Nat.reduceSub, Nat.reduceLeDiff, Nat.reduceMul, Nat.reduceEqDiff, reduceCtorEq, Int.reduceAdd, Int.reduceLT, Int.reduceLE, Int.reduceToNat, Int.reduceNeg, Int.reduceSub, Int.reduceBEq, Int.reduceBNe, Int.reduceNe, Int.reduceGT, Int.reduceGE, Nat.reduceGT] | (rw [drawC_ok]; rotate_left; decide +kernel; exact cfg_mixed))
    | false =>
      have h3 := h2 hb
      rw [hp] at hb
      clear h1 h2 hm hp
      repeat' (first | with_reducible refine br_split (fun _ => ?_) (fun _ => ?_) | simp only [*, push_cast, Array.reduceGetElem?, Nat.reduceBEq, Nat.reduceLT, Nat.reduceAdd, Nat.reduceSub, Nat.reduceLeDiff, Nat.reduceMul, Nat.reduceEqDiff, reduceCtorEq, Int.reduceAdd, Int.reduceLT, Int.reduceLE, Int.reduceToNat, Int.reduceNeg, Int.reduceSub, Int.reduceBEq, Int.reduceBNe, Int.reduceNe, Int.reduceGT, Int.reduceGE, Nat.reduceGT] | (rw [drawC_ok]; rotate_left; decide +kernel; exact cfg_mixed))
  case last2 =>
    intro i hi
    repeat' (first | with_reducible refine br_split (fun _ => ?_) (fun _ => ?_) | simp only [*, push_cast, Array.reduceGetElem?, Nat.reduceBEq, Nat.reduceLT, Nat.reduceAdd, Nat.reduceSub, Nat.reduceLeDiff, Nat.reduceMul, Nat.reduceEqDiff, reduceCtorEq, Int.reduceAdd, Int.reduceLT, Int.reduceLE, Int.reduceToNat, Int.reduceNeg, Int.reduceSub, Int.reduceBEq, Int.reduceBNe, Int.reduceNe, Int.reduceGT, Int.reduceGE, Nat.reduceGT] | (rw [drawC_ok]; rotate_left; decide +kernel; exact cfg_mixed))
  rw [show bs2 (ltAt rows r) 0 rows.length = posOf rows r from rfl]
  rw [List.map_append]
  clear hr
  repeat' (first | with_reducible refine br_split (fun _ => ?_) (fun _ => ?_) | simp only [*, push_cast, Array.reduceGetElem?, Nat.reduceBEq, Nat.reduceLT, Nat.reduceAdd, Nat.reduceSub, Nat.reduceLeDiff, Nat.reduceMul, Nat.reduceEqDiff, reduceCtorEq, Int.reduceAdd, Int.reduceLT, Int.reduceLE, Int.reduceToNat, Int.reduceNeg, Int.reduceSub, Int.reduceBEq, Int.reduceBNe, Int.reduceNe, Int.reduceGT, Int.reduceGE, Nat.reduceGT] | (rw [drawC_ok]; rotate_left; decide +kernel; exact cfg_mixed))
theorem putw3a (w n : Int) (rows : List C) (r : List V) (hl : rows.length ≤ 1048576) (hr : ∀ c ∈ rows, c.row.length ≤ 1048576) (hrl : r.length ≤ 1048576) (ha : Asc rows) (hp : posOf rows r < rows.length) (he : cmpRow rows[posOf rows r].row r ≠ 0) (hn : n = 0) : evF cfg 74 [(0, .arr .any 2 (rows.map cC))] [.agg [.d (.i .i64 w), .own 0], .d (.sl .any (r.map vC)), .d (.i .i64 n)] = some (.agg [.d (.i .i64 w), .own 0], [(0, .arr .any 2 ((putC rows ⟨r, n⟩).map cC))]) := by
  have hz : posOf rows r ≤ rows.length := posOf_le rows r
  have hc : (rows.map cC)[posOf rows r]? = some [.sl .any (rows[posOf rows r].row.map vC), .i .i64 rows[posOf rows r].n] := get_map cC rows _ hp
  have hd := dec_lt hp
  have hcmp := ev_sCompareRow rows[posOf rows r].row r (by have := hr _ (List.getElem_mem hp); omega)
  have hdm := dec_ltN hp
  have heb : (cmpRow rows[posOf rows r].row r == 0) = false := by simpa using he
  have hpc := putC_not (x := ⟨r, n⟩) ha (.inr ⟨hp, he⟩)
  rw [if_pos hn] at hpc
  have hnb : (n != 0) = false := by simpa using hn
  rw [hpc]
  clear hpc he hn
  (refine (evF_code (C := cfg) (g := 74) (fn := Try.f74) rfl Try.func74 rfl (by rw [Try.ntmps74]; simp) (by kernel_rfl) (by first | decide | simp [keysOf])).trans ?_; rw [Try.results74, Try.ntmps74])
  repeat' (first | with_reducible refine br_split (fun _ => ?_) (fun _ => ?_) | simp only [*, push_cast, Array.reduceGetElem?, Nat.reduceBEq, Nat.reduceLT, Nat.reduceAdd, Nat.reduceSub, Nat.reduceLeDiff, Nat.reduceMul, Nat.reduceEqDiff, reduceCtorEq, Int.reduceAdd, Int.reduceLT, Int.reduceLE, Int.reduceToNat, Int.reduceNeg, Int.reduceSub, Int.reduceBEq, Int.reduceBNe, Int.reduceNe, Int.reduceGT, Int.reduceGE, Nat.reduceGT] | (rw [drawC_ok]; rotate_left; decide +kernel; exact cfg_mixed))
  rw [evM_bs0 (ltAt rows r) rows.length (fun i j => { t := [(1, .d (.sl .any (r.map vC))), (2, .d (.i .i64 n)), (3, .ptr 50 0), (6, .ptr 51 0), (7, .d (.i .i64 i)), (8, .d (.i .i64 j))], o := [(0, .arr .any 2 (rows.map cC)), (50, .box [.d (.i .i64 w), .own 0]), (51, .box [.d (.i .i64 0), .nl])], ks := [0, 50, 51], n := 0, sz := 100, u := noU })
    (fun i => some (.exit 0, { t := [(1, .d (.sl .any (r.map vC))), (2, .d (.i .i64 n)), (3, .ptr 50 0), (6, .ptr 51 0), (7, .d (.i .i64 (i : Nat)))], o := [(0, .arr .any 2 (rows.map cC)), (50, .box [.d (.i .i64 w), .own 0]), (51, .box [.d (.i .i64 0), .nl])], ks := [0, 50, 51], n := 0, sz := 100, u := noU })) ?step3 ?last3]
  case step3 =>
    intro i j m hij hj hm h1 h2
    have hml : m < rows.length := by omega
    have hc : (rows.map cC)[m]? = some [.sl .any (rows[m].row.map vC), .i .i64 rows[m].n] := get_map cC rows m hml
    have hd := dec_lt hij
    have hq : IntKind.i64.wrap ((i : Int) + (j : Int)) = (i : Int) + (j : Int) := i64_in (by omega) (by omega)
    have hq2 : IntKind.i64.wrap (((i : Int) + (j : Int)).tdiv 2) = (m : Int) := by rw [mid_div, ← hm]; exact i64_in (by omega) (by omega)
    have hw : IntKind.i64.wrap ((m : Int) + 1) = (m : Int) + 1 := wrap_succ (by omega)
    have hcmp := ev_sCompareRow rows[m].row r (by have := hr _ (List.getElem_mem hml); omega)
    have hdm := dec_ltN hml
    have hp := ltAt_get (r := r) hml
    cases hb : ltAt rows r m with
    | true =>
      have h3 := h1 hb
      rw [hp] at hb
      clear h1 h2 hm hp
      repeat' (first | with_reducible refine br_split (fun _ => ?_) (fun _ => ?_) | simp only [*, push_cast, Array.reduceGetElem?, Nat.reduceBEq, Nat.reduceLT, Nat.reduceAdd, Nat.reduceSub, Nat.reduceLeDiff, Nat.reduceMul, Nat.reduceEqDiff, reduceCtorEq, Int.reduceAdd, Int.reduceLT, Int.reduceLE, Int.reduceToNat, Int.reduceNeg, Int.reduceSub, Int.reduceBEq, Int.reduceBNe, Int.reduceNe, Int.reduceGT, Int.reduceGE, Nat.reduceGT] | (rw [drawC_ok]; rotate_left; decide +kernel; exact cfg_mixed))
    | false =>
      have h3 := h2 hb
      rw [hp] at hb
      clear h1 h2 hm hp
      repeat' (first | with_reducible refine br_split (fun _ => ?_) (fun _ => ?_) | simp only [*, push_cast, Array.reduceGetElem?, Nat.reduceBEq, Nat.reduceLT, Nat.reduceAdd, Nat.reduceSub, Nat.reduceLeDiff, Nat.reduceMul, Nat.reduceEqDiff, reduceCtorEq, Int.reduceAdd, Int.reduceLT, Int.reduceLE, Int.reduceToNat, Int.reduceNeg, Int.reduceSub, Int.reduceBEq, Int.reduceBNe, Int.reduceNe, Int.reduceGT, Int.reduceGE, Nat.reduceGT] | (rw [drawC_ok]; rotate_left; decide +kernel; exact cfg_mixed))
  case last3 =>
    intro i hi
    repeat' (first | with_reducible refine br_split (fun _ => ?_) (fun _ => ?_) | simp only [*, push_cast, Array.reduceGetElem?, Nat.reduceBEq, Nat.reduceLT, Nat.reduceAdd, Nat.reduceSub, Nat.reduceLeDiff, Nat.reduceMul, Nat.reduceEqDiff, reduceCtorEq, Int.reduceAdd, Int.reduceLT, Int.reduceLE, Int.reduceToNat, Int.reduceNeg, Int.reduceSub, Int.reduceBEq, Int.reduceBNe, Int.reduceNe, Int.reduceGT, Int.reduceGE, Nat.reduceGT] | (rw [drawC_ok]; rotate_left; decide +kernel; exact cfg_mixed))
  rw [show bs2 (ltAt rows r) 0 rows.length = posOf rows r from rfl]
  clear hr
  repeat' (first | with_reducible refine br_split (fun _ => ?_) (fun _ => ?_) | simp only [*, push_cast, Array.reduceGetElem?, Nat.reduceBEq, Nat.reduceLT, Nat.reduceAdd, Nat.reduceSub, Nat.reduceLeDiff, Nat.reduceMul, Nat.reduceEqDiff, reduceCtorEq, Int.reduceAdd, Int.reduceLT, Int.reduceLE, Int.reduceToNat, Int.reduceNeg, Int.reduceSub, Int.reduceBEq, Int.reduceBNe, Int.reduceNe, Int.reduceGT, Int.reduceGE, Nat.reduceGT] | (rw [drawC_ok]; rotate_left; decide +kernel; exact cfg_mixed))
theorem putw3b (w n : Int) (rows : List C) (r : List V) (hl : rows.length ≤ 1048576) (hr : ∀ c ∈ rows, c.row.length ≤ 1048576) (hrl : r.length ≤ 1048576) (ha : Asc rows) (hp : posOf rows r < rows.length) (he : cmpRow rows[posOf rows r].row r ≠ 0) (hn : ¬ n = 0) : evF cfg 74 [(0, .arr .any 2 (rows.map cC))] [.agg [.d (.i .i64 w), .own 0], .d (.sl .any (r.map vC)), .d (.i .i64 n)] = some (.agg [.d (.i .i64 w), .own 40], [(0, .fz .any 2 (rows.map cC)), (40, .arr .any 2 ((putC rows ⟨r, n⟩).map cC))]) := by
  have hz : posOf rows r ≤ rows.length := posOf_le rows r
  have hc : (rows.map cC)[posOf rows r]? = some [.sl .any (rows[posOf rows r].row.map vC), .i .i64 rows[posOf rows r].n] := get_map cC rows _ hp
  have hd := dec_lt hp
  have hcmp := ev_sCompareRow rows[posOf rows r].row r (by have := hr _ (List.getElem_mem hp); omega)
  have hdm := dec_ltN hp
  have heb : (cmpRow rows[posOf rows r].row r == 0) = false := by simpa using he
  have hpc := putC_not (x := ⟨r, n⟩) ha (.inr ⟨hp, he⟩)
  rw [if_neg hn] at hpc
  rw [hpc]
  have hnb : (n != 0) = true := by simpa using hn
  have hs1 : decide (0 ≤ (posOf rows r : Int) ∧ (posOf rows r : Int) ≤ (rows.length : Int)) = true := decide_eq_true (by omega)
  have hs3 : decide ((posOf rows r : Int) ≤ (rows.length : Int)) = true := decide_eq_true (by omega)
  have hs4 : decide (0 ≤ (posOf rows r : Int) ∧ (posOf rows r : Int) ≤ (rows.length : Int) ∧ (rows.length : Int) ≤ (rows.length : Int)) = true := decide_eq_true (by omega)
  have hs5 : decide ((posOf rows r : Int) ≤ (rows.length : Int) ∧ (rows.length : Int) ≤ (rows.length : Int)) = true := decide_eq_true (by omega)
  have htl : List.take rows.length (rows.map cC) = rows.map cC := List.take_of_length_le (by simp)
  have hmt : (rows.map cC).take (posOf rows r) = (rows.take (posOf rows r)).map cC := by rw [List.map_take]
  have hmd : (rows.map cC).drop (posOf rows r) = (rows.drop (posOf rows r)).map cC := by rw [List.map_drop]
  have hl1 := len_ok (n := (rows.take (posOf rows r)).length) 32 (by simp; omega) (by omega)
  have hl2 := len_ok (n := (rows.take (posOf rows r)).length + 1) 32 (by simp; omega) (by omega)
  have hl3 := len_ok (n := (rows.take (posOf rows r)).length + (1 + (rows.drop (posOf rows r)).length)) 32 (by simp; omega) (by omega)
  have hl4 := len_ok (n := (rows.take (posOf rows r)).length + 1 + (rows.drop (posOf rows r)).length) 32 (by simp; omega) (by omega)
  have hcr := ev_l02CopyRow r (by omega)
  clear hpc he hn
  (refine (evF_code (C := cfg) (g := 74) (fn := Try.f74) rfl Try.func74 rfl (by rw [Try.ntmps74]; simp) (by kernel_rfl) (by first | decide | simp [keysOf])).trans ?_; rw [Try.results74, Try.ntmps74])
  repeat' (first | with_reducible refine br_split (fun _ => ?_) (fun _ => ?_) | simp only [*, push_cast, Array.reduceGetElem?, Nat.reduceBEq, Nat.reduceLT, Nat.reduceAdd, Nat.reduceSub, Nat.reduceLeDiff, Nat.reduceMul, Nat.reduceEqDiff, reduceCtorEq, Int.reduceAdd, Int.reduceLT, Int.reduceLE, Int.reduceToNat, Int.reduceNeg, Int.reduceSub, Int.reduceBEq, Int.reduceBNe, Int.reduceNe, Int.reduceGT, Int.reduceGE, Nat.reduceGT] | (rw [drawC_ok]; rotate_left; decide +kernel; exact cfg_mixed))
  rw [evM_bs0 (ltAt rows r) rows.length (fun i j => { t := [(1, .d (.sl .any (r.map vC))), (2, .d (.i .i64 n)), (3, .ptr 50 0), (6, .ptr 51 0), (7, .d (.i .i64 i)), (8, .d (.i .i64 j))], o := [(0, .arr .any 2 (rows.map cC)), (50, .box [.d (.i .i64 w), .own 0]), (51, .box [.d (.i .i64 0), .nl])], ks := [0, 50, 51], n := 0, sz := 100, u := noU })
    (fun i => some (.exit 0, { t := [(1, .d (.sl .any (r.map vC))), (2, .d (.i .i64 n)), (3, .ptr 50 0), (6, .ptr 51 0), (7, .d (.i .i64 (i : Nat)))], o := [(0, .arr .any 2 (rows.map cC)), (50, .box [.d (.i .i64 w), .own 0]), (51, .box [.d (.i .i64 0), .nl])], ks := [0, 50, 51], n := 0, sz := 100, u := noU })) ?step4 ?last4]
  case step4 =>
    intro i j m hij hj hm h1 h2
    have hml : m < rows.length := by omega
    have hc : (rows.map cC)[m]? = some [.sl .any (rows[m].row.map vC), .i .i64 rows[m].n] := get_map cC rows m hml
    have hd := dec_lt hij
    have hq : IntKind.i64.wrap ((i : Int) + (j : Int)) = (i : Int) + (j : Int) := i64_in (by omega) (by omega)
    have hq2 : IntKind.i64.wrap (((i : Int) + (j : Int)).tdiv 2) = (m : Int) := by rw [mid_div, ← hm]; exact i64_in (by omega) (by omega)
    have hw : IntKind.i64.wrap ((m : Int) + 1) = (m : Int) + 1 := wrap_succ (by omega)
    have hcmp := ev_sCompareRow rows[m].row r (by have := hr _ (List.getElem_mem hml); omega)
    have hdm := dec_ltN hml
    have hp := ltAt_get (r := r) hml
    cases hb : ltAt rows r m with
    | true =>
      have h3 := h1 hb
      rw [hp] at hb
      clear h1 h2 hm hp
      repeat' (first | with_reducible refine br_split (fun _ => ?_) (fun _ => ?_) | simp only [*, push_cast, Array.reduceGetElem?, Nat.reduceBEq, Nat.reduceLT, Nat.reduceAdd, Nat.reduceSub, Nat.reduceLeDiff, Nat.reduceMul, Nat.reduceEqDiff, reduceCtorEq, Int.reduceAdd, Int.reduceLT, Int.reduceLE, Int.reduceToNat, Int.reduceNeg, Int.reduceSub, Int.reduceBEq, Int.reduceBNe, Int.reduceNe, Int.reduceGT, Int.reduceGE, Nat.reduceGT] | (rw [drawC_ok]; rotate_left; decide +kernel; exact cfg_mixed))
    | false =>
      have h3 := h2 hb
      rw [hp] at hb
      clear h1 h2 hm hp
      repeat' (first | with_reducible refine br_split (fun _ => ?_) (fun _ => ?_) | simp only [*, push_cast, Array.reduceGetElem?, Nat.reduceBEq, Nat.reduceLT, Nat.reduceAdd, Nat.reduceSub, Nat.reduceLeDiff, Nat.reduceMul, Nat.reduceEqDiff, reduceCtorEq, Int.reduceAdd, Int.reduceLT, Int.reduceLE, Int.reduceToNat, Int.reduceNeg, Int.reduceSub, Int.reduceBEq, Int.reduceBNe, Int.reduceNe, Int.reduceGT, Int.reduceGE, Nat.reduceGT] | (rw [drawC_ok]; rotate_left; decide +kernel; exact cfg_mixed))
  case last4 =>
    intro i hi
    repeat' (first | with_reducible refine br_split (fun _ => ?_) (fun _ => ?_) | simp only [*, push_cast, Array.reduceGetElem?, Nat.reduceBEq, Nat.reduceLT, Nat.reduceAdd, Nat.reduceSub, Nat.reduceLeDiff, Nat.reduceMul, Nat.reduceEqDiff, reduceCtorEq, Int.reduceAdd, Int.reduceLT, Int.reduceLE, Int.reduceToNat, Int.reduceNeg, Int.reduceSub, Int.reduceBEq, Int.reduceBNe, Int.reduceNe, Int.reduceGT, Int.reduceGE, Nat.reduceGT] | (rw [drawC_ok]; rotate_left; decide +kernel; exact cfg_mixed))
  rw [show bs2 (ltAt rows r) 0 rows.length = posOf rows r from rfl]
  rw [List.map_append, List.map_cons, show cC ⟨r, n⟩ = [.sl .any (r.map vC), .i .i64 n] from rfl]
  clear hr
  repeat' (first | with_reducible refine br_split (fun _ => ?_) (fun _ => ?_) | simp only [*, push_cast, Array.reduceGetElem?, Nat.reduceBEq, Nat.reduceLT, Nat.reduceAdd, Nat.reduceSub, Nat.reduceLeDiff, Nat.reduceMul, Nat.reduceEqDiff, reduceCtorEq, Int.reduceAdd, Int.reduceLT, Int.reduceLE, Int.reduceToNat, Int.reduceNeg, Int.reduceSub, Int.reduceBEq, Int.reduceBNe, Int.reduceNe, Int.reduceGT, Int.reduceGE, Nat.reduceGT] | (rw [drawC_ok]; rotate_left; decide +kernel; exact cfg_mixed))
theorem putw4a (w n : Int) (rows : List C) (r : List V) (hl : rows.length ≤ 1048576) (hr : ∀ c ∈ rows, c.row.length ≤ 1048576) (hrl : r.length ≤ 1048576) (ha : Asc rows) (hp : posOf rows r = rows.length) (hn : n = 0) : evF cfg 74 [(0, .arr .any 2 (rows.map cC))] [.agg [.d (.i .i64 w), .own 0], .d (.sl .any (r.map vC)), .d (.i .i64 n)] = some (.agg [.d (.i .i64 w), .own 0], [(0, .arr .any 2 ((putC rows ⟨r, n⟩).map cC))]) := by
  have hz : posOf rows r ≤ rows.length := posOf_le rows r
  have hpc := putC_not (x := ⟨r, n⟩) ha (.inl hp)
  have hd : decide ((posOf rows r : Int) < (rows.length : Int)) = false := decide_eq_false (by omega)
  rw [if_pos hn] at hpc
  have hnb : (n != 0) = false := by simpa using hn
  rw [hpc]
  clear hpc hp hn
  (refine (evF_code (C := cfg) (g := 74) (fn := Try.f74) rfl Try.func74 rfl (by rw [Try.ntmps74]; simp) (by kernel_rfl) (by first | decide | simp [keysOf])).trans ?_; rw [Try.results74, Try.ntmps74])
  repeat' (first | with_reducible refine br_split (fun _ => ?_) (fun _ => ?_) | simp only [*, push_cast, Array.reduceGetElem?, Nat.reduceBEq, Nat.reduceLT, Nat.reduceAdd, Nat.reduceSub, Nat.reduceLeDiff, Nat.reduceMul, Nat.reduceEqDiff, reduceCtorEq, Int.reduceAdd, Int.reduceLT, Int.reduceLE, Int.reduceToNat, Int.reduceNeg, Int.reduceSub, Int.reduceBEq, Int.reduceBNe, Int.reduceNe, Int.reduceGT, Int.reduceGE, Nat.reduceGT] | (rw [drawC_ok]; rotate_left; decide +kernel; exact cfg_mixed))
  rw [evM_bs0 (ltAt rows r) rows.length (fun i j => { t := [(1, .d (.sl .any (r.map vC))), (2, .d (.i .i64 n)), (3, .ptr 50 0), (6, .ptr 51 0), (7, .d (.i .i64 i)), (8, .d (.i .i64 j))], o := [(0, .arr .any 2 (rows.map cC)), (50, .box [.d (.i .i64 w), .own 0]), (51, .box [.d (.i .i64 0), .nl])], ks := [0, 50, 51], n := 0, sz := 100, u := noU })
    (fun i => some (.exit 0, { t := [(1, .d (.sl .any (r.map vC))), (2, .d (.i .i64 n)), (3, .ptr 50 0), (6, .ptr 51 0), (7, .d (.i .i64 (i : Nat)))], o := [(0, .arr .any 2 (rows.map cC)), (50, .box [.d (.i .i64 w), .own 0]), (51, .box [.d (.i .i64 0), .nl])], ks := [0, 50, 51], n := 0, sz := 100, u := noU })) ?step5 ?last5]
  case step5 =>
    intro i j m hij hj hm h1 h2
    have hml : m < rows.length := by omega
    have hc : (rows.map cC)[m]? = some [.sl .any (rows[m].row.map vC), .i .i64 rows[m].n] := get_map cC rows m hml
    have hd := dec_lt hij
    have hq : IntKind.i64.wrap ((i : Int) + (j : Int)) = (i : Int) + (j : Int) := i64_in (by omega) (by omega)
    have hq2 : IntKind.i64.wrap (((i : Int) + (j : Int)).tdiv 2) = (m : Int) := by rw [mid_div, ← hm]; exact i64_in (by omega) (by omega)
    have hw : IntKind.i64.wrap ((m : Int) + 1) = (m : Int) + 1 := wrap_succ (by omega)
    have hcmp := ev_sCompareRow rows[m].row r (by have := hr _ (List.getElem_mem hml); omega)
    have hdm := dec_ltN hml
    have hp := ltAt_get (r := r) hml
    cases hb : ltAt rows r m with
    | true =>
      have h3 := h1 hb
      rw [hp] at hb
      clear h1 h2 hm hp
      repeat' (first | with_reducible refine br_split (fun _ => ?_) (fun _ => ?_) | simp only [*, push_cast, Array.reduceGetElem?, Nat.reduceBEq, Nat.reduceLT, Nat.reduceAdd, Nat.reduceSub, Nat.reduceLeDiff, Nat.reduceMul, Nat.reduceEqDiff, reduceCtorEq, Int.reduceAdd, Int.reduceLT, Int.reduceLE, Int.reduceToNat, Int.reduceNeg, Int.reduceSub, Int.reduceBEq, Int.reduceBNe, Int.reduceNe, Int.reduceGT, Int.reduceGE, Nat.reduceGT] | (rw [drawC_ok]; rotate_left; decide +kernel; exact cfg_mixed))
    | false =>
      have h3 := h2 hb
      rw [hp] at hb
      clear h1 h2 hm hp
      repeat' (first | with_reducible refine br_split (fun _ => ?_) (fun _ => ?_) | simp only [*, push_cast, Array.reduceGetElem?, Nat.reduceBEq, Nat.reduceLT, Nat.reduceAdd, Nat.reduceSub, Nat.reduceLeDiff, Nat.reduceMul, Nat.reduceEqDiff, reduceCtorEq, Int.reduceAdd, Int.reduceLT, Int.reduceLE, Int.reduceToNat, Int.reduceNeg, Int.reduceSub, Int.reduceBEq, Int.reduceBNe, Int.reduceNe, Int.reduceGT, Int.reduceGE, Nat.reduceGT] | (rw [drawC_ok]; rotate_left; decide +kernel; exact cfg_mixed))
  case last5 =>
    intro i hi
    repeat' (first | with_reducible refine br_split (fun _ => ?_) (fun _ => ?_) | simp only [*, push_cast, Array.reduceGetElem?, Nat.reduceBEq, Nat.reduceLT, Nat.reduceAdd, Nat.reduceSub, Nat.reduceLeDiff, Nat.reduceMul, Nat.reduceEqDiff, reduceCtorEq, Int.reduceAdd, Int.reduceLT, Int.reduceLE, Int.reduceToNat, Int.reduceNeg, Int.reduceSub, Int.reduceBEq, Int.reduceBNe, Int.reduceNe, Int.reduceGT, Int.reduceGE, Nat.reduceGT] | (rw [drawC_ok]; rotate_left; decide +kernel; exact cfg_mixed))
  rw [show bs2 (ltAt rows r) 0 rows.length = posOf rows r from rfl]
  clear hr
  repeat' (first | with_reducible refine br_split (fun _ => ?_) (fun _ => ?_) | simp only [*, push_cast, Array.reduceGetElem?, Nat.reduceBEq, Nat.reduceLT, Nat.reduceAdd, Nat.reduceSub, Nat.reduceLeDiff, Nat.reduceMul, Nat.reduceEqDiff, reduceCtorEq, Int.reduceAdd, Int.reduceLT, Int.reduceLE, Int.reduceToNat, Int.reduceNeg, Int.reduceSub, Int.reduceBEq, Int.reduceBNe, Int.reduceNe, Int.reduceGT, Int.reduceGE, Nat.reduceGT] | (rw [drawC_ok]; rotate_left; decide +kernel; exact cfg_mixed))
theorem putw4b (w n : Int) (rows : List C) (r : List V) (hl : rows.length ≤ 1048576) (hr : ∀ c ∈ rows, c.row.length ≤ 1048576) (hrl : r.length ≤ 1048576) (ha : Asc rows) (hp : posOf rows r = rows.length) (hn : ¬ n = 0) : evF cfg 74 [(0, .arr .any 2 (rows.map cC))] [.agg [.d (.i .i64 w), .own 0], .d (.sl .any (r.map vC)), .d (.i .i64 n)] = some (.agg [.d (.i .i64 w), .own 40], [(0, .fz .any 2 (rows.map cC)), (40, .arr .any 2 ((putC rows ⟨r, n⟩).map cC))]) := by
  have hz : posOf rows r ≤ rows.length := posOf_le rows r
  have hpc := putC_not (x := ⟨r, n⟩) ha (.inl hp)
  have hd : decide ((posOf rows r : Int) < (rows.length : Int)) = false := decide_eq_false (by omega)
  rw [if_neg hn] at hpc
  rw [hpc]
  have hnb : (n != 0) = true := by simpa using hn
  have hs1 : decide (0 ≤ (posOf rows r : Int) ∧ (posOf rows r : Int) ≤ (rows.length : Int)) = true := decide_eq_true (by omega)
  have hs3 : decide ((posOf rows r : Int) ≤ (rows.length : Int)) = true := decide_eq_true (by omega)
  have hs4 : decide (0 ≤ (posOf rows r : Int) ∧ (posOf rows r : Int) ≤ (rows.length : Int) ∧ (rows.length : Int) ≤ (rows.length : Int)) = true := decide_eq_true (by omega)
  have hs5 : decide ((posOf rows r : Int) ≤ (rows.length : Int) ∧ (rows.length : Int) ≤ (rows.length : Int)) = true := decide_eq_true (by omega)
  have htl : List.take rows.length (rows.map cC) = rows.map cC := List.take_of_length_le (by simp)
  have hmt : (rows.map cC).take (posOf rows r) = (rows.take (posOf rows r)).map cC := by rw [List.map_take]
  have hmd : (rows.map cC).drop (posOf rows r) = (rows.drop (posOf rows r)).map cC := by rw [List.map_drop]
  have hl1 := len_ok (n := (rows.take (posOf rows r)).length) 32 (by simp; omega) (by omega)
  have hl2 := len_ok (n := (rows.take (posOf rows r)).length + 1) 32 (by simp; omega) (by omega)
  have hl3 := len_ok (n := (rows.take (posOf rows r)).length + (1 + (rows.drop (posOf rows r)).length)) 32 (by simp; omega) (by omega)
  have hl4 := len_ok (n := (rows.take (posOf rows r)).length + 1 + (rows.drop (posOf rows r)).length) 32 (by simp; omega) (by omega)
  have hcr := ev_l02CopyRow r (by omega)
  clear hpc hp hn
  (refine (evF_code (C := cfg) (g := 74) (fn := Try.f74) rfl Try.func74 rfl (by rw [Try.ntmps74]; simp) (by kernel_rfl) (by first | decide | simp [keysOf])).trans ?_; rw [Try.results74, Try.ntmps74])
  repeat' (first | with_reducible refine br_split (fun _ => ?_) (fun _ => ?_) | simp only [*, push_cast, Array.reduceGetElem?, Nat.reduceBEq, Nat.reduceLT, Nat.reduceAdd, Nat.reduceSub, Nat.reduceLeDiff, Nat.reduceMul, Nat.reduceEqDiff, reduceCtorEq, Int.reduceAdd, Int.reduceLT, Int.reduceLE, Int.reduceToNat, Int.reduceNeg, Int.reduceSub, Int.reduceBEq, Int.reduceBNe, Int.reduceNe, Int.reduceGT, Int.reduceGE, Nat.reduceGT] | (rw [drawC_ok]; rotate_left; decide +kernel; exact cfg_mixed))
  rw [evM_bs0 (ltAt rows r) rows.length (fun i j => { t := [(1, .d (.sl .any (r.map vC))), (2, .d (.i .i64 n)), (3, .ptr 50 0), (6, .ptr 51 0), (7, .d (.i .i64 i)), (8, .d (.i .i64 j))], o := [(0, .arr .any 2 (rows.map cC)), (50, .box [.d (.i .i64 w), .own 0]), (51, .box [.d (.i .i64 0), .nl])], ks := [0, 50, 51], n := 0, sz := 100, u := noU })
    (fun i => some (.exit 0, { t := [(1, .d (.sl .any (r.map vC))), (2, .d (.i .i64 n)), (3, .ptr 50 0), (6, .ptr 51 0), (7, .d (.i .i64 (i : Nat)))], o := [(0, .arr .any 2 (rows.map cC)), (50, .box [.d (.i .i64 w), .own 0]), (51, .box [.d (.i .i64 0), .nl])], ks := [0, 50, 51], n := 0, sz := 100, u := noU })) ?step6 ?last6]
  case step6 =>
    intro i j m hij hj hm h1 h2
    have hml : m < rows.length := by omega
    have hc : (rows.map cC)[m]? = some [.sl .any (rows[m].row.map vC), .i .i64 rows[m].n] := get_map cC rows m hml
    have hd := dec_lt hij
    have hq : IntKind.i64.wrap ((i : Int) + (j : Int)) = (i : Int) + (j : Int) := i64_in (by omega) (by omega)
    have hq2 : IntKind.i64.wrap (((i : Int) + (j : Int)).tdiv 2) = (m : Int) := by rw [mid_div, ← hm]; exact i64_in (by omega) (by omega)
    have hw : IntKind.i64.wrap ((m : Int) + 1) = (m : Int) + 1 := wrap_succ (by omega)
    have hcmp := ev_sCompareRow rows[m].row r (by have := hr _ (List.getElem_mem hml); omega)
    have hdm := dec_ltN hml
    have hp := ltAt_get (r := r) hml
    cases hb : ltAt rows r m with
    | true =>
      have h3 := h1 hb
      rw [hp] at hb
      clear h1 h2 hm hp
      repeat' (first | with_reducible refine br_split (fun _ => ?_) (fun _ => ?_) | simp only [*, push_cast, Array.reduceGetElem?, Nat.reduceBEq, Nat.reduceLT, Nat.reduceAdd, Nat.reduceSub, Nat.reduceLeDiff, Nat.reduceMul, Nat.reduceEqDiff, reduceCtorEq, Int.reduceAdd, Int.reduceLT, Int.reduceLE, Int.reduceToNat, Int.reduceNeg, Int.reduceSub, Int.reduceBEq, Int.reduceBNe, Int.reduceNe, Int.reduceGT, Int.reduceGE, Nat.reduceGT] | (rw [drawC_ok]; rotate_left; decide +kernel; exact cfg_mixed))
    | false =>
      have h3 := h2 hb
      rw [hp] at hb
      clear h1 h2 hm hp
      repeat' (first | with_reducible refine br_split (fun _ => ?_) (fun _ => ?_) | simp only [*, push_cast, Array.reduceGetElem?, Nat.reduceBEq, Nat.reduceLT, Nat.reduceAdd, Nat.reduceSub, Nat.reduceLeDiff, Nat.reduceMul, Nat.reduceEqDiff, reduceCtorEq, Int.reduceAdd, Int.reduceLT, Int.reduceLE, Int.reduceToNat, Int.reduceNeg, Int.reduceSub, Int.reduceBEq, Int.reduceBNe, Int.reduceNe, Int.reduceGT, Int.reduceGE, Nat.reduceGT] | (rw [drawC_ok]; rotate_left; decide +kernel; exact cfg_mixed))
  case last6 =>
    intro i hi
    repeat' (first | with_reducible refine br_split (fun _ => ?_) (fun _ => ?_) | simp only [*, push_cast, Array.reduceGetElem?, Nat.reduceBEq, Nat.reduceLT, Nat.reduceAdd, Nat.reduceSub, Nat.reduceLeDiff, Nat.reduceMul, Nat.reduceEqDiff, reduceCtorEq, Int.reduceAdd, Int.reduceLT, Int.reduceLE, Int.reduceToNat, Int.reduceNeg, Int.reduceSub, Int.reduceBEq, Int.reduceBNe, Int.reduceNe, Int.reduceGT, Int.reduceGE, Nat.reduceGT] | (rw [drawC_ok]; rotate_left; decide +kernel; exact cfg_mixed))
  rw [show bs2 (ltAt rows r) 0 rows.length = posOf rows r from rfl]
  rw [List.map_append, List.map_cons, show cC ⟨r, n⟩ = [.sl .any (r.map vC), .i .i64 n] from rfl]
  clear hr
  repeat' (first | with_reducible refine br_split (fun _ => ?_) (fun _ => ?_) | simp only [*, push_cast, Array.reduceGetElem?, Nat.reduceBEq, Nat.reduceLT, Nat.reduceAdd, Nat.reduceSub, Nat.reduceLeDiff, Nat.reduceMul, Nat.reduceEqDiff, reduceCtorEq, Int.reduceAdd, Int.reduceLT, Int.reduceLE, Int.reduceToNat, Int.reduceNeg, Int.reduceSub, Int.reduceBEq, Int.reduceBNe, Int.reduceNe, Int.reduceGT, Int.reduceGE, Nat.reduceGT] | (rw [drawC_ok]; rotate_left; decide +kernel; exact cfg_mixed))
/-- A row so often more, in rows ascending that are the caller's own: in place, or in new memory. -/
theorem ev_l02Put (w n : Int) (rows : List C) (r : List V) (hl : rows.length ≤ 1048576) (hr : ∀ c ∈ rows, c.row.length ≤ 1048576) (hrl : r.length ≤ 1048576) (ha : Asc rows) :
    evF cfg 74 [(0, .arr .any 2 (rows.map cC))] [.agg [.d (.i .i64 w), .own 0], .d (.sl .any (r.map vC)), .d (.i .i64 n)] = some (.agg [.d (.i .i64 w), .own 0], [(0, .arr .any 2 ((putC rows ⟨r, n⟩).map cC))]) ∨
    evF cfg 74 [(0, .arr .any 2 (rows.map cC))] [.agg [.d (.i .i64 w), .own 0], .d (.sl .any (r.map vC)), .d (.i .i64 n)] = some (.agg [.d (.i .i64 w), .own 40], [(0, .fz .any 2 (rows.map cC)), (40, .arr .any 2 ((putC rows ⟨r, n⟩).map cC))]) := by
  by_cases hp : posOf rows r < rows.length
  · by_cases he : cmpRow rows[posOf rows r].row r = 0
    · by_cases hn : w64 (n + rows[posOf rows r].n) = 0
      · exact .inr (putw2 w n rows r hl hr hrl ha hp he hn)
      · exact .inl (putw1 w n rows r hl hr hrl ha hp he hn)
    · by_cases hn : n = 0
      · exact .inl (putw3a w n rows r hl hr hrl ha hp he hn)
      · exact .inr (putw3b w n rows r hl hr hrl ha hp he hn)
  · have hp2 : posOf rows r = rows.length := by have := posOf_le rows r; omega
    by_cases hn : n = 0
    · exact .inl (putw4a w n rows r hl hr hrl ha hp2 hn)
    · exact .inr (putw4b w n rows r hl hr hrl ha hp2 hn)
end Go.Av
end

section
namespace Go.Av
open Go.Proofs
set_option linter.unusedSimpArgs false
theorem ev_l02Sum (w w' n : Int) (a b : List C) (hl : a.length + b.length ≤ 1048576) (hra : ∀ c ∈ a, c.row.length ≤ 1048576) (hrb : ∀ c ∈ b, c.row.length ≤ 1048576) (ha : Asc a) :
    evF cfg 60 [] [.agg [.d (.i .i64 w), .d (.sl .any (a.map cC))], .agg [.d (.i .i64 w'), .d (.sl .any (b.map cC))], .d (.i .i64 n)] = some (.agg [.d (.i .i64 w), .d (.sl .any ((sumR a b n).map cC))], []) := by
  have hcp := ev_l02Copy w a (by omega) hra
  (refine (evF_code (C := cfg) (g := 60) (fn := Try.f60) rfl Try.func60 rfl (by rw [Try.ntmps60]; simp) (by kernel_rfl) (by first | decide | simp [keysOf])).trans ?_; rw [Try.results60, Try.ntmps60])
  repeat' (first | with_reducible refine br_split (fun _ => ?_) (fun _ => ?_) | simp only [*, push_cast, Array.reduceGetElem?, Nat.reduceBEq, Nat.reduceLT, Nat.reduceAdd, Nat.reduceSub, Nat.reduceLeDiff, Nat.reduceMul, Nat.reduceEqDiff, reduceCtorEq, Int.reduceAdd, Int.reduceLT, Int.reduceLE, Int.reduceToNat, Int.reduceNeg, Int.reduceSub, Int.reduceBEq, Int.reduceBNe, Int.reduceNe, Int.reduceGT, Int.reduceGE, Nat.reduceGT] | (rw [drawC_ok]; rotate_left; decide +kernel; exact cfg_mixed))
  rw [show a.map cC = (sumR a (b.take 0) n).map cC from rfl]
  rw [evM_for0 b.length (fun i j => { t := [(2, .d (.i .i64 n)), (4, .ptr 50 0), (6, .ptr 51 0), (7, .ptr 52 0), (8, .d (.i .i64 j))], o := [(50, .box [.d (.i .i64 w'), .d (.sl .any (b.map cC))]), (51, .box [.d (.i .i64 0), .nl]), (52, .box [.d (.i .i64 w), .own 53]), (53, .arr .any 2 ((sumR a (b.take i) n).map cC))], ks := [50, 51, 52, 53], n := 0, sz := 35, u := noU })
    (fun i => some (.exit 0, { t := [(6, .ptr 50 0), (7, .ptr 51 0)], o := [(50, .box [.d (.i .i64 0), .nl]), (51, .box [.d (.i .i64 w), .own 52]), (52, .arr .any 2 ((sumR a b n).map cC))], ks := [50, 51, 52], n := 0, sz := 35, u := noU })) ?step ?last]
  case step =>
    intro i hi ih
    have hc : (b.map cC)[i]? = some [.sl .any (b[i].row.map vC), .i .i64 b[i].n] := get_map cC b i hi
    have hd := dec_lt hi
    have hdm := dec_ltN hi
    have hw : IntKind.i64.wrap ((i : Int) + 1) = (i : Int) + 1 := wrap_succ (by omega)
    obtain ⟨g1, g2, g3⟩ := sumR_all (i := i) (n := n) (k := a.length) ha (Nat.le_refl _) hra hrb
    have hs := sumR_succ (a := a) (n := n) hi
    rcases ev_l02Put w (w64 (n * b[i].n)) (sumR a (b.take i) n) b[i].row (by omega) g3 (hrb _ (List.getElem_mem hi)) g1 with hput | hput
    · rw [show (⟨b[i].row, w64 (n * b[i].n)⟩ : C) = timesC n b[i] from rfl, hs] at hput
      clear g1 g2 g3 hs ha hra hrb
      repeat' (first | with_reducible refine br_split (fun _ => ?_) (fun _ => ?_) | simp only [*, push_cast, Array.reduceGetElem?, Nat.reduceBEq, Nat.reduceLT, Nat.reduceAdd, Nat.reduceSub, Nat.reduceLeDiff, Nat.reduceMul, Nat.reduceEqDiff, reduceCtorEq, Int.reduceAdd, Int.reduceLT, Int.reduceLE, Int.reduceToNat, Int.reduceNeg, Int.reduceSub, Int.reduceBEq, Int.reduceBNe, Int.reduceNe, Int.reduceGT, Int.reduceGE, Nat.reduceGT] | (rw [drawC_ok]; rotate_left; decide +kernel; exact cfg_mixed))
    · rw [show (⟨b[i].row, w64 (n * b[i].n)⟩ : C) = timesC n b[i] from rfl, hs] at hput
      clear g1 g2 g3 hs ha hra hrb
      repeat' (first | with_reducible refine br_split (fun _ => ?_) (fun _ => ?_) | simp only [*, push_cast, Array.reduceGetElem?, Nat.reduceBEq, Nat.reduceLT, Nat.reduceAdd, Nat.reduceSub, Nat.reduceLeDiff, Nat.reduceMul, Nat.reduceEqDiff, reduceCtorEq, Int.reduceAdd, Int.reduceLT, Int.reduceLE, Int.reduceToNat, Int.reduceNeg, Int.reduceSub, Int.reduceBEq, Int.reduceBNe, Int.reduceNe, Int.reduceGT, Int.reduceGE, Nat.reduceGT] | (rw [drawC_ok]; rotate_left; decide +kernel; exact cfg_mixed))
  case last =>
    have : b.take b.length = b := List.take_length
    repeat' (first | with_reducible refine br_split (fun _ => ?_) (fun _ => ?_) | simp only [*, push_cast, Array.reduceGetElem?, Nat.reduceBEq, Nat.reduceLT, Nat.reduceAdd, Nat.reduceSub, Nat.reduceLeDiff, Nat.reduceMul, Nat.reduceEqDiff, reduceCtorEq, Int.reduceAdd, Int.reduceLT, Int.reduceLE, Int.reduceToNat, Int.reduceNeg, Int.reduceSub, Int.reduceBEq, Int.reduceBNe, Int.reduceNe, Int.reduceGT, Int.reduceGE, Nat.reduceGT] | (rw [drawC_ok]; rotate_left; decide +kernel; exact cfg_mixed))
  · repeat' (first | with_reducible refine br_split (fun _ => ?_) (fun _ => ?_) | simp only [*, push_cast, Array.reduceGetElem?, Nat.reduceBEq, Nat.reduceLT, Nat.reduceAdd, Nat.reduceSub, Nat.reduceLeDiff, Nat.reduceMul, Nat.reduceEqDiff, reduceCtorEq, Int.reduceAdd, Int.reduceLT, Int.reduceLE, Int.reduceToNat, Int.reduceNeg, Int.reduceSub, Int.reduceBEq, Int.reduceBNe, Int.reduceNe, Int.reduceGT, Int.reduceGE, Nat.reduceGT] | (rw [drawC_ok]; rotate_left; decide +kernel; exact cfg_mixed))
end Go.Av
end
