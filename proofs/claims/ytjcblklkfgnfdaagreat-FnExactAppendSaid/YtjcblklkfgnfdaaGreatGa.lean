/- What functions of this seat give. -/
import Derived.Test.YtjcblklkfgnfdaaGreatAvCfg
set_option linter.all false
set_option linter.unusedVariables false
set_option linter.unusedSimpArgs false

section
namespace Go.Av
open Go.Proofs
set_option linter.unusedSimpArgs false

@[push_cast] theorem ev_toValue (k : Int) (n : Int) (s : ByteArray) : evF cfg 180 [] [.agg [.d (.i .i64 k), .d (.i .i64 n), .d (.s s)]] = some (.agg [.d (.i .i64 k), .d (.i .i64 n), .d (.s s)], []) := by
  (refine (evF_code (C := cfg) (g := 180) (fn := Tryz.f180) rfl Tryz.func180 rfl (by rw [Tryz.ntmps180]; simp) (by kernel_rfl) (by first | decide | simp [keysOf])).trans ?_; rw [Tryz.results180, Tryz.ntmps180])
  repeat' (first | with_reducible refine br_split (fun _ => ?_) (fun _ => ?_) | simp only [*, push_cast, Array.reduceGetElem?, Nat.reduceBEq, Nat.reduceLT, Nat.reduceAdd, Nat.reduceSub, Nat.reduceLeDiff, Nat.reduceMul, Nat.reduceEqDiff, reduceCtorEq, Int.reduceAdd, Int.reduceLT, Int.reduceLE, Int.reduceToNat, Int.reduceNeg, Int.reduceSub, Int.reduceBEq, Int.reduceBNe, Int.reduceGT, Int.reduceGE, Nat.reduceGT] | (rw [drawC_ok]; rotate_left; decide +kernel; exact cfg_mixed))

theorem ev_toValueS (l : List V) (h : szVs l ≤ 1048576) : evF cfg 169 [] [.d (.sl .any (l.map vC))] = some (.d (.sl .any (l.map vC)), []) := by
  obtain ⟨hl, hm⟩ := szVs_mem h
  have hb := mk_ok 32 hl (by omega)
  (refine (evF_code (C := cfg) (g := 169) (fn := Tryz.f169) rfl Tryz.func169 rfl (by rw [Tryz.ntmps169]; simp) (by kernel_rfl) (by first | decide | simp [keysOf])).trans ?_; rw [Tryz.results169, Tryz.ntmps169])
  repeat' (first | with_reducible refine br_split (fun _ => ?_) (fun _ => ?_) | simp only [*, push_cast, Array.reduceGetElem?, Nat.reduceBEq, Nat.reduceLT, Nat.reduceAdd, Nat.reduceSub, Nat.reduceLeDiff, Nat.reduceMul, Nat.reduceEqDiff, reduceCtorEq, Int.reduceAdd, Int.reduceLT, Int.reduceLE, Int.reduceToNat, Int.reduceNeg, Int.reduceSub, Int.reduceBEq, Int.reduceBNe, Int.reduceGT, Int.reduceGE, Nat.reduceGT] | (rw [drawC_ok]; rotate_left; decide +kernel; exact cfg_mixed))
  rw [← made_zero vC [.i .i64 0, .i .i64 0, .s ⟨#[]⟩] l]
  rw [evM_for0 l.length (fun i j => { t := [(0, .d (.sl .any (l.map vC))), (3, .own 50), (4, .d (.i .i64 j))], o := [(50, .arr .any 3 (made vC [.i .i64 0, .i .i64 0, .s ⟨#[]⟩] l i))], ks := [50], n := 0, sz := 23, u := noU })
    (fun i => some (.exit 0, { t := [(3, .own 50)], o := [(50, .arr .any 3 (l.map vC))], ks := [50], n := 0, sz := 23, u := noU })) ?step ?last]
  case step =>
    intro i hi ih
    have hc : (l.map vC)[i]? = some [.i .i64 l[i].k, .i .i64 l[i].n, .s l[i].s] := get_map vC l i hi
    have hp := made_get vC [.i .i64 0, .i .i64 0, .s ⟨#[]⟩] l i hi
    have hpl := made_len vC [.i .i64 0, .i .i64 0, .s ⟨#[]⟩] l i (by omega)
    have hs : (made vC [.i .i64 0, .i .i64 0, .s ⟨#[]⟩] l i).set i [.i .i64 l[i].k, .i .i64 l[i].n, .s l[i].s] = _ := made_set vC [.i .i64 0, .i .i64 0, .s ⟨#[]⟩] l i hi
    have hd := dec_lt hi
    have hdn := dec_ltN hi
    have hw : IntKind.i64.wrap ((i : Int) + 1) = (i : Int) + 1 := wrap_succ (by omega)
    repeat' (first | with_reducible refine br_split (fun _ => ?_) (fun _ => ?_) | simp only [*, push_cast, Array.reduceGetElem?, Nat.reduceBEq, Nat.reduceLT, Nat.reduceAdd, Nat.reduceSub, Nat.reduceLeDiff, Nat.reduceMul, Nat.reduceEqDiff, reduceCtorEq, Int.reduceAdd, Int.reduceLT, Int.reduceLE, Int.reduceToNat, Int.reduceNeg, Int.reduceSub, Int.reduceBEq, Int.reduceBNe, Int.reduceGT, Int.reduceGE, Nat.reduceGT] | (rw [drawC_ok]; rotate_left; decide +kernel; exact cfg_mixed))
  case last =>
    have hf := made_full vC [.i .i64 0, .i .i64 0, .s ⟨#[]⟩] l
    repeat' (first | with_reducible refine br_split (fun _ => ?_) (fun _ => ?_) | simp only [*, push_cast, Array.reduceGetElem?, Nat.reduceBEq, Nat.reduceLT, Nat.reduceAdd, Nat.reduceSub, Nat.reduceLeDiff, Nat.reduceMul, Nat.reduceEqDiff, reduceCtorEq, Int.reduceAdd, Int.reduceLT, Int.reduceLE, Int.reduceToNat, Int.reduceNeg, Int.reduceSub, Int.reduceBEq, Int.reduceBNe, Int.reduceGT, Int.reduceGE, Nat.reduceGT] | (rw [drawC_ok]; rotate_left; decide +kernel; exact cfg_mixed))
  · repeat' (first | with_reducible refine br_split (fun _ => ?_) (fun _ => ?_) | simp only [*, push_cast, Array.reduceGetElem?, Nat.reduceBEq, Nat.reduceLT, Nat.reduceAdd, Nat.reduceSub, Nat.reduceLeDiff, Nat.reduceMul, Nat.reduceEqDiff, reduceCtorEq, Int.reduceAdd, Int.reduceLT, Int.reduceLE, Int.reduceToNat, Int.reduceNeg, Int.reduceSub, Int.reduceBEq, Int.reduceBNe, Int.reduceGT, Int.reduceGE, Nat.reduceGT] | (rw [drawC_ok]; rotate_left; decide +kernel; exact cfg_mixed))

@[push_cast] theorem ev_toCounted (row : List V) (n : Int) (h : szC ⟨row, n⟩ ≤ 1048576) : evF cfg 151 [] [.agg [.d (.sl .any (row.map vC)), .d (.i .i64 n)]] = some (.agg [.d (.sl .any (row.map vC)), .d (.i .i64 n)], []) := by
  simp only [szC] at h
  have erow := ev_toValueS row (by omega)
  (refine (evF_code (C := cfg) (g := 151) (fn := Tryz.f151) rfl Tryz.func151 rfl (by rw [Tryz.ntmps151]; simp) (by kernel_rfl) (by first | decide | simp [keysOf])).trans ?_; rw [Tryz.results151, Tryz.ntmps151])
  repeat' (first | with_reducible refine br_split (fun _ => ?_) (fun _ => ?_) | simp only [*, push_cast, Array.reduceGetElem?, Nat.reduceBEq, Nat.reduceLT, Nat.reduceAdd, Nat.reduceSub, Nat.reduceLeDiff, Nat.reduceMul, Nat.reduceEqDiff, reduceCtorEq, Int.reduceAdd, Int.reduceLT, Int.reduceLE, Int.reduceToNat, Int.reduceNeg, Int.reduceSub, Int.reduceBEq, Int.reduceBNe, Int.reduceGT, Int.reduceGE, Nat.reduceGT] | (rw [drawC_ok]; rotate_left; decide +kernel; exact cfg_mixed))

theorem ev_toCountedS (l : List C) (h : szCs l ≤ 1048576) : evF cfg 135 [] [.d (.sl .any (l.map cC))] = some (.d (.sl .any (l.map cC)), []) := by
  obtain ⟨hl, hm⟩ := szCs_mem h
  have hb := mk_ok 32 hl (by omega)
  (refine (evF_code (C := cfg) (g := 135) (fn := Tryz.f135) rfl Tryz.func135 rfl (by rw [Tryz.ntmps135]; simp) (by kernel_rfl) (by first | decide | simp [keysOf])).trans ?_; rw [Tryz.results135, Tryz.ntmps135])
  repeat' (first | with_reducible refine br_split (fun _ => ?_) (fun _ => ?_) | simp only [*, push_cast, Array.reduceGetElem?, Nat.reduceBEq, Nat.reduceLT, Nat.reduceAdd, Nat.reduceSub, Nat.reduceLeDiff, Nat.reduceMul, Nat.reduceEqDiff, reduceCtorEq, Int.reduceAdd, Int.reduceLT, Int.reduceLE, Int.reduceToNat, Int.reduceNeg, Int.reduceSub, Int.reduceBEq, Int.reduceBNe, Int.reduceGT, Int.reduceGE, Nat.reduceGT] | (rw [drawC_ok]; rotate_left; decide +kernel; exact cfg_mixed))
  rw [← made_zero cC [.sl .any [], .i .i64 0] l]
  rw [evM_for0 l.length (fun i j => { t := [(0, .d (.sl .any (l.map cC))), (3, .own 50), (4, .d (.i .i64 j))], o := [(50, .arr .any 2 (made cC [.sl .any [], .i .i64 0] l i))], ks := [50], n := 0, sz := 23, u := noU })
    (fun i => some (.exit 0, { t := [(3, .own 50)], o := [(50, .arr .any 2 (l.map cC))], ks := [50], n := 0, sz := 23, u := noU })) ?step ?last]
  case step =>
    intro i hi ih
    have hc : (l.map cC)[i]? = some [.sl .any (l[i].row.map vC), .i .i64 l[i].n] := get_map cC l i hi
    have hp := made_get cC [.sl .any [], .i .i64 0] l i hi
    have hpl := made_len cC [.sl .any [], .i .i64 0] l i (by omega)
    have hs : (made cC [.sl .any [], .i .i64 0] l i).set i [.sl .any (l[i].row.map vC), .i .i64 l[i].n] = _ := made_set cC [.sl .any [], .i .i64 0] l i hi
    have hd := dec_lt hi
    have hdn := dec_ltN hi
    have hw : IntKind.i64.wrap ((i : Int) + 1) = (i : Int) + 1 := wrap_succ (by omega)
    have ee := ev_toCounted l[i].row l[i].n (show szC l[i] ≤ 1048576 from hm _ (List.getElem_mem hi))
    repeat' (first | with_reducible refine br_split (fun _ => ?_) (fun _ => ?_) | simp only [*, push_cast, Array.reduceGetElem?, Nat.reduceBEq, Nat.reduceLT, Nat.reduceAdd, Nat.reduceSub, Nat.reduceLeDiff, Nat.reduceMul, Nat.reduceEqDiff, reduceCtorEq, Int.reduceAdd, Int.reduceLT, Int.reduceLE, Int.reduceToNat, Int.reduceNeg, Int.reduceSub, Int.reduceBEq, Int.reduceBNe, Int.reduceGT, Int.reduceGE, Nat.reduceGT] | (rw [drawC_ok]; rotate_left; decide +kernel; exact cfg_mixed))
  case last =>
    have hf := made_full cC [.sl .any [], .i .i64 0] l
    repeat' (first | with_reducible refine br_split (fun _ => ?_) (fun _ => ?_) | simp only [*, push_cast, Array.reduceGetElem?, Nat.reduceBEq, Nat.reduceLT, Nat.reduceAdd, Nat.reduceSub, Nat.reduceLeDiff, Nat.reduceMul, Nat.reduceEqDiff, reduceCtorEq, Int.reduceAdd, Int.reduceLT, Int.reduceLE, Int.reduceToNat, Int.reduceNeg, Int.reduceSub, Int.reduceBEq, Int.reduceBNe, Int.reduceGT, Int.reduceGE, Nat.reduceGT] | (rw [drawC_ok]; rotate_left; decide +kernel; exact cfg_mixed))
  · repeat' (first | with_reducible refine br_split (fun _ => ?_) (fun _ => ?_) | simp only [*, push_cast, Array.reduceGetElem?, Nat.reduceBEq, Nat.reduceLT, Nat.reduceAdd, Nat.reduceSub, Nat.reduceLeDiff, Nat.reduceMul, Nat.reduceEqDiff, reduceCtorEq, Int.reduceAdd, Int.reduceLT, Int.reduceLE, Int.reduceToNat, Int.reduceNeg, Int.reduceSub, Int.reduceBEq, Int.reduceBNe, Int.reduceGT, Int.reduceGE, Nat.reduceGT] | (rw [drawC_ok]; rotate_left; decide +kernel; exact cfg_mixed))

@[push_cast] theorem ev_toBag (w : Int) (rows : List C) (h : szB ⟨w, rows⟩ ≤ 1048576) : evF cfg 111 [] [.agg [.d (.i .i64 w), .d (.sl .any (rows.map cC))]] = some (.agg [.d (.i .i64 w), .d (.sl .any (rows.map cC))], []) := by
  simp only [szB] at h
  have erows := ev_toCountedS rows (by omega)
  (refine (evF_code (C := cfg) (g := 111) (fn := Tryz.f111) rfl Tryz.func111 rfl (by rw [Tryz.ntmps111]; simp) (by kernel_rfl) (by first | decide | simp [keysOf])).trans ?_; rw [Tryz.results111, Tryz.ntmps111])
  repeat' (first | with_reducible refine br_split (fun _ => ?_) (fun _ => ?_) | simp only [*, push_cast, Array.reduceGetElem?, Nat.reduceBEq, Nat.reduceLT, Nat.reduceAdd, Nat.reduceSub, Nat.reduceLeDiff, Nat.reduceMul, Nat.reduceEqDiff, reduceCtorEq, Int.reduceAdd, Int.reduceLT, Int.reduceLE, Int.reduceToNat, Int.reduceNeg, Int.reduceSub, Int.reduceBEq, Int.reduceBNe, Int.reduceGT, Int.reduceGE, Nat.reduceGT] | (rw [drawC_ok]; rotate_left; decide +kernel; exact cfg_mixed))

@[push_cast] theorem ev_toRel (name : ByteArray) (bag_w : Int) (bag_rows : List C) (h : szR ⟨name, ⟨bag_w, bag_rows⟩⟩ ≤ 1048576) : evF cfg 79 [] [.agg [.d (.s name), .d (.i .i64 bag_w), .d (.sl .any (bag_rows.map cC))]] = some (.agg [.d (.s name), .d (.i .i64 bag_w), .d (.sl .any (bag_rows.map cC))], []) := by
  simp only [szB, szR] at h
  have ebag := ev_toBag bag_w bag_rows (by simp only [szB]; omega)
  (refine (evF_code (C := cfg) (g := 79) (fn := Tryz.f79) rfl Tryz.func79 rfl (by rw [Tryz.ntmps79]; simp) (by kernel_rfl) (by first | decide | simp [keysOf])).trans ?_; rw [Tryz.results79, Tryz.ntmps79])
  repeat' (first | with_reducible refine br_split (fun _ => ?_) (fun _ => ?_) | simp only [*, push_cast, Array.reduceGetElem?, Nat.reduceBEq, Nat.reduceLT, Nat.reduceAdd, Nat.reduceSub, Nat.reduceLeDiff, Nat.reduceMul, Nat.reduceEqDiff, reduceCtorEq, Int.reduceAdd, Int.reduceLT, Int.reduceLE, Int.reduceToNat, Int.reduceNeg, Int.reduceSub, Int.reduceBEq, Int.reduceBNe, Int.reduceGT, Int.reduceGE, Nat.reduceGT] | (rw [drawC_ok]; rotate_left; decide +kernel; exact cfg_mixed))

theorem ev_toRelS (l : List R) (h : szRs l ≤ 1048576) : evF cfg 40 [] [.d (.sl .any (l.map rC))] = some (.d (.sl .any (l.map rC)), []) := by
  obtain ⟨hl, hm⟩ := szRs_mem h
  have hb := mk_ok 48 hl (by omega)
  (refine (evF_code (C := cfg) (g := 40) (fn := Tryz.f40) rfl Tryz.func40 rfl (by rw [Tryz.ntmps40]; simp) (by kernel_rfl) (by first | decide | simp [keysOf])).trans ?_; rw [Tryz.results40, Tryz.ntmps40])
  repeat' (first | with_reducible refine br_split (fun _ => ?_) (fun _ => ?_) | simp only [*, push_cast, Array.reduceGetElem?, Nat.reduceBEq, Nat.reduceLT, Nat.reduceAdd, Nat.reduceSub, Nat.reduceLeDiff, Nat.reduceMul, Nat.reduceEqDiff, reduceCtorEq, Int.reduceAdd, Int.reduceLT, Int.reduceLE, Int.reduceToNat, Int.reduceNeg, Int.reduceSub, Int.reduceBEq, Int.reduceBNe, Int.reduceGT, Int.reduceGE, Nat.reduceGT] | (rw [drawC_ok]; rotate_left; decide +kernel; exact cfg_mixed))
  rw [← made_zero rC [.s ⟨#[]⟩, .i .i64 0, .sl .any []] l]
  rw [evM_for0 l.length (fun i j => { t := [(0, .d (.sl .any (l.map rC))), (3, .own 50), (4, .d (.i .i64 j))], o := [(50, .arr .any 3 (made rC [.s ⟨#[]⟩, .i .i64 0, .sl .any []] l i))], ks := [50], n := 0, sz := 23, u := noU })
    (fun i => some (.exit 0, { t := [(3, .own 50)], o := [(50, .arr .any 3 (l.map rC))], ks := [50], n := 0, sz := 23, u := noU })) ?step ?last]
  case step =>
    intro i hi ih
    have hc : (l.map rC)[i]? = some [.s l[i].name, .i .i64 l[i].bag.w, .sl .any (l[i].bag.rows.map cC)] := get_map rC l i hi
    have hp := made_get rC [.s ⟨#[]⟩, .i .i64 0, .sl .any []] l i hi
    have hpl := made_len rC [.s ⟨#[]⟩, .i .i64 0, .sl .any []] l i (by omega)
    have hs : (made rC [.s ⟨#[]⟩, .i .i64 0, .sl .any []] l i).set i [.s l[i].name, .i .i64 l[i].bag.w, .sl .any (l[i].bag.rows.map cC)] = _ := made_set rC [.s ⟨#[]⟩, .i .i64 0, .sl .any []] l i hi
    have hd := dec_lt hi
    have hdn := dec_ltN hi
    have hw : IntKind.i64.wrap ((i : Int) + 1) = (i : Int) + 1 := wrap_succ (by omega)
    have ee := ev_toRel l[i].name l[i].bag.w l[i].bag.rows (show szR l[i] ≤ 1048576 from hm _ (List.getElem_mem hi))
    repeat' (first | with_reducible refine br_split (fun _ => ?_) (fun _ => ?_) | simp only [*, push_cast, Array.reduceGetElem?, Nat.reduceBEq, Nat.reduceLT, Nat.reduceAdd, Nat.reduceSub, Nat.reduceLeDiff, Nat.reduceMul, Nat.reduceEqDiff, reduceCtorEq, Int.reduceAdd, Int.reduceLT, Int.reduceLE, Int.reduceToNat, Int.reduceNeg, Int.reduceSub, Int.reduceBEq, Int.reduceBNe, Int.reduceGT, Int.reduceGE, Nat.reduceGT] | (rw [drawC_ok]; rotate_left; decide +kernel; exact cfg_mixed))
  case last =>
    have hf := made_full rC [.s ⟨#[]⟩, .i .i64 0, .sl .any []] l
    repeat' (first | with_reducible refine br_split (fun _ => ?_) (fun _ => ?_) | simp only [*, push_cast, Array.reduceGetElem?, Nat.reduceBEq, Nat.reduceLT, Nat.reduceAdd, Nat.reduceSub, Nat.reduceLeDiff, Nat.reduceMul, Nat.reduceEqDiff, reduceCtorEq, Int.reduceAdd, Int.reduceLT, Int.reduceLE, Int.reduceToNat, Int.reduceNeg, Int.reduceSub, Int.reduceBEq, Int.reduceBNe, Int.reduceGT, Int.reduceGE, Nat.reduceGT] | (rw [drawC_ok]; rotate_left; decide +kernel; exact cfg_mixed))
  · repeat' (first | with_reducible refine br_split (fun _ => ?_) (fun _ => ?_) | simp only [*, push_cast, Array.reduceGetElem?, Nat.reduceBEq, Nat.reduceLT, Nat.reduceAdd, Nat.reduceSub, Nat.reduceLeDiff, Nat.reduceMul, Nat.reduceEqDiff, reduceCtorEq, Int.reduceAdd, Int.reduceLT, Int.reduceLE, Int.reduceToNat, Int.reduceNeg, Int.reduceSub, Int.reduceBEq, Int.reduceBNe, Int.reduceGT, Int.reduceGE, Nat.reduceGT] | (rw [drawC_ok]; rotate_left; decide +kernel; exact cfg_mixed))

end Go.Av
end

section
namespace Go.Av
open Go.Proofs
set_option linter.unusedSimpArgs false

@[push_cast] theorem ev_eqValue (k : Int) (n : Int) (s : ByteArray) (y_k : Int) (y_n : Int) (y_s : ByteArray) : evF cfg 181 [] [.agg [.d (.i .i64 k), .d (.i .i64 n), .d (.s s)], .agg [.d (.i .i64 y_k), .d (.i .i64 y_n), .d (.s y_s)]] = some (.d (.b (decide ((⟨k, n, s⟩ : V) = ⟨y_k, y_n, y_s⟩))), []) := by
  (refine (evF_code (C := cfg) (g := 181) (fn := Tryz.f181) rfl Tryz.func181 rfl (by rw [Tryz.ntmps181]; simp) (by kernel_rfl) (by first | decide | simp [keysOf])).trans ?_; rw [Tryz.results181, Tryz.ntmps181])
  repeat' (first | with_reducible refine br_split (fun _ => ?_) (fun _ => ?_) | simp only [*, push_cast, Array.reduceGetElem?, Nat.reduceBEq, Nat.reduceLT, Nat.reduceAdd, Nat.reduceSub, Nat.reduceLeDiff, Nat.reduceMul, Nat.reduceEqDiff, reduceCtorEq, Int.reduceAdd, Int.reduceLT, Int.reduceLE, Int.reduceToNat, Int.reduceNeg, Int.reduceSub, Int.reduceBEq, Int.reduceBNe, Int.reduceGT, Int.reduceGE, Nat.reduceGT] | (rw [drawC_ok]; rotate_left; decide +kernel; exact cfg_mixed))
  all_goals simp_all

theorem ev_szValue (k : Int) (n : Int) (s : ByteArray) (left : Int) (h0 : 0 ≤ left) (h1 : left ≤ 1048576) (hlim : limCs (vC ⟨k, n, s⟩)) : evF cfg 179 [] [.agg [.d (.i .i64 k), .d (.i .i64 n), .d (.s s)], .d (.i .i64 left)] = some (.d (.i .i64 (left1 left (szV ⟨k, n, s⟩))), []) := by
  simp only [vC, limCs, T.lim] at hlim
  have hw0 : IntKind.i64.wrap (left - ((s.size : Nat) : Int)) = left - ((s.size : Nat) : Int) := i64_in (by omega) (by omega)
  by_cases hn0 : left - ((s.size : Nat) : Int) < 0
  · have hd0 : decide (left - ((s.size : Nat) : Int) < 0) = true := decide_eq_true hn0
    have hm : decide ((-1 : Int) < 0) = true := rfl
    have hr : left1 left (szV ⟨k, n, s⟩) = -1 := left1_neg (by simp only [szV]; omega)
    (refine (evF_code (C := cfg) (g := 179) (fn := Tryz.f179) rfl Tryz.func179 rfl (by rw [Tryz.ntmps179]; simp) (by kernel_rfl) (by first | decide | simp [keysOf])).trans ?_; rw [Tryz.results179, Tryz.ntmps179])
    repeat' (first | with_reducible refine br_split (fun _ => ?_) (fun _ => ?_) | simp only [*, push_cast, Array.reduceGetElem?, Nat.reduceBEq, Nat.reduceLT, Nat.reduceAdd, Nat.reduceSub, Nat.reduceLeDiff, Nat.reduceMul, Nat.reduceEqDiff, reduceCtorEq, Int.reduceAdd, Int.reduceLT, Int.reduceLE, Int.reduceToNat, Int.reduceNeg, Int.reduceSub, Int.reduceBEq, Int.reduceBNe, Int.reduceGT, Int.reduceGE, Nat.reduceGT] | (rw [drawC_ok]; rotate_left; decide +kernel; exact cfg_mixed))
  · have hd0 : decide (left - ((s.size : Nat) : Int) < 0) = false := decide_eq_false hn0
    have hr : left1 left (szV ⟨k, n, s⟩) = (left - ((s.size : Nat) : Int)) := (left1_pos (by simp only [szV]; omega)).trans (by simp only [szV] <;> omega)
    (refine (evF_code (C := cfg) (g := 179) (fn := Tryz.f179) rfl Tryz.func179 rfl (by rw [Tryz.ntmps179]; simp) (by kernel_rfl) (by first | decide | simp [keysOf])).trans ?_; rw [Tryz.results179, Tryz.ntmps179])
    repeat' (first | with_reducible refine br_split (fun _ => ?_) (fun _ => ?_) | simp only [*, push_cast, Array.reduceGetElem?, Nat.reduceBEq, Nat.reduceLT, Nat.reduceAdd, Nat.reduceSub, Nat.reduceLeDiff, Nat.reduceMul, Nat.reduceEqDiff, reduceCtorEq, Int.reduceAdd, Int.reduceLT, Int.reduceLE, Int.reduceToNat, Int.reduceNeg, Int.reduceSub, Int.reduceBEq, Int.reduceBNe, Int.reduceGT, Int.reduceGE, Nat.reduceGT] | (rw [drawC_ok]; rotate_left; decide +kernel; exact cfg_mixed))

theorem ev_szValueS (l : List V) (left : Int) (h0 : 0 ≤ left) (h1 : left ≤ 1048576) (hlim : (T.sl .any (l.map vC)).lim) : evF cfg 168 [] [.d (.sl .any (l.map vC)), .d (.i .i64 left)] = some (.d (.i .i64 (left1 left (szVs l))), []) := by
  simp only [T.lim, List.length_map, limEs_map] at hlim
  obtain ⟨hl, hlm⟩ := hlim
  have hw0 : IntKind.i64.wrap (left - l.length) = left - l.length := i64_in (by omega) (by omega)
  by_cases hn : left - (l.length : Int) < 0
  · have hd0 : decide (left - (l.length : Int) < 0) = true := decide_eq_true hn
    have hr : left1 left (szVs l) = -1 := left1_neg (by simp only [szVs]; omega)
    (refine (evF_code (C := cfg) (g := 168) (fn := Tryz.f168) rfl Tryz.func168 rfl (by rw [Tryz.ntmps168]; simp) (by kernel_rfl) (by first | decide | simp [keysOf])).trans ?_; rw [Tryz.results168, Tryz.ntmps168])
    repeat' (first | with_reducible refine br_split (fun _ => ?_) (fun _ => ?_) | simp only [*, push_cast, Array.reduceGetElem?, Nat.reduceBEq, Nat.reduceLT, Nat.reduceAdd, Nat.reduceSub, Nat.reduceLeDiff, Nat.reduceMul, Nat.reduceEqDiff, reduceCtorEq, Int.reduceAdd, Int.reduceLT, Int.reduceLE, Int.reduceToNat, Int.reduceNeg, Int.reduceSub, Int.reduceBEq, Int.reduceBNe, Int.reduceGT, Int.reduceGE, Nat.reduceGT] | (rw [drawC_ok]; rotate_left; decide +kernel; exact cfg_mixed))
  · have hd0 : decide (left - (l.length : Int) < 0) = false := decide_eq_false hn
    (refine (evF_code (C := cfg) (g := 168) (fn := Tryz.f168) rfl Tryz.func168 rfl (by rw [Tryz.ntmps168]; simp) (by kernel_rfl) (by first | decide | simp [keysOf])).trans ?_; rw [Tryz.results168, Tryz.ntmps168])
    repeat' (first | with_reducible refine br_split (fun _ => ?_) (fun _ => ?_) | simp only [*, push_cast, Array.reduceGetElem?, Nat.reduceBEq, Nat.reduceLT, Nat.reduceAdd, Nat.reduceSub, Nat.reduceLeDiff, Nat.reduceMul, Nat.reduceEqDiff, reduceCtorEq, Int.reduceAdd, Int.reduceLT, Int.reduceLE, Int.reduceToNat, Int.reduceNeg, Int.reduceSub, Int.reduceBEq, Int.reduceBNe, Int.reduceGT, Int.reduceGE, Nat.reduceGT] | (rw [drawC_ok]; rotate_left; decide +kernel; exact cfg_mixed))
    rw [evM_for (α := {x : Int // 0 ≤ x ∧ x ≤ 1048576}) l.length (fun i j x => { t := [(0, .d (.sl .any (l.map vC))), (1, .d (.i .i64 x.1)), (5, .d (.i .i64 j))], o := [], ks := [], n := 0, sz := 27, u := noU })
      (fun i x => br (decide (x.1 - (((l.drop i).map szV).sum : Int) < 0)) (some (.ret, { t := [(4, .d (.i .i64 (-1)))], o := [], ks := [], n := 0, sz := 27, u := noU })) (some (.exit 0, { t := [(1, .d (.i .i64 (x.1 - (((l.drop i).map szV).sum : Int))))], o := [], ks := [], n := 0, sz := 27, u := noU })) ⟨⟩) ?step ?last ⟨left - l.length, by omega, by omega⟩]
    case step =>
      intro i x hi ih
      have hc : (l.map vC)[i]? = some [.i .i64 l[i].k, .i .i64 l[i].n, .s l[i].s] := get_map vC l i hi
      have hd := dec_lt hi
      have hw : IntKind.i64.wrap ((i : Int) + 1) = (i : Int) + 1 := i64_in (by omega) (by omega)
      have ee := ev_szValue l[i].k l[i].n l[i].s x.1 x.2.1 x.2.2 (hlm _ (List.getElem_mem hi))
      have hx := x.2
      have h2 : x.1 - (((l.drop i).map szV).sum : Int) = x.1 - (szV l[i] : Int) - (((l.drop (i + 1)).map szV).sum : Int) := by rw [List.drop_eq_getElem_cons hi, List.map_cons, List.sum_cons]; omega
      rw [h2]
      by_cases hk : x.1 - (szV l[i] : Int) < 0
      · have e1 : left1 x.1 (szV l[i]) = -1 := if_pos hk
        have hd1 : decide ((-1 : Int) < 0) = true := rfl
        have hd2 : decide (x.1 - (szV l[i] : Int) - (((l.drop (i + 1)).map szV).sum : Int) < 0) = true := decide_eq_true (by omega)
        repeat' (first | with_reducible refine br_split (fun _ => ?_) (fun _ => ?_) | simp only [*, push_cast, Array.reduceGetElem?, Nat.reduceBEq, Nat.reduceLT, Nat.reduceAdd, Nat.reduceSub, Nat.reduceLeDiff, Nat.reduceMul, Nat.reduceEqDiff, reduceCtorEq, Int.reduceAdd, Int.reduceLT, Int.reduceLE, Int.reduceToNat, Int.reduceNeg, Int.reduceSub, Int.reduceBEq, Int.reduceBNe, Int.reduceGT, Int.reduceGE, Nat.reduceGT] | (rw [drawC_ok]; rotate_left; decide +kernel; exact cfg_mixed))
      · have e1 : left1 x.1 (szV l[i]) = x.1 - (szV l[i] : Int) := if_neg hk
        have hd1 : decide (x.1 - (szV l[i] : Int) < 0) = false := decide_eq_false hk
        have ih := ih ⟨x.1 - (szV l[i] : Int), by omega, by omega⟩
        clear h2
        repeat' (first | with_reducible refine br_split (fun _ => ?_) (fun _ => ?_) | simp only [*, push_cast, Array.reduceGetElem?, Nat.reduceBEq, Nat.reduceLT, Nat.reduceAdd, Nat.reduceSub, Nat.reduceLeDiff, Nat.reduceMul, Nat.reduceEqDiff, reduceCtorEq, Int.reduceAdd, Int.reduceLT, Int.reduceLE, Int.reduceToNat, Int.reduceNeg, Int.reduceSub, Int.reduceBEq, Int.reduceBNe, Int.reduceGT, Int.reduceGE, Nat.reduceGT] | (rw [drawC_ok]; rotate_left; decide +kernel; exact cfg_mixed))
    case last =>
      intro x
      have hx := x.2
      have h2 : x.1 - (((l.drop l.length).map szV).sum : Int) = x.1 := by simp
      have hd2 : decide (x.1 < 0) = false := decide_eq_false (by omega)
      rw [h2]
      repeat' (first | with_reducible refine br_split (fun _ => ?_) (fun _ => ?_) | simp only [*, push_cast, Array.reduceGetElem?, Nat.reduceBEq, Nat.reduceLT, Nat.reduceAdd, Nat.reduceSub, Nat.reduceLeDiff, Nat.reduceMul, Nat.reduceEqDiff, reduceCtorEq, Int.reduceAdd, Int.reduceLT, Int.reduceLE, Int.reduceToNat, Int.reduceNeg, Int.reduceSub, Int.reduceBEq, Int.reduceBNe, Int.reduceGT, Int.reduceGE, Nat.reduceGT] | (rw [drawC_ok]; rotate_left; decide +kernel; exact cfg_mixed))
    · by_cases hk : left - (l.length : Int) - ((l.map szV).sum : Int) < 0
      · have hd2 := decide_eq_true hk
        have hr : left1 left (szVs l) = -1 := left1_neg (by simp only [szVs]; omega)
        repeat' (first | with_reducible refine br_split (fun _ => ?_) (fun _ => ?_) | simp only [*, push_cast, Array.reduceGetElem?, Nat.reduceBEq, Nat.reduceLT, Nat.reduceAdd, Nat.reduceSub, Nat.reduceLeDiff, Nat.reduceMul, Nat.reduceEqDiff, reduceCtorEq, Int.reduceAdd, Int.reduceLT, Int.reduceLE, Int.reduceToNat, Int.reduceNeg, Int.reduceSub, Int.reduceBEq, Int.reduceBNe, Int.reduceGT, Int.reduceGE, Nat.reduceGT] | (rw [drawC_ok]; rotate_left; decide +kernel; exact cfg_mixed))
      · have hd2 := decide_eq_false hk
        have hr : left1 left (szVs l) = left - (l.length : Int) - ((l.map szV).sum : Int) := (left1_pos (by simp only [szVs]; omega)).trans (by simp only [szVs]; omega)
        repeat' (first | with_reducible refine br_split (fun _ => ?_) (fun _ => ?_) | simp only [*, push_cast, Array.reduceGetElem?, Nat.reduceBEq, Nat.reduceLT, Nat.reduceAdd, Nat.reduceSub, Nat.reduceLeDiff, Nat.reduceMul, Nat.reduceEqDiff, reduceCtorEq, Int.reduceAdd, Int.reduceLT, Int.reduceLE, Int.reduceToNat, Int.reduceNeg, Int.reduceSub, Int.reduceBEq, Int.reduceBNe, Int.reduceGT, Int.reduceGE, Nat.reduceGT] | (rw [drawC_ok]; rotate_left; decide +kernel; exact cfg_mixed))

theorem ev_szCounted (row : List V) (n : Int) (left : Int) (h0 : 0 ≤ left) (h1 : left ≤ 1048576) (hlim : limCs (cC ⟨row, n⟩)) : evF cfg 150 [] [.agg [.d (.sl .any (row.map vC)), .d (.i .i64 n)], .d (.i .i64 left)] = some (.d (.i .i64 (left1 left (szC ⟨row, n⟩))), []) := by
  simp only [cC, limCs, T.lim] at hlim
  have ee0 := ev_szValueS row left (by omega) (by omega) (by simp_all [limCs, T.lim, cC])
  by_cases hn0 : left - ((szVs row : Nat) : Int) < 0
  · have hd0 : decide (left - ((szVs row : Nat) : Int) < 0) = true := decide_eq_true hn0
    have el0 : left1 left (szVs row) = -1 := if_pos hn0
    have hm : decide ((-1 : Int) < 0) = true := rfl
    have hr : left1 left (szC ⟨row, n⟩) = -1 := left1_neg (by simp only [szC]; omega)
    (refine (evF_code (C := cfg) (g := 150) (fn := Tryz.f150) rfl Tryz.func150 rfl (by rw [Tryz.ntmps150]; simp) (by kernel_rfl) (by first | decide | simp [keysOf])).trans ?_; rw [Tryz.results150, Tryz.ntmps150])
    repeat' (first | with_reducible refine br_split (fun _ => ?_) (fun _ => ?_) | simp only [*, push_cast, Array.reduceGetElem?, Nat.reduceBEq, Nat.reduceLT, Nat.reduceAdd, Nat.reduceSub, Nat.reduceLeDiff, Nat.reduceMul, Nat.reduceEqDiff, reduceCtorEq, Int.reduceAdd, Int.reduceLT, Int.reduceLE, Int.reduceToNat, Int.reduceNeg, Int.reduceSub, Int.reduceBEq, Int.reduceBNe, Int.reduceGT, Int.reduceGE, Nat.reduceGT] | (rw [drawC_ok]; rotate_left; decide +kernel; exact cfg_mixed))
  · have hd0 : decide (left - ((szVs row : Nat) : Int) < 0) = false := decide_eq_false hn0
    have el0 : left1 left (szVs row) = left - ((szVs row : Nat) : Int) := if_neg hn0
    have hr : left1 left (szC ⟨row, n⟩) = (left - ((szVs row : Nat) : Int)) := (left1_pos (by simp only [szC]; omega)).trans (by simp only [szC] <;> omega)
    (refine (evF_code (C := cfg) (g := 150) (fn := Tryz.f150) rfl Tryz.func150 rfl (by rw [Tryz.ntmps150]; simp) (by kernel_rfl) (by first | decide | simp [keysOf])).trans ?_; rw [Tryz.results150, Tryz.ntmps150])
    repeat' (first | with_reducible refine br_split (fun _ => ?_) (fun _ => ?_) | simp only [*, push_cast, Array.reduceGetElem?, Nat.reduceBEq, Nat.reduceLT, Nat.reduceAdd, Nat.reduceSub, Nat.reduceLeDiff, Nat.reduceMul, Nat.reduceEqDiff, reduceCtorEq, Int.reduceAdd, Int.reduceLT, Int.reduceLE, Int.reduceToNat, Int.reduceNeg, Int.reduceSub, Int.reduceBEq, Int.reduceBNe, Int.reduceGT, Int.reduceGE, Nat.reduceGT] | (rw [drawC_ok]; rotate_left; decide +kernel; exact cfg_mixed))

theorem ev_szCountedS (l : List C) (left : Int) (h0 : 0 ≤ left) (h1 : left ≤ 1048576) (hlim : (T.sl .any (l.map cC)).lim) : evF cfg 134 [] [.d (.sl .any (l.map cC)), .d (.i .i64 left)] = some (.d (.i .i64 (left1 left (szCs l))), []) := by
  simp only [T.lim, List.length_map, limEs_map] at hlim
  obtain ⟨hl, hlm⟩ := hlim
  have hw0 : IntKind.i64.wrap (left - l.length) = left - l.length := i64_in (by omega) (by omega)
  by_cases hn : left - (l.length : Int) < 0
  · have hd0 : decide (left - (l.length : Int) < 0) = true := decide_eq_true hn
    have hr : left1 left (szCs l) = -1 := left1_neg (by simp only [szCs]; omega)
    (refine (evF_code (C := cfg) (g := 134) (fn := Tryz.f134) rfl Tryz.func134 rfl (by rw [Tryz.ntmps134]; simp) (by kernel_rfl) (by first | decide | simp [keysOf])).trans ?_; rw [Tryz.results134, Tryz.ntmps134])
    repeat' (first | with_reducible refine br_split (fun _ => ?_) (fun _ => ?_) | simp only [*, push_cast, Array.reduceGetElem?, Nat.reduceBEq, Nat.reduceLT, Nat.reduceAdd, Nat.reduceSub, Nat.reduceLeDiff, Nat.reduceMul, Nat.reduceEqDiff, reduceCtorEq, Int.reduceAdd, Int.reduceLT, Int.reduceLE, Int.reduceToNat, Int.reduceNeg, Int.reduceSub, Int.reduceBEq, Int.reduceBNe, Int.reduceGT, Int.reduceGE, Nat.reduceGT] | (rw [drawC_ok]; rotate_left; decide +kernel; exact cfg_mixed))
  · have hd0 : decide (left - (l.length : Int) < 0) = false := decide_eq_false hn
    (refine (evF_code (C := cfg) (g := 134) (fn := Tryz.f134) rfl Tryz.func134 rfl (by rw [Tryz.ntmps134]; simp) (by kernel_rfl) (by first | decide | simp [keysOf])).trans ?_; rw [Tryz.results134, Tryz.ntmps134])
    repeat' (first | with_reducible refine br_split (fun _ => ?_) (fun _ => ?_) | simp only [*, push_cast, Array.reduceGetElem?, Nat.reduceBEq, Nat.reduceLT, Nat.reduceAdd, Nat.reduceSub, Nat.reduceLeDiff, Nat.reduceMul, Nat.reduceEqDiff, reduceCtorEq, Int.reduceAdd, Int.reduceLT, Int.reduceLE, Int.reduceToNat, Int.reduceNeg, Int.reduceSub, Int.reduceBEq, Int.reduceBNe, Int.reduceGT, Int.reduceGE, Nat.reduceGT] | (rw [drawC_ok]; rotate_left; decide +kernel; exact cfg_mixed))
    rw [evM_for (α := {x : Int // 0 ≤ x ∧ x ≤ 1048576}) l.length (fun i j x => { t := [(0, .d (.sl .any (l.map cC))), (1, .d (.i .i64 x.1)), (5, .d (.i .i64 j))], o := [], ks := [], n := 0, sz := 27, u := noU })
      (fun i x => br (decide (x.1 - (((l.drop i).map szC).sum : Int) < 0)) (some (.ret, { t := [(4, .d (.i .i64 (-1)))], o := [], ks := [], n := 0, sz := 27, u := noU })) (some (.exit 0, { t := [(1, .d (.i .i64 (x.1 - (((l.drop i).map szC).sum : Int))))], o := [], ks := [], n := 0, sz := 27, u := noU })) ⟨⟩) ?step ?last ⟨left - l.length, by omega, by omega⟩]
    case step =>
      intro i x hi ih
      have hc : (l.map cC)[i]? = some [.sl .any (l[i].row.map vC), .i .i64 l[i].n] := get_map cC l i hi
      have hd := dec_lt hi
      have hw : IntKind.i64.wrap ((i : Int) + 1) = (i : Int) + 1 := i64_in (by omega) (by omega)
      have ee := ev_szCounted l[i].row l[i].n x.1 x.2.1 x.2.2 (hlm _ (List.getElem_mem hi))
      have hx := x.2
      have h2 : x.1 - (((l.drop i).map szC).sum : Int) = x.1 - (szC l[i] : Int) - (((l.drop (i + 1)).map szC).sum : Int) := by rw [List.drop_eq_getElem_cons hi, List.map_cons, List.sum_cons]; omega
      rw [h2]
      by_cases hk : x.1 - (szC l[i] : Int) < 0
      · have e1 : left1 x.1 (szC l[i]) = -1 := if_pos hk
        have hd1 : decide ((-1 : Int) < 0) = true := rfl
        have hd2 : decide (x.1 - (szC l[i] : Int) - (((l.drop (i + 1)).map szC).sum : Int) < 0) = true := decide_eq_true (by omega)
        repeat' (first | with_reducible refine br_split (fun _ => ?_) (fun _ => ?_) | simp only [*, push_cast, Array.reduceGetElem?, Nat.reduceBEq, Nat.reduceLT, Nat.reduceAdd, Nat.reduceSub, Nat.reduceLeDiff, Nat.reduceMul, Nat.reduceEqDiff, reduceCtorEq, Int.reduceAdd, Int.reduceLT, Int.reduceLE, Int.reduceToNat, Int.reduceNeg, Int.reduceSub, Int.reduceBEq, Int.reduceBNe, Int.reduceGT, Int.reduceGE, Nat.reduceGT] | (rw [drawC_ok]; rotate_left; decide +kernel; exact cfg_mixed))
      · have e1 : left1 x.1 (szC l[i]) = x.1 - (szC l[i] : Int) := if_neg hk
        have hd1 : decide (x.1 - (szC l[i] : Int) < 0) = false := decide_eq_false hk
        have ih := ih ⟨x.1 - (szC l[i] : Int), by omega, by omega⟩
        clear h2
        repeat' (first | with_reducible refine br_split (fun _ => ?_) (fun _ => ?_) | simp only [*, push_cast, Array.reduceGetElem?, Nat.reduceBEq, Nat.reduceLT, Nat.reduceAdd, Nat.reduceSub, Nat.reduceLeDiff, Nat.reduceMul, Nat.reduceEqDiff, reduceCtorEq, Int.reduceAdd, Int.reduceLT, Int.reduceLE, Int.reduceToNat, Int.reduceNeg, Int.reduceSub, Int.reduceBEq, Int.reduceBNe, Int.reduceGT, Int.reduceGE, Nat.reduceGT] | (rw [drawC_ok]; rotate_left; decide +kernel; exact cfg_mixed))
    case last =>
      intro x
      have hx := x.2
      have h2 : x.1 - (((l.drop l.length).map szC).sum : Int) = x.1 := by simp
      have hd2 : decide (x.1 < 0) = false := decide_eq_false (by omega)
      rw [h2]
      repeat' (first | with_reducible refine br_split (fun _ => ?_) (fun _ => ?_) | simp only [*, push_cast, Array.reduceGetElem?, Nat.reduceBEq, Nat.reduceLT, Nat.reduceAdd, Nat.reduceSub, Nat.reduceLeDiff, Nat.reduceMul, Nat.reduceEqDiff, reduceCtorEq, Int.reduceAdd, Int.reduceLT, Int.reduceLE, Int.reduceToNat, Int.reduceNeg, Int.reduceSub, Int.reduceBEq, Int.reduceBNe, Int.reduceGT, Int.reduceGE, Nat.reduceGT] | (rw [drawC_ok]; rotate_left; decide +kernel; exact cfg_mixed))
    · by_cases hk : left - (l.length : Int) - ((l.map szC).sum : Int) < 0
      · have hd2 := decide_eq_true hk
        have hr : left1 left (szCs l) = -1 := left1_neg (by simp only [szCs]; omega)
        repeat' (first | with_reducible refine br_split (fun _ => ?_) (fun _ => ?_) | simp only [*, push_cast, Array.reduceGetElem?, Nat.reduceBEq, Nat.reduceLT, Nat.reduceAdd, Nat.reduceSub, Nat.reduceLeDiff, Nat.reduceMul, Nat.reduceEqDiff, reduceCtorEq, Int.reduceAdd, Int.reduceLT, Int.reduceLE, Int.reduceToNat, Int.reduceNeg, Int.reduceSub, Int.reduceBEq, Int.reduceBNe, Int.reduceGT, Int.reduceGE, Nat.reduceGT] | (rw [drawC_ok]; rotate_left; decide +kernel; exact cfg_mixed))
      · have hd2 := decide_eq_false hk
        have hr : left1 left (szCs l) = left - (l.length : Int) - ((l.map szC).sum : Int) := (left1_pos (by simp only [szCs]; omega)).trans (by simp only [szCs]; omega)
        repeat' (first | with_reducible refine br_split (fun _ => ?_) (fun _ => ?_) | simp only [*, push_cast, Array.reduceGetElem?, Nat.reduceBEq, Nat.reduceLT, Nat.reduceAdd, Nat.reduceSub, Nat.reduceLeDiff, Nat.reduceMul, Nat.reduceEqDiff, reduceCtorEq, Int.reduceAdd, Int.reduceLT, Int.reduceLE, Int.reduceToNat, Int.reduceNeg, Int.reduceSub, Int.reduceBEq, Int.reduceBNe, Int.reduceGT, Int.reduceGE, Nat.reduceGT] | (rw [drawC_ok]; rotate_left; decide +kernel; exact cfg_mixed))

theorem ev_szBag (w : Int) (rows : List C) (left : Int) (h0 : 0 ≤ left) (h1 : left ≤ 1048576) (hlim : limCs (bC ⟨w, rows⟩)) : evF cfg 109 [] [.agg [.d (.i .i64 w), .d (.sl .any (rows.map cC))], .d (.i .i64 left)] = some (.d (.i .i64 (left1 left (szB ⟨w, rows⟩))), []) := by
  simp only [bC, limCs, T.lim] at hlim
  have ee0 := ev_szCountedS rows left (by omega) (by omega) (by simp_all [limCs, T.lim, bC])
  by_cases hn0 : left - ((szCs rows : Nat) : Int) < 0
  · have hd0 : decide (left - ((szCs rows : Nat) : Int) < 0) = true := decide_eq_true hn0
    have el0 : left1 left (szCs rows) = -1 := if_pos hn0
    have hm : decide ((-1 : Int) < 0) = true := rfl
    have hr : left1 left (szB ⟨w, rows⟩) = -1 := left1_neg (by simp only [szB]; omega)
    (refine (evF_code (C := cfg) (g := 109) (fn := Tryz.f109) rfl Tryz.func109 rfl (by rw [Tryz.ntmps109]; simp) (by kernel_rfl) (by first | decide | simp [keysOf])).trans ?_; rw [Tryz.results109, Tryz.ntmps109])
    repeat' (first | with_reducible refine br_split (fun _ => ?_) (fun _ => ?_) | simp only [*, push_cast, Array.reduceGetElem?, Nat.reduceBEq, Nat.reduceLT, Nat.reduceAdd, Nat.reduceSub, Nat.reduceLeDiff, Nat.reduceMul, Nat.reduceEqDiff, reduceCtorEq, Int.reduceAdd, Int.reduceLT, Int.reduceLE, Int.reduceToNat, Int.reduceNeg, Int.reduceSub, Int.reduceBEq, Int.reduceBNe, Int.reduceGT, Int.reduceGE, Nat.reduceGT] | (rw [drawC_ok]; rotate_left; decide +kernel; exact cfg_mixed))
  · have hd0 : decide (left - ((szCs rows : Nat) : Int) < 0) = false := decide_eq_false hn0
    have el0 : left1 left (szCs rows) = left - ((szCs rows : Nat) : Int) := if_neg hn0
    have hr : left1 left (szB ⟨w, rows⟩) = (left - ((szCs rows : Nat) : Int)) := (left1_pos (by simp only [szB]; omega)).trans (by simp only [szB] <;> omega)
    (refine (evF_code (C := cfg) (g := 109) (fn := Tryz.f109) rfl Tryz.func109 rfl (by rw [Tryz.ntmps109]; simp) (by kernel_rfl) (by first | decide | simp [keysOf])).trans ?_; rw [Tryz.results109, Tryz.ntmps109])
    repeat' (first | with_reducible refine br_split (fun _ => ?_) (fun _ => ?_) | simp only [*, push_cast, Array.reduceGetElem?, Nat.reduceBEq, Nat.reduceLT, Nat.reduceAdd, Nat.reduceSub, Nat.reduceLeDiff, Nat.reduceMul, Nat.reduceEqDiff, reduceCtorEq, Int.reduceAdd, Int.reduceLT, Int.reduceLE, Int.reduceToNat, Int.reduceNeg, Int.reduceSub, Int.reduceBEq, Int.reduceBNe, Int.reduceGT, Int.reduceGE, Nat.reduceGT] | (rw [drawC_ok]; rotate_left; decide +kernel; exact cfg_mixed))

theorem ev_szRel (name : ByteArray) (bag_w : Int) (bag_rows : List C) (left : Int) (h0 : 0 ≤ left) (h1 : left ≤ 1048576) (hlim : limCs (rC ⟨name, ⟨bag_w, bag_rows⟩⟩)) : evF cfg 76 [] [.agg [.d (.s name), .d (.i .i64 bag_w), .d (.sl .any (bag_rows.map cC))], .d (.i .i64 left)] = some (.d (.i .i64 (left1 left (szR ⟨name, ⟨bag_w, bag_rows⟩⟩))), []) := by
  simp only [rC, limCs, T.lim] at hlim
  have hw0 : IntKind.i64.wrap (left - ((name.size : Nat) : Int)) = left - ((name.size : Nat) : Int) := i64_in (by omega) (by omega)
  by_cases hn0 : left - ((name.size : Nat) : Int) < 0
  · have hd0 : decide (left - ((name.size : Nat) : Int) < 0) = true := decide_eq_true hn0
    have hm : decide ((-1 : Int) < 0) = true := rfl
    have hr : left1 left (szR ⟨name, ⟨bag_w, bag_rows⟩⟩) = -1 := left1_neg (by simp only [szR]; omega)
    (refine (evF_code (C := cfg) (g := 76) (fn := Tryz.f76) rfl Tryz.func76 rfl (by rw [Tryz.ntmps76]; simp) (by kernel_rfl) (by first | decide | simp [keysOf])).trans ?_; rw [Tryz.results76, Tryz.ntmps76])
    repeat' (first | with_reducible refine br_split (fun _ => ?_) (fun _ => ?_) | simp only [*, push_cast, Array.reduceGetElem?, Nat.reduceBEq, Nat.reduceLT, Nat.reduceAdd, Nat.reduceSub, Nat.reduceLeDiff, Nat.reduceMul, Nat.reduceEqDiff, reduceCtorEq, Int.reduceAdd, Int.reduceLT, Int.reduceLE, Int.reduceToNat, Int.reduceNeg, Int.reduceSub, Int.reduceBEq, Int.reduceBNe, Int.reduceGT, Int.reduceGE, Nat.reduceGT] | (rw [drawC_ok]; rotate_left; decide +kernel; exact cfg_mixed))
  · have hd0 : decide (left - ((name.size : Nat) : Int) < 0) = false := decide_eq_false hn0
    have ee1 := ev_szBag bag_w bag_rows (left - ((name.size : Nat) : Int)) (by omega) (by omega) (by simp_all [limCs, T.lim, rC, bC])
    by_cases hn1 : (left - ((name.size : Nat) : Int)) - ((szB ⟨bag_w, bag_rows⟩ : Nat) : Int) < 0
    · have hd1 : decide ((left - ((name.size : Nat) : Int)) - ((szB ⟨bag_w, bag_rows⟩ : Nat) : Int) < 0) = true := decide_eq_true hn1
      have el1 : left1 (left - ((name.size : Nat) : Int)) (szB ⟨bag_w, bag_rows⟩) = -1 := if_pos hn1
      have hm : decide ((-1 : Int) < 0) = true := rfl
      have hr : left1 left (szR ⟨name, ⟨bag_w, bag_rows⟩⟩) = -1 := left1_neg (by simp only [szR]; omega)
      (refine (evF_code (C := cfg) (g := 76) (fn := Tryz.f76) rfl Tryz.func76 rfl (by rw [Tryz.ntmps76]; simp) (by kernel_rfl) (by first | decide | simp [keysOf])).trans ?_; rw [Tryz.results76, Tryz.ntmps76])
      repeat' (first | with_reducible refine br_split (fun _ => ?_) (fun _ => ?_) | simp only [*, push_cast, Array.reduceGetElem?, Nat.reduceBEq, Nat.reduceLT, Nat.reduceAdd, Nat.reduceSub, Nat.reduceLeDiff, Nat.reduceMul, Nat.reduceEqDiff, reduceCtorEq, Int.reduceAdd, Int.reduceLT, Int.reduceLE, Int.reduceToNat, Int.reduceNeg, Int.reduceSub, Int.reduceBEq, Int.reduceBNe, Int.reduceGT, Int.reduceGE, Nat.reduceGT] | (rw [drawC_ok]; rotate_left; decide +kernel; exact cfg_mixed))
    · have hd1 : decide ((left - ((name.size : Nat) : Int)) - ((szB ⟨bag_w, bag_rows⟩ : Nat) : Int) < 0) = false := decide_eq_false hn1
      have el1 : left1 (left - ((name.size : Nat) : Int)) (szB ⟨bag_w, bag_rows⟩) = (left - ((name.size : Nat) : Int)) - ((szB ⟨bag_w, bag_rows⟩ : Nat) : Int) := if_neg hn1
      have hr : left1 left (szR ⟨name, ⟨bag_w, bag_rows⟩⟩) = ((left - ((name.size : Nat) : Int)) - ((szB ⟨bag_w, bag_rows⟩ : Nat) : Int)) := (left1_pos (by simp only [szR]; omega)).trans (by simp only [szR] <;> omega)
      (refine (evF_code (C := cfg) (g := 76) (fn := Tryz.f76) rfl Tryz.func76 rfl (by rw [Tryz.ntmps76]; simp) (by kernel_rfl) (by first | decide | simp [keysOf])).trans ?_; rw [Tryz.results76, Tryz.ntmps76])
      repeat' (first | with_reducible refine br_split (fun _ => ?_) (fun _ => ?_) | simp only [*, push_cast, Array.reduceGetElem?, Nat.reduceBEq, Nat.reduceLT, Nat.reduceAdd, Nat.reduceSub, Nat.reduceLeDiff, Nat.reduceMul, Nat.reduceEqDiff, reduceCtorEq, Int.reduceAdd, Int.reduceLT, Int.reduceLE, Int.reduceToNat, Int.reduceNeg, Int.reduceSub, Int.reduceBEq, Int.reduceBNe, Int.reduceGT, Int.reduceGE, Nat.reduceGT] | (rw [drawC_ok]; rotate_left; decide +kernel; exact cfg_mixed))

theorem ev_szRelS (l : List R) (left : Int) (h0 : 0 ≤ left) (h1 : left ≤ 1048576) (hlim : (T.sl .any (l.map rC)).lim) : evF cfg 35 [] [.d (.sl .any (l.map rC)), .d (.i .i64 left)] = some (.d (.i .i64 (left1 left (szRs l))), []) := by
  simp only [T.lim, List.length_map, limEs_map] at hlim
  obtain ⟨hl, hlm⟩ := hlim
  have hw0 : IntKind.i64.wrap (left - l.length) = left - l.length := i64_in (by omega) (by omega)
  by_cases hn : left - (l.length : Int) < 0
  · have hd0 : decide (left - (l.length : Int) < 0) = true := decide_eq_true hn
    have hr : left1 left (szRs l) = -1 := left1_neg (by simp only [szRs]; omega)
    (refine (evF_code (C := cfg) (g := 35) (fn := Tryz.f35) rfl Tryz.func35 rfl (by rw [Tryz.ntmps35]; simp) (by kernel_rfl) (by first | decide | simp [keysOf])).trans ?_; rw [Tryz.results35, Tryz.ntmps35])
    repeat' (first | with_reducible refine br_split (fun _ => ?_) (fun _ => ?_) | simp only [*, push_cast, Array.reduceGetElem?, Nat.reduceBEq, Nat.reduceLT, Nat.reduceAdd, Nat.reduceSub, Nat.reduceLeDiff, Nat.reduceMul, Nat.reduceEqDiff, reduceCtorEq, Int.reduceAdd, Int.reduceLT, Int.reduceLE, Int.reduceToNat, Int.reduceNeg, Int.reduceSub, Int.reduceBEq, Int.reduceBNe, Int.reduceGT, Int.reduceGE, Nat.reduceGT] | (rw [drawC_ok]; rotate_left; decide +kernel; exact cfg_mixed))
  · have hd0 : decide (left - (l.length : Int) < 0) = false := decide_eq_false hn
    (refine (evF_code (C := cfg) (g := 35) (fn := Tryz.f35) rfl Tryz.func35 rfl (by rw [Tryz.ntmps35]; simp) (by kernel_rfl) (by first | decide | simp [keysOf])).trans ?_; rw [Tryz.results35, Tryz.ntmps35])
    repeat' (first | with_reducible refine br_split (fun _ => ?_) (fun _ => ?_) | simp only [*, push_cast, Array.reduceGetElem?, Nat.reduceBEq, Nat.reduceLT, Nat.reduceAdd, Nat.reduceSub, Nat.reduceLeDiff, Nat.reduceMul, Nat.reduceEqDiff, reduceCtorEq, Int.reduceAdd, Int.reduceLT, Int.reduceLE, Int.reduceToNat, Int.reduceNeg, Int.reduceSub, Int.reduceBEq, Int.reduceBNe, Int.reduceGT, Int.reduceGE, Nat.reduceGT] | (rw [drawC_ok]; rotate_left; decide +kernel; exact cfg_mixed))
    rw [evM_for (α := {x : Int // 0 ≤ x ∧ x ≤ 1048576}) l.length (fun i j x => { t := [(0, .d (.sl .any (l.map rC))), (1, .d (.i .i64 x.1)), (5, .d (.i .i64 j))], o := [], ks := [], n := 0, sz := 27, u := noU })
      (fun i x => br (decide (x.1 - (((l.drop i).map szR).sum : Int) < 0)) (some (.ret, { t := [(4, .d (.i .i64 (-1)))], o := [], ks := [], n := 0, sz := 27, u := noU })) (some (.exit 0, { t := [(1, .d (.i .i64 (x.1 - (((l.drop i).map szR).sum : Int))))], o := [], ks := [], n := 0, sz := 27, u := noU })) ⟨⟩) ?step ?last ⟨left - l.length, by omega, by omega⟩]
    case step =>
      intro i x hi ih
      have hc : (l.map rC)[i]? = some [.s l[i].name, .i .i64 l[i].bag.w, .sl .any (l[i].bag.rows.map cC)] := get_map rC l i hi
      have hd := dec_lt hi
      have hw : IntKind.i64.wrap ((i : Int) + 1) = (i : Int) + 1 := i64_in (by omega) (by omega)
      have ee := ev_szRel l[i].name l[i].bag.w l[i].bag.rows x.1 x.2.1 x.2.2 (hlm _ (List.getElem_mem hi))
      have hx := x.2
      have h2 : x.1 - (((l.drop i).map szR).sum : Int) = x.1 - (szR l[i] : Int) - (((l.drop (i + 1)).map szR).sum : Int) := by rw [List.drop_eq_getElem_cons hi, List.map_cons, List.sum_cons]; omega
      rw [h2]
      by_cases hk : x.1 - (szR l[i] : Int) < 0
      · have e1 : left1 x.1 (szR l[i]) = -1 := if_pos hk
        have hd1 : decide ((-1 : Int) < 0) = true := rfl
        have hd2 : decide (x.1 - (szR l[i] : Int) - (((l.drop (i + 1)).map szR).sum : Int) < 0) = true := decide_eq_true (by omega)
        repeat' (first | with_reducible refine br_split (fun _ => ?_) (fun _ => ?_) | simp only [*, push_cast, Array.reduceGetElem?, Nat.reduceBEq, Nat.reduceLT, Nat.reduceAdd, Nat.reduceSub, Nat.reduceLeDiff, Nat.reduceMul, Nat.reduceEqDiff, reduceCtorEq, Int.reduceAdd, Int.reduceLT, Int.reduceLE, Int.reduceToNat, Int.reduceNeg, Int.reduceSub, Int.reduceBEq, Int.reduceBNe, Int.reduceGT, Int.reduceGE, Nat.reduceGT] | (rw [drawC_ok]; rotate_left; decide +kernel; exact cfg_mixed))
      · have e1 : left1 x.1 (szR l[i]) = x.1 - (szR l[i] : Int) := if_neg hk
        have hd1 : decide (x.1 - (szR l[i] : Int) < 0) = false := decide_eq_false hk
        have ih := ih ⟨x.1 - (szR l[i] : Int), by omega, by omega⟩
        clear h2
        repeat' (first | with_reducible refine br_split (fun _ => ?_) (fun _ => ?_) | simp only [*, push_cast, Array.reduceGetElem?, Nat.reduceBEq, Nat.reduceLT, Nat.reduceAdd, Nat.reduceSub, Nat.reduceLeDiff, Nat.reduceMul, Nat.reduceEqDiff, reduceCtorEq, Int.reduceAdd, Int.reduceLT, Int.reduceLE, Int.reduceToNat, Int.reduceNeg, Int.reduceSub, Int.reduceBEq, Int.reduceBNe, Int.reduceGT, Int.reduceGE, Nat.reduceGT] | (rw [drawC_ok]; rotate_left; decide +kernel; exact cfg_mixed))
    case last =>
      intro x
      have hx := x.2
      have h2 : x.1 - (((l.drop l.length).map szR).sum : Int) = x.1 := by simp
      have hd2 : decide (x.1 < 0) = false := decide_eq_false (by omega)
      rw [h2]
      repeat' (first | with_reducible refine br_split (fun _ => ?_) (fun _ => ?_) | simp only [*, push_cast, Array.reduceGetElem?, Nat.reduceBEq, Nat.reduceLT, Nat.reduceAdd, Nat.reduceSub, Nat.reduceLeDiff, Nat.reduceMul, Nat.reduceEqDiff, reduceCtorEq, Int.reduceAdd, Int.reduceLT, Int.reduceLE, Int.reduceToNat, Int.reduceNeg, Int.reduceSub, Int.reduceBEq, Int.reduceBNe, Int.reduceGT, Int.reduceGE, Nat.reduceGT] | (rw [drawC_ok]; rotate_left; decide +kernel; exact cfg_mixed))
    · by_cases hk : left - (l.length : Int) - ((l.map szR).sum : Int) < 0
      · have hd2 := decide_eq_true hk
        have hr : left1 left (szRs l) = -1 := left1_neg (by simp only [szRs]; omega)
        repeat' (first | with_reducible refine br_split (fun _ => ?_) (fun _ => ?_) | simp only [*, push_cast, Array.reduceGetElem?, Nat.reduceBEq, Nat.reduceLT, Nat.reduceAdd, Nat.reduceSub, Nat.reduceLeDiff, Nat.reduceMul, Nat.reduceEqDiff, reduceCtorEq, Int.reduceAdd, Int.reduceLT, Int.reduceLE, Int.reduceToNat, Int.reduceNeg, Int.reduceSub, Int.reduceBEq, Int.reduceBNe, Int.reduceGT, Int.reduceGE, Nat.reduceGT] | (rw [drawC_ok]; rotate_left; decide +kernel; exact cfg_mixed))
      · have hd2 := decide_eq_false hk
        have hr : left1 left (szRs l) = left - (l.length : Int) - ((l.map szR).sum : Int) := (left1_pos (by simp only [szRs]; omega)).trans (by simp only [szRs]; omega)
        repeat' (first | with_reducible refine br_split (fun _ => ?_) (fun _ => ?_) | simp only [*, push_cast, Array.reduceGetElem?, Nat.reduceBEq, Nat.reduceLT, Nat.reduceAdd, Nat.reduceSub, Nat.reduceLeDiff, Nat.reduceMul, Nat.reduceEqDiff, reduceCtorEq, Int.reduceAdd, Int.reduceLT, Int.reduceLE, Int.reduceToNat, Int.reduceNeg, Int.reduceSub, Int.reduceBEq, Int.reduceBNe, Int.reduceGT, Int.reduceGE, Nat.reduceGT] | (rw [drawC_ok]; rotate_left; decide +kernel; exact cfg_mixed))

theorem ev_eqValueS (l m : List V) (hlim : (T.sl .any (l.map vC)).lim) : evF cfg 170 [] [.d (.sl .any (l.map vC)), .d (.sl .any (m.map vC))] = some (.d (.b (decide (l = m))), []) := by
  simp only [T.lim, List.length_map, limEs_map] at hlim
  obtain ⟨hl, hlm0⟩ := hlim
  by_cases hlm : m.length = l.length
  · have hd0 : (((l.length : Int) != (m.length : Int))) = false := by simp [hlm]
    (refine (evF_code (C := cfg) (g := 170) (fn := Tryz.f170) rfl Tryz.func170 rfl (by rw [Tryz.ntmps170]; simp) (by kernel_rfl) (by first | decide | simp [keysOf])).trans ?_; rw [Tryz.results170, Tryz.ntmps170])
    repeat' (first | with_reducible refine br_split (fun _ => ?_) (fun _ => ?_) | simp only [*, push_cast, Array.reduceGetElem?, Nat.reduceBEq, Nat.reduceLT, Nat.reduceAdd, Nat.reduceSub, Nat.reduceLeDiff, Nat.reduceMul, Nat.reduceEqDiff, reduceCtorEq, Int.reduceAdd, Int.reduceLT, Int.reduceLE, Int.reduceToNat, Int.reduceNeg, Int.reduceSub, Int.reduceBEq, Int.reduceBNe, Int.reduceGT, Int.reduceGE, Nat.reduceGT] | (rw [drawC_ok]; rotate_left; decide +kernel; exact cfg_mixed))
    rw [evM_for0 l.length (fun i j => { t := [(0, .d (.sl .any (l.map vC))), (1, .d (.sl .any (m.map vC))), (5, .d (.i .i64 j))], o := [], ks := [], n := 0, sz := 27, u := noU })
      (fun i => br (decide (l.drop i = m.drop i)) (some (.exit 0, { t := [], o := [], ks := [], n := 0, sz := 27, u := noU })) (some (.ret, { t := [(4, .d (.b false))], o := [], ks := [], n := 0, sz := 27, u := noU })) ⟨⟩) ?step ?last]
    case step =>
      intro i hi ih
      have hi2 : i < m.length := by omega
      have hc : (l.map vC)[i]? = some [.i .i64 l[i].k, .i .i64 l[i].n, .s l[i].s] := get_map vC l i hi
      have hc2 : (m.map vC)[i]? = some [.i .i64 m[i].k, .i .i64 m[i].n, .s m[i].s] := get_map vC m i hi2
      have hd := dec_lt hi
      have hw : IntKind.i64.wrap ((i : Int) + 1) = (i : Int) + 1 := i64_in (by omega) (by omega)
      rw [List.drop_eq_getElem_cons hi, List.drop_eq_getElem_cons hi2]
      by_cases he : l[i] = m[i]
      · have h1 := dec_cons_t (l := l.drop (i + 1)) (m := m.drop (i + 1)) he
        have h3 : decide (l[i] = m[i]) = true := by simp [he]
        rw [h1]
        clear h1 he
        repeat' (first | with_reducible refine br_split (fun _ => ?_) (fun _ => ?_) | simp only [*, push_cast, Array.reduceGetElem?, Nat.reduceBEq, Nat.reduceLT, Nat.reduceAdd, Nat.reduceSub, Nat.reduceLeDiff, Nat.reduceMul, Nat.reduceEqDiff, reduceCtorEq, Int.reduceAdd, Int.reduceLT, Int.reduceLE, Int.reduceToNat, Int.reduceNeg, Int.reduceSub, Int.reduceBEq, Int.reduceBNe, Int.reduceGT, Int.reduceGE, Nat.reduceGT] | (rw [drawC_ok]; rotate_left; decide +kernel; exact cfg_mixed))
      · have h1 := dec_cons_f (l := l.drop (i + 1)) (m := m.drop (i + 1)) he
        have h3 : decide (l[i] = m[i]) = false := by simp [he]
        rw [h1]
        clear h1 he
        repeat' (first | with_reducible refine br_split (fun _ => ?_) (fun _ => ?_) | simp only [*, push_cast, Array.reduceGetElem?, Nat.reduceBEq, Nat.reduceLT, Nat.reduceAdd, Nat.reduceSub, Nat.reduceLeDiff, Nat.reduceMul, Nat.reduceEqDiff, reduceCtorEq, Int.reduceAdd, Int.reduceLT, Int.reduceLE, Int.reduceToNat, Int.reduceNeg, Int.reduceSub, Int.reduceBEq, Int.reduceBNe, Int.reduceGT, Int.reduceGE, Nat.reduceGT] | (rw [drawC_ok]; rotate_left; decide +kernel; exact cfg_mixed))
    case last =>
      have h1 : m.drop l.length = [] := by rw [← hlm]; simp
      have hdl : l.drop l.length = [] := by simp
      rw [h1, hdl]
      repeat' (first | with_reducible refine br_split (fun _ => ?_) (fun _ => ?_) | simp only [*, push_cast, Array.reduceGetElem?, Nat.reduceBEq, Nat.reduceLT, Nat.reduceAdd, Nat.reduceSub, Nat.reduceLeDiff, Nat.reduceMul, Nat.reduceEqDiff, reduceCtorEq, Int.reduceAdd, Int.reduceLT, Int.reduceLE, Int.reduceToNat, Int.reduceNeg, Int.reduceSub, Int.reduceBEq, Int.reduceBNe, Int.reduceGT, Int.reduceGE, Nat.reduceGT] | (rw [drawC_ok]; rotate_left; decide +kernel; exact cfg_mixed))
    · repeat' (first | with_reducible refine br_split (fun _ => ?_) (fun _ => ?_) | simp only [*, push_cast, Array.reduceGetElem?, Nat.reduceBEq, Nat.reduceLT, Nat.reduceAdd, Nat.reduceSub, Nat.reduceLeDiff, Nat.reduceMul, Nat.reduceEqDiff, reduceCtorEq, Int.reduceAdd, Int.reduceLT, Int.reduceLE, Int.reduceToNat, Int.reduceNeg, Int.reduceSub, Int.reduceBEq, Int.reduceBNe, Int.reduceGT, Int.reduceGE, Nat.reduceGT] | (rw [drawC_ok]; rotate_left; decide +kernel; exact cfg_mixed))
  · have hd0 : (((l.length : Int) != (m.length : Int))) = true := by simp; omega
    have hne : decide (l = m) = false := decide_eq_false (fun e => hlm (by rw [e]))
    (refine (evF_code (C := cfg) (g := 170) (fn := Tryz.f170) rfl Tryz.func170 rfl (by rw [Tryz.ntmps170]; simp) (by kernel_rfl) (by first | decide | simp [keysOf])).trans ?_; rw [Tryz.results170, Tryz.ntmps170])
    repeat' (first | with_reducible refine br_split (fun _ => ?_) (fun _ => ?_) | simp only [*, push_cast, Array.reduceGetElem?, Nat.reduceBEq, Nat.reduceLT, Nat.reduceAdd, Nat.reduceSub, Nat.reduceLeDiff, Nat.reduceMul, Nat.reduceEqDiff, reduceCtorEq, Int.reduceAdd, Int.reduceLT, Int.reduceLE, Int.reduceToNat, Int.reduceNeg, Int.reduceSub, Int.reduceBEq, Int.reduceBNe, Int.reduceGT, Int.reduceGE, Nat.reduceGT] | (rw [drawC_ok]; rotate_left; decide +kernel; exact cfg_mixed))

theorem ev_eqCounted (row : List V) (n : Int) (y_row : List V) (y_n : Int) (hlim : limCs (cC ⟨row, n⟩)) : evF cfg 152 [] [.agg [.d (.sl .any (row.map vC)), .d (.i .i64 n)], .agg [.d (.sl .any (y_row.map vC)), .d (.i .i64 y_n)]] = some (.d (.b (decide ((⟨row, n⟩ : C) = ⟨y_row, y_n⟩))), []) := by
  simp only [cC, limCs, limEs_map, T.lim] at hlim
  have erow := ev_eqValueS row y_row (by simp_all [limCs, T.lim, limEs_map])
  (refine (evF_code (C := cfg) (g := 152) (fn := Tryz.f152) rfl Tryz.func152 rfl (by rw [Tryz.ntmps152]; simp) (by kernel_rfl) (by first | decide | simp [keysOf])).trans ?_; rw [Tryz.results152, Tryz.ntmps152])
  repeat' (first | with_reducible refine br_split (fun _ => ?_) (fun _ => ?_) | simp only [*, push_cast, Array.reduceGetElem?, Nat.reduceBEq, Nat.reduceLT, Nat.reduceAdd, Nat.reduceSub, Nat.reduceLeDiff, Nat.reduceMul, Nat.reduceEqDiff, reduceCtorEq, Int.reduceAdd, Int.reduceLT, Int.reduceLE, Int.reduceToNat, Int.reduceNeg, Int.reduceSub, Int.reduceBEq, Int.reduceBNe, Int.reduceGT, Int.reduceGE, Nat.reduceGT] | (rw [drawC_ok]; rotate_left; decide +kernel; exact cfg_mixed))
  all_goals simp_all

theorem ev_eqCountedS (l m : List C) (hlim : (T.sl .any (l.map cC)).lim) : evF cfg 137 [] [.d (.sl .any (l.map cC)), .d (.sl .any (m.map cC))] = some (.d (.b (decide (l = m))), []) := by
  simp only [T.lim, List.length_map, limEs_map] at hlim
  obtain ⟨hl, hlm0⟩ := hlim
  by_cases hlm : m.length = l.length
  · have hd0 : (((l.length : Int) != (m.length : Int))) = false := by simp [hlm]
    (refine (evF_code (C := cfg) (g := 137) (fn := Tryz.f137) rfl Tryz.func137 rfl (by rw [Tryz.ntmps137]; simp) (by kernel_rfl) (by first | decide | simp [keysOf])).trans ?_; rw [Tryz.results137, Tryz.ntmps137])
    repeat' (first | with_reducible refine br_split (fun _ => ?_) (fun _ => ?_) | simp only [*, push_cast, Array.reduceGetElem?, Nat.reduceBEq, Nat.reduceLT, Nat.reduceAdd, Nat.reduceSub, Nat.reduceLeDiff, Nat.reduceMul, Nat.reduceEqDiff, reduceCtorEq, Int.reduceAdd, Int.reduceLT, Int.reduceLE, Int.reduceToNat, Int.reduceNeg, Int.reduceSub, Int.reduceBEq, Int.reduceBNe, Int.reduceGT, Int.reduceGE, Nat.reduceGT] | (rw [drawC_ok]; rotate_left; decide +kernel; exact cfg_mixed))
    rw [evM_for0 l.length (fun i j => { t := [(0, .d (.sl .any (l.map cC))), (1, .d (.sl .any (m.map cC))), (5, .d (.i .i64 j))], o := [], ks := [], n := 0, sz := 27, u := noU })
      (fun i => br (decide (l.drop i = m.drop i)) (some (.exit 0, { t := [], o := [], ks := [], n := 0, sz := 27, u := noU })) (some (.ret, { t := [(4, .d (.b false))], o := [], ks := [], n := 0, sz := 27, u := noU })) ⟨⟩) ?step ?last]
    case step =>
      intro i hi ih
      have hi2 : i < m.length := by omega
      have hc : (l.map cC)[i]? = some [.sl .any (l[i].row.map vC), .i .i64 l[i].n] := get_map cC l i hi
      have hc2 : (m.map cC)[i]? = some [.sl .any (m[i].row.map vC), .i .i64 m[i].n] := get_map cC m i hi2
      have hd := dec_lt hi
      have hw : IntKind.i64.wrap ((i : Int) + 1) = (i : Int) + 1 := i64_in (by omega) (by omega)
      rw [List.drop_eq_getElem_cons hi, List.drop_eq_getElem_cons hi2]
      have ee := ev_eqCounted l[i].row l[i].n m[i].row m[i].n (hlm0 _ (List.getElem_mem hi))
      by_cases he : l[i] = m[i]
      · have h1 := dec_cons_t (l := l.drop (i + 1)) (m := m.drop (i + 1)) he
        have h3 : decide (l[i] = m[i]) = true := by simp [he]
        rw [h1]
        clear h1 he
        repeat' (first | with_reducible refine br_split (fun _ => ?_) (fun _ => ?_) | simp only [*, push_cast, Array.reduceGetElem?, Nat.reduceBEq, Nat.reduceLT, Nat.reduceAdd, Nat.reduceSub, Nat.reduceLeDiff, Nat.reduceMul, Nat.reduceEqDiff, reduceCtorEq, Int.reduceAdd, Int.reduceLT, Int.reduceLE, Int.reduceToNat, Int.reduceNeg, Int.reduceSub, Int.reduceBEq, Int.reduceBNe, Int.reduceGT, Int.reduceGE, Nat.reduceGT] | (rw [drawC_ok]; rotate_left; decide +kernel; exact cfg_mixed))
      · have h1 := dec_cons_f (l := l.drop (i + 1)) (m := m.drop (i + 1)) he
        have h3 : decide (l[i] = m[i]) = false := by simp [he]
        rw [h1]
        clear h1 he
        repeat' (first | with_reducible refine br_split (fun _ => ?_) (fun _ => ?_) | simp only [*, push_cast, Array.reduceGetElem?, Nat.reduceBEq, Nat.reduceLT, Nat.reduceAdd, Nat.reduceSub, Nat.reduceLeDiff, Nat.reduceMul, Nat.reduceEqDiff, reduceCtorEq, Int.reduceAdd, Int.reduceLT, Int.reduceLE, Int.reduceToNat, Int.reduceNeg, Int.reduceSub, Int.reduceBEq, Int.reduceBNe, Int.reduceGT, Int.reduceGE, Nat.reduceGT] | (rw [drawC_ok]; rotate_left; decide +kernel; exact cfg_mixed))
    case last =>
      have h1 : m.drop l.length = [] := by rw [← hlm]; simp
      have hdl : l.drop l.length = [] := by simp
      rw [h1, hdl]
      repeat' (first | with_reducible refine br_split (fun _ => ?_) (fun _ => ?_) | simp only [*, push_cast, Array.reduceGetElem?, Nat.reduceBEq, Nat.reduceLT, Nat.reduceAdd, Nat.reduceSub, Nat.reduceLeDiff, Nat.reduceMul, Nat.reduceEqDiff, reduceCtorEq, Int.reduceAdd, Int.reduceLT, Int.reduceLE, Int.reduceToNat, Int.reduceNeg, Int.reduceSub, Int.reduceBEq, Int.reduceBNe, Int.reduceGT, Int.reduceGE, Nat.reduceGT] | (rw [drawC_ok]; rotate_left; decide +kernel; exact cfg_mixed))
    · repeat' (first | with_reducible refine br_split (fun _ => ?_) (fun _ => ?_) | simp only [*, push_cast, Array.reduceGetElem?, Nat.reduceBEq, Nat.reduceLT, Nat.reduceAdd, Nat.reduceSub, Nat.reduceLeDiff, Nat.reduceMul, Nat.reduceEqDiff, reduceCtorEq, Int.reduceAdd, Int.reduceLT, Int.reduceLE, Int.reduceToNat, Int.reduceNeg, Int.reduceSub, Int.reduceBEq, Int.reduceBNe, Int.reduceGT, Int.reduceGE, Nat.reduceGT] | (rw [drawC_ok]; rotate_left; decide +kernel; exact cfg_mixed))
  · have hd0 : (((l.length : Int) != (m.length : Int))) = true := by simp; omega
    have hne : decide (l = m) = false := decide_eq_false (fun e => hlm (by rw [e]))
    (refine (evF_code (C := cfg) (g := 137) (fn := Tryz.f137) rfl Tryz.func137 rfl (by rw [Tryz.ntmps137]; simp) (by kernel_rfl) (by first | decide | simp [keysOf])).trans ?_; rw [Tryz.results137, Tryz.ntmps137])
    repeat' (first | with_reducible refine br_split (fun _ => ?_) (fun _ => ?_) | simp only [*, push_cast, Array.reduceGetElem?, Nat.reduceBEq, Nat.reduceLT, Nat.reduceAdd, Nat.reduceSub, Nat.reduceLeDiff, Nat.reduceMul, Nat.reduceEqDiff, reduceCtorEq, Int.reduceAdd, Int.reduceLT, Int.reduceLE, Int.reduceToNat, Int.reduceNeg, Int.reduceSub, Int.reduceBEq, Int.reduceBNe, Int.reduceGT, Int.reduceGE, Nat.reduceGT] | (rw [drawC_ok]; rotate_left; decide +kernel; exact cfg_mixed))

theorem ev_eqBag (w : Int) (rows : List C) (y_w : Int) (y_rows : List C) (hlim : limCs (bC ⟨w, rows⟩)) : evF cfg 114 [] [.agg [.d (.i .i64 w), .d (.sl .any (rows.map cC))], .agg [.d (.i .i64 y_w), .d (.sl .any (y_rows.map cC))]] = some (.d (.b (decide ((⟨w, rows⟩ : B) = ⟨y_w, y_rows⟩))), []) := by
  simp only [bC, limCs, limEs_map, T.lim] at hlim
  have erows := ev_eqCountedS rows y_rows (by simp_all [limCs, T.lim, limEs_map])
  (refine (evF_code (C := cfg) (g := 114) (fn := Tryz.f114) rfl Tryz.func114 rfl (by rw [Tryz.ntmps114]; simp) (by kernel_rfl) (by first | decide | simp [keysOf])).trans ?_; rw [Tryz.results114, Tryz.ntmps114])
  repeat' (first | with_reducible refine br_split (fun _ => ?_) (fun _ => ?_) | simp only [*, push_cast, Array.reduceGetElem?, Nat.reduceBEq, Nat.reduceLT, Nat.reduceAdd, Nat.reduceSub, Nat.reduceLeDiff, Nat.reduceMul, Nat.reduceEqDiff, reduceCtorEq, Int.reduceAdd, Int.reduceLT, Int.reduceLE, Int.reduceToNat, Int.reduceNeg, Int.reduceSub, Int.reduceBEq, Int.reduceBNe, Int.reduceGT, Int.reduceGE, Nat.reduceGT] | (rw [drawC_ok]; rotate_left; decide +kernel; exact cfg_mixed))
  all_goals simp_all

theorem ev_eqRel (name : ByteArray) (bag_w : Int) (bag_rows : List C) (y_name : ByteArray) (y_bag_w : Int) (y_bag_rows : List C) (hlim : limCs (rC ⟨name, ⟨bag_w, bag_rows⟩⟩)) : evF cfg 84 [] [.agg [.d (.s name), .d (.i .i64 bag_w), .d (.sl .any (bag_rows.map cC))], .agg [.d (.s y_name), .d (.i .i64 y_bag_w), .d (.sl .any (y_bag_rows.map cC))]] = some (.d (.b (decide ((⟨name, ⟨bag_w, bag_rows⟩⟩ : R) = ⟨y_name, ⟨y_bag_w, y_bag_rows⟩⟩))), []) := by
  simp only [rC, limCs, limEs_map, T.lim] at hlim
  have ebag := ev_eqBag bag_w bag_rows y_bag_w y_bag_rows (by simp_all [bC, limCs, T.lim, limEs_map])
  (refine (evF_code (C := cfg) (g := 84) (fn := Tryz.f84) rfl Tryz.func84 rfl (by rw [Tryz.ntmps84]; simp) (by kernel_rfl) (by first | decide | simp [keysOf])).trans ?_; rw [Tryz.results84, Tryz.ntmps84])
  repeat' (first | with_reducible refine br_split (fun _ => ?_) (fun _ => ?_) | simp only [*, push_cast, Array.reduceGetElem?, Nat.reduceBEq, Nat.reduceLT, Nat.reduceAdd, Nat.reduceSub, Nat.reduceLeDiff, Nat.reduceMul, Nat.reduceEqDiff, reduceCtorEq, Int.reduceAdd, Int.reduceLT, Int.reduceLE, Int.reduceToNat, Int.reduceNeg, Int.reduceSub, Int.reduceBEq, Int.reduceBNe, Int.reduceGT, Int.reduceGE, Nat.reduceGT] | (rw [drawC_ok]; rotate_left; decide +kernel; exact cfg_mixed))
  all_goals simp_all

theorem ev_eqRelS (l m : List R) (hlim : (T.sl .any (l.map rC)).lim) : evF cfg 45 [] [.d (.sl .any (l.map rC)), .d (.sl .any (m.map rC))] = some (.d (.b (decide (l = m))), []) := by
  simp only [T.lim, List.length_map, limEs_map] at hlim
  obtain ⟨hl, hlm0⟩ := hlim
  by_cases hlm : m.length = l.length
  · have hd0 : (((l.length : Int) != (m.length : Int))) = false := by simp [hlm]
    (refine (evF_code (C := cfg) (g := 45) (fn := Tryz.f45) rfl Tryz.func45 rfl (by rw [Tryz.ntmps45]; simp) (by kernel_rfl) (by first | decide | simp [keysOf])).trans ?_; rw [Tryz.results45, Tryz.ntmps45])
    repeat' (first | with_reducible refine br_split (fun _ => ?_) (fun _ => ?_) | simp only [*, push_cast, Array.reduceGetElem?, Nat.reduceBEq, Nat.reduceLT, Nat.reduceAdd, Nat.reduceSub, Nat.reduceLeDiff, Nat.reduceMul, Nat.reduceEqDiff, reduceCtorEq, Int.reduceAdd, Int.reduceLT, Int.reduceLE, Int.reduceToNat, Int.reduceNeg, Int.reduceSub, Int.reduceBEq, Int.reduceBNe, Int.reduceGT, Int.reduceGE, Nat.reduceGT] | (rw [drawC_ok]; rotate_left; decide +kernel; exact cfg_mixed))
    rw [evM_for0 l.length (fun i j => { t := [(0, .d (.sl .any (l.map rC))), (1, .d (.sl .any (m.map rC))), (5, .d (.i .i64 j))], o := [], ks := [], n := 0, sz := 27, u := noU })
      (fun i => br (decide (l.drop i = m.drop i)) (some (.exit 0, { t := [], o := [], ks := [], n := 0, sz := 27, u := noU })) (some (.ret, { t := [(4, .d (.b false))], o := [], ks := [], n := 0, sz := 27, u := noU })) ⟨⟩) ?step ?last]
    case step =>
      intro i hi ih
      have hi2 : i < m.length := by omega
      have hc : (l.map rC)[i]? = some [.s l[i].name, .i .i64 l[i].bag.w, .sl .any (l[i].bag.rows.map cC)] := get_map rC l i hi
      have hc2 : (m.map rC)[i]? = some [.s m[i].name, .i .i64 m[i].bag.w, .sl .any (m[i].bag.rows.map cC)] := get_map rC m i hi2
      have hd := dec_lt hi
      have hw : IntKind.i64.wrap ((i : Int) + 1) = (i : Int) + 1 := i64_in (by omega) (by omega)
      rw [List.drop_eq_getElem_cons hi, List.drop_eq_getElem_cons hi2]
      have ee := ev_eqRel l[i].name l[i].bag.w l[i].bag.rows m[i].name m[i].bag.w m[i].bag.rows (hlm0 _ (List.getElem_mem hi))
      by_cases he : l[i] = m[i]
      · have h1 := dec_cons_t (l := l.drop (i + 1)) (m := m.drop (i + 1)) he
        have h3 : decide (l[i] = m[i]) = true := by simp [he]
        rw [h1]
        clear h1 he
        repeat' (first | with_reducible refine br_split (fun _ => ?_) (fun _ => ?_) | simp only [*, push_cast, Array.reduceGetElem?, Nat.reduceBEq, Nat.reduceLT, Nat.reduceAdd, Nat.reduceSub, Nat.reduceLeDiff, Nat.reduceMul, Nat.reduceEqDiff, reduceCtorEq, Int.reduceAdd, Int.reduceLT, Int.reduceLE, Int.reduceToNat, Int.reduceNeg, Int.reduceSub, Int.reduceBEq, Int.reduceBNe, Int.reduceGT, Int.reduceGE, Nat.reduceGT] | (rw [drawC_ok]; rotate_left; decide +kernel; exact cfg_mixed))
      · have h1 := dec_cons_f (l := l.drop (i + 1)) (m := m.drop (i + 1)) he
        have h3 : decide (l[i] = m[i]) = false := by simp [he]
        rw [h1]
        clear h1 he
        repeat' (first | with_reducible refine br_split (fun _ => ?_) (fun _ => ?_) | simp only [*, push_cast, Array.reduceGetElem?, Nat.reduceBEq, Nat.reduceLT, Nat.reduceAdd, Nat.reduceSub, Nat.reduceLeDiff, Nat.reduceMul, Nat.reduceEqDiff, reduceCtorEq, Int.reduceAdd, Int.reduceLT, Int.reduceLE, Int.reduceToNat, Int.reduceNeg, Int.reduceSub, Int.reduceBEq, Int.reduceBNe, Int.reduceGT, Int.reduceGE, Nat.reduceGT] | (rw [drawC_ok]; rotate_left; decide +kernel; exact cfg_mixed))
    case last =>
      have h1 : m.drop l.length = [] := by rw [← hlm]; simp
      have hdl : l.drop l.length = [] := by simp
      rw [h1, hdl]
      repeat' (first | with_reducible refine br_split (fun _ => ?_) (fun _ => ?_) | simp only [*, push_cast, Array.reduceGetElem?, Nat.reduceBEq, Nat.reduceLT, Nat.reduceAdd, Nat.reduceSub, Nat.reduceLeDiff, Nat.reduceMul, Nat.reduceEqDiff, reduceCtorEq, Int.reduceAdd, Int.reduceLT, Int.reduceLE, Int.reduceToNat, Int.reduceNeg, Int.reduceSub, Int.reduceBEq, Int.reduceBNe, Int.reduceGT, Int.reduceGE, Nat.reduceGT] | (rw [drawC_ok]; rotate_left; decide +kernel; exact cfg_mixed))
    · repeat' (first | with_reducible refine br_split (fun _ => ?_) (fun _ => ?_) | simp only [*, push_cast, Array.reduceGetElem?, Nat.reduceBEq, Nat.reduceLT, Nat.reduceAdd, Nat.reduceSub, Nat.reduceLeDiff, Nat.reduceMul, Nat.reduceEqDiff, reduceCtorEq, Int.reduceAdd, Int.reduceLT, Int.reduceLE, Int.reduceToNat, Int.reduceNeg, Int.reduceSub, Int.reduceBEq, Int.reduceBNe, Int.reduceGT, Int.reduceGE, Nat.reduceGT] | (rw [drawC_ok]; rotate_left; decide +kernel; exact cfg_mixed))
  · have hd0 : (((l.length : Int) != (m.length : Int))) = true := by simp; omega
    have hne : decide (l = m) = false := decide_eq_false (fun e => hlm (by rw [e]))
    (refine (evF_code (C := cfg) (g := 45) (fn := Tryz.f45) rfl Tryz.func45 rfl (by rw [Tryz.ntmps45]; simp) (by kernel_rfl) (by first | decide | simp [keysOf])).trans ?_; rw [Tryz.results45, Tryz.ntmps45])
    repeat' (first | with_reducible refine br_split (fun _ => ?_) (fun _ => ?_) | simp only [*, push_cast, Array.reduceGetElem?, Nat.reduceBEq, Nat.reduceLT, Nat.reduceAdd, Nat.reduceSub, Nat.reduceLeDiff, Nat.reduceMul, Nat.reduceEqDiff, reduceCtorEq, Int.reduceAdd, Int.reduceLT, Int.reduceLE, Int.reduceToNat, Int.reduceNeg, Int.reduceSub, Int.reduceBEq, Int.reduceBNe, Int.reduceGT, Int.reduceGE, Nat.reduceGT] | (rw [drawC_ok]; rotate_left; decide +kernel; exact cfg_mixed))

end Go.Av
end

section
namespace Go.Av
open Go.Proofs
set_option linter.unusedSimpArgs false

theorem ev_IndexFuncValue_A0 {h : FuncId} {p : V → Bool} (l : List V) (hl : l.length ≤ 1099511627776) (hp : ∀ x ∈ l, evF cfg 146 [(0, .box [.clo h []])] [.agg [.d (.i .i64 x.k), .d (.i .i64 x.n), .d (.s x.s)], .ptr 0 0] = some (.d (.b (p x)), [(0, .box [.clo h []])])) :
    evF cfg 165 [(0, .box [.clo h []])] [.d (.sl .any (l.map vC)), .clo 146 [.ptr 0 0]] = some (.d (.i .i64 (idxOf p l)), [(0, .box [.clo h []])]) := by
  (refine (evF_code (C := cfg) (g := 165) (fn := Tryz.f165) rfl Tryz.func165 rfl (by rw [Tryz.ntmps165]; simp) (by kernel_rfl) (by first | decide | simp [keysOf])).trans ?_; rw [Tryz.results165, Tryz.ntmps165])
  repeat' (first | with_reducible refine br_split (fun _ => ?_) (fun _ => ?_) | simp only [*, push_cast, Array.reduceGetElem?, Nat.reduceBEq, Nat.reduceLT, Nat.reduceAdd, Nat.reduceSub, Nat.reduceLeDiff, Nat.reduceMul, Nat.reduceEqDiff, reduceCtorEq, Int.reduceAdd, Int.reduceLT, Int.reduceLE, Int.reduceToNat, Int.reduceNeg, Int.reduceSub, Int.reduceBEq, Int.reduceBNe, Int.reduceGT, Int.reduceGE, Nat.reduceGT] | (rw [drawC_ok]; rotate_left; decide +kernel; exact cfg_mixed))
  rw [evM_for0 l.length (fun i j => { t := [(0, .d (.sl .any (l.map vC))), (1, .clo 146 [.ptr 0 0]), (7, .d (.i .i64 l.length)), (8, .d (.i .i64 j))], o := [(0, .box [.clo h []])], ks := [0], n := 0, sz := 19, u := noU })
    (fun i => br ((l.drop i).any p) (some (.ret, { t := [(4, .d (.i .i64 (i + (l.drop i).findIdx p : Nat)))], o := [(0, .box [.clo h []])], ks := [0], n := 0, sz := 19, u := noU })) (some (.exit 0, { t := [], o := [(0, .box [.clo h []])], ks := [0], n := 0, sz := 19, u := noU })) ⟨⟩) ?step ?last]
  case step =>
    intro i hi ih
    have hc : (l.map vC)[i]? = some [.i .i64 l[i].k, .i .i64 l[i].n, .s l[i].s] := get_map vC l i hi
    have hd := dec_lt hi
    have hw : IntKind.i64.wrap ((i : Int) + 1) = (i : Int) + 1 := wrap_succ (by omega)
    have he := hp _ (List.getElem_mem hi)
    have hx := List.drop_eq_getElem_cons hi
    cases hpi : p l[i] with
    | true =>
      have h1 : (l.drop i).any p = true := by rw [hx, List.any_cons, hpi, Bool.true_or]
      have h2 : (l.drop i).findIdx p = 0 := by rw [hx, List.findIdx_cons, hpi]; rfl
      rw [h1, h2]
      clear hx h1 h2
      repeat' (first | with_reducible refine br_split (fun _ => ?_) (fun _ => ?_) | simp only [*, push_cast, Array.reduceGetElem?, Nat.reduceBEq, Nat.reduceLT, Nat.reduceAdd, Nat.reduceSub, Nat.reduceLeDiff, Nat.reduceMul, Nat.reduceEqDiff, reduceCtorEq, Int.reduceAdd, Int.reduceLT, Int.reduceLE, Int.reduceToNat, Int.reduceNeg, Int.reduceSub, Int.reduceBEq, Int.reduceBNe, Int.reduceGT, Int.reduceGE, Nat.reduceGT] | (rw [drawC_ok]; rotate_left; decide +kernel; exact cfg_mixed))
    | false =>
      have h1 : (l.drop i).any p = (l.drop (i + 1)).any p := by rw [hx, List.any_cons, hpi, Bool.false_or]
      have h2 : i + (l.drop i).findIdx p = i + 1 + (l.drop (i + 1)).findIdx p := by rw [hx, List.findIdx_cons, hpi, cond_false]; omega
      rw [h1, h2]
      clear hx h1 h2
      repeat' (first | with_reducible refine br_split (fun _ => ?_) (fun _ => ?_) | simp only [*, push_cast, Array.reduceGetElem?, Nat.reduceBEq, Nat.reduceLT, Nat.reduceAdd, Nat.reduceSub, Nat.reduceLeDiff, Nat.reduceMul, Nat.reduceEqDiff, reduceCtorEq, Int.reduceAdd, Int.reduceLT, Int.reduceLE, Int.reduceToNat, Int.reduceNeg, Int.reduceSub, Int.reduceBEq, Int.reduceBNe, Int.reduceGT, Int.reduceGE, Nat.reduceGT] | (rw [drawC_ok]; rotate_left; decide +kernel; exact cfg_mixed))
  case last =>
    rw [List.drop_length, List.any_nil]
    repeat' (first | with_reducible refine br_split (fun _ => ?_) (fun _ => ?_) | simp only [*, push_cast, Array.reduceGetElem?, Nat.reduceBEq, Nat.reduceLT, Nat.reduceAdd, Nat.reduceSub, Nat.reduceLeDiff, Nat.reduceMul, Nat.reduceEqDiff, reduceCtorEq, Int.reduceAdd, Int.reduceLT, Int.reduceLE, Int.reduceToNat, Int.reduceNeg, Int.reduceSub, Int.reduceBEq, Int.reduceBNe, Int.reduceGT, Int.reduceGE, Nat.reduceGT] | (rw [drawC_ok]; rotate_left; decide +kernel; exact cfg_mixed))
  · unfold idxOf
    rw [List.drop_zero, Nat.zero_add]
    cases l.any p <;> repeat' (first | with_reducible refine br_split (fun _ => ?_) (fun _ => ?_) | simp only [*, push_cast, Array.reduceGetElem?, Nat.reduceBEq, Nat.reduceLT, Nat.reduceAdd, Nat.reduceSub, Nat.reduceLeDiff, Nat.reduceMul, Nat.reduceEqDiff, reduceCtorEq, Int.reduceAdd, Int.reduceLT, Int.reduceLE, Int.reduceToNat, Int.reduceNeg, Int.reduceSub, Int.reduceBEq, Int.reduceBNe, Int.reduceGT, Int.reduceGE, Nat.reduceGT] | (rw [drawC_ok]; rotate_left; decide +kernel; exact cfg_mixed))
theorem ev_ContainsFuncValue_A0 {h : FuncId} {p : V → Bool} (l : List V) (hl : l.length ≤ 1099511627776) (hp : ∀ x ∈ l, evF cfg 146 [(0, .box [.clo h []])] [.agg [.d (.i .i64 x.k), .d (.i .i64 x.n), .d (.s x.s)], .ptr 0 0] = some (.d (.b (p x)), [(0, .box [.clo h []])])) :
    evF cfg 145 [(0, .box [.clo h []])] [.d (.sl .any (l.map vC)), .clo 146 [.ptr 0 0]] = some (.d (.b (l.any p)), [(0, .box [.clo h []])]) := by
  have hi := ev_IndexFuncValue_A0  l hl hp
  have ha := idxOf_any p l
  clear hp
  (refine (evF_code (C := cfg) (g := 145) (fn := Tryz.f145) rfl Tryz.func145 rfl (by rw [Tryz.ntmps145]; simp) (by kernel_rfl) (by first | decide | simp [keysOf])).trans ?_; rw [Tryz.results145, Tryz.ntmps145])
  repeat' (first | with_reducible refine br_split (fun _ => ?_) (fun _ => ?_) | simp only [*, push_cast, Array.reduceGetElem?, Nat.reduceBEq, Nat.reduceLT, Nat.reduceAdd, Nat.reduceSub, Nat.reduceLeDiff, Nat.reduceMul, Nat.reduceEqDiff, reduceCtorEq, Int.reduceAdd, Int.reduceLT, Int.reduceLE, Int.reduceToNat, Int.reduceNeg, Int.reduceSub, Int.reduceBEq, Int.reduceBNe, Int.reduceGT, Int.reduceGE, Nat.reduceGT] | (rw [drawC_ok]; rotate_left; decide +kernel; exact cfg_mixed))
theorem ev_areAll1Value_0 {h : FuncId} {p : Bool} (x : V) (hx : cfg.E h = none) (hX : cfg.Y h = false) (hp : evF cfg h [] [.agg [.d (.i .i64 x.k), .d (.i .i64 x.n), .d (.s x.s)]] = some (.d (.b p), [])) :
    evF cfg 146 [(0, .box [.clo h []])] [.agg [.d (.i .i64 x.k), .d (.i .i64 x.n), .d (.s x.s)], .ptr 0 0] = some (.d (.b (!p)), [(0, .box [.clo h []])]) := by
  simp only [push_cast, Array.reduceGetElem?, Nat.reduceBEq, Nat.reduceLT, Nat.reduceAdd, Nat.reduceSub, Nat.reduceLeDiff, Nat.reduceMul, Nat.reduceEqDiff, reduceCtorEq, Int.reduceAdd, Int.reduceLT, Int.reduceLE, Int.reduceToNat, Int.reduceNeg, Int.reduceSub, Int.reduceBEq, Int.reduceBNe, Int.reduceGT, Int.reduceGE, Nat.reduceGT] at hx hX
  (refine (evF_code (C := cfg) (g := 146) (fn := Tryz.f146) rfl Tryz.func146 rfl (by rw [Tryz.ntmps146]; simp) (by kernel_rfl) (by first | decide | simp [keysOf])).trans ?_; rw [Tryz.results146, Tryz.ntmps146])
  repeat' (first | with_reducible refine br_split (fun _ => ?_) (fun _ => ?_) | simp only [*, push_cast, Array.reduceGetElem?, Nat.reduceBEq, Nat.reduceLT, Nat.reduceAdd, Nat.reduceSub, Nat.reduceLeDiff, Nat.reduceMul, Nat.reduceEqDiff, reduceCtorEq, Int.reduceAdd, Int.reduceLT, Int.reduceLE, Int.reduceToNat, Int.reduceNeg, Int.reduceSub, Int.reduceBEq, Int.reduceBNe, Int.reduceGT, Int.reduceGE, Nat.reduceGT] | (rw [drawC_ok]; rotate_left; decide +kernel; exact cfg_mixed))
theorem ev_areAllValue_0 {h : FuncId} {p : V → Bool} (l : List V) (hl : l.length ≤ 1099511627776) (hx : cfg.E h = none) (hX : cfg.Y h = false)
    (hp : ∀ x ∈ l, evF cfg h [] [.agg [.d (.i .i64 x.k), .d (.i .i64 x.n), .d (.s x.s)]] = some (.d (.b (p x)), [])) :
    evF cfg 130 [] [.d (.sl .any (l.map vC)), .clo h []] = some (.d (.b (l.all p)), []) := by
  have hc := ev_ContainsFuncValue_A0 (h := h)  l hl (fun x hm => ev_areAll1Value_0  x hx hX (hp x hm))
  have ha : (!l.any fun x => !p x) = l.all p := not_any p l
  clear hp
  (refine (evF_code (C := cfg) (g := 130) (fn := Tryz.f130) rfl Tryz.func130 rfl (by rw [Tryz.ntmps130]; simp) (by kernel_rfl) (by first | decide | simp [keysOf])).trans ?_; rw [Tryz.results130, Tryz.ntmps130])
  repeat' (first | with_reducible refine br_split (fun _ => ?_) (fun _ => ?_) | simp only [*, push_cast, Array.reduceGetElem?, Nat.reduceBEq, Nat.reduceLT, Nat.reduceAdd, Nat.reduceSub, Nat.reduceLeDiff, Nat.reduceMul, Nat.reduceEqDiff, reduceCtorEq, Int.reduceAdd, Int.reduceLT, Int.reduceLE, Int.reduceToNat, Int.reduceNeg, Int.reduceSub, Int.reduceBEq, Int.reduceBNe, Int.reduceGT, Int.reduceGE, Nat.reduceGT] | (rw [drawC_ok]; rotate_left; decide +kernel; exact cfg_mixed))

end Go.Av
end
