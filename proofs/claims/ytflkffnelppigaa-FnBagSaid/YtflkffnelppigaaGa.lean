/- What functions of this seat give. -/
import Derived.Test.YtflkffnelppigaaAvCfg
import Derived.Test.YtflkffnelppigaaAvF
set_option linter.all false
set_option linter.unusedVariables false
set_option linter.unusedSimpArgs false

section
namespace Go.Av
open Go.Proofs
set_option linter.unusedSimpArgs false

@[push_cast] theorem ev_toValue (k : Int) (n : Int) (s : ByteArray) : evF cfg 122 [] [.agg [.d (.i .i64 k), .d (.i .i64 n), .d (.s s)]] = some (.agg [.d (.i .i64 k), .d (.i .i64 n), .d (.s s)], []) := by
  (refine (evF_code (C := cfg) (g := 122) (fn := Try.f122) rfl Try.func122 rfl (by rw [Try.ntmps122]; simp) (by kernel_rfl) (by first | decide | simp [keysOf])).trans ?_; rw [Try.results122, Try.ntmps122])
  repeat' (first | with_reducible refine br_split (fun _ => ?_) (fun _ => ?_) | simp only [*, push_cast, Array.reduceGetElem?, Nat.reduceBEq, Nat.reduceLT, Nat.reduceAdd, Nat.reduceSub, Nat.reduceLeDiff, Nat.reduceMul, Nat.reduceEqDiff, reduceCtorEq, Int.reduceAdd, Int.reduceLT, Int.reduceLE, Int.reduceToNat, Int.reduceNeg, Int.reduceSub, Int.reduceBEq, Int.reduceBNe, Int.reduceNe, Int.reduceGT, Int.reduceGE, Nat.reduceGT] | (rw [drawC_ok]; rotate_left; decide +kernel; exact cfg_mixed))

theorem can_vC (l : List V) : canOk (.d (.sl (.tok [0]) (l.map vC))) [] := by
  simp [canOk, tkTV, tkT, annTok, tk_vC, tkO, flatTV, arrO, keysOf]
theorem ev_toValueS (l : List V) (h : szVs l ≤ 1048576) : evF cfg 108 [] [.d (.sl .any (l.map vC))] = some (.d (.sl (.tok [0]) (l.map vC)), []) := by
  obtain ⟨hl, hm⟩ := szVs_mem h
  have hb := mk_ok 32 hl (by omega)
  have hcan := can_vC l
  (refine (evF_codeZ (C := cfg) (g := 108) (fn := Try.f108) rfl Try.func108 rfl (by rw [Try.ntmps108]; simp) (by kernel_rfl)).trans ?_; rw [Try.results108, Try.ntmps108])
  repeat' (first | with_reducible refine br_split (fun _ => ?_) (fun _ => ?_) | simp only [*, push_cast, Array.reduceGetElem?, Nat.reduceBEq, Nat.reduceLT, Nat.reduceAdd, Nat.reduceSub, Nat.reduceLeDiff, Nat.reduceMul, Nat.reduceEqDiff, reduceCtorEq, Int.reduceAdd, Int.reduceLT, Int.reduceLE, Int.reduceToNat, Int.reduceNeg, Int.reduceSub, Int.reduceBEq, Int.reduceBNe, Int.reduceNe, Int.reduceGT, Int.reduceGE, Nat.reduceGT] | (rw [drawC_ok]; rotate_left; decide +kernel; exact cfg_mixed))
  rw [← made_zero vC [.i .i64 0, .i .i64 0, .s ⟨#[]⟩] l]
  rw [evM_for0 l.length (fun i j => { t := [(0, .d (.sl .any (l.map vC))), (3, .own 50), (4, .d (.i .i64 j))], o := [(50, .arr .any 3 (made vC [.i .i64 0, .i .i64 0, .s ⟨#[]⟩] l i))], ks := [50], n := 0, sz := 23, u := noU, g := some (0, false) })
    (fun i => some (.exit 0, { t := [(3, .own 50)], o := [(50, .arr .any 3 (l.map vC))], ks := [50], n := 0, sz := 23, u := noU, g := some (0, false) })) ?step ?last]
  case step =>
    intro i hi ih
    have hc : (l.map vC)[i]? = some [.i .i64 l[i].k, .i .i64 l[i].n, .s l[i].s] := get_map vC l i hi
    have hp := made_get vC [.i .i64 0, .i .i64 0, .s ⟨#[]⟩] l i hi
    have hpl := made_len vC [.i .i64 0, .i .i64 0, .s ⟨#[]⟩] l i (by omega)
    have hs : (made vC [.i .i64 0, .i .i64 0, .s ⟨#[]⟩] l i).set i [.i .i64 l[i].k, .i .i64 l[i].n, .s l[i].s] = _ := made_set vC [.i .i64 0, .i .i64 0, .s ⟨#[]⟩] l i hi
    have hd := dec_lt hi
    have hdn := dec_ltN hi
    have hw : IntKind.i64.wrap ((i : Int) + 1) = (i : Int) + 1 := wrap_succ (by omega)
    repeat' (first | with_reducible refine br_split (fun _ => ?_) (fun _ => ?_) | simp only [*, push_cast, Array.reduceGetElem?, Nat.reduceBEq, Nat.reduceLT, Nat.reduceAdd, Nat.reduceSub, Nat.reduceLeDiff, Nat.reduceMul, Nat.reduceEqDiff, reduceCtorEq, Int.reduceAdd, Int.reduceLT, Int.reduceLE, Int.reduceToNat, Int.reduceNeg, Int.reduceSub, Int.reduceBEq, Int.reduceBNe, Int.reduceNe, Int.reduceGT, Int.reduceGE, Nat.reduceGT] | (rw [drawC_ok]; rotate_left; decide +kernel; exact cfg_mixed))
  case last =>
    have hf := made_full vC [.i .i64 0, .i .i64 0, .s ⟨#[]⟩] l
    repeat' (first | with_reducible refine br_split (fun _ => ?_) (fun _ => ?_) | simp only [*, push_cast, Array.reduceGetElem?, Nat.reduceBEq, Nat.reduceLT, Nat.reduceAdd, Nat.reduceSub, Nat.reduceLeDiff, Nat.reduceMul, Nat.reduceEqDiff, reduceCtorEq, Int.reduceAdd, Int.reduceLT, Int.reduceLE, Int.reduceToNat, Int.reduceNeg, Int.reduceSub, Int.reduceBEq, Int.reduceBNe, Int.reduceNe, Int.reduceGT, Int.reduceGE, Nat.reduceGT] | (rw [drawC_ok]; rotate_left; decide +kernel; exact cfg_mixed))
  · repeat' (first | with_reducible refine br_split (fun _ => ?_) (fun _ => ?_) | simp only [*, push_cast, Array.reduceGetElem?, Nat.reduceBEq, Nat.reduceLT, Nat.reduceAdd, Nat.reduceSub, Nat.reduceLeDiff, Nat.reduceMul, Nat.reduceEqDiff, reduceCtorEq, Int.reduceAdd, Int.reduceLT, Int.reduceLE, Int.reduceToNat, Int.reduceNeg, Int.reduceSub, Int.reduceBEq, Int.reduceBNe, Int.reduceNe, Int.reduceGT, Int.reduceGE, Nat.reduceGT] | (rw [drawC_ok]; rotate_left; decide +kernel; exact cfg_mixed))

@[push_cast] theorem ev_toCounted (row : List V) (n : Int) (h : szC ⟨row, n⟩ ≤ 1048576) : evF cfg 86 [] [.agg [.d (.sl .any (row.map vC)), .d (.i .i64 n)]] = some (.agg [.d (.sl (.tok [0, 0]) (row.map vC)), .d (.i .i64 n)], []) := by
  simp only [szC] at h
  have erow := ev_toValueS row (by omega)
  have hcan : canOk (.agg [.d (.sl (.tok [0, 0]) (row.map vC)), .d (.i .i64 n)]) [] := by
    simp [canOk, tkTV, tkL, tkT, annTok, tk_vC, tkO, flatTV, flatL, arrO, keysOf]
  (refine (evF_codeZ (C := cfg) (g := 86) (fn := Try.f86) rfl Try.func86 rfl (by rw [Try.ntmps86]; simp) (by kernel_rfl)).trans ?_; rw [Try.results86, Try.ntmps86])
  repeat' (first | with_reducible refine br_split (fun _ => ?_) (fun _ => ?_) | simp only [*, push_cast, Array.reduceGetElem?, Nat.reduceBEq, Nat.reduceLT, Nat.reduceAdd, Nat.reduceSub, Nat.reduceLeDiff, Nat.reduceMul, Nat.reduceEqDiff, reduceCtorEq, Int.reduceAdd, Int.reduceLT, Int.reduceLE, Int.reduceToNat, Int.reduceNeg, Int.reduceSub, Int.reduceBEq, Int.reduceBNe, Int.reduceNe, Int.reduceGT, Int.reduceGE, Nat.reduceGT] | (rw [drawC_ok]; rotate_left; decide +kernel; exact cfg_mixed))

/-- A counted row whose block is named. -/
def cZ (p : Nat → Tok) (i : Nat) (c : C) : List T := [.sl (.tok (p i)) (c.row.map vC), .i .i64 c.n]
theorem cZ_nm {p : Nat → Tok} (hp : ∀ i, [i] <+: p i) (i : Nat) (c : C) : Nm [i] (tkCs (cZ p i c)) := by
  simp only [cZ, tkCs, tkT, annTok, tk_vC, List.append_nil]
  exact ⟨fun x hx => by simp only [List.mem_singleton] at hx; exact ⟨p i, hx, hp i⟩, by simp⟩
@[push_cast] theorem cn_cZ (f : Nat → Tok) (l : List C) (p : Tok) (i : Nat) : cnEs p i (l.mapIdx (cZ f)) = cnEs p i (l.map cC) := by
  refine cnEs_same ?_
  rw [annEs_mapIdx (g := cC) (fun i x => by simp only [cZ, annCs, T.ann, er_vC]; rfl) l, er_cC]

theorem ev_toCountedS (l : List C) (h : szCs l ≤ 1048576) : evF cfg 49 [] [.d (.sl .any (l.map cC))] = some (.d (.sl (.tok [0]) (cnEs [0] 0 (l.map cC))), []) := by
  obtain ⟨hl, hm⟩ := szCs_mem h
  have hb := mk_ok 32 hl (by omega)
  have hcan := canOk_top (cZ fun i => [i, 0, 0]) l (cZ_nm fun i => ⟨[0, 0], rfl⟩)
  (refine (evF_codeZ (C := cfg) (g := 49) (fn := Try.f49) rfl Try.func49 rfl (by rw [Try.ntmps49]; simp) (by kernel_rfl)).trans ?_; rw [Try.results49, Try.ntmps49])
  repeat' (first | with_reducible refine br_split (fun _ => ?_) (fun _ => ?_) | simp only [*, push_cast, Array.reduceGetElem?, Nat.reduceBEq, Nat.reduceLT, Nat.reduceAdd, Nat.reduceSub, Nat.reduceLeDiff, Nat.reduceMul, Nat.reduceEqDiff, reduceCtorEq, Int.reduceAdd, Int.reduceLT, Int.reduceLE, Int.reduceToNat, Int.reduceNeg, Int.reduceSub, Int.reduceBEq, Int.reduceBNe, Int.reduceNe, Int.reduceGT, Int.reduceGE, Nat.reduceGT] | (rw [drawC_ok]; rotate_left; decide +kernel; exact cfg_mixed))
  rw [← madeI_zero (cZ fun i => [i, 0, 0]) [.sl .any [], .i .i64 0] l]
  rw [evM_for0 l.length (fun i j => { t := [(0, .d (.sl .any (l.map cC))), (3, .own 50), (4, .d (.i .i64 j))], o := [(50, .arr .any 2 (madeI (cZ fun i => [i, 0, 0]) [.sl .any [], .i .i64 0] l i))], ks := [50], n := 0, sz := 23, u := noU, g := some (i, false) })
    (fun i => some (.exit 0, { t := [(3, .own 50)], o := [(50, .arr .any 2 (l.mapIdx (cZ fun i => [i, 0, 0])))], ks := [50], n := 0, sz := 23, u := noU, g := some (l.length, false) })) ?step ?last]
  case step =>
    intro i hi ih
    have hc : (l.map cC)[i]? = some [.sl .any (l[i].row.map vC), .i .i64 l[i].n] := get_map cC l i hi
    have hp := madeI_get (cZ fun i => [i, 0, 0]) [.sl .any [], .i .i64 0] l i hi
    have hpl := madeI_len (cZ fun i => [i, 0, 0]) [.sl .any [], .i .i64 0] l i (by omega)
    have hs : (madeI (cZ fun i => [i, 0, 0]) [.sl .any [], .i .i64 0] l i).set i [.sl (.tok [i, 0, 0]) (l[i].row.map vC), .i .i64 l[i].n] = _ := madeI_set (cZ fun i => [i, 0, 0]) [.sl .any [], .i .i64 0] l i hi
    have hd := dec_lt hi
    have hdn := dec_ltN hi
    have hw : IntKind.i64.wrap ((i : Int) + 1) = (i : Int) + 1 := wrap_succ (by omega)
    have ee := ev_toCounted l[i].row l[i].n (show szC l[i] ≤ 1048576 from hm _ (List.getElem_mem hi))
    repeat' (first | with_reducible refine br_split (fun _ => ?_) (fun _ => ?_) | simp only [*, push_cast, Array.reduceGetElem?, Nat.reduceBEq, Nat.reduceLT, Nat.reduceAdd, Nat.reduceSub, Nat.reduceLeDiff, Nat.reduceMul, Nat.reduceEqDiff, reduceCtorEq, Int.reduceAdd, Int.reduceLT, Int.reduceLE, Int.reduceToNat, Int.reduceNeg, Int.reduceSub, Int.reduceBEq, Int.reduceBNe, Int.reduceNe, Int.reduceGT, Int.reduceGE, Nat.reduceGT] | (rw [drawC_ok]; rotate_left; decide +kernel; exact cfg_mixed))
  case last =>
    have hf := madeI_full (cZ fun i => [i, 0, 0]) [.sl .any [], .i .i64 0] l
    repeat' (first | with_reducible refine br_split (fun _ => ?_) (fun _ => ?_) | simp only [*, push_cast, Array.reduceGetElem?, Nat.reduceBEq, Nat.reduceLT, Nat.reduceAdd, Nat.reduceSub, Nat.reduceLeDiff, Nat.reduceMul, Nat.reduceEqDiff, reduceCtorEq, Int.reduceAdd, Int.reduceLT, Int.reduceLE, Int.reduceToNat, Int.reduceNeg, Int.reduceSub, Int.reduceBEq, Int.reduceBNe, Int.reduceNe, Int.reduceGT, Int.reduceGE, Nat.reduceGT] | (rw [drawC_ok]; rotate_left; decide +kernel; exact cfg_mixed))
  · repeat' (first | with_reducible refine br_split (fun _ => ?_) (fun _ => ?_) | simp only [*, push_cast, Array.reduceGetElem?, Nat.reduceBEq, Nat.reduceLT, Nat.reduceAdd, Nat.reduceSub, Nat.reduceLeDiff, Nat.reduceMul, Nat.reduceEqDiff, reduceCtorEq, Int.reduceAdd, Int.reduceLT, Int.reduceLE, Int.reduceToNat, Int.reduceNeg, Int.reduceSub, Int.reduceBEq, Int.reduceBNe, Int.reduceNe, Int.reduceGT, Int.reduceGE, Nat.reduceGT] | (rw [drawC_ok]; rotate_left; decide +kernel; exact cfg_mixed))

@[push_cast] theorem ev_toBag (w : Int) (rows : List C) (h : szB ⟨w, rows⟩ ≤ 1048576) : evF cfg 10 [] [.agg [.d (.i .i64 w), .d (.sl .any (rows.map cC))]] = some (.agg [.d (.i .i64 w), .d (.sl (.tok [0, 1]) (cnEs [0, 1] 0 (rows.map cC)))], []) := by
  simp only [szB] at h
  have erows := ev_toCountedS rows (by omega)
  have hcan : canOk (.agg [.d (.i .i64 w), .d (.sl (.tok [0, 0]) (cnEs [0, 0] 0 (rows.map cC)))]) [] := canOk_one _ [0, 0] (.sl .any (rows.map cC)) (by simp [tkTV, tkL, tkT, T.cn]) rfl
  (refine (evF_codeZ (C := cfg) (g := 10) (fn := Try.f10) rfl Try.func10 rfl (by rw [Try.ntmps10]; simp) (by kernel_rfl)).trans ?_; rw [Try.results10, Try.ntmps10])
  repeat' (first | with_reducible refine br_split (fun _ => ?_) (fun _ => ?_) | simp only [*, push_cast, Array.reduceGetElem?, Nat.reduceBEq, Nat.reduceLT, Nat.reduceAdd, Nat.reduceSub, Nat.reduceLeDiff, Nat.reduceMul, Nat.reduceEqDiff, reduceCtorEq, Int.reduceAdd, Int.reduceLT, Int.reduceLE, Int.reduceToNat, Int.reduceNeg, Int.reduceSub, Int.reduceBEq, Int.reduceBNe, Int.reduceNe, Int.reduceGT, Int.reduceGE, Nat.reduceGT] | (rw [drawC_ok]; rotate_left; decide +kernel; exact cfg_mixed))
end Go.Av
end

section
namespace Go.Av
open Go.Proofs
set_option linter.unusedSimpArgs false

@[push_cast] theorem ev_eqValue (k : Int) (n : Int) (s : ByteArray) (y_k : Int) (y_n : Int) (y_s : ByteArray) : evF cfg 123 [] [.agg [.d (.i .i64 k), .d (.i .i64 n), .d (.s s)], .agg [.d (.i .i64 y_k), .d (.i .i64 y_n), .d (.s y_s)]] = some (.d (.b (decide ((⟨k, n, s⟩ : V) = ⟨y_k, y_n, y_s⟩))), []) := by
  (refine (evF_code (C := cfg) (g := 123) (fn := Try.f123) rfl Try.func123 rfl (by rw [Try.ntmps123]; simp) (by kernel_rfl) (by first | decide | simp [keysOf])).trans ?_; rw [Try.results123, Try.ntmps123])
  repeat' (first | with_reducible refine br_split (fun _ => ?_) (fun _ => ?_) | simp only [*, push_cast, Array.reduceGetElem?, Nat.reduceBEq, Nat.reduceLT, Nat.reduceAdd, Nat.reduceSub, Nat.reduceLeDiff, Nat.reduceMul, Nat.reduceEqDiff, reduceCtorEq, Int.reduceAdd, Int.reduceLT, Int.reduceLE, Int.reduceToNat, Int.reduceNeg, Int.reduceSub, Int.reduceBEq, Int.reduceBNe, Int.reduceNe, Int.reduceGT, Int.reduceGE, Nat.reduceGT] | (rw [drawC_ok]; rotate_left; decide +kernel; exact cfg_mixed))
  all_goals simp_all

theorem ev_szValue (k : Int) (n : Int) (s : ByteArray) (left : Int) (h0 : 0 ≤ left) (h1 : left ≤ 1048576) (hlim : limCs (vC ⟨k, n, s⟩)) : evF cfg 121 [] [.agg [.d (.i .i64 k), .d (.i .i64 n), .d (.s s)], .d (.i .i64 left)] = some (.d (.i .i64 (left1 left (szV ⟨k, n, s⟩))), []) := by
  simp only [vC, limCs, T.lim] at hlim
  have hw0 : IntKind.i64.wrap (left - ((s.size : Nat) : Int)) = left - ((s.size : Nat) : Int) := i64_in (by omega) (by omega)
  by_cases hn0 : left - ((s.size : Nat) : Int) < 0
  · have hd0 : decide (left - ((s.size : Nat) : Int) < 0) = true := decide_eq_true hn0
    have hm : decide ((-1 : Int) < 0) = true := rfl
    have hr : left1 left (szV ⟨k, n, s⟩) = -1 := left1_neg (by simp only [szV]; omega)
    (refine (evF_code (C := cfg) (g := 121) (fn := Try.f121) rfl Try.func121 rfl (by rw [Try.ntmps121]; simp) (by kernel_rfl) (by first | decide | simp [keysOf])).trans ?_; rw [Try.results121, Try.ntmps121])
    repeat' (first | with_reducible refine br_split (fun _ => ?_) (fun _ => ?_) | simp only [*, push_cast, Array.reduceGetElem?, Nat.reduceBEq, Nat.reduceLT, Nat.reduceAdd, Nat.reduceSub, Nat.reduceLeDiff, Nat.reduceMul, Nat.reduceEqDiff, reduceCtorEq, Int.reduceAdd, Int.reduceLT, Int.reduceLE, Int.reduceToNat, Int.reduceNeg, Int.reduceSub, Int.reduceBEq, Int.reduceBNe, Int.reduceNe, Int.reduceGT, Int.reduceGE, Nat.reduceGT] | (rw [drawC_ok]; rotate_left; decide +kernel; exact cfg_mixed))
  · have hd0 : decide (left - ((s.size : Nat) : Int) < 0) = false := decide_eq_false hn0
    have hr : left1 left (szV ⟨k, n, s⟩) = (left - ((s.size : Nat) : Int)) := (left1_pos (by simp only [szV]; omega)).trans (by simp only [szV] <;> omega)
    (refine (evF_code (C := cfg) (g := 121) (fn := Try.f121) rfl Try.func121 rfl (by rw [Try.ntmps121]; simp) (by kernel_rfl) (by first | decide | simp [keysOf])).trans ?_; rw [Try.results121, Try.ntmps121])
    repeat' (first | with_reducible refine br_split (fun _ => ?_) (fun _ => ?_) | simp only [*, push_cast, Array.reduceGetElem?, Nat.reduceBEq, Nat.reduceLT, Nat.reduceAdd, Nat.reduceSub, Nat.reduceLeDiff, Nat.reduceMul, Nat.reduceEqDiff, reduceCtorEq, Int.reduceAdd, Int.reduceLT, Int.reduceLE, Int.reduceToNat, Int.reduceNeg, Int.reduceSub, Int.reduceBEq, Int.reduceBNe, Int.reduceNe, Int.reduceGT, Int.reduceGE, Nat.reduceGT] | (rw [drawC_ok]; rotate_left; decide +kernel; exact cfg_mixed))

theorem ev_szValueS (l : List V) (left : Int) (h0 : 0 ≤ left) (h1 : left ≤ 1048576) (hlim : (T.sl .any (l.map vC)).lim) : evF cfg 107 [] [.d (.sl .any (l.map vC)), .d (.i .i64 left)] = some (.d (.i .i64 (left1 left (szVs l))), []) := by
  simp only [T.lim, List.length_map, limEs_map] at hlim
  obtain ⟨hl, hlm⟩ := hlim
  have hw0 : IntKind.i64.wrap (left - l.length) = left - l.length := i64_in (by omega) (by omega)
  by_cases hn : left - (l.length : Int) < 0
  · have hd0 : decide (left - (l.length : Int) < 0) = true := decide_eq_true hn
    have hr : left1 left (szVs l) = -1 := left1_neg (by simp only [szVs]; omega)
    (refine (evF_code (C := cfg) (g := 107) (fn := Try.f107) rfl Try.func107 rfl (by rw [Try.ntmps107]; simp) (by kernel_rfl) (by first | decide | simp [keysOf])).trans ?_; rw [Try.results107, Try.ntmps107])
    repeat' (first | with_reducible refine br_split (fun _ => ?_) (fun _ => ?_) | simp only [*, push_cast, Array.reduceGetElem?, Nat.reduceBEq, Nat.reduceLT, Nat.reduceAdd, Nat.reduceSub, Nat.reduceLeDiff, Nat.reduceMul, Nat.reduceEqDiff, reduceCtorEq, Int.reduceAdd, Int.reduceLT, Int.reduceLE, Int.reduceToNat, Int.reduceNeg, Int.reduceSub, Int.reduceBEq, Int.reduceBNe, Int.reduceNe, Int.reduceGT, Int.reduceGE, Nat.reduceGT] | (rw [drawC_ok]; rotate_left; decide +kernel; exact cfg_mixed))
  · have hd0 : decide (left - (l.length : Int) < 0) = false := decide_eq_false hn
    (refine (evF_code (C := cfg) (g := 107) (fn := Try.f107) rfl Try.func107 rfl (by rw [Try.ntmps107]; simp) (by kernel_rfl) (by first | decide | simp [keysOf])).trans ?_; rw [Try.results107, Try.ntmps107])
    repeat' (first | with_reducible refine br_split (fun _ => ?_) (fun _ => ?_) | simp only [*, push_cast, Array.reduceGetElem?, Nat.reduceBEq, Nat.reduceLT, Nat.reduceAdd, Nat.reduceSub, Nat.reduceLeDiff, Nat.reduceMul, Nat.reduceEqDiff, reduceCtorEq, Int.reduceAdd, Int.reduceLT, Int.reduceLE, Int.reduceToNat, Int.reduceNeg, Int.reduceSub, Int.reduceBEq, Int.reduceBNe, Int.reduceNe, Int.reduceGT, Int.reduceGE, Nat.reduceGT] | (rw [drawC_ok]; rotate_left; decide +kernel; exact cfg_mixed))
    rw [evM_for (α := {x : Int // 0 ≤ x ∧ x ≤ 1048576}) l.length (fun i j x => { t := [(0, .d (.sl .any (l.map vC))), (1, .d (.i .i64 x.1)), (5, .d (.i .i64 j))], o := [], ks := [], n := 0, sz := 27, u := noU })
      (fun i x => br (decide (x.1 - (((l.drop i).map szV).sum : Int) < 0)) (some (.ret, { t := [(4, .d (.i .i64 (-1)))], o := [], ks := [], n := 0, sz := 27, u := noU })) (some (.exit 0, { t := [(1, .d (.i .i64 (x.1 - (((l.drop i).map szV).sum : Int))))], o := [], ks := [], n := 0, sz := 27, u := noU })) ⟨⟩) ?step ?last ⟨left - l.length, by omega, by omega⟩]
    case step =>
      intro i x hi ih
      have hc : (l.map vC)[i]? = some [.i .i64 l[i].k, .i .i64 l[i].n, .s l[i].s] := get_map vC l i hi
      have hd := dec_lt hi
      have hw : IntKind.i64.wrap ((i : Int) + 1) = (i : Int) + 1 := i64_in (by omega) (by omega)
      have ee := ev_szValue l[i].k l[i].n l[i].s x.1 x.2.1 x.2.2 (hlm _ (List.getElem_mem hi))
      have hx := x.2
      have h2 : x.1 - (((l.drop i).map szV).sum : Int) = x.1 - (szV l[i] : Int) - (((l.drop (i + 1)).map szV).sum : Int) := by rw [List.drop_eq_getElem_cons hi, List.map_cons, List.sum_cons]; omega
      rw [h2]
      by_cases hk : x.1 - (szV l[i] : Int) < 0
      · have e1 : left1 x.1 (szV l[i]) = -1 := if_pos hk
        have hd1 : decide ((-1 : Int) < 0) = true := rfl
        have hd2 : decide (x.1 - (szV l[i] : Int) - (((l.drop (i + 1)).map szV).sum : Int) < 0) = true := decide_eq_true (by omega)
        repeat' (first | with_reducible refine br_split (fun _ => ?_) (fun _ => ?_) | simp only [*, push_cast, Array.reduceGetElem?, Nat.reduceBEq, Nat.reduceLT, Nat.reduceAdd, Nat.reduceSub, Nat.reduceLeDiff, Nat.reduceMul, Nat.reduceEqDiff, reduceCtorEq, Int.reduceAdd, Int.reduceLT, Int.reduceLE, Int.reduceToNat, Int.reduceNeg, Int.reduceSub, Int.reduceBEq, Int.reduceBNe, Int.reduceNe, Int.reduceGT, Int.reduceGE, Nat.reduceGT] | (rw [drawC_ok]; rotate_left; decide +kernel; exact cfg_mixed))
      · have e1 : left1 x.1 (szV l[i]) = x.1 - (szV l[i] : Int) := if_neg hk
        have hd1 : decide (x.1 - (szV l[i] : Int) < 0) = false := decide_eq_false hk
        have ih := ih ⟨x.1 - (szV l[i] : Int), by omega, by omega⟩
        clear h2
        repeat' (first | with_reducible refine br_split (fun _ => ?_) (fun _ => ?_) | simp only [*, push_cast, Array.reduceGetElem?, Nat.reduceBEq, Nat.reduceLT, Nat.reduceAdd, Nat.reduceSub, Nat.reduceLeDiff, Nat.reduceMul, Nat.reduceEqDiff, reduceCtorEq, Int.reduceAdd, Int.reduceLT, Int.reduceLE, Int.reduceToNat, Int.reduceNeg, Int.reduceSub, Int.reduceBEq, Int.reduceBNe, Int.reduceNe, Int.reduceGT, Int.reduceGE, Nat.reduceGT] | (rw [drawC_ok]; rotate_left; decide +kernel; exact cfg_mixed))
    case last =>
      intro x
      have hx := x.2
      have h2 : x.1 - (((l.drop l.length).map szV).sum : Int) = x.1 := by simp
      have hd2 : decide (x.1 < 0) = false := decide_eq_false (by omega)
      rw [h2]
      repeat' (first | with_reducible refine br_split (fun _ => ?_) (fun _ => ?_) | simp only [*, push_cast, Array.reduceGetElem?, Nat.reduceBEq, Nat.reduceLT, Nat.reduceAdd, Nat.reduceSub, Nat.reduceLeDiff, Nat.reduceMul, Nat.reduceEqDiff, reduceCtorEq, Int.reduceAdd, Int.reduceLT, Int.reduceLE, Int.reduceToNat, Int.reduceNeg, Int.reduceSub, Int.reduceBEq, Int.reduceBNe, Int.reduceNe, Int.reduceGT, Int.reduceGE, Nat.reduceGT] | (rw [drawC_ok]; rotate_left; decide +kernel; exact cfg_mixed))
    · by_cases hk : left - (l.length : Int) - ((l.map szV).sum : Int) < 0
      · have hd2 := decide_eq_true hk
        have hr : left1 left (szVs l) = -1 := left1_neg (by simp only [szVs]; omega)
        repeat' (first | with_reducible refine br_split (fun _ => ?_) (fun _ => ?_) | simp only [*, push_cast, Array.reduceGetElem?, Nat.reduceBEq, Nat.reduceLT, Nat.reduceAdd, Nat.reduceSub, Nat.reduceLeDiff, Nat.reduceMul, Nat.reduceEqDiff, reduceCtorEq, Int.reduceAdd, Int.reduceLT, Int.reduceLE, Int.reduceToNat, Int.reduceNeg, Int.reduceSub, Int.reduceBEq, Int.reduceBNe, Int.reduceNe, Int.reduceGT, Int.reduceGE, Nat.reduceGT] | (rw [drawC_ok]; rotate_left; decide +kernel; exact cfg_mixed))
      · have hd2 := decide_eq_false hk
        have hr : left1 left (szVs l) = left - (l.length : Int) - ((l.map szV).sum : Int) := (left1_pos (by simp only [szVs]; omega)).trans (by simp only [szVs]; omega)
        repeat' (first | with_reducible refine br_split (fun _ => ?_) (fun _ => ?_) | simp only [*, push_cast, Array.reduceGetElem?, Nat.reduceBEq, Nat.reduceLT, Nat.reduceAdd, Nat.reduceSub, Nat.reduceLeDiff, Nat.reduceMul, Nat.reduceEqDiff, reduceCtorEq, Int.reduceAdd, Int.reduceLT, Int.reduceLE, Int.reduceToNat, Int.reduceNeg, Int.reduceSub, Int.reduceBEq, Int.reduceBNe, Int.reduceNe, Int.reduceGT, Int.reduceGE, Nat.reduceGT] | (rw [drawC_ok]; rotate_left; decide +kernel; exact cfg_mixed))

theorem ev_szCounted (row : List V) (n : Int) (left : Int) (h0 : 0 ≤ left) (h1 : left ≤ 1048576) (hlim : limCs (cC ⟨row, n⟩)) : evF cfg 85 [] [.agg [.d (.sl .any (row.map vC)), .d (.i .i64 n)], .d (.i .i64 left)] = some (.d (.i .i64 (left1 left (szC ⟨row, n⟩))), []) := by
  simp only [cC, limCs, T.lim] at hlim
  have ee0 := ev_szValueS row left (by omega) (by omega) (by simp_all [limCs, T.lim, cC])
  by_cases hn0 : left - ((szVs row : Nat) : Int) < 0
  · have hd0 : decide (left - ((szVs row : Nat) : Int) < 0) = true := decide_eq_true hn0
    have el0 : left1 left (szVs row) = -1 := if_pos hn0
    have hm : decide ((-1 : Int) < 0) = true := rfl
    have hr : left1 left (szC ⟨row, n⟩) = -1 := left1_neg (by simp only [szC]; omega)
    (refine (evF_code (C := cfg) (g := 85) (fn := Try.f85) rfl Try.func85 rfl (by rw [Try.ntmps85]; simp) (by kernel_rfl) (by first | decide | simp [keysOf])).trans ?_; rw [Try.results85, Try.ntmps85])
    repeat' (first | with_reducible refine br_split (fun _ => ?_) (fun _ => ?_) | simp only [*, push_cast, Array.reduceGetElem?, Nat.reduceBEq, Nat.reduceLT, Nat.reduceAdd, Nat.reduceSub, Nat.reduceLeDiff, Nat.reduceMul, Nat.reduceEqDiff, reduceCtorEq, Int.reduceAdd, Int.reduceLT, Int.reduceLE, Int.reduceToNat, Int.reduceNeg, Int.reduceSub, Int.reduceBEq, Int.reduceBNe, Int.reduceNe, Int.reduceGT, Int.reduceGE, Nat.reduceGT] | (rw [drawC_ok]; rotate_left; decide +kernel; exact cfg_mixed))
  · have hd0 : decide (left - ((szVs row : Nat) : Int) < 0) = false := decide_eq_false hn0
    have el0 : left1 left (szVs row) = left - ((szVs row : Nat) : Int) := if_neg hn0
    have hr : left1 left (szC ⟨row, n⟩) = (left - ((szVs row : Nat) : Int)) := (left1_pos (by simp only [szC]; omega)).trans (by simp only [szC] <;> omega)
    (refine (evF_code (C := cfg) (g := 85) (fn := Try.f85) rfl Try.func85 rfl (by rw [Try.ntmps85]; simp) (by kernel_rfl) (by first | decide | simp [keysOf])).trans ?_; rw [Try.results85, Try.ntmps85])
    repeat' (first | with_reducible refine br_split (fun _ => ?_) (fun _ => ?_) | simp only [*, push_cast, Array.reduceGetElem?, Nat.reduceBEq, Nat.reduceLT, Nat.reduceAdd, Nat.reduceSub, Nat.reduceLeDiff, Nat.reduceMul, Nat.reduceEqDiff, reduceCtorEq, Int.reduceAdd, Int.reduceLT, Int.reduceLE, Int.reduceToNat, Int.reduceNeg, Int.reduceSub, Int.reduceBEq, Int.reduceBNe, Int.reduceNe, Int.reduceGT, Int.reduceGE, Nat.reduceGT] | (rw [drawC_ok]; rotate_left; decide +kernel; exact cfg_mixed))

theorem ev_szCountedS (l : List C) (left : Int) (h0 : 0 ≤ left) (h1 : left ≤ 1048576) (hlim : (T.sl .any (l.map cC)).lim) : evF cfg 45 [] [.d (.sl .any (l.map cC)), .d (.i .i64 left)] = some (.d (.i .i64 (left1 left (szCs l))), []) := by
  simp only [T.lim, List.length_map, limEs_map] at hlim
  obtain ⟨hl, hlm⟩ := hlim
  have hw0 : IntKind.i64.wrap (left - l.length) = left - l.length := i64_in (by omega) (by omega)
  by_cases hn : left - (l.length : Int) < 0
  · have hd0 : decide (left - (l.length : Int) < 0) = true := decide_eq_true hn
    have hr : left1 left (szCs l) = -1 := left1_neg (by simp only [szCs]; omega)
    (refine (evF_code (C := cfg) (g := 45) (fn := Try.f45) rfl Try.func45 rfl (by rw [Try.ntmps45]; simp) (by kernel_rfl) (by first | decide | simp [keysOf])).trans ?_; rw [Try.results45, Try.ntmps45])
    repeat' (first | with_reducible refine br_split (fun _ => ?_) (fun _ => ?_) | simp only [*, push_cast, Array.reduceGetElem?, Nat.reduceBEq, Nat.reduceLT, Nat.reduceAdd, Nat.reduceSub, Nat.reduceLeDiff, Nat.reduceMul, Nat.reduceEqDiff, reduceCtorEq, Int.reduceAdd, Int.reduceLT, Int.reduceLE, Int.reduceToNat, Int.reduceNeg, Int.reduceSub, Int.reduceBEq, Int.reduceBNe, Int.reduceNe, Int.reduceGT, Int.reduceGE, Nat.reduceGT] | (rw [drawC_ok]; rotate_left; decide +kernel; exact cfg_mixed))
  · have hd0 : decide (left - (l.length : Int) < 0) = false := decide_eq_false hn
    (refine (evF_code (C := cfg) (g := 45) (fn := Try.f45) rfl Try.func45 rfl (by rw [Try.ntmps45]; simp) (by kernel_rfl) (by first | decide | simp [keysOf])).trans ?_; rw [Try.results45, Try.ntmps45])
    repeat' (first | with_reducible refine br_split (fun _ => ?_) (fun _ => ?_) | simp only [*, push_cast, Array.reduceGetElem?, Nat.reduceBEq, Nat.reduceLT, Nat.reduceAdd, Nat.reduceSub, Nat.reduceLeDiff, Nat.reduceMul, Nat.reduceEqDiff, reduceCtorEq, Int.reduceAdd, Int.reduceLT, Int.reduceLE, Int.reduceToNat, Int.reduceNeg, Int.reduceSub, Int.reduceBEq, Int.reduceBNe, Int.reduceNe, Int.reduceGT, Int.reduceGE, Nat.reduceGT] | (rw [drawC_ok]; rotate_left; decide +kernel; exact cfg_mixed))
    rw [evM_for (α := {x : Int // 0 ≤ x ∧ x ≤ 1048576}) l.length (fun i j x => { t := [(0, .d (.sl .any (l.map cC))), (1, .d (.i .i64 x.1)), (5, .d (.i .i64 j))], o := [], ks := [], n := 0, sz := 27, u := noU })
      (fun i x => br (decide (x.1 - (((l.drop i).map szC).sum : Int) < 0)) (some (.ret, { t := [(4, .d (.i .i64 (-1)))], o := [], ks := [], n := 0, sz := 27, u := noU })) (some (.exit 0, { t := [(1, .d (.i .i64 (x.1 - (((l.drop i).map szC).sum : Int))))], o := [], ks := [], n := 0, sz := 27, u := noU })) ⟨⟩) ?step ?last ⟨left - l.length, by omega, by omega⟩]
    case step =>
      intro i x hi ih
      have hc : (l.map cC)[i]? = some [.sl .any (l[i].row.map vC), .i .i64 l[i].n] := get_map cC l i hi
      have hd := dec_lt hi
      have hw : IntKind.i64.wrap ((i : Int) + 1) = (i : Int) + 1 := i64_in (by omega) (by omega)
      have ee := ev_szCounted l[i].row l[i].n x.1 x.2.1 x.2.2 (hlm _ (List.getElem_mem hi))
      have hx := x.2
      have h2 : x.1 - (((l.drop i).map szC).sum : Int) = x.1 - (szC l[i] : Int) - (((l.drop (i + 1)).map szC).sum : Int) := by rw [List.drop_eq_getElem_cons hi, List.map_cons, List.sum_cons]; omega
      rw [h2]
      by_cases hk : x.1 - (szC l[i] : Int) < 0
      · have e1 : left1 x.1 (szC l[i]) = -1 := if_pos hk
        have hd1 : decide ((-1 : Int) < 0) = true := rfl
        have hd2 : decide (x.1 - (szC l[i] : Int) - (((l.drop (i + 1)).map szC).sum : Int) < 0) = true := decide_eq_true (by omega)
        repeat' (first | with_reducible refine br_split (fun _ => ?_) (fun _ => ?_) | simp only [*, push_cast, Array.reduceGetElem?, Nat.reduceBEq, Nat.reduceLT, Nat.reduceAdd, Nat.reduceSub, Nat.reduceLeDiff, Nat.reduceMul, Nat.reduceEqDiff, reduceCtorEq, Int.reduceAdd, Int.reduceLT, Int.reduceLE, Int.reduceToNat, Int.reduceNeg, Int.reduceSub, Int.reduceBEq, Int.reduceBNe, Int.reduceNe, Int.reduceGT, Int.reduceGE, Nat.reduceGT] | (rw [drawC_ok]; rotate_left; decide +kernel; exact cfg_mixed))
      · have e1 : left1 x.1 (szC l[i]) = x.1 - (szC l[i] : Int) := if_neg hk
        have hd1 : decide (x.1 - (szC l[i] : Int) < 0) = false := decide_eq_false hk
        have ih := ih ⟨x.1 - (szC l[i] : Int), by omega, by omega⟩
        clear h2
        repeat' (first | with_reducible refine br_split (fun _ => ?_) (fun _ => ?_) | simp only [*, push_cast, Array.reduceGetElem?, Nat.reduceBEq, Nat.reduceLT, Nat.reduceAdd, Nat.reduceSub, Nat.reduceLeDiff, Nat.reduceMul, Nat.reduceEqDiff, reduceCtorEq, Int.reduceAdd, Int.reduceLT, Int.reduceLE, Int.reduceToNat, Int.reduceNeg, Int.reduceSub, Int.reduceBEq, Int.reduceBNe, Int.reduceNe, Int.reduceGT, Int.reduceGE, Nat.reduceGT] | (rw [drawC_ok]; rotate_left; decide +kernel; exact cfg_mixed))
    case last =>
      intro x
      have hx := x.2
      have h2 : x.1 - (((l.drop l.length).map szC).sum : Int) = x.1 := by simp
      have hd2 : decide (x.1 < 0) = false := decide_eq_false (by omega)
      rw [h2]
      repeat' (first | with_reducible refine br_split (fun _ => ?_) (fun _ => ?_) | simp only [*, push_cast, Array.reduceGetElem?, Nat.reduceBEq, Nat.reduceLT, Nat.reduceAdd, Nat.reduceSub, Nat.reduceLeDiff, Nat.reduceMul, Nat.reduceEqDiff, reduceCtorEq, Int.reduceAdd, Int.reduceLT, Int.reduceLE, Int.reduceToNat, Int.reduceNeg, Int.reduceSub, Int.reduceBEq, Int.reduceBNe, Int.reduceNe, Int.reduceGT, Int.reduceGE, Nat.reduceGT] | (rw [drawC_ok]; rotate_left; decide +kernel; exact cfg_mixed))
    · by_cases hk : left - (l.length : Int) - ((l.map szC).sum : Int) < 0
      · have hd2 := decide_eq_true hk
        have hr : left1 left (szCs l) = -1 := left1_neg (by simp only [szCs]; omega)
        repeat' (first | with_reducible refine br_split (fun _ => ?_) (fun _ => ?_) | simp only [*, push_cast, Array.reduceGetElem?, Nat.reduceBEq, Nat.reduceLT, Nat.reduceAdd, Nat.reduceSub, Nat.reduceLeDiff, Nat.reduceMul, Nat.reduceEqDiff, reduceCtorEq, Int.reduceAdd, Int.reduceLT, Int.reduceLE, Int.reduceToNat, Int.reduceNeg, Int.reduceSub, Int.reduceBEq, Int.reduceBNe, Int.reduceNe, Int.reduceGT, Int.reduceGE, Nat.reduceGT] | (rw [drawC_ok]; rotate_left; decide +kernel; exact cfg_mixed))
      · have hd2 := decide_eq_false hk
        have hr : left1 left (szCs l) = left - (l.length : Int) - ((l.map szC).sum : Int) := (left1_pos (by simp only [szCs]; omega)).trans (by simp only [szCs]; omega)
        repeat' (first | with_reducible refine br_split (fun _ => ?_) (fun _ => ?_) | simp only [*, push_cast, Array.reduceGetElem?, Nat.reduceBEq, Nat.reduceLT, Nat.reduceAdd, Nat.reduceSub, Nat.reduceLeDiff, Nat.reduceMul, Nat.reduceEqDiff, reduceCtorEq, Int.reduceAdd, Int.reduceLT, Int.reduceLE, Int.reduceToNat, Int.reduceNeg, Int.reduceSub, Int.reduceBEq, Int.reduceBNe, Int.reduceNe, Int.reduceGT, Int.reduceGE, Nat.reduceGT] | (rw [drawC_ok]; rotate_left; decide +kernel; exact cfg_mixed))

theorem ev_szBag (w : Int) (rows : List C) (left : Int) (h0 : 0 ≤ left) (h1 : left ≤ 1048576) (hlim : limCs (bC ⟨w, rows⟩)) : evF cfg 8 [] [.agg [.d (.i .i64 w), .d (.sl .any (rows.map cC))], .d (.i .i64 left)] = some (.d (.i .i64 (left1 left (szB ⟨w, rows⟩))), []) := by
  simp only [bC, limCs, T.lim] at hlim
  have ee0 := ev_szCountedS rows left (by omega) (by omega) (by simp_all [limCs, T.lim, bC])
  by_cases hn0 : left - ((szCs rows : Nat) : Int) < 0
  · have hd0 : decide (left - ((szCs rows : Nat) : Int) < 0) = true := decide_eq_true hn0
    have el0 : left1 left (szCs rows) = -1 := if_pos hn0
    have hm : decide ((-1 : Int) < 0) = true := rfl
    have hr : left1 left (szB ⟨w, rows⟩) = -1 := left1_neg (by simp only [szB]; omega)
    (refine (evF_code (C := cfg) (g := 8) (fn := Try.f8) rfl Try.func8 rfl (by rw [Try.ntmps8]; simp) (by kernel_rfl) (by first | decide | simp [keysOf])).trans ?_; rw [Try.results8, Try.ntmps8])
    repeat' (first | with_reducible refine br_split (fun _ => ?_) (fun _ => ?_) | simp only [*, push_cast, Array.reduceGetElem?, Nat.reduceBEq, Nat.reduceLT, Nat.reduceAdd, Nat.reduceSub, Nat.reduceLeDiff, Nat.reduceMul, Nat.reduceEqDiff, reduceCtorEq, Int.reduceAdd, Int.reduceLT, Int.reduceLE, Int.reduceToNat, Int.reduceNeg, Int.reduceSub, Int.reduceBEq, Int.reduceBNe, Int.reduceNe, Int.reduceGT, Int.reduceGE, Nat.reduceGT] | (rw [drawC_ok]; rotate_left; decide +kernel; exact cfg_mixed))
  · have hd0 : decide (left - ((szCs rows : Nat) : Int) < 0) = false := decide_eq_false hn0
    have el0 : left1 left (szCs rows) = left - ((szCs rows : Nat) : Int) := if_neg hn0
    have hr : left1 left (szB ⟨w, rows⟩) = (left - ((szCs rows : Nat) : Int)) := (left1_pos (by simp only [szB]; omega)).trans (by simp only [szB] <;> omega)
    (refine (evF_code (C := cfg) (g := 8) (fn := Try.f8) rfl Try.func8 rfl (by rw [Try.ntmps8]; simp) (by kernel_rfl) (by first | decide | simp [keysOf])).trans ?_; rw [Try.results8, Try.ntmps8])
    repeat' (first | with_reducible refine br_split (fun _ => ?_) (fun _ => ?_) | simp only [*, push_cast, Array.reduceGetElem?, Nat.reduceBEq, Nat.reduceLT, Nat.reduceAdd, Nat.reduceSub, Nat.reduceLeDiff, Nat.reduceMul, Nat.reduceEqDiff, reduceCtorEq, Int.reduceAdd, Int.reduceLT, Int.reduceLE, Int.reduceToNat, Int.reduceNeg, Int.reduceSub, Int.reduceBEq, Int.reduceBNe, Int.reduceNe, Int.reduceGT, Int.reduceGE, Nat.reduceGT] | (rw [drawC_ok]; rotate_left; decide +kernel; exact cfg_mixed))

theorem ev_szRel (name : ByteArray) (bag_w : Int) (bag_rows : List C) (left : Int) (h0 : 0 ≤ left) (h1 : left ≤ 1048576) (hlim : limCs (rC ⟨name, ⟨bag_w, bag_rows⟩⟩)) : evF cfg 55 [] [.agg [.d (.s name), .d (.i .i64 bag_w), .d (.sl .any (bag_rows.map cC))], .d (.i .i64 left)] = some (.d (.i .i64 (left1 left (szR ⟨name, ⟨bag_w, bag_rows⟩⟩))), []) := by
  simp only [rC, limCs, T.lim] at hlim
  have hw0 : IntKind.i64.wrap (left - ((name.size : Nat) : Int)) = left - ((name.size : Nat) : Int) := i64_in (by omega) (by omega)
  by_cases hn0 : left - ((name.size : Nat) : Int) < 0
  · have hd0 : decide (left - ((name.size : Nat) : Int) < 0) = true := decide_eq_true hn0
    have hm : decide ((-1 : Int) < 0) = true := rfl
    have hr : left1 left (szR ⟨name, ⟨bag_w, bag_rows⟩⟩) = -1 := left1_neg (by simp only [szR]; omega)
    (refine (evF_code (C := cfg) (g := 55) (fn := Try.f55) rfl Try.func55 rfl (by rw [Try.ntmps55]; simp) (by kernel_rfl) (by first | decide | simp [keysOf])).trans ?_; rw [Try.results55, Try.ntmps55])
    repeat' (first | with_reducible refine br_split (fun _ => ?_) (fun _ => ?_) | simp only [*, push_cast, Array.reduceGetElem?, Nat.reduceBEq, Nat.reduceLT, Nat.reduceAdd, Nat.reduceSub, Nat.reduceLeDiff, Nat.reduceMul, Nat.reduceEqDiff, reduceCtorEq, Int.reduceAdd, Int.reduceLT, Int.reduceLE, Int.reduceToNat, Int.reduceNeg, Int.reduceSub, Int.reduceBEq, Int.reduceBNe, Int.reduceNe, Int.reduceGT, Int.reduceGE, Nat.reduceGT] | (rw [drawC_ok]; rotate_left; decide +kernel; exact cfg_mixed))
  · have hd0 : decide (left - ((name.size : Nat) : Int) < 0) = false := decide_eq_false hn0
    have ee1 := ev_szBag bag_w bag_rows (left - ((name.size : Nat) : Int)) (by omega) (by omega) (by simp_all [limCs, T.lim, rC, bC])
    by_cases hn1 : (left - ((name.size : Nat) : Int)) - ((szB ⟨bag_w, bag_rows⟩ : Nat) : Int) < 0
    · have hd1 : decide ((left - ((name.size : Nat) : Int)) - ((szB ⟨bag_w, bag_rows⟩ : Nat) : Int) < 0) = true := decide_eq_true hn1
      have el1 : left1 (left - ((name.size : Nat) : Int)) (szB ⟨bag_w, bag_rows⟩) = -1 := if_pos hn1
      have hm : decide ((-1 : Int) < 0) = true := rfl
      have hr : left1 left (szR ⟨name, ⟨bag_w, bag_rows⟩⟩) = -1 := left1_neg (by simp only [szR]; omega)
      (refine (evF_code (C := cfg) (g := 55) (fn := Try.f55) rfl Try.func55 rfl (by rw [Try.ntmps55]; simp) (by kernel_rfl) (by first | decide | simp [keysOf])).trans ?_; rw [Try.results55, Try.ntmps55])
      repeat' (first | with_reducible refine br_split (fun _ => ?_) (fun _ => ?_) | simp only [*, push_cast, Array.reduceGetElem?, Nat.reduceBEq, Nat.reduceLT, Nat.reduceAdd, Nat.reduceSub, Nat.reduceLeDiff, Nat.reduceMul, Nat.reduceEqDiff, reduceCtorEq, Int.reduceAdd, Int.reduceLT, Int.reduceLE, Int.reduceToNat, Int.reduceNeg, Int.reduceSub, Int.reduceBEq, Int.reduceBNe, Int.reduceNe, Int.reduceGT, Int.reduceGE, Nat.reduceGT] | (rw [drawC_ok]; rotate_left; decide +kernel; exact cfg_mixed))
    · have hd1 : decide ((left - ((name.size : Nat) : Int)) - ((szB ⟨bag_w, bag_rows⟩ : Nat) : Int) < 0) = false := decide_eq_false hn1
      have el1 : left1 (left - ((name.size : Nat) : Int)) (szB ⟨bag_w, bag_rows⟩) = (left - ((name.size : Nat) : Int)) - ((szB ⟨bag_w, bag_rows⟩ : Nat) : Int) := if_neg hn1
      have hr : left1 left (szR ⟨name, ⟨bag_w, bag_rows⟩⟩) = ((left - ((name.size : Nat) : Int)) - ((szB ⟨bag_w, bag_rows⟩ : Nat) : Int)) := (left1_pos (by simp only [szR]; omega)).trans (by simp only [szR] <;> omega)
      (refine (evF_code (C := cfg) (g := 55) (fn := Try.f55) rfl Try.func55 rfl (by rw [Try.ntmps55]; simp) (by kernel_rfl) (by first | decide | simp [keysOf])).trans ?_; rw [Try.results55, Try.ntmps55])
      repeat' (first | with_reducible refine br_split (fun _ => ?_) (fun _ => ?_) | simp only [*, push_cast, Array.reduceGetElem?, Nat.reduceBEq, Nat.reduceLT, Nat.reduceAdd, Nat.reduceSub, Nat.reduceLeDiff, Nat.reduceMul, Nat.reduceEqDiff, reduceCtorEq, Int.reduceAdd, Int.reduceLT, Int.reduceLE, Int.reduceToNat, Int.reduceNeg, Int.reduceSub, Int.reduceBEq, Int.reduceBNe, Int.reduceNe, Int.reduceGT, Int.reduceGE, Nat.reduceGT] | (rw [drawC_ok]; rotate_left; decide +kernel; exact cfg_mixed))

theorem ev_szRelS (l : List R) (left : Int) (h0 : 0 ≤ left) (h1 : left ≤ 1048576) (hlim : (T.sl .any (l.map rC)).lim) : evF cfg 15 [] [.d (.sl .any (l.map rC)), .d (.i .i64 left)] = some (.d (.i .i64 (left1 left (szRs l))), []) := by
  simp only [T.lim, List.length_map, limEs_map] at hlim
  obtain ⟨hl, hlm⟩ := hlim
  have hw0 : IntKind.i64.wrap (left - l.length) = left - l.length := i64_in (by omega) (by omega)
  by_cases hn : left - (l.length : Int) < 0
  · have hd0 : decide (left - (l.length : Int) < 0) = true := decide_eq_true hn
    have hr : left1 left (szRs l) = -1 := left1_neg (by simp only [szRs]; omega)
    (refine (evF_code (C := cfg) (g := 15) (fn := Try.f15) rfl Try.func15 rfl (by rw [Try.ntmps15]; simp) (by kernel_rfl) (by first | decide | simp [keysOf])).trans ?_; rw [Try.results15, Try.ntmps15])
    repeat' (first | with_reducible refine br_split (fun _ => ?_) (fun _ => ?_) | simp only [*, push_cast, Array.reduceGetElem?, Nat.reduceBEq, Nat.reduceLT, Nat.reduceAdd, Nat.reduceSub, Nat.reduceLeDiff, Nat.reduceMul, Nat.reduceEqDiff, reduceCtorEq, Int.reduceAdd, Int.reduceLT, Int.reduceLE, Int.reduceToNat, Int.reduceNeg, Int.reduceSub, Int.reduceBEq, Int.reduceBNe, Int.reduceNe, Int.reduceGT, Int.reduceGE, Nat.reduceGT] | (rw [drawC_ok]; rotate_left; decide +kernel; exact cfg_mixed))
  · have hd0 : decide (left - (l.length : Int) < 0) = false := decide_eq_false hn
    (refine (evF_code (C := cfg) (g := 15) (fn := Try.f15) rfl Try.func15 rfl (by rw [Try.ntmps15]; simp) (by kernel_rfl) (by first | decide | simp [keysOf])).trans ?_; rw [Try.results15, Try.ntmps15])
    repeat' (first | with_reducible refine br_split (fun _ => ?_) (fun _ => ?_) | simp only [*, push_cast, Array.reduceGetElem?, Nat.reduceBEq, Nat.reduceLT, Nat.reduceAdd, Nat.reduceSub, Nat.reduceLeDiff, Nat.reduceMul, Nat.reduceEqDiff, reduceCtorEq, Int.reduceAdd, Int.reduceLT, Int.reduceLE, Int.reduceToNat, Int.reduceNeg, Int.reduceSub, Int.reduceBEq, Int.reduceBNe, Int.reduceNe, Int.reduceGT, Int.reduceGE, Nat.reduceGT] | (rw [drawC_ok]; rotate_left; decide +kernel; exact cfg_mixed))
    rw [evM_for (α := {x : Int // 0 ≤ x ∧ x ≤ 1048576}) l.length (fun i j x => { t := [(0, .d (.sl .any (l.map rC))), (1, .d (.i .i64 x.1)), (5, .d (.i .i64 j))], o := [], ks := [], n := 0, sz := 27, u := noU })
      (fun i x => br (decide (x.1 - (((l.drop i).map szR).sum : Int) < 0)) (some (.ret, { t := [(4, .d (.i .i64 (-1)))], o := [], ks := [], n := 0, sz := 27, u := noU })) (some (.exit 0, { t := [(1, .d (.i .i64 (x.1 - (((l.drop i).map szR).sum : Int))))], o := [], ks := [], n := 0, sz := 27, u := noU })) ⟨⟩) ?step ?last ⟨left - l.length, by omega, by omega⟩]
    case step =>
      intro i x hi ih
      have hc : (l.map rC)[i]? = some [.s l[i].name, .i .i64 l[i].bag.w, .sl .any (l[i].bag.rows.map cC)] := get_map rC l i hi
      have hd := dec_lt hi
      have hw : IntKind.i64.wrap ((i : Int) + 1) = (i : Int) + 1 := i64_in (by omega) (by omega)
      have ee := ev_szRel l[i].name l[i].bag.w l[i].bag.rows x.1 x.2.1 x.2.2 (hlm _ (List.getElem_mem hi))
      have hx := x.2
      have h2 : x.1 - (((l.drop i).map szR).sum : Int) = x.1 - (szR l[i] : Int) - (((l.drop (i + 1)).map szR).sum : Int) := by rw [List.drop_eq_getElem_cons hi, List.map_cons, List.sum_cons]; omega
      rw [h2]
      by_cases hk : x.1 - (szR l[i] : Int) < 0
      · have e1 : left1 x.1 (szR l[i]) = -1 := if_pos hk
        have hd1 : decide ((-1 : Int) < 0) = true := rfl
        have hd2 : decide (x.1 - (szR l[i] : Int) - (((l.drop (i + 1)).map szR).sum : Int) < 0) = true := decide_eq_true (by omega)
        repeat' (first | with_reducible refine br_split (fun _ => ?_) (fun _ => ?_) | simp only [*, push_cast, Array.reduceGetElem?, Nat.reduceBEq, Nat.reduceLT, Nat.reduceAdd, Nat.reduceSub, Nat.reduceLeDiff, Nat.reduceMul, Nat.reduceEqDiff, reduceCtorEq, Int.reduceAdd, Int.reduceLT, Int.reduceLE, Int.reduceToNat, Int.reduceNeg, Int.reduceSub, Int.reduceBEq, Int.reduceBNe, Int.reduceNe, Int.reduceGT, Int.reduceGE, Nat.reduceGT] | (rw [drawC_ok]; rotate_left; decide +kernel; exact cfg_mixed))
      · have e1 : left1 x.1 (szR l[i]) = x.1 - (szR l[i] : Int) := if_neg hk
        have hd1 : decide (x.1 - (szR l[i] : Int) < 0) = false := decide_eq_false hk
        have ih := ih ⟨x.1 - (szR l[i] : Int), by omega, by omega⟩
        clear h2
        repeat' (first | with_reducible refine br_split (fun _ => ?_) (fun _ => ?_) | simp only [*, push_cast, Array.reduceGetElem?, Nat.reduceBEq, Nat.reduceLT, Nat.reduceAdd, Nat.reduceSub, Nat.reduceLeDiff, Nat.reduceMul, Nat.reduceEqDiff, reduceCtorEq, Int.reduceAdd, Int.reduceLT, Int.reduceLE, Int.reduceToNat, Int.reduceNeg, Int.reduceSub, Int.reduceBEq, Int.reduceBNe, Int.reduceNe, Int.reduceGT, Int.reduceGE, Nat.reduceGT] | (rw [drawC_ok]; rotate_left; decide +kernel; exact cfg_mixed))
    case last =>
      intro x
      have hx := x.2
      have h2 : x.1 - (((l.drop l.length).map szR).sum : Int) = x.1 := by simp
      have hd2 : decide (x.1 < 0) = false := decide_eq_false (by omega)
      rw [h2]
      repeat' (first | with_reducible refine br_split (fun _ => ?_) (fun _ => ?_) | simp only [*, push_cast, Array.reduceGetElem?, Nat.reduceBEq, Nat.reduceLT, Nat.reduceAdd, Nat.reduceSub, Nat.reduceLeDiff, Nat.reduceMul, Nat.reduceEqDiff, reduceCtorEq, Int.reduceAdd, Int.reduceLT, Int.reduceLE, Int.reduceToNat, Int.reduceNeg, Int.reduceSub, Int.reduceBEq, Int.reduceBNe, Int.reduceNe, Int.reduceGT, Int.reduceGE, Nat.reduceGT] | (rw [drawC_ok]; rotate_left; decide +kernel; exact cfg_mixed))
    · by_cases hk : left - (l.length : Int) - ((l.map szR).sum : Int) < 0
      · have hd2 := decide_eq_true hk
        have hr : left1 left (szRs l) = -1 := left1_neg (by simp only [szRs]; omega)
        repeat' (first | with_reducible refine br_split (fun _ => ?_) (fun _ => ?_) | simp only [*, push_cast, Array.reduceGetElem?, Nat.reduceBEq, Nat.reduceLT, Nat.reduceAdd, Nat.reduceSub, Nat.reduceLeDiff, Nat.reduceMul, Nat.reduceEqDiff, reduceCtorEq, Int.reduceAdd, Int.reduceLT, Int.reduceLE, Int.reduceToNat, Int.reduceNeg, Int.reduceSub, Int.reduceBEq, Int.reduceBNe, Int.reduceNe, Int.reduceGT, Int.reduceGE, Nat.reduceGT] | (rw [drawC_ok]; rotate_left; decide +kernel; exact cfg_mixed))
      · have hd2 := decide_eq_false hk
        have hr : left1 left (szRs l) = left - (l.length : Int) - ((l.map szR).sum : Int) := (left1_pos (by simp only [szRs]; omega)).trans (by simp only [szRs]; omega)
        repeat' (first | with_reducible refine br_split (fun _ => ?_) (fun _ => ?_) | simp only [*, push_cast, Array.reduceGetElem?, Nat.reduceBEq, Nat.reduceLT, Nat.reduceAdd, Nat.reduceSub, Nat.reduceLeDiff, Nat.reduceMul, Nat.reduceEqDiff, reduceCtorEq, Int.reduceAdd, Int.reduceLT, Int.reduceLE, Int.reduceToNat, Int.reduceNeg, Int.reduceSub, Int.reduceBEq, Int.reduceBNe, Int.reduceNe, Int.reduceGT, Int.reduceGE, Nat.reduceGT] | (rw [drawC_ok]; rotate_left; decide +kernel; exact cfg_mixed))

theorem ev_eqValueS (l m : List V) (hlim : (T.sl .any (l.map vC)).lim) : evF cfg 109 [] [.d (.sl .any (l.map vC)), .d (.sl .any (m.map vC))] = some (.d (.b (decide (l = m))), []) := by
  simp only [T.lim, List.length_map, limEs_map] at hlim
  obtain ⟨hl, hlm0⟩ := hlim
  by_cases hlm : m.length = l.length
  · have hd0 : (((l.length : Int) != (m.length : Int))) = false := by simp [hlm]
    (refine (evF_code (C := cfg) (g := 109) (fn := Try.f109) rfl Try.func109 rfl (by rw [Try.ntmps109]; simp) (by kernel_rfl) (by first | decide | simp [keysOf])).trans ?_; rw [Try.results109, Try.ntmps109])
    repeat' (first | with_reducible refine br_split (fun _ => ?_) (fun _ => ?_) | simp only [*, push_cast, Array.reduceGetElem?, Nat.reduceBEq, Nat.reduceLT, Nat.reduceAdd, Nat.reduceSub, Nat.reduceLeDiff, Nat.reduceMul, Nat.reduceEqDiff, reduceCtorEq, Int.reduceAdd, Int.reduceLT, Int.reduceLE, Int.reduceToNat, Int.reduceNeg, Int.reduceSub, Int.reduceBEq, Int.reduceBNe, Int.reduceNe, Int.reduceGT, Int.reduceGE, Nat.reduceGT] | (rw [drawC_ok]; rotate_left; decide +kernel; exact cfg_mixed))
    rw [evM_for0 l.length (fun i j => { t := [(0, .d (.sl .any (l.map vC))), (1, .d (.sl .any (m.map vC))), (5, .d (.i .i64 j))], o := [], ks := [], n := 0, sz := 27, u := noU })
      (fun i => br (decide (l.drop i = m.drop i)) (some (.exit 0, { t := [], o := [], ks := [], n := 0, sz := 27, u := noU })) (some (.ret, { t := [(4, .d (.b false))], o := [], ks := [], n := 0, sz := 27, u := noU })) ⟨⟩) ?step ?last]
    case step =>
      intro i hi ih
      have hi2 : i < m.length := by omega
      have hc : (l.map vC)[i]? = some [.i .i64 l[i].k, .i .i64 l[i].n, .s l[i].s] := get_map vC l i hi
      have hc2 : (m.map vC)[i]? = some [.i .i64 m[i].k, .i .i64 m[i].n, .s m[i].s] := get_map vC m i hi2
      have hd := dec_lt hi
      have hw : IntKind.i64.wrap ((i : Int) + 1) = (i : Int) + 1 := i64_in (by omega) (by omega)
      rw [List.drop_eq_getElem_cons hi, List.drop_eq_getElem_cons hi2]
      by_cases he : l[i] = m[i]
      · have h1 := dec_cons_t (l := l.drop (i + 1)) (m := m.drop (i + 1)) he
        have h3 : decide (l[i] = m[i]) = true := by simp [he]
        rw [h1]
        clear h1 he
        repeat' (first | with_reducible refine br_split (fun _ => ?_) (fun _ => ?_) | simp only [*, push_cast, Array.reduceGetElem?, Nat.reduceBEq, Nat.reduceLT, Nat.reduceAdd, Nat.reduceSub, Nat.reduceLeDiff, Nat.reduceMul, Nat.reduceEqDiff, reduceCtorEq, Int.reduceAdd, Int.reduceLT, Int.reduceLE, Int.reduceToNat, Int.reduceNeg, Int.reduceSub, Int.reduceBEq, Int.reduceBNe, Int.reduceNe, Int.reduceGT, Int.reduceGE, Nat.reduceGT] | (rw [drawC_ok]; rotate_left; decide +kernel; exact cfg_mixed))
      · have h1 := dec_cons_f (l := l.drop (i + 1)) (m := m.drop (i + 1)) he
        have h3 : decide (l[i] = m[i]) = false := by simp [he]
        rw [h1]
        clear h1 he
        repeat' (first | with_reducible refine br_split (fun _ => ?_) (fun _ => ?_) | simp only [*, push_cast, Array.reduceGetElem?, Nat.reduceBEq, Nat.reduceLT, Nat.reduceAdd, Nat.reduceSub, Nat.reduceLeDiff, Nat.reduceMul, Nat.reduceEqDiff, reduceCtorEq, Int.reduceAdd, Int.reduceLT, Int.reduceLE, Int.reduceToNat, Int.reduceNeg, Int.reduceSub, Int.reduceBEq, Int.reduceBNe, Int.reduceNe, Int.reduceGT, Int.reduceGE, Nat.reduceGT] | (rw [drawC_ok]; rotate_left; decide +kernel; exact cfg_mixed))
    case last =>
      have h1 : m.drop l.length = [] := by rw [← hlm]; simp
      have hdl : l.drop l.length = [] := by simp
      rw [h1, hdl]
      repeat' (first | with_reducible refine br_split (fun _ => ?_) (fun _ => ?_) | simp only [*, push_cast, Array.reduceGetElem?, Nat.reduceBEq, Nat.reduceLT, Nat.reduceAdd, Nat.reduceSub, Nat.reduceLeDiff, Nat.reduceMul, Nat.reduceEqDiff, reduceCtorEq, Int.reduceAdd, Int.reduceLT, Int.reduceLE, Int.reduceToNat, Int.reduceNeg, Int.reduceSub, Int.reduceBEq, Int.reduceBNe, Int.reduceNe, Int.reduceGT, Int.reduceGE, Nat.reduceGT] | (rw [drawC_ok]; rotate_left; decide +kernel; exact cfg_mixed))
    · repeat' (first | with_reducible refine br_split (fun _ => ?_) (fun _ => ?_) | simp only [*, push_cast, Array.reduceGetElem?, Nat.reduceBEq, Nat.reduceLT, Nat.reduceAdd, Nat.reduceSub, Nat.reduceLeDiff, Nat.reduceMul, Nat.reduceEqDiff, reduceCtorEq, Int.reduceAdd, Int.reduceLT, Int.reduceLE, Int.reduceToNat, Int.reduceNeg, Int.reduceSub, Int.reduceBEq, Int.reduceBNe, Int.reduceNe, Int.reduceGT, Int.reduceGE, Nat.reduceGT] | (rw [drawC_ok]; rotate_left; decide +kernel; exact cfg_mixed))
  · have hd0 : (((l.length : Int) != (m.length : Int))) = true := by simp; omega
    have hne : decide (l = m) = false := decide_eq_false (fun e => hlm (by rw [e]))
    (refine (evF_code (C := cfg) (g := 109) (fn := Try.f109) rfl Try.func109 rfl (by rw [Try.ntmps109]; simp) (by kernel_rfl) (by first | decide | simp [keysOf])).trans ?_; rw [Try.results109, Try.ntmps109])
    repeat' (first | with_reducible refine br_split (fun _ => ?_) (fun _ => ?_) | simp only [*, push_cast, Array.reduceGetElem?, Nat.reduceBEq, Nat.reduceLT, Nat.reduceAdd, Nat.reduceSub, Nat.reduceLeDiff, Nat.reduceMul, Nat.reduceEqDiff, reduceCtorEq, Int.reduceAdd, Int.reduceLT, Int.reduceLE, Int.reduceToNat, Int.reduceNeg, Int.reduceSub, Int.reduceBEq, Int.reduceBNe, Int.reduceNe, Int.reduceGT, Int.reduceGE, Nat.reduceGT] | (rw [drawC_ok]; rotate_left; decide +kernel; exact cfg_mixed))

theorem ev_eqCounted (row : List V) (n : Int) (y_row : List V) (y_n : Int) (hlim : limCs (cC ⟨row, n⟩)) : evF cfg 88 [] [.agg [.d (.sl .any (row.map vC)), .d (.i .i64 n)], .agg [.d (.sl .any (y_row.map vC)), .d (.i .i64 y_n)]] = some (.d (.b (decide ((⟨row, n⟩ : C) = ⟨y_row, y_n⟩))), []) := by
  simp only [cC, limCs, limEs_map, T.lim] at hlim
  have erow := ev_eqValueS row y_row (by simp_all [limCs, T.lim, limEs_map])
  (refine (evF_code (C := cfg) (g := 88) (fn := Try.f88) rfl Try.func88 rfl (by rw [Try.ntmps88]; simp) (by kernel_rfl) (by first | decide | simp [keysOf])).trans ?_; rw [Try.results88, Try.ntmps88])
  repeat' (first | with_reducible refine br_split (fun _ => ?_) (fun _ => ?_) | simp only [*, push_cast, Array.reduceGetElem?, Nat.reduceBEq, Nat.reduceLT, Nat.reduceAdd, Nat.reduceSub, Nat.reduceLeDiff, Nat.reduceMul, Nat.reduceEqDiff, reduceCtorEq, Int.reduceAdd, Int.reduceLT, Int.reduceLE, Int.reduceToNat, Int.reduceNeg, Int.reduceSub, Int.reduceBEq, Int.reduceBNe, Int.reduceNe, Int.reduceGT, Int.reduceGE, Nat.reduceGT] | (rw [drawC_ok]; rotate_left; decide +kernel; exact cfg_mixed))
  all_goals simp_all

theorem ev_eqCountedS (l m : List C) (hlim : (T.sl .any (l.map cC)).lim) : evF cfg 52 [] [.d (.sl .any (l.map cC)), .d (.sl .any (m.map cC))] = some (.d (.b (decide (l = m))), []) := by
  simp only [T.lim, List.length_map, limEs_map] at hlim
  obtain ⟨hl, hlm0⟩ := hlim
  by_cases hlm : m.length = l.length
  · have hd0 : (((l.length : Int) != (m.length : Int))) = false := by simp [hlm]
    (refine (evF_code (C := cfg) (g := 52) (fn := Try.f52) rfl Try.func52 rfl (by rw [Try.ntmps52]; simp) (by kernel_rfl) (by first | decide | simp [keysOf])).trans ?_; rw [Try.results52, Try.ntmps52])
    repeat' (first | with_reducible refine br_split (fun _ => ?_) (fun _ => ?_) | simp only [*, push_cast, Array.reduceGetElem?, Nat.reduceBEq, Nat.reduceLT, Nat.reduceAdd, Nat.reduceSub, Nat.reduceLeDiff, Nat.reduceMul, Nat.reduceEqDiff, reduceCtorEq, Int.reduceAdd, Int.reduceLT, Int.reduceLE, Int.reduceToNat, Int.reduceNeg, Int.reduceSub, Int.reduceBEq, Int.reduceBNe, Int.reduceNe, Int.reduceGT, Int.reduceGE, Nat.reduceGT] | (rw [drawC_ok]; rotate_left; decide +kernel; exact cfg_mixed))
    rw [evM_for0 l.length (fun i j => { t := [(0, .d (.sl .any (l.map cC))), (1, .d (.sl .any (m.map cC))), (5, .d (.i .i64 j))], o := [], ks := [], n := 0, sz := 27, u := noU })
      (fun i => br (decide (l.drop i = m.drop i)) (some (.exit 0, { t := [], o := [], ks := [], n := 0, sz := 27, u := noU })) (some (.ret, { t := [(4, .d (.b false))], o := [], ks := [], n := 0, sz := 27, u := noU })) ⟨⟩) ?step ?last]
    case step =>
      intro i hi ih
      have hi2 : i < m.length := by omega
      have hc : (l.map cC)[i]? = some [.sl .any (l[i].row.map vC), .i .i64 l[i].n] := get_map cC l i hi
      have hc2 : (m.map cC)[i]? = some [.sl .any (m[i].row.map vC), .i .i64 m[i].n] := get_map cC m i hi2
      have hd := dec_lt hi
      have hw : IntKind.i64.wrap ((i : Int) + 1) = (i : Int) + 1 := i64_in (by omega) (by omega)
      rw [List.drop_eq_getElem_cons hi, List.drop_eq_getElem_cons hi2]
      have ee := ev_eqCounted l[i].row l[i].n m[i].row m[i].n (hlm0 _ (List.getElem_mem hi))
      by_cases he : l[i] = m[i]
      · have h1 := dec_cons_t (l := l.drop (i + 1)) (m := m.drop (i + 1)) he
        have h3 : decide (l[i] = m[i]) = true := by simp [he]
        rw [h1]
        clear h1 he
        repeat' (first | with_reducible refine br_split (fun _ => ?_) (fun _ => ?_) | simp only [*, push_cast, Array.reduceGetElem?, Nat.reduceBEq, Nat.reduceLT, Nat.reduceAdd, Nat.reduceSub, Nat.reduceLeDiff, Nat.reduceMul, Nat.reduceEqDiff, reduceCtorEq, Int.reduceAdd, Int.reduceLT, Int.reduceLE, Int.reduceToNat, Int.reduceNeg, Int.reduceSub, Int.reduceBEq, Int.reduceBNe, Int.reduceNe, Int.reduceGT, Int.reduceGE, Nat.reduceGT] | (rw [drawC_ok]; rotate_left; decide +kernel; exact cfg_mixed))
      · have h1 := dec_cons_f (l := l.drop (i + 1)) (m := m.drop (i + 1)) he
        have h3 : decide (l[i] = m[i]) = false := by simp [he]
        rw [h1]
        clear h1 he
        repeat' (first | with_reducible refine br_split (fun _ => ?_) (fun _ => ?_) | simp only [*, push_cast, Array.reduceGetElem?, Nat.reduceBEq, Nat.reduceLT, Nat.reduceAdd, Nat.reduceSub, Nat.reduceLeDiff, Nat.reduceMul, Nat.reduceEqDiff, reduceCtorEq, Int.reduceAdd, Int.reduceLT, Int.reduceLE, Int.reduceToNat, Int.reduceNeg, Int.reduceSub, Int.reduceBEq, Int.reduceBNe, Int.reduceNe, Int.reduceGT, Int.reduceGE, Nat.reduceGT] | (rw [drawC_ok]; rotate_left; decide +kernel; exact cfg_mixed))
    case last =>
      have h1 : m.drop l.length = [] := by rw [← hlm]; simp
      have hdl : l.drop l.length = [] := by simp
      rw [h1, hdl]
      repeat' (first | with_reducible refine br_split (fun _ => ?_) (fun _ => ?_) | simp only [*, push_cast, Array.reduceGetElem?, Nat.reduceBEq, Nat.reduceLT, Nat.reduceAdd, Nat.reduceSub, Nat.reduceLeDiff, Nat.reduceMul, Nat.reduceEqDiff, reduceCtorEq, Int.reduceAdd, Int.reduceLT, Int.reduceLE, Int.reduceToNat, Int.reduceNeg, Int.reduceSub, Int.reduceBEq, Int.reduceBNe, Int.reduceNe, Int.reduceGT, Int.reduceGE, Nat.reduceGT] | (rw [drawC_ok]; rotate_left; decide +kernel; exact cfg_mixed))
    · repeat' (first | with_reducible refine br_split (fun _ => ?_) (fun _ => ?_) | simp only [*, push_cast, Array.reduceGetElem?, Nat.reduceBEq, Nat.reduceLT, Nat.reduceAdd, Nat.reduceSub, Nat.reduceLeDiff, Nat.reduceMul, Nat.reduceEqDiff, reduceCtorEq, Int.reduceAdd, Int.reduceLT, Int.reduceLE, Int.reduceToNat, Int.reduceNeg, Int.reduceSub, Int.reduceBEq, Int.reduceBNe, Int.reduceNe, Int.reduceGT, Int.reduceGE, Nat.reduceGT] | (rw [drawC_ok]; rotate_left; decide +kernel; exact cfg_mixed))
  · have hd0 : (((l.length : Int) != (m.length : Int))) = true := by simp; omega
    have hne : decide (l = m) = false := decide_eq_false (fun e => hlm (by rw [e]))
    (refine (evF_code (C := cfg) (g := 52) (fn := Try.f52) rfl Try.func52 rfl (by rw [Try.ntmps52]; simp) (by kernel_rfl) (by first | decide | simp [keysOf])).trans ?_; rw [Try.results52, Try.ntmps52])
    repeat' (first | with_reducible refine br_split (fun _ => ?_) (fun _ => ?_) | simp only [*, push_cast, Array.reduceGetElem?, Nat.reduceBEq, Nat.reduceLT, Nat.reduceAdd, Nat.reduceSub, Nat.reduceLeDiff, Nat.reduceMul, Nat.reduceEqDiff, reduceCtorEq, Int.reduceAdd, Int.reduceLT, Int.reduceLE, Int.reduceToNat, Int.reduceNeg, Int.reduceSub, Int.reduceBEq, Int.reduceBNe, Int.reduceNe, Int.reduceGT, Int.reduceGE, Nat.reduceGT] | (rw [drawC_ok]; rotate_left; decide +kernel; exact cfg_mixed))

theorem ev_eqBag (w : Int) (rows : List C) (y_w : Int) (y_rows : List C) (hlim : limCs (bC ⟨w, rows⟩)) : evF cfg 12 [] [.agg [.d (.i .i64 w), .d (.sl .any (rows.map cC))], .agg [.d (.i .i64 y_w), .d (.sl .any (y_rows.map cC))]] = some (.d (.b (decide ((⟨w, rows⟩ : B) = ⟨y_w, y_rows⟩))), []) := by
  simp only [bC, limCs, limEs_map, T.lim] at hlim
  have erows := ev_eqCountedS rows y_rows (by simp_all [limCs, T.lim, limEs_map])
  (refine (evF_codeZ (C := cfg) (g := 12) (fn := Try.f12) rfl Try.func12 rfl (by rw [Try.ntmps12]; simp) (by kernel_rfl)).trans ?_; rw [Try.results12, Try.ntmps12])
  repeat' (first | with_reducible refine br_split (fun _ => ?_) (fun _ => ?_) | simp only [*, push_cast, Array.reduceGetElem?, Nat.reduceBEq, Nat.reduceLT, Nat.reduceAdd, Nat.reduceSub, Nat.reduceLeDiff, Nat.reduceMul, Nat.reduceEqDiff, reduceCtorEq, Int.reduceAdd, Int.reduceLT, Int.reduceLE, Int.reduceToNat, Int.reduceNeg, Int.reduceSub, Int.reduceBEq, Int.reduceBNe, Int.reduceNe, Int.reduceGT, Int.reduceGE, Nat.reduceGT] | (rw [drawC_ok]; rotate_left; decide +kernel; exact cfg_mixed))
  all_goals simp_all

theorem ev_eqRel (name : ByteArray) (bag_w : Int) (bag_rows : List C) (y_name : ByteArray) (y_bag_w : Int) (y_bag_rows : List C) (hlim : limCs (rC ⟨name, ⟨bag_w, bag_rows⟩⟩)) : evF cfg 57 [] [.agg [.d (.s name), .d (.i .i64 bag_w), .d (.sl .any (bag_rows.map cC))], .agg [.d (.s y_name), .d (.i .i64 y_bag_w), .d (.sl .any (y_bag_rows.map cC))]] = some (.d (.b (decide ((⟨name, ⟨bag_w, bag_rows⟩⟩ : R) = ⟨y_name, ⟨y_bag_w, y_bag_rows⟩⟩))), []) := by
  simp only [rC, limCs, limEs_map, T.lim] at hlim
  have ebag := ev_eqBag bag_w bag_rows y_bag_w y_bag_rows (by simp_all [bC, limCs, T.lim, limEs_map])
  (refine (evF_code (C := cfg) (g := 57) (fn := Try.f57) rfl Try.func57 rfl (by rw [Try.ntmps57]; simp) (by kernel_rfl) (by first | decide | simp [keysOf])).trans ?_; rw [Try.results57, Try.ntmps57])
  repeat' (first | with_reducible refine br_split (fun _ => ?_) (fun _ => ?_) | simp only [*, push_cast, Array.reduceGetElem?, Nat.reduceBEq, Nat.reduceLT, Nat.reduceAdd, Nat.reduceSub, Nat.reduceLeDiff, Nat.reduceMul, Nat.reduceEqDiff, reduceCtorEq, Int.reduceAdd, Int.reduceLT, Int.reduceLE, Int.reduceToNat, Int.reduceNeg, Int.reduceSub, Int.reduceBEq, Int.reduceBNe, Int.reduceNe, Int.reduceGT, Int.reduceGE, Nat.reduceGT] | (rw [drawC_ok]; rotate_left; decide +kernel; exact cfg_mixed))
  all_goals simp_all

theorem ev_eqRelS (l m : List R) (hlim : (T.sl .any (l.map rC)).lim) : evF cfg 19 [] [.d (.sl .any (l.map rC)), .d (.sl .any (m.map rC))] = some (.d (.b (decide (l = m))), []) := by
  simp only [T.lim, List.length_map, limEs_map] at hlim
  obtain ⟨hl, hlm0⟩ := hlim
  by_cases hlm : m.length = l.length
  · have hd0 : (((l.length : Int) != (m.length : Int))) = false := by simp [hlm]
    (refine (evF_codeZ (C := cfg) (g := 19) (fn := Try.f19) rfl Try.func19 rfl (by rw [Try.ntmps19]; simp) (by kernel_rfl)).trans ?_; rw [Try.results19, Try.ntmps19])
    repeat' (first | with_reducible refine br_split (fun _ => ?_) (fun _ => ?_) | simp only [*, push_cast, Array.reduceGetElem?, Nat.reduceBEq, Nat.reduceLT, Nat.reduceAdd, Nat.reduceSub, Nat.reduceLeDiff, Nat.reduceMul, Nat.reduceEqDiff, reduceCtorEq, Int.reduceAdd, Int.reduceLT, Int.reduceLE, Int.reduceToNat, Int.reduceNeg, Int.reduceSub, Int.reduceBEq, Int.reduceBNe, Int.reduceNe, Int.reduceGT, Int.reduceGE, Nat.reduceGT] | (rw [drawC_ok]; rotate_left; decide +kernel; exact cfg_mixed))
    rw [evM_for0 l.length (fun i j => { t := [(0, .d (.sl .any (l.map rC))), (1, .d (.sl .any (m.map rC))), (5, .d (.i .i64 j))], o := [], ks := [], n := 0, sz := 27, u := noU, g := some (0, false) })
      (fun i => br (decide (l.drop i = m.drop i)) (some (.exit 0, { t := [], o := [], ks := [], n := 0, sz := 27, u := noU, g := some (0, false) })) (some (.ret, { t := [(4, .d (.b false))], o := [], ks := [], n := 0, sz := 27, u := noU, g := some (0, false) })) ⟨⟩) ?step ?last]
    case step =>
      intro i hi ih
      have hi2 : i < m.length := by omega
      have hc : (l.map rC)[i]? = some [.s l[i].name, .i .i64 l[i].bag.w, .sl .any (l[i].bag.rows.map cC)] := get_map rC l i hi
      have hc2 : (m.map rC)[i]? = some [.s m[i].name, .i .i64 m[i].bag.w, .sl .any (m[i].bag.rows.map cC)] := get_map rC m i hi2
      have hd := dec_lt hi
      have hw : IntKind.i64.wrap ((i : Int) + 1) = (i : Int) + 1 := i64_in (by omega) (by omega)
      rw [List.drop_eq_getElem_cons hi, List.drop_eq_getElem_cons hi2]
      have ee := ev_eqRel l[i].name l[i].bag.w l[i].bag.rows m[i].name m[i].bag.w m[i].bag.rows (hlm0 _ (List.getElem_mem hi))
      by_cases he : l[i] = m[i]
      · have h1 := dec_cons_t (l := l.drop (i + 1)) (m := m.drop (i + 1)) he
        have h3 : decide (l[i] = m[i]) = true := by simp [he]
        rw [h1]
        clear h1 he
        repeat' (first | with_reducible refine br_split (fun _ => ?_) (fun _ => ?_) | simp only [*, push_cast, Array.reduceGetElem?, Nat.reduceBEq, Nat.reduceLT, Nat.reduceAdd, Nat.reduceSub, Nat.reduceLeDiff, Nat.reduceMul, Nat.reduceEqDiff, reduceCtorEq, Int.reduceAdd, Int.reduceLT, Int.reduceLE, Int.reduceToNat, Int.reduceNeg, Int.reduceSub, Int.reduceBEq, Int.reduceBNe, Int.reduceNe, Int.reduceGT, Int.reduceGE, Nat.reduceGT] | (rw [drawC_ok]; rotate_left; decide +kernel; exact cfg_mixed))
      · have h1 := dec_cons_f (l := l.drop (i + 1)) (m := m.drop (i + 1)) he
        have h3 : decide (l[i] = m[i]) = false := by simp [he]
        rw [h1]
        clear h1 he
        repeat' (first | with_reducible refine br_split (fun _ => ?_) (fun _ => ?_) | simp only [*, push_cast, Array.reduceGetElem?, Nat.reduceBEq, Nat.reduceLT, Nat.reduceAdd, Nat.reduceSub, Nat.reduceLeDiff, Nat.reduceMul, Nat.reduceEqDiff, reduceCtorEq, Int.reduceAdd, Int.reduceLT, Int.reduceLE, Int.reduceToNat, Int.reduceNeg, Int.reduceSub, Int.reduceBEq, Int.reduceBNe, Int.reduceNe, Int.reduceGT, Int.reduceGE, Nat.reduceGT] | (rw [drawC_ok]; rotate_left; decide +kernel; exact cfg_mixed))
    case last =>
      have h1 : m.drop l.length = [] := by rw [← hlm]; simp
      have hdl : l.drop l.length = [] := by simp
      rw [h1, hdl]
      repeat' (first | with_reducible refine br_split (fun _ => ?_) (fun _ => ?_) | simp only [*, push_cast, Array.reduceGetElem?, Nat.reduceBEq, Nat.reduceLT, Nat.reduceAdd, Nat.reduceSub, Nat.reduceLeDiff, Nat.reduceMul, Nat.reduceEqDiff, reduceCtorEq, Int.reduceAdd, Int.reduceLT, Int.reduceLE, Int.reduceToNat, Int.reduceNeg, Int.reduceSub, Int.reduceBEq, Int.reduceBNe, Int.reduceNe, Int.reduceGT, Int.reduceGE, Nat.reduceGT] | (rw [drawC_ok]; rotate_left; decide +kernel; exact cfg_mixed))
    · repeat' (first | with_reducible refine br_split (fun _ => ?_) (fun _ => ?_) | simp only [*, push_cast, Array.reduceGetElem?, Nat.reduceBEq, Nat.reduceLT, Nat.reduceAdd, Nat.reduceSub, Nat.reduceLeDiff, Nat.reduceMul, Nat.reduceEqDiff, reduceCtorEq, Int.reduceAdd, Int.reduceLT, Int.reduceLE, Int.reduceToNat, Int.reduceNeg, Int.reduceSub, Int.reduceBEq, Int.reduceBNe, Int.reduceNe, Int.reduceGT, Int.reduceGE, Nat.reduceGT] | (rw [drawC_ok]; rotate_left; decide +kernel; exact cfg_mixed))
  · have hd0 : (((l.length : Int) != (m.length : Int))) = true := by simp; omega
    have hne : decide (l = m) = false := decide_eq_false (fun e => hlm (by rw [e]))
    (refine (evF_codeZ (C := cfg) (g := 19) (fn := Try.f19) rfl Try.func19 rfl (by rw [Try.ntmps19]; simp) (by kernel_rfl)).trans ?_; rw [Try.results19, Try.ntmps19])
    repeat' (first | with_reducible refine br_split (fun _ => ?_) (fun _ => ?_) | simp only [*, push_cast, Array.reduceGetElem?, Nat.reduceBEq, Nat.reduceLT, Nat.reduceAdd, Nat.reduceSub, Nat.reduceLeDiff, Nat.reduceMul, Nat.reduceEqDiff, reduceCtorEq, Int.reduceAdd, Int.reduceLT, Int.reduceLE, Int.reduceToNat, Int.reduceNeg, Int.reduceSub, Int.reduceBEq, Int.reduceBNe, Int.reduceNe, Int.reduceGT, Int.reduceGE, Nat.reduceGT] | (rw [drawC_ok]; rotate_left; decide +kernel; exact cfg_mixed))

end Go.Av
end

section
namespace Go.Av
open Go.Proofs
set_option linter.unusedSimpArgs false

theorem ev_IndexFuncValue_A0 {h : FuncId} {p : V → Bool} (l : List V) (hl : l.length ≤ 1099511627776) (hp : ∀ x ∈ l, evF cfg 116 [(0, .box [.clo h []])] [.agg [.d (.i .i64 x.k), .d (.i .i64 x.n), .d (.s x.s)], .ptr 0 0] = some (.d (.b (p x)), [(0, .box [.clo h []])])) :
    evF cfg 126 [(0, .box [.clo h []])] [.d (.sl .any (l.map vC)), .clo 116 [.ptr 0 0]] = some (.d (.i .i64 (idxOf p l)), [(0, .box [.clo h []])]) := by
  (refine (evF_code (C := cfg) (g := 126) (fn := Try.f126) rfl Try.func126 rfl (by rw [Try.ntmps126]; simp) (by kernel_rfl) (by first | decide | simp [keysOf])).trans ?_; rw [Try.results126, Try.ntmps126])
  repeat' (first | with_reducible refine br_split (fun _ => ?_) (fun _ => ?_) | simp only [*, push_cast, Array.reduceGetElem?, Nat.reduceBEq, Nat.reduceLT, Nat.reduceAdd, Nat.reduceSub, Nat.reduceLeDiff, Nat.reduceMul, Nat.reduceEqDiff, reduceCtorEq, Int.reduceAdd, Int.reduceLT, Int.reduceLE, Int.reduceToNat, Int.reduceNeg, Int.reduceSub, Int.reduceBEq, Int.reduceBNe, Int.reduceNe, Int.reduceGT, Int.reduceGE, Nat.reduceGT] | (rw [drawC_ok]; rotate_left; decide +kernel; exact cfg_mixed))
  rw [evM_for0 l.length (fun i j => { t := [(0, .d (.sl .any (l.map vC))), (1, .clo 116 [.ptr 0 0]), (7, .d (.i .i64 l.length)), (8, .d (.i .i64 j))], o := [(0, .box [.clo h []])], ks := [0], n := 0, sz := 19, u := noU })
    (fun i => br ((l.drop i).any p) (some (.ret, { t := [(4, .d (.i .i64 (i + (l.drop i).findIdx p : Nat)))], o := [(0, .box [.clo h []])], ks := [0], n := 0, sz := 19, u := noU })) (some (.exit 0, { t := [], o := [(0, .box [.clo h []])], ks := [0], n := 0, sz := 19, u := noU })) ⟨⟩) ?step ?last]
  case step =>
    intro i hi ih
    have hc : (l.map vC)[i]? = some [.i .i64 l[i].k, .i .i64 l[i].n, .s l[i].s] := get_map vC l i hi
    have hd := dec_lt hi
    have hw : IntKind.i64.wrap ((i : Int) + 1) = (i : Int) + 1 := wrap_succ (by omega)
    have he := hp _ (List.getElem_mem hi)
    have hx := List.drop_eq_getElem_cons hi
    cases hpi : p l[i] with
    | true =>
      have h1 : (l.drop i).any p = true := by rw [hx, List.any_cons, hpi, Bool.true_or]
      have h2 : (l.drop i).findIdx p = 0 := by rw [hx, List.findIdx_cons, hpi]; rfl
      rw [h1, h2]
      clear hx h1 h2
      repeat' (first | with_reducible refine br_split (fun _ => ?_) (fun _ => ?_) | simp only [*, push_cast, Array.reduceGetElem?, Nat.reduceBEq, Nat.reduceLT, Nat.reduceAdd, Nat.reduceSub, Nat.reduceLeDiff, Nat.reduceMul, Nat.reduceEqDiff, reduceCtorEq, Int.reduceAdd, Int.reduceLT, Int.reduceLE, Int.reduceToNat, Int.reduceNeg, Int.reduceSub, Int.reduceBEq, Int.reduceBNe, Int.reduceNe, Int.reduceGT, Int.reduceGE, Nat.reduceGT] | (rw [drawC_ok]; rotate_left; decide +kernel; exact cfg_mixed))
    | false =>
      have h1 : (l.drop i).any p = (l.drop (i + 1)).any p := by rw [hx, List.any_cons, hpi, Bool.false_or]
      have h2 : i + (l.drop i).findIdx p = i + 1 + (l.drop (i + 1)).findIdx p := by rw [hx, List.findIdx_cons, hpi, cond_false]; omega
      rw [h1, h2]
      clear hx h1 h2
      repeat' (first | with_reducible refine br_split (fun _ => ?_) (fun _ => ?_) | simp only [*, push_cast, Array.reduceGetElem?, Nat.reduceBEq, Nat.reduceLT, Nat.reduceAdd, Nat.reduceSub, Nat.reduceLeDiff, Nat.reduceMul, Nat.reduceEqDiff, reduceCtorEq, Int.reduceAdd, Int.reduceLT, Int.reduceLE, Int.reduceToNat, Int.reduceNeg, Int.reduceSub, Int.reduceBEq, Int.reduceBNe, Int.reduceNe, Int.reduceGT, Int.reduceGE, Nat.reduceGT] | (rw [drawC_ok]; rotate_left; decide +kernel; exact cfg_mixed))
  case last =>
    rw [List.drop_length, List.any_nil]
    repeat' (first | with_reducible refine br_split (fun _ => ?_) (fun _ => ?_) | simp only [*, push_cast, Array.reduceGetElem?, Nat.reduceBEq, Nat.reduceLT, Nat.reduceAdd, Nat.reduceSub, Nat.reduceLeDiff, Nat.reduceMul, Nat.reduceEqDiff, reduceCtorEq, Int.reduceAdd, Int.reduceLT, Int.reduceLE, Int.reduceToNat, Int.reduceNeg, Int.reduceSub, Int.reduceBEq, Int.reduceBNe, Int.reduceNe, Int.reduceGT, Int.reduceGE, Nat.reduceGT] | (rw [drawC_ok]; rotate_left; decide +kernel; exact cfg_mixed))
  · unfold idxOf
    rw [List.drop_zero, Nat.zero_add]
    cases l.any p <;> repeat' (first | with_reducible refine br_split (fun _ => ?_) (fun _ => ?_) | simp only [*, push_cast, Array.reduceGetElem?, Nat.reduceBEq, Nat.reduceLT, Nat.reduceAdd, Nat.reduceSub, Nat.reduceLeDiff, Nat.reduceMul, Nat.reduceEqDiff, reduceCtorEq, Int.reduceAdd, Int.reduceLT, Int.reduceLE, Int.reduceToNat, Int.reduceNeg, Int.reduceSub, Int.reduceBEq, Int.reduceBNe, Int.reduceNe, Int.reduceGT, Int.reduceGE, Nat.reduceGT] | (rw [drawC_ok]; rotate_left; decide +kernel; exact cfg_mixed))
theorem ev_ContainsFuncValue_A0 {h : FuncId} {p : V → Bool} (l : List V) (hl : l.length ≤ 1099511627776) (hp : ∀ x ∈ l, evF cfg 116 [(0, .box [.clo h []])] [.agg [.d (.i .i64 x.k), .d (.i .i64 x.n), .d (.s x.s)], .ptr 0 0] = some (.d (.b (p x)), [(0, .box [.clo h []])])) :
    evF cfg 115 [(0, .box [.clo h []])] [.d (.sl .any (l.map vC)), .clo 116 [.ptr 0 0]] = some (.d (.b (l.any p)), [(0, .box [.clo h []])]) := by
  have hi := ev_IndexFuncValue_A0  l hl hp
  have ha := idxOf_any p l
  clear hp
  (refine (evF_code (C := cfg) (g := 115) (fn := Try.f115) rfl Try.func115 rfl (by rw [Try.ntmps115]; simp) (by kernel_rfl) (by first | decide | simp [keysOf])).trans ?_; rw [Try.results115, Try.ntmps115])
  repeat' (first | with_reducible refine br_split (fun _ => ?_) (fun _ => ?_) | simp only [*, push_cast, Array.reduceGetElem?, Nat.reduceBEq, Nat.reduceLT, Nat.reduceAdd, Nat.reduceSub, Nat.reduceLeDiff, Nat.reduceMul, Nat.reduceEqDiff, reduceCtorEq, Int.reduceAdd, Int.reduceLT, Int.reduceLE, Int.reduceToNat, Int.reduceNeg, Int.reduceSub, Int.reduceBEq, Int.reduceBNe, Int.reduceNe, Int.reduceGT, Int.reduceGE, Nat.reduceGT] | (rw [drawC_ok]; rotate_left; decide +kernel; exact cfg_mixed))
theorem ev_areAll1Value_0 {h : FuncId} {p : Bool} (x : V) (hx : cfg.E h = none) (hX : cfg.Y h = false) (hZ : cfg.Z h = false) (hp : evF cfg h [] [.agg [.d (.i .i64 x.k), .d (.i .i64 x.n), .d (.s x.s)]] = some (.d (.b p), [])) :
    evF cfg 116 [(0, .box [.clo h []])] [.agg [.d (.i .i64 x.k), .d (.i .i64 x.n), .d (.s x.s)], .ptr 0 0] = some (.d (.b (!p)), [(0, .box [.clo h []])]) := by
  simp only [push_cast, Array.reduceGetElem?, Nat.reduceBEq, Nat.reduceLT, Nat.reduceAdd, Nat.reduceSub, Nat.reduceLeDiff, Nat.reduceMul, Nat.reduceEqDiff, reduceCtorEq, Int.reduceAdd, Int.reduceLT, Int.reduceLE, Int.reduceToNat, Int.reduceNeg, Int.reduceSub, Int.reduceBEq, Int.reduceBNe, Int.reduceNe, Int.reduceGT, Int.reduceGE, Nat.reduceGT] at hx hX hZ
  (refine (evF_code (C := cfg) (g := 116) (fn := Try.f116) rfl Try.func116 rfl (by rw [Try.ntmps116]; simp) (by kernel_rfl) (by first | decide | simp [keysOf])).trans ?_; rw [Try.results116, Try.ntmps116])
  repeat' (first | with_reducible refine br_split (fun _ => ?_) (fun _ => ?_) | simp only [*, push_cast, Array.reduceGetElem?, Nat.reduceBEq, Nat.reduceLT, Nat.reduceAdd, Nat.reduceSub, Nat.reduceLeDiff, Nat.reduceMul, Nat.reduceEqDiff, reduceCtorEq, Int.reduceAdd, Int.reduceLT, Int.reduceLE, Int.reduceToNat, Int.reduceNeg, Int.reduceSub, Int.reduceBEq, Int.reduceBNe, Int.reduceNe, Int.reduceGT, Int.reduceGE, Nat.reduceGT] | (rw [drawC_ok]; rotate_left; decide +kernel; exact cfg_mixed))
theorem ev_areAllValue_0 {h : FuncId} {p : V → Bool} (l : List V) (hl : l.length ≤ 1099511627776) (hx : cfg.E h = none) (hX : cfg.Y h = false) (hZ : cfg.Z h = false)
    (hp : ∀ x ∈ l, evF cfg h [] [.agg [.d (.i .i64 x.k), .d (.i .i64 x.n), .d (.s x.s)]] = some (.d (.b (p x)), [])) :
    evF cfg 100 [] [.d (.sl .any (l.map vC)), .clo h []] = some (.d (.b (l.all p)), []) := by
  have hc := ev_ContainsFuncValue_A0 (h := h)  l hl (fun x hm => ev_areAll1Value_0  x hx hX hZ (hp x hm))
  have ha : (!l.any fun x => !p x) = l.all p := not_any p l
  clear hp
  (refine (evF_code (C := cfg) (g := 100) (fn := Try.f100) rfl Try.func100 rfl (by rw [Try.ntmps100]; simp) (by kernel_rfl) (by first | decide | simp [keysOf])).trans ?_; rw [Try.results100, Try.ntmps100])
  repeat' (first | with_reducible refine br_split (fun _ => ?_) (fun _ => ?_) | simp only [*, push_cast, Array.reduceGetElem?, Nat.reduceBEq, Nat.reduceLT, Nat.reduceAdd, Nat.reduceSub, Nat.reduceLeDiff, Nat.reduceMul, Nat.reduceEqDiff, reduceCtorEq, Int.reduceAdd, Int.reduceLT, Int.reduceLE, Int.reduceToNat, Int.reduceNeg, Int.reduceSub, Int.reduceBEq, Int.reduceBNe, Int.reduceNe, Int.reduceGT, Int.reduceGE, Nat.reduceGT] | (rw [drawC_ok]; rotate_left; decide +kernel; exact cfg_mixed))

end Go.Av
end
