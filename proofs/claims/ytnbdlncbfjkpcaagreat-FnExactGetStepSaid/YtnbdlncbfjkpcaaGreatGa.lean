/- What functions of this seat give. -/
import Derived.Test.YtnbdlncbfjkpcaaGreatAvCfg
import Derived.Test.YtnbdlncbfjkpcaaGreatAvF
set_option linter.all false
set_option linter.unusedVariables false
set_option linter.unusedSimpArgs false

section
namespace Go.Av
open Go.Proofs
set_option linter.unusedSimpArgs false

/-- A counted row whose block is named. -/
def cZ (p : Nat → Tok) (i : Nat) (c : C) : List T := [.sl (.tok (p i)) (c.row.map vC), .i .i64 c.n]
theorem cZ_nm {p : Nat → Tok} (hp : ∀ i, [i] <+: p i) (i : Nat) (c : C) : Nm [i] (tkCs (cZ p i c)) := by
  simp only [cZ, tkCs, tkT, annTok, tk_vC, List.append_nil]
  exact ⟨fun x hx => by simp only [List.mem_singleton] at hx; exact ⟨p i, hx, hp i⟩, by simp⟩
@[push_cast] theorem cn_cZ (f : Nat → Tok) (l : List C) (p : Tok) (i : Nat) : cnEs p i (l.mapIdx (cZ f)) = cnEs p i (l.map cC) := by
  refine cnEs_same ?_
  rw [annEs_mapIdx (g := cC) (fun i x => by simp only [cZ, annCs, T.ann, er_vC]; rfl) l, er_cC]

end Go.Av
end

section
namespace Go.Av
open Go.Proofs
set_option linter.unusedSimpArgs false

@[push_cast] theorem ev_eqValue (k : Int) (n : Int) (s : ByteArray) (y_k : Int) (y_n : Int) (y_s : ByteArray) : evF cfg 161 [] [.agg [.d (.i .i64 k), .d (.i .i64 n), .d (.s s)], .agg [.d (.i .i64 y_k), .d (.i .i64 y_n), .d (.s y_s)]] = some (.d (.b (decide ((⟨k, n, s⟩ : V) = ⟨y_k, y_n, y_s⟩))), []) := by
  (refine (evF_code (C := cfg) (g := 161) (fn := Tryz.f161) rfl Tryz.func161 rfl (by rw [Tryz.ntmps161]; simp) (by kernel_rfl) (by first | decide | simp [keysOf])).trans ?_; rw [Tryz.results161, Tryz.ntmps161])
  repeat' (first | with_reducible refine br_split (fun _ => ?_) (fun _ => ?_) | simp only [*, push_cast, Array.reduceGetElem?, Nat.reduceBEq, Nat.reduceLT, Nat.reduceAdd, Nat.reduceSub, Nat.reduceLeDiff, Nat.reduceMul, Nat.reduceEqDiff, reduceCtorEq, Int.reduceAdd, Int.reduceLT, Int.reduceLE, Int.reduceToNat, Int.reduceNeg, Int.reduceSub, Int.reduceBEq, Int.reduceBNe, Int.reduceNe, Int.reduceGT, Int.reduceGE, Nat.reduceGT] | (rw [drawC_ok]; rotate_left; decide +kernel; exact cfg_mixed))
  all_goals simp_all

theorem ev_eqValueS (l m : List V) (hlim : (T.sl .any (l.map vC)).lim) : evF cfg 152 [] [.d (.sl .any (l.map vC)), .d (.sl .any (m.map vC))] = some (.d (.b (decide (l = m))), []) := by
  simp only [T.lim, List.length_map, limEs_map] at hlim
  obtain ⟨hl, hlm0⟩ := hlim
  by_cases hlm : m.length = l.length
  · have hd0 : (((l.length : Int) != (m.length : Int))) = false := by simp [hlm]
    (refine (evF_code (C := cfg) (g := 152) (fn := Tryz.f152) rfl Tryz.func152 rfl (by rw [Tryz.ntmps152]; simp) (by kernel_rfl) (by first | decide | simp [keysOf])).trans ?_; rw [Tryz.results152, Tryz.ntmps152])
    repeat' (first | with_reducible refine br_split (fun _ => ?_) (fun _ => ?_) | simp only [*, push_cast, Array.reduceGetElem?, Nat.reduceBEq, Nat.reduceLT, Nat.reduceAdd, Nat.reduceSub, Nat.reduceLeDiff, Nat.reduceMul, Nat.reduceEqDiff, reduceCtorEq, Int.reduceAdd, Int.reduceLT, Int.reduceLE, Int.reduceToNat, Int.reduceNeg, Int.reduceSub, Int.reduceBEq, Int.reduceBNe, Int.reduceNe, Int.reduceGT, Int.reduceGE, Nat.reduceGT] | (rw [drawC_ok]; rotate_left; decide +kernel; exact cfg_mixed))
    rw [evM_for0 l.length (fun i j => { t := [(0, .d (.sl .any (l.map vC))), (1, .d (.sl .any (m.map vC))), (5, .d (.i .i64 j))], o := [], ks := [], n := 0, sz := 27, u := noU })
      (fun i => br (decide (l.drop i = m.drop i)) (some (.exit 0, { t := [], o := [], ks := [], n := 0, sz := 27, u := noU })) (some (.ret, { t := [(4, .d (.b false))], o := [], ks := [], n := 0, sz := 27, u := noU })) ⟨⟩) ?step ?last]
    case step =>
      intro i hi ih
      have hi2 : i < m.length := by omega
      have hc : (l.map vC)[i]? = some [.i .i64 l[i].k, .i .i64 l[i].n, .s l[i].s] := get_map vC l i hi
      have hc2 : (m.map vC)[i]? = some [.i .i64 m[i].k, .i .i64 m[i].n, .s m[i].s] := get_map vC m i hi2
      have hd := dec_lt hi
      have hw : IntKind.i64.wrap ((i : Int) + 1) = (i : Int) + 1 := i64_in (by omega) (by omega)
      rw [List.drop_eq_getElem_cons hi, List.drop_eq_getElem_cons hi2]
      by_cases he : l[i] = m[i]
      · have h1 := dec_cons_t (l := l.drop (i + 1)) (m := m.drop (i + 1)) he
        have h3 : decide (l[i] = m[i]) = true := by simp [he]
        rw [h1]
        clear h1 he
        repeat' (first | with_reducible refine br_split (fun _ => ?_) (fun _ => ?_) | simp only [*, push_cast, Array.reduceGetElem?, Nat.reduceBEq, Nat.reduceLT, Nat.reduceAdd, Nat.reduceSub, Nat.reduceLeDiff, Nat.reduceMul, Nat.reduceEqDiff, reduceCtorEq, Int.reduceAdd, Int.reduceLT, Int.reduceLE, Int.reduceToNat, Int.reduceNeg, Int.reduceSub, Int.reduceBEq, Int.reduceBNe, Int.reduceNe, Int.reduceGT, Int.reduceGE, Nat.reduceGT] | (rw [drawC_ok]; rotate_left; decide +kernel; exact cfg_mixed))
      · have h1 := dec_cons_f (l := l.drop (i + 1)) (m := m.drop (i + 1)) he
        have h3 : decide (l[i] = m[i]) = false := by simp [he]
        rw [h1]
        clear h1 he
        repeat' (first | with_reducible refine br_split (fun _ => ?_) (fun _ => ?_) | simp only [*, push_cast, Array.reduceGetElem?, Nat.reduceBEq, Nat.reduceLT, Nat.reduceAdd, Nat.reduceSub, Nat.reduceLeDiff, Nat.reduceMul, Nat.reduceEqDiff, reduceCtorEq, Int.reduceAdd, Int.reduceLT, Int.reduceLE, Int.reduceToNat, Int.reduceNeg, Int.reduceSub, Int.reduceBEq, Int.reduceBNe, Int.reduceNe, Int.reduceGT, Int.reduceGE, Nat.reduceGT] | (rw [drawC_ok]; rotate_left; decide +kernel; exact cfg_mixed))
    case last =>
      have h1 : m.drop l.length = [] := by rw [← hlm]; simp
      have hdl : l.drop l.length = [] := by simp
      rw [h1, hdl]
      repeat' (first | with_reducible refine br_split (fun _ => ?_) (fun _ => ?_) | simp only [*, push_cast, Array.reduceGetElem?, Nat.reduceBEq, Nat.reduceLT, Nat.reduceAdd, Nat.reduceSub, Nat.reduceLeDiff, Nat.reduceMul, Nat.reduceEqDiff, reduceCtorEq, Int.reduceAdd, Int.reduceLT, Int.reduceLE, Int.reduceToNat, Int.reduceNeg, Int.reduceSub, Int.reduceBEq, Int.reduceBNe, Int.reduceNe, Int.reduceGT, Int.reduceGE, Nat.reduceGT] | (rw [drawC_ok]; rotate_left; decide +kernel; exact cfg_mixed))
    · repeat' (first | with_reducible refine br_split (fun _ => ?_) (fun _ => ?_) | simp only [*, push_cast, Array.reduceGetElem?, Nat.reduceBEq, Nat.reduceLT, Nat.reduceAdd, Nat.reduceSub, Nat.reduceLeDiff, Nat.reduceMul, Nat.reduceEqDiff, reduceCtorEq, Int.reduceAdd, Int.reduceLT, Int.reduceLE, Int.reduceToNat, Int.reduceNeg, Int.reduceSub, Int.reduceBEq, Int.reduceBNe, Int.reduceNe, Int.reduceGT, Int.reduceGE, Nat.reduceGT] | (rw [drawC_ok]; rotate_left; decide +kernel; exact cfg_mixed))
  · have hd0 : (((l.length : Int) != (m.length : Int))) = true := by simp; omega
    have hne : decide (l = m) = false := decide_eq_false (fun e => hlm (by rw [e]))
    (refine (evF_code (C := cfg) (g := 152) (fn := Tryz.f152) rfl Tryz.func152 rfl (by rw [Tryz.ntmps152]; simp) (by kernel_rfl) (by first | decide | simp [keysOf])).trans ?_; rw [Tryz.results152, Tryz.ntmps152])
    repeat' (first | with_reducible refine br_split (fun _ => ?_) (fun _ => ?_) | simp only [*, push_cast, Array.reduceGetElem?, Nat.reduceBEq, Nat.reduceLT, Nat.reduceAdd, Nat.reduceSub, Nat.reduceLeDiff, Nat.reduceMul, Nat.reduceEqDiff, reduceCtorEq, Int.reduceAdd, Int.reduceLT, Int.reduceLE, Int.reduceToNat, Int.reduceNeg, Int.reduceSub, Int.reduceBEq, Int.reduceBNe, Int.reduceNe, Int.reduceGT, Int.reduceGE, Nat.reduceGT] | (rw [drawC_ok]; rotate_left; decide +kernel; exact cfg_mixed))

theorem ev_eqCounted (row : List V) (n : Int) (y_row : List V) (y_n : Int) (hlim : limCs (cC ⟨row, n⟩)) : evF cfg 136 [] [.agg [.d (.sl .any (row.map vC)), .d (.i .i64 n)], .agg [.d (.sl .any (y_row.map vC)), .d (.i .i64 y_n)]] = some (.d (.b (decide ((⟨row, n⟩ : C) = ⟨y_row, y_n⟩))), []) := by
  simp only [cC, limCs, limEs_map, T.lim] at hlim
  have erow := ev_eqValueS row y_row (by simp_all [limCs, T.lim, limEs_map])
  (refine (evF_code (C := cfg) (g := 136) (fn := Tryz.f136) rfl Tryz.func136 rfl (by rw [Tryz.ntmps136]; simp) (by kernel_rfl) (by first | decide | simp [keysOf])).trans ?_; rw [Tryz.results136, Tryz.ntmps136])
  repeat' (first | with_reducible refine br_split (fun _ => ?_) (fun _ => ?_) | simp only [*, push_cast, Array.reduceGetElem?, Nat.reduceBEq, Nat.reduceLT, Nat.reduceAdd, Nat.reduceSub, Nat.reduceLeDiff, Nat.reduceMul, Nat.reduceEqDiff, reduceCtorEq, Int.reduceAdd, Int.reduceLT, Int.reduceLE, Int.reduceToNat, Int.reduceNeg, Int.reduceSub, Int.reduceBEq, Int.reduceBNe, Int.reduceNe, Int.reduceGT, Int.reduceGE, Nat.reduceGT] | (rw [drawC_ok]; rotate_left; decide +kernel; exact cfg_mixed))
  all_goals simp_all

theorem ev_eqCountedS (l m : List C) (hlim : (T.sl .any (l.map cC)).lim) : evF cfg 122 [] [.d (.sl .any (l.map cC)), .d (.sl .any (m.map cC))] = some (.d (.b (decide (l = m))), []) := by
  simp only [T.lim, List.length_map, limEs_map] at hlim
  obtain ⟨hl, hlm0⟩ := hlim
  by_cases hlm : m.length = l.length
  · have hd0 : (((l.length : Int) != (m.length : Int))) = false := by simp [hlm]
    (refine (evF_code (C := cfg) (g := 122) (fn := Tryz.f122) rfl Tryz.func122 rfl (by rw [Tryz.ntmps122]; simp) (by kernel_rfl) (by first | decide | simp [keysOf])).trans ?_; rw [Tryz.results122, Tryz.ntmps122])
    repeat' (first | with_reducible refine br_split (fun _ => ?_) (fun _ => ?_) | simp only [*, push_cast, Array.reduceGetElem?, Nat.reduceBEq, Nat.reduceLT, Nat.reduceAdd, Nat.reduceSub, Nat.reduceLeDiff, Nat.reduceMul, Nat.reduceEqDiff, reduceCtorEq, Int.reduceAdd, Int.reduceLT, Int.reduceLE, Int.reduceToNat, Int.reduceNeg, Int.reduceSub, Int.reduceBEq, Int.reduceBNe, Int.reduceNe, Int.reduceGT, Int.reduceGE, Nat.reduceGT] | (rw [drawC_ok]; rotate_left; decide +kernel; exact cfg_mixed))
    rw [evM_for0 l.length (fun i j => { t := [(0, .d (.sl .any (l.map cC))), (1, .d (.sl .any (m.map cC))), (5, .d (.i .i64 j))], o := [], ks := [], n := 0, sz := 27, u := noU })
      (fun i => br (decide (l.drop i = m.drop i)) (some (.exit 0, { t := [], o := [], ks := [], n := 0, sz := 27, u := noU })) (some (.ret, { t := [(4, .d (.b false))], o := [], ks := [], n := 0, sz := 27, u := noU })) ⟨⟩) ?step ?last]
    case step =>
      intro i hi ih
      have hi2 : i < m.length := by omega
      have hc : (l.map cC)[i]? = some [.sl .any (l[i].row.map vC), .i .i64 l[i].n] := get_map cC l i hi
      have hc2 : (m.map cC)[i]? = some [.sl .any (m[i].row.map vC), .i .i64 m[i].n] := get_map cC m i hi2
      have hd := dec_lt hi
      have hw : IntKind.i64.wrap ((i : Int) + 1) = (i : Int) + 1 := i64_in (by omega) (by omega)
      rw [List.drop_eq_getElem_cons hi, List.drop_eq_getElem_cons hi2]
      have ee := ev_eqCounted l[i].row l[i].n m[i].row m[i].n (hlm0 _ (List.getElem_mem hi))
      by_cases he : l[i] = m[i]
      · have h1 := dec_cons_t (l := l.drop (i + 1)) (m := m.drop (i + 1)) he
        have h3 : decide (l[i] = m[i]) = true := by simp [he]
        rw [h1]
        clear h1 he
        repeat' (first | with_reducible refine br_split (fun _ => ?_) (fun _ => ?_) | simp only [*, push_cast, Array.reduceGetElem?, Nat.reduceBEq, Nat.reduceLT, Nat.reduceAdd, Nat.reduceSub, Nat.reduceLeDiff, Nat.reduceMul, Nat.reduceEqDiff, reduceCtorEq, Int.reduceAdd, Int.reduceLT, Int.reduceLE, Int.reduceToNat, Int.reduceNeg, Int.reduceSub, Int.reduceBEq, Int.reduceBNe, Int.reduceNe, Int.reduceGT, Int.reduceGE, Nat.reduceGT] | (rw [drawC_ok]; rotate_left; decide +kernel; exact cfg_mixed))
      · have h1 := dec_cons_f (l := l.drop (i + 1)) (m := m.drop (i + 1)) he
        have h3 : decide (l[i] = m[i]) = false := by simp [he]
        rw [h1]
        clear h1 he
        repeat' (first | with_reducible refine br_split (fun _ => ?_) (fun _ => ?_) | simp only [*, push_cast, Array.reduceGetElem?, Nat.reduceBEq, Nat.reduceLT, Nat.reduceAdd, Nat.reduceSub, Nat.reduceLeDiff, Nat.reduceMul, Nat.reduceEqDiff, reduceCtorEq, Int.reduceAdd, Int.reduceLT, Int.reduceLE, Int.reduceToNat, Int.reduceNeg, Int.reduceSub, Int.reduceBEq, Int.reduceBNe, Int.reduceNe, Int.reduceGT, Int.reduceGE, Nat.reduceGT] | (rw [drawC_ok]; rotate_left; decide +kernel; exact cfg_mixed))
    case last =>
      have h1 : m.drop l.length = [] := by rw [← hlm]; simp
      have hdl : l.drop l.length = [] := by simp
      rw [h1, hdl]
      repeat' (first | with_reducible refine br_split (fun _ => ?_) (fun _ => ?_) | simp only [*, push_cast, Array.reduceGetElem?, Nat.reduceBEq, Nat.reduceLT, Nat.reduceAdd, Nat.reduceSub, Nat.reduceLeDiff, Nat.reduceMul, Nat.reduceEqDiff, reduceCtorEq, Int.reduceAdd, Int.reduceLT, Int.reduceLE, Int.reduceToNat, Int.reduceNeg, Int.reduceSub, Int.reduceBEq, Int.reduceBNe, Int.reduceNe, Int.reduceGT, Int.reduceGE, Nat.reduceGT] | (rw [drawC_ok]; rotate_left; decide +kernel; exact cfg_mixed))
    · repeat' (first | with_reducible refine br_split (fun _ => ?_) (fun _ => ?_) | simp only [*, push_cast, Array.reduceGetElem?, Nat.reduceBEq, Nat.reduceLT, Nat.reduceAdd, Nat.reduceSub, Nat.reduceLeDiff, Nat.reduceMul, Nat.reduceEqDiff, reduceCtorEq, Int.reduceAdd, Int.reduceLT, Int.reduceLE, Int.reduceToNat, Int.reduceNeg, Int.reduceSub, Int.reduceBEq, Int.reduceBNe, Int.reduceNe, Int.reduceGT, Int.reduceGE, Nat.reduceGT] | (rw [drawC_ok]; rotate_left; decide +kernel; exact cfg_mixed))
  · have hd0 : (((l.length : Int) != (m.length : Int))) = true := by simp; omega
    have hne : decide (l = m) = false := decide_eq_false (fun e => hlm (by rw [e]))
    (refine (evF_code (C := cfg) (g := 122) (fn := Tryz.f122) rfl Tryz.func122 rfl (by rw [Tryz.ntmps122]; simp) (by kernel_rfl) (by first | decide | simp [keysOf])).trans ?_; rw [Tryz.results122, Tryz.ntmps122])
    repeat' (first | with_reducible refine br_split (fun _ => ?_) (fun _ => ?_) | simp only [*, push_cast, Array.reduceGetElem?, Nat.reduceBEq, Nat.reduceLT, Nat.reduceAdd, Nat.reduceSub, Nat.reduceLeDiff, Nat.reduceMul, Nat.reduceEqDiff, reduceCtorEq, Int.reduceAdd, Int.reduceLT, Int.reduceLE, Int.reduceToNat, Int.reduceNeg, Int.reduceSub, Int.reduceBEq, Int.reduceBNe, Int.reduceNe, Int.reduceGT, Int.reduceGE, Nat.reduceGT] | (rw [drawC_ok]; rotate_left; decide +kernel; exact cfg_mixed))

theorem ev_eqBag (w : Int) (rows : List C) (y_w : Int) (y_rows : List C) (hlim : limCs (bC ⟨w, rows⟩)) : evF cfg 101 [] [.agg [.d (.i .i64 w), .d (.sl .any (rows.map cC))], .agg [.d (.i .i64 y_w), .d (.sl .any (y_rows.map cC))]] = some (.d (.b (decide ((⟨w, rows⟩ : B) = ⟨y_w, y_rows⟩))), []) := by
  simp only [bC, limCs, limEs_map, T.lim] at hlim
  have erows := ev_eqCountedS rows y_rows (by simp_all [limCs, T.lim, limEs_map])
  (refine (evF_codeZ (C := cfg) (g := 101) (fn := Tryz.f101) rfl Tryz.func101 rfl (by rw [Tryz.ntmps101]; simp) (by kernel_rfl)).trans ?_; rw [Tryz.results101, Tryz.ntmps101])
  repeat' (first | with_reducible refine br_split (fun _ => ?_) (fun _ => ?_) | simp only [*, push_cast, Array.reduceGetElem?, Nat.reduceBEq, Nat.reduceLT, Nat.reduceAdd, Nat.reduceSub, Nat.reduceLeDiff, Nat.reduceMul, Nat.reduceEqDiff, reduceCtorEq, Int.reduceAdd, Int.reduceLT, Int.reduceLE, Int.reduceToNat, Int.reduceNeg, Int.reduceSub, Int.reduceBEq, Int.reduceBNe, Int.reduceNe, Int.reduceGT, Int.reduceGE, Nat.reduceGT] | (rw [drawC_ok]; rotate_left; decide +kernel; exact cfg_mixed))
  all_goals simp_all

theorem ev_eqRel (name : ByteArray) (bag_w : Int) (bag_rows : List C) (y_name : ByteArray) (y_bag_w : Int) (y_bag_rows : List C) (hlim : limCs (rC ⟨name, ⟨bag_w, bag_rows⟩⟩)) : evF cfg 71 [] [.agg [.d (.s name), .d (.i .i64 bag_w), .d (.sl .any (bag_rows.map cC))], .agg [.d (.s y_name), .d (.i .i64 y_bag_w), .d (.sl .any (y_bag_rows.map cC))]] = some (.d (.b (decide ((⟨name, ⟨bag_w, bag_rows⟩⟩ : R) = ⟨y_name, ⟨y_bag_w, y_bag_rows⟩⟩))), []) := by
  simp only [rC, limCs, limEs_map, T.lim] at hlim
  have ebag := ev_eqBag bag_w bag_rows y_bag_w y_bag_rows (by simp_all [bC, limCs, T.lim, limEs_map])
  (refine (evF_code (C := cfg) (g := 71) (fn := Tryz.f71) rfl Tryz.func71 rfl (by rw [Tryz.ntmps71]; simp) (by kernel_rfl) (by first | decide | simp [keysOf])).trans ?_; rw [Tryz.results71, Tryz.ntmps71])
  repeat' (first | with_reducible refine br_split (fun _ => ?_) (fun _ => ?_) | simp only [*, push_cast, Array.reduceGetElem?, Nat.reduceBEq, Nat.reduceLT, Nat.reduceAdd, Nat.reduceSub, Nat.reduceLeDiff, Nat.reduceMul, Nat.reduceEqDiff, reduceCtorEq, Int.reduceAdd, Int.reduceLT, Int.reduceLE, Int.reduceToNat, Int.reduceNeg, Int.reduceSub, Int.reduceBEq, Int.reduceBNe, Int.reduceNe, Int.reduceGT, Int.reduceGE, Nat.reduceGT] | (rw [drawC_ok]; rotate_left; decide +kernel; exact cfg_mixed))
  all_goals simp_all

theorem ev_eqRelS (l m : List R) (hlim : (T.sl .any (l.map rC)).lim) : evF cfg 37 [] [.d (.sl .any (l.map rC)), .d (.sl .any (m.map rC))] = some (.d (.b (decide (l = m))), []) := by
  simp only [T.lim, List.length_map, limEs_map] at hlim
  obtain ⟨hl, hlm0⟩ := hlim
  by_cases hlm : m.length = l.length
  · have hd0 : (((l.length : Int) != (m.length : Int))) = false := by simp [hlm]
    (refine (evF_codeZ (C := cfg) (g := 37) (fn := Tryz.f37) rfl Tryz.func37 rfl (by rw [Tryz.ntmps37]; simp) (by kernel_rfl)).trans ?_; rw [Tryz.results37, Tryz.ntmps37])
    repeat' (first | with_reducible refine br_split (fun _ => ?_) (fun _ => ?_) | simp only [*, push_cast, Array.reduceGetElem?, Nat.reduceBEq, Nat.reduceLT, Nat.reduceAdd, Nat.reduceSub, Nat.reduceLeDiff, Nat.reduceMul, Nat.reduceEqDiff, reduceCtorEq, Int.reduceAdd, Int.reduceLT, Int.reduceLE, Int.reduceToNat, Int.reduceNeg, Int.reduceSub, Int.reduceBEq, Int.reduceBNe, Int.reduceNe, Int.reduceGT, Int.reduceGE, Nat.reduceGT] | (rw [drawC_ok]; rotate_left; decide +kernel; exact cfg_mixed))
    rw [evM_for0 l.length (fun i j => { t := [(0, .d (.sl .any (l.map rC))), (1, .d (.sl .any (m.map rC))), (5, .d (.i .i64 j))], o := [], ks := [], n := 0, sz := 27, u := noU, g := some (0, false) })
      (fun i => br (decide (l.drop i = m.drop i)) (some (.exit 0, { t := [], o := [], ks := [], n := 0, sz := 27, u := noU, g := some (0, false) })) (some (.ret, { t := [(4, .d (.b false))], o := [], ks := [], n := 0, sz := 27, u := noU, g := some (0, false) })) ⟨⟩) ?step ?last]
    case step =>
      intro i hi ih
      have hi2 : i < m.length := by omega
      have hc : (l.map rC)[i]? = some [.s l[i].name, .i .i64 l[i].bag.w, .sl .any (l[i].bag.rows.map cC)] := get_map rC l i hi
      have hc2 : (m.map rC)[i]? = some [.s m[i].name, .i .i64 m[i].bag.w, .sl .any (m[i].bag.rows.map cC)] := get_map rC m i hi2
      have hd := dec_lt hi
      have hw : IntKind.i64.wrap ((i : Int) + 1) = (i : Int) + 1 := i64_in (by omega) (by omega)
      rw [List.drop_eq_getElem_cons hi, List.drop_eq_getElem_cons hi2]
      have ee := ev_eqRel l[i].name l[i].bag.w l[i].bag.rows m[i].name m[i].bag.w m[i].bag.rows (hlm0 _ (List.getElem_mem hi))
      by_cases he : l[i] = m[i]
      · have h1 := dec_cons_t (l := l.drop (i + 1)) (m := m.drop (i + 1)) he
        have h3 : decide (l[i] = m[i]) = true := by simp [he]
        rw [h1]
        clear h1 he
        repeat' (first | with_reducible refine br_split (fun _ => ?_) (fun _ => ?_) | simp only [*, push_cast, Array.reduceGetElem?, Nat.reduceBEq, Nat.reduceLT, Nat.reduceAdd, Nat.reduceSub, Nat.reduceLeDiff, Nat.reduceMul, Nat.reduceEqDiff, reduceCtorEq, Int.reduceAdd, Int.reduceLT, Int.reduceLE, Int.reduceToNat, Int.reduceNeg, Int.reduceSub, Int.reduceBEq, Int.reduceBNe, Int.reduceNe, Int.reduceGT, Int.reduceGE, Nat.reduceGT] | (rw [drawC_ok]; rotate_left; decide +kernel; exact cfg_mixed))
      · have h1 := dec_cons_f (l := l.drop (i + 1)) (m := m.drop (i + 1)) he
        have h3 : decide (l[i] = m[i]) = false := by simp [he]
        rw [h1]
        clear h1 he
        repeat' (first | with_reducible refine br_split (fun _ => ?_) (fun _ => ?_) | simp only [*, push_cast, Array.reduceGetElem?, Nat.reduceBEq, Nat.reduceLT, Nat.reduceAdd, Nat.reduceSub, Nat.reduceLeDiff, Nat.reduceMul, Nat.reduceEqDiff, reduceCtorEq, Int.reduceAdd, Int.reduceLT, Int.reduceLE, Int.reduceToNat, Int.reduceNeg, Int.reduceSub, Int.reduceBEq, Int.reduceBNe, Int.reduceNe, Int.reduceGT, Int.reduceGE, Nat.reduceGT] | (rw [drawC_ok]; rotate_left; decide +kernel; exact cfg_mixed))
    case last =>
      have h1 : m.drop l.length = [] := by rw [← hlm]; simp
      have hdl : l.drop l.length = [] := by simp
      rw [h1, hdl]
      repeat' (first | with_reducible refine br_split (fun _ => ?_) (fun _ => ?_) | simp only [*, push_cast, Array.reduceGetElem?, Nat.reduceBEq, Nat.reduceLT, Nat.reduceAdd, Nat.reduceSub, Nat.reduceLeDiff, Nat.reduceMul, Nat.reduceEqDiff, reduceCtorEq, Int.reduceAdd, Int.reduceLT, Int.reduceLE, Int.reduceToNat, Int.reduceNeg, Int.reduceSub, Int.reduceBEq, Int.reduceBNe, Int.reduceNe, Int.reduceGT, Int.reduceGE, Nat.reduceGT] | (rw [drawC_ok]; rotate_left; decide +kernel; exact cfg_mixed))
    · repeat' (first | with_reducible refine br_split (fun _ => ?_) (fun _ => ?_) | simp only [*, push_cast, Array.reduceGetElem?, Nat.reduceBEq, Nat.reduceLT, Nat.reduceAdd, Nat.reduceSub, Nat.reduceLeDiff, Nat.reduceMul, Nat.reduceEqDiff, reduceCtorEq, Int.reduceAdd, Int.reduceLT, Int.reduceLE, Int.reduceToNat, Int.reduceNeg, Int.reduceSub, Int.reduceBEq, Int.reduceBNe, Int.reduceNe, Int.reduceGT, Int.reduceGE, Nat.reduceGT] | (rw [drawC_ok]; rotate_left; decide +kernel; exact cfg_mixed))
  · have hd0 : (((l.length : Int) != (m.length : Int))) = true := by simp; omega
    have hne : decide (l = m) = false := decide_eq_false (fun e => hlm (by rw [e]))
    (refine (evF_codeZ (C := cfg) (g := 37) (fn := Tryz.f37) rfl Tryz.func37 rfl (by rw [Tryz.ntmps37]; simp) (by kernel_rfl)).trans ?_; rw [Tryz.results37, Tryz.ntmps37])
    repeat' (first | with_reducible refine br_split (fun _ => ?_) (fun _ => ?_) | simp only [*, push_cast, Array.reduceGetElem?, Nat.reduceBEq, Nat.reduceLT, Nat.reduceAdd, Nat.reduceSub, Nat.reduceLeDiff, Nat.reduceMul, Nat.reduceEqDiff, reduceCtorEq, Int.reduceAdd, Int.reduceLT, Int.reduceLE, Int.reduceToNat, Int.reduceNeg, Int.reduceSub, Int.reduceBEq, Int.reduceBNe, Int.reduceNe, Int.reduceGT, Int.reduceGE, Nat.reduceGT] | (rw [drawC_ok]; rotate_left; decide +kernel; exact cfg_mixed))

end Go.Av
end

section
namespace Go.Av
open Go.Proofs
set_option linter.unusedSimpArgs false

theorem ev_IndexFuncValue_A0 {h : FuncId} {p : V → Bool} (l : List V) (hl : l.length ≤ 1099511627776) (hp : ∀ x ∈ l, evF cfg 132 [(0, .box [.clo h []])] [.agg [.d (.i .i64 x.k), .d (.i .i64 x.n), .d (.s x.s)], .ptr 0 0] = some (.d (.b (p x)), [(0, .box [.clo h []])])) :
    evF cfg 149 [(0, .box [.clo h []])] [.d (.sl .any (l.map vC)), .clo 132 [.ptr 0 0]] = some (.d (.i .i64 (idxOf p l)), [(0, .box [.clo h []])]) := by
  (refine (evF_code (C := cfg) (g := 149) (fn := Tryz.f149) rfl Tryz.func149 rfl (by rw [Tryz.ntmps149]; simp) (by kernel_rfl) (by first | decide | simp [keysOf])).trans ?_; rw [Tryz.results149, Tryz.ntmps149])
  repeat' (first | with_reducible refine br_split (fun _ => ?_) (fun _ => ?_) | simp only [*, push_cast, Array.reduceGetElem?, Nat.reduceBEq, Nat.reduceLT, Nat.reduceAdd, Nat.reduceSub, Nat.reduceLeDiff, Nat.reduceMul, Nat.reduceEqDiff, reduceCtorEq, Int.reduceAdd, Int.reduceLT, Int.reduceLE, Int.reduceToNat, Int.reduceNeg, Int.reduceSub, Int.reduceBEq, Int.reduceBNe, Int.reduceNe, Int.reduceGT, Int.reduceGE, Nat.reduceGT] | (rw [drawC_ok]; rotate_left; decide +kernel; exact cfg_mixed))
  rw [evM_for0 l.length (fun i j => { t := [(0, .d (.sl .any (l.map vC))), (1, .clo 132 [.ptr 0 0]), (7, .d (.i .i64 l.length)), (8, .d (.i .i64 j))], o := [(0, .box [.clo h []])], ks := [0], n := 0, sz := 19, u := noU })
    (fun i => br ((l.drop i).any p) (some (.ret, { t := [(4, .d (.i .i64 (i + (l.drop i).findIdx p : Nat)))], o := [(0, .box [.clo h []])], ks := [0], n := 0, sz := 19, u := noU })) (some (.exit 0, { t := [], o := [(0, .box [.clo h []])], ks := [0], n := 0, sz := 19, u := noU })) ⟨⟩) ?step ?last]
  case step =>
    intro i hi ih
    have hc : (l.map vC)[i]? = some [.i .i64 l[i].k, .i .i64 l[i].n, .s l[i].s] := get_map vC l i hi
    have hd := dec_lt hi
    have hw : IntKind.i64.wrap ((i : Int) + 1) = (i : Int) + 1 := wrap_succ (by omega)
    have he := hp _ (List.getElem_mem hi)
    have hx := List.drop_eq_getElem_cons hi
    cases hpi : p l[i] with
    | true =>
      have h1 : (l.drop i).any p = true := by rw [hx, List.any_cons, hpi, Bool.true_or]
      have h2 : (l.drop i).findIdx p = 0 := by rw [hx, List.findIdx_cons, hpi]; rfl
      rw [h1, h2]
      clear hx h1 h2
      repeat' (first | with_reducible refine br_split (fun _ => ?_) (fun _ => ?_) | simp only [*, push_cast, Array.reduceGetElem?, Nat.reduceBEq, Nat.reduceLT, Nat.reduceAdd, Nat.reduceSub, Nat.reduceLeDiff, Nat.reduceMul, Nat.reduceEqDiff, reduceCtorEq, Int.reduceAdd, Int.reduceLT, Int.reduceLE, Int.reduceToNat, Int.reduceNeg, Int.reduceSub, Int.reduceBEq, Int.reduceBNe, Int.reduceNe, Int.reduceGT, Int.reduceGE, Nat.reduceGT] | (rw [drawC_ok]; rotate_left; decide +kernel; exact cfg_mixed))
    | false =>
      have h1 : (l.drop i).any p = (l.drop (i + 1)).any p := by rw [hx, List.any_cons, hpi, Bool.false_or]
      have h2 : i + (l.drop i).findIdx p = i + 1 + (l.drop (i + 1)).findIdx p := by rw [hx, List.findIdx_cons, hpi, cond_false]; omega
      rw [h1, h2]
      clear hx h1 h2
      repeat' (first | with_reducible refine br_split (fun _ => ?_) (fun _ => ?_) | simp only [*, push_cast, Array.reduceGetElem?, Nat.reduceBEq, Nat.reduceLT, Nat.reduceAdd, Nat.reduceSub, Nat.reduceLeDiff, Nat.reduceMul, Nat.reduceEqDiff, reduceCtorEq, Int.reduceAdd, Int.reduceLT, Int.reduceLE, Int.reduceToNat, Int.reduceNeg, Int.reduceSub, Int.reduceBEq, Int.reduceBNe, Int.reduceNe, Int.reduceGT, Int.reduceGE, Nat.reduceGT] | (rw [drawC_ok]; rotate_left; decide +kernel; exact cfg_mixed))
  case last =>
    rw [List.drop_length, List.any_nil]
    repeat' (first | with_reducible refine br_split (fun _ => ?_) (fun _ => ?_) | simp only [*, push_cast, Array.reduceGetElem?, Nat.reduceBEq, Nat.reduceLT, Nat.reduceAdd, Nat.reduceSub, Nat.reduceLeDiff, Nat.reduceMul, Nat.reduceEqDiff, reduceCtorEq, Int.reduceAdd, Int.reduceLT, Int.reduceLE, Int.reduceToNat, Int.reduceNeg, Int.reduceSub, Int.reduceBEq, Int.reduceBNe, Int.reduceNe, Int.reduceGT, Int.reduceGE, Nat.reduceGT] | (rw [drawC_ok]; rotate_left; decide +kernel; exact cfg_mixed))
  · unfold idxOf
    rw [List.drop_zero, Nat.zero_add]
    cases l.any p <;> repeat' (first | with_reducible refine br_split (fun _ => ?_) (fun _ => ?_) | simp only [*, push_cast, Array.reduceGetElem?, Nat.reduceBEq, Nat.reduceLT, Nat.reduceAdd, Nat.reduceSub, Nat.reduceLeDiff, Nat.reduceMul, Nat.reduceEqDiff, reduceCtorEq, Int.reduceAdd, Int.reduceLT, Int.reduceLE, Int.reduceToNat, Int.reduceNeg, Int.reduceSub, Int.reduceBEq, Int.reduceBNe, Int.reduceNe, Int.reduceGT, Int.reduceGE, Nat.reduceGT] | (rw [drawC_ok]; rotate_left; decide +kernel; exact cfg_mixed))
theorem ev_ContainsFuncValue_A0 {h : FuncId} {p : V → Bool} (l : List V) (hl : l.length ≤ 1099511627776) (hp : ∀ x ∈ l, evF cfg 132 [(0, .box [.clo h []])] [.agg [.d (.i .i64 x.k), .d (.i .i64 x.n), .d (.s x.s)], .ptr 0 0] = some (.d (.b (p x)), [(0, .box [.clo h []])])) :
    evF cfg 131 [(0, .box [.clo h []])] [.d (.sl .any (l.map vC)), .clo 132 [.ptr 0 0]] = some (.d (.b (l.any p)), [(0, .box [.clo h []])]) := by
  have hi := ev_IndexFuncValue_A0  l hl hp
  have ha := idxOf_any p l
  clear hp
  (refine (evF_code (C := cfg) (g := 131) (fn := Tryz.f131) rfl Tryz.func131 rfl (by rw [Tryz.ntmps131]; simp) (by kernel_rfl) (by first | decide | simp [keysOf])).trans ?_; rw [Tryz.results131, Tryz.ntmps131])
  repeat' (first | with_reducible refine br_split (fun _ => ?_) (fun _ => ?_) | simp only [*, push_cast, Array.reduceGetElem?, Nat.reduceBEq, Nat.reduceLT, Nat.reduceAdd, Nat.reduceSub, Nat.reduceLeDiff, Nat.reduceMul, Nat.reduceEqDiff, reduceCtorEq, Int.reduceAdd, Int.reduceLT, Int.reduceLE, Int.reduceToNat, Int.reduceNeg, Int.reduceSub, Int.reduceBEq, Int.reduceBNe, Int.reduceNe, Int.reduceGT, Int.reduceGE, Nat.reduceGT] | (rw [drawC_ok]; rotate_left; decide +kernel; exact cfg_mixed))
theorem ev_areAll1Value_0 {h : FuncId} {p : Bool} (x : V) (hx : cfg.E h = none) (hX : cfg.Y h = false) (hZ : cfg.Z h = false) (hp : evF cfg h [] [.agg [.d (.i .i64 x.k), .d (.i .i64 x.n), .d (.s x.s)]] = some (.d (.b p), [])) :
    evF cfg 132 [(0, .box [.clo h []])] [.agg [.d (.i .i64 x.k), .d (.i .i64 x.n), .d (.s x.s)], .ptr 0 0] = some (.d (.b (!p)), [(0, .box [.clo h []])]) := by
  simp only [push_cast, Array.reduceGetElem?, Nat.reduceBEq, Nat.reduceLT, Nat.reduceAdd, Nat.reduceSub, Nat.reduceLeDiff, Nat.reduceMul, Nat.reduceEqDiff, reduceCtorEq, Int.reduceAdd, Int.reduceLT, Int.reduceLE, Int.reduceToNat, Int.reduceNeg, Int.reduceSub, Int.reduceBEq, Int.reduceBNe, Int.reduceNe, Int.reduceGT, Int.reduceGE, Nat.reduceGT] at hx hX hZ
  (refine (evF_code (C := cfg) (g := 132) (fn := Tryz.f132) rfl Tryz.func132 rfl (by rw [Tryz.ntmps132]; simp) (by kernel_rfl) (by first | decide | simp [keysOf])).trans ?_; rw [Tryz.results132, Tryz.ntmps132])
  repeat' (first | with_reducible refine br_split (fun _ => ?_) (fun _ => ?_) | simp only [*, push_cast, Array.reduceGetElem?, Nat.reduceBEq, Nat.reduceLT, Nat.reduceAdd, Nat.reduceSub, Nat.reduceLeDiff, Nat.reduceMul, Nat.reduceEqDiff, reduceCtorEq, Int.reduceAdd, Int.reduceLT, Int.reduceLE, Int.reduceToNat, Int.reduceNeg, Int.reduceSub, Int.reduceBEq, Int.reduceBNe, Int.reduceNe, Int.reduceGT, Int.reduceGE, Nat.reduceGT] | (rw [drawC_ok]; rotate_left; decide +kernel; exact cfg_mixed))
theorem ev_areAllValue_0 {h : FuncId} {p : V → Bool} (l : List V) (hl : l.length ≤ 1099511627776) (hx : cfg.E h = none) (hX : cfg.Y h = false) (hZ : cfg.Z h = false)
    (hp : ∀ x ∈ l, evF cfg h [] [.agg [.d (.i .i64 x.k), .d (.i .i64 x.n), .d (.s x.s)]] = some (.d (.b (p x)), [])) :
    evF cfg 118 [] [.d (.sl .any (l.map vC)), .clo h []] = some (.d (.b (l.all p)), []) := by
  have hc := ev_ContainsFuncValue_A0 (h := h)  l hl (fun x hm => ev_areAll1Value_0  x hx hX hZ (hp x hm))
  have ha : (!l.any fun x => !p x) = l.all p := not_any p l
  clear hp
  (refine (evF_code (C := cfg) (g := 118) (fn := Tryz.f118) rfl Tryz.func118 rfl (by rw [Tryz.ntmps118]; simp) (by kernel_rfl) (by first | decide | simp [keysOf])).trans ?_; rw [Tryz.results118, Tryz.ntmps118])
  repeat' (first | with_reducible refine br_split (fun _ => ?_) (fun _ => ?_) | simp only [*, push_cast, Array.reduceGetElem?, Nat.reduceBEq, Nat.reduceLT, Nat.reduceAdd, Nat.reduceSub, Nat.reduceLeDiff, Nat.reduceMul, Nat.reduceEqDiff, reduceCtorEq, Int.reduceAdd, Int.reduceLT, Int.reduceLE, Int.reduceToNat, Int.reduceNeg, Int.reduceSub, Int.reduceBEq, Int.reduceBNe, Int.reduceNe, Int.reduceGT, Int.reduceGE, Nat.reduceGT] | (rw [drawC_ok]; rotate_left; decide +kernel; exact cfg_mixed))

end Go.Av
end
