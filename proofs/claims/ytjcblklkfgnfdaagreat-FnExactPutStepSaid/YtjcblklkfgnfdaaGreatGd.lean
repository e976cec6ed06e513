/- What functions of this seat give. -/
import Derived.Test.YtjcblklkfgnfdaaGreatGc
import Derived.Test.YtjcblklkfgnfdaaGreatGb
set_option linter.all false
set_option linter.unusedVariables false
set_option linter.unusedSimpArgs false

section
namespace Go.Av
open Go.Proofs
set_option linter.unusedSimpArgs false

def schemasOk (l : List Sc) : Bool := (decide ((l.length : Int) ≤ 20) && rising (l.map Sc.name)) && l.all fun x => colsOk x.cols
def colFrom : List ByteArray → List ByteArray → Bool
  | _, [] => true
  | p, a :: l => (nameOk a && !hasS p a) && colFrom (p ++ [a]) l
def upOk : Option ByteArray → ByteArray → Bool
  | none, _ => true
  | some p, a => !(Op.bytesLess a.toList p.toList || a.toList == p.toList)
def wOk (l : List ByteArray) : Bool := decide (1 ≤ (l.length : Int)) && decide ((l.length : Int) ≤ 12)
def spFrom : Option ByteArray → List Sc → Bool
  | _, [] => true
  | p, x :: l => (((nameOk x.name && upOk p x.name) && wOk x.cols) && colFrom [] x.cols) && spFrom (some x.name) l
set_option maxHeartbeats 2000000 in
theorem ev_sSchemasOk (l : List Sc) (hl : l.length ≤ 1048576) (hc : ∀ x ∈ l, x.cols.length ≤ 1048576 ∧ x.name.size ≤ 1048576 ∧ ∀ c ∈ x.cols, c.size ≤ 1048576) : evF cfg 72 [] [.d (.sl .any (l.map scC))] =
    some (.d (.b (spFrom none l && decide ((l.length : Int) ≤ 20))), []) := by
  (refine (evF_code (C := cfg) (g := 72) (fn := Tryz.f72) rfl Tryz.func72 rfl (by rw [Tryz.ntmps72]; simp) (by kernel_rfl) (by first | decide | simp [keysOf])).trans ?_; rw [Tryz.results72, Tryz.ntmps72])
  repeat' (first | with_reducible refine br_split (fun _ => ?_) (fun _ => ?_) | simp only [*, push_cast, Array.reduceGetElem?, Nat.reduceBEq, Nat.reduceLT, Nat.reduceAdd, Nat.reduceSub, Nat.reduceLeDiff, Nat.reduceMul, Nat.reduceEqDiff, reduceCtorEq, Int.reduceAdd, Int.reduceLT, Int.reduceLE, Int.reduceToNat, Int.reduceNeg, Int.reduceSub, Int.reduceBEq, Int.reduceBNe, Int.reduceGT, Int.reduceGE, Nat.reduceGT] | (rw [drawC_ok]; rotate_left; decide +kernel; exact cfg_mixed))
  rw [evM_for0 l.length (fun i j => { t := [(0, .d (.sl .any (l.map scC))), (3, .d (.i .i64 j))], o := [], ks := [], n := 0, sz := 71, u := noU })
    (fun i => br (spFrom (prevOf (l.map Sc.name) i) (l.drop i)) (some (.exit 0, { t := [(0, .d (.sl .any (l.map scC)))], o := [], ks := [], n := 0, sz := 71, u := noU })) (some (.ret, { t := [(2, .d (.b false))], o := [], ks := [], n := 0, sz := 71, u := noU })) ⟨⟩) ?step ?last]
  case step =>
    intro i hi ih
    have hcc : (l.map scC)[i]? = some [.s l[i].name, .sl .any (l[i].cols.map sC)] := get_map scC l i hi
    have hd := dec_lt hi
    have hw := wrap_succ (i := i) (by omega)
    obtain ⟨c1, c2, c3⟩ := hc _ (List.getElem_mem hi)
    have hn := ev_sNameOk l[i].name (by omega)
    have hdr : l.drop i = l[i] :: l.drop (i + 1) := List.drop_eq_getElem_cons hi
    have hnx : prevOf (l.map Sc.name) (i + 1) = some l[i].name := by simp [prevOf, hi]
    rw [hnx] at ih
    rw [hdr, spFrom]
    clear hnx hdr hc
    by_cases h0 : i = 0
    · have hp : prevOf (l.map Sc.name) i = none := by simp [prevOf, h0]
      have hg : decide ((i : Int) > 0) = false := decide_eq_false (by omega)
      have hu : upOk none l[i].name = true := rfl
      rw [hp, hu, Bool.and_true]
      clear hp h0 hu
      cases hno : nameOk l[i].name with
      | false =>
        rw [Bool.false_and, Bool.false_and, Bool.false_and]
        clear c3
        repeat' (first | with_reducible refine br_split (fun _ => ?_) (fun _ => ?_) | simp only [*, push_cast, Array.reduceGetElem?, Nat.reduceBEq, Nat.reduceLT, Nat.reduceAdd, Nat.reduceSub, Nat.reduceLeDiff, Nat.reduceMul, Nat.reduceEqDiff, reduceCtorEq, Int.reduceAdd, Int.reduceLT, Int.reduceLE, Int.reduceToNat, Int.reduceNeg, Int.reduceSub, Int.reduceBEq, Int.reduceBNe, Int.reduceGT, Int.reduceGE, Nat.reduceGT] | (rw [drawC_ok]; rotate_left; decide +kernel; exact cfg_mixed))
      | true =>
        rw [Bool.true_and]
        cases hwo : wOk l[i].cols with
        | false =>
          rw [Bool.false_and, Bool.false_and]
          unfold wOk at hwo
          clear c3
          repeat' (first | with_reducible refine br_split (fun _ => ?_) (fun _ => ?_) | simp only [*, push_cast, Array.reduceGetElem?, Nat.reduceBEq, Nat.reduceLT, Nat.reduceAdd, Nat.reduceSub, Nat.reduceLeDiff, Nat.reduceMul, Nat.reduceEqDiff, reduceCtorEq, Int.reduceAdd, Int.reduceLT, Int.reduceLE, Int.reduceToNat, Int.reduceNeg, Int.reduceSub, Int.reduceBEq, Int.reduceBNe, Int.reduceGT, Int.reduceGE, Nat.reduceGT] | (rw [drawC_ok]; rotate_left; decide +kernel; exact cfg_mixed))
        | true =>
          rw [Bool.true_and]
          unfold wOk at hwo
          repeat' (first | with_reducible refine br_split (fun _ => ?_) (fun _ => ?_) | simp only [*, push_cast, Array.reduceGetElem?, Nat.reduceBEq, Nat.reduceLT, Nat.reduceAdd, Nat.reduceSub, Nat.reduceLeDiff, Nat.reduceMul, Nat.reduceEqDiff, reduceCtorEq, Int.reduceAdd, Int.reduceLT, Int.reduceLE, Int.reduceToNat, Int.reduceNeg, Int.reduceSub, Int.reduceBEq, Int.reduceBNe, Int.reduceGT, Int.reduceGE, Nat.reduceGT] | (rw [drawC_ok]; rotate_left; decide +kernel; exact cfg_mixed))
          generalize hcg : l[i].cols = cs at *
          rw [evM_for0 cs.length (fun k j => { t := [(0, .d (.sl .any (l.map scC))), (3, .d (.i .i64 i)), (4, .ptr 50 0), (5, .d (.i .i64 j))], o := [(50, .box [.d (.s l[i].name), .d (.sl .any (cs.map sC))])], ks := [50], n := 0, sz := 71, u := noU })
            (fun k => br (colFrom (cs.take k) (cs.drop k)) (some (.exit 2, { t := [(0, .d (.sl .any (l.map scC))), (3, .d (.i .i64 i))], o := [], ks := [], n := 0, sz := 71, u := noU })) (some (.ret, { t := [(2, .d (.b false))], o := [], ks := [], n := 0, sz := 71, u := noU })) ⟨⟩) ?istep ?ilast]
          case istep =>
            intro k hk ihk
            have hkc : (cs.map sC)[k]? = some [.s cs[k]] := get_map sC cs k hk
            have hkd := dec_lt hk
            have hkw := wrap_succ (i := k) (by omega)
            have hkn := ev_sNameOk cs[k] (by have := c3 _ (List.getElem_mem hk); omega)
            have hkh := ev_l03Has (cs.take k) cs[k] (by rw [List.length_take]; omega)
            have hkt : (cs.map sC).take k = (cs.take k).map sC := List.map_take.symm
            have hkb : decide (0 ≤ (k : Int) ∧ (k : Int) ≤ (cs.length : Int)) = true := decide_eq_true (by omega)
            have hkdr : cs.drop k = cs[k] :: cs.drop (k + 1) := List.drop_eq_getElem_cons hk
            have hktk : cs.take k ++ [cs[k]] = cs.take (k + 1) := (List.take_succ_eq_append_getElem hk).symm
            rw [hkdr, colFrom, hktk]
            clear hkdr hktk ih c3 hcc
            cases hkno : nameOk cs[k] with
            | false =>
              rw [Bool.false_and, Bool.false_and]
              repeat' (first | with_reducible refine br_split (fun _ => ?_) (fun _ => ?_) | simp only [*, push_cast, Array.reduceGetElem?, Nat.reduceBEq, Nat.reduceLT, Nat.reduceAdd, Nat.reduceSub, Nat.reduceLeDiff, Nat.reduceMul, Nat.reduceEqDiff, reduceCtorEq, Int.reduceAdd, Int.reduceLT, Int.reduceLE, Int.reduceToNat, Int.reduceNeg, Int.reduceSub, Int.reduceBEq, Int.reduceBNe, Int.reduceGT, Int.reduceGE, Nat.reduceGT] | (rw [drawC_ok]; rotate_left; decide +kernel; exact cfg_mixed))
            | true =>
              rw [Bool.true_and]
              cases hkhs : hasS (cs.take k) cs[k] with
              | true =>
                rw [Bool.not_true, Bool.false_and]
                repeat' (first | with_reducible refine br_split (fun _ => ?_) (fun _ => ?_) | simp only [*, push_cast, Array.reduceGetElem?, Nat.reduceBEq, Nat.reduceLT, Nat.reduceAdd, Nat.reduceSub, Nat.reduceLeDiff, Nat.reduceMul, Nat.reduceEqDiff, reduceCtorEq, Int.reduceAdd, Int.reduceLT, Int.reduceLE, Int.reduceToNat, Int.reduceNeg, Int.reduceSub, Int.reduceBEq, Int.reduceBNe, Int.reduceGT, Int.reduceGE, Nat.reduceGT] | (rw [drawC_ok]; rotate_left; decide +kernel; exact cfg_mixed))
              | false =>
                rw [Bool.not_false, Bool.true_and]
                repeat' (first | with_reducible refine br_split (fun _ => ?_) (fun _ => ?_) | simp only [*, push_cast, Array.reduceGetElem?, Nat.reduceBEq, Nat.reduceLT, Nat.reduceAdd, Nat.reduceSub, Nat.reduceLeDiff, Nat.reduceMul, Nat.reduceEqDiff, reduceCtorEq, Int.reduceAdd, Int.reduceLT, Int.reduceLE, Int.reduceToNat, Int.reduceNeg, Int.reduceSub, Int.reduceBEq, Int.reduceBNe, Int.reduceGT, Int.reduceGE, Nat.reduceGT] | (rw [drawC_ok]; rotate_left; decide +kernel; exact cfg_mixed))
          case ilast =>
            have h1 : colFrom (cs.take cs.length) (cs.drop cs.length) = true := by rw [List.drop_length]; unfold colFrom; rfl
            rw [h1]
            clear ih c3
            repeat' (first | with_reducible refine br_split (fun _ => ?_) (fun _ => ?_) | simp only [*, push_cast, Array.reduceGetElem?, Nat.reduceBEq, Nat.reduceLT, Nat.reduceAdd, Nat.reduceSub, Nat.reduceLeDiff, Nat.reduceMul, Nat.reduceEqDiff, reduceCtorEq, Int.reduceAdd, Int.reduceLT, Int.reduceLE, Int.reduceToNat, Int.reduceNeg, Int.reduceSub, Int.reduceBEq, Int.reduceBNe, Int.reduceGT, Int.reduceGE, Nat.reduceGT] | (rw [drawC_ok]; rotate_left; decide +kernel; exact cfg_mixed))
          · rw [List.take_zero, List.drop_zero]
            clear c3
            cases hcf : colFrom [] cs with
            | false =>
              rw [Bool.false_and]
              repeat' (first | with_reducible refine br_split (fun _ => ?_) (fun _ => ?_) | simp only [*, push_cast, Array.reduceGetElem?, Nat.reduceBEq, Nat.reduceLT, Nat.reduceAdd, Nat.reduceSub, Nat.reduceLeDiff, Nat.reduceMul, Nat.reduceEqDiff, reduceCtorEq, Int.reduceAdd, Int.reduceLT, Int.reduceLE, Int.reduceToNat, Int.reduceNeg, Int.reduceSub, Int.reduceBEq, Int.reduceBNe, Int.reduceGT, Int.reduceGE, Nat.reduceGT] | (rw [drawC_ok]; rotate_left; decide +kernel; exact cfg_mixed))
            | true =>
              rw [Bool.true_and]
              repeat' (first | with_reducible refine br_split (fun _ => ?_) (fun _ => ?_) | simp only [*, push_cast, Array.reduceGetElem?, Nat.reduceBEq, Nat.reduceLT, Nat.reduceAdd, Nat.reduceSub, Nat.reduceLeDiff, Nat.reduceMul, Nat.reduceEqDiff, reduceCtorEq, Int.reduceAdd, Int.reduceLT, Int.reduceLE, Int.reduceToNat, Int.reduceNeg, Int.reduceSub, Int.reduceBEq, Int.reduceBNe, Int.reduceGT, Int.reduceGE, Nat.reduceGT] | (rw [drawC_ok]; rotate_left; decide +kernel; exact cfg_mixed))
    · obtain ⟨q, hq⟩ : ∃ q, q = i - 1 := ⟨_, rfl⟩
      have hqi : q < l.length := by omega
      have hp : prevOf (l.map Sc.name) i = some l[q].name := by simp [prevOf, h0, hq, List.getElem?_eq_getElem (by omega : i - 1 < l.length)]
      have hg : decide ((i : Int) > 0) = true := decide_eq_true (by omega)
      have hwq : IntKind.i64.wrap ((i : Int) - 1) = (q : Int) := by rw [i64_in (by omega) (by omega)]; omega
      have hcq : (l.map scC)[q]? = some [.s l[q].name, .sl .any (l[q].cols.map sC)] := get_map scC l q hqi
      have hdq := dec_lt hqi
      have hu : upOk (some l[q].name) l[i].name = !(Op.bytesLess l[i].name.toList l[q].name.toList || l[i].name.toList == l[q].name.toList) := rfl
      rw [hp, hu]
      clear hp h0 hu hq
      cases hno : nameOk l[i].name with
      | false =>
        rw [Bool.false_and, Bool.false_and, Bool.false_and, Bool.false_and]
        clear c3
        repeat' (first | with_reducible refine br_split (fun _ => ?_) (fun _ => ?_) | simp only [*, push_cast, Array.reduceGetElem?, Nat.reduceBEq, Nat.reduceLT, Nat.reduceAdd, Nat.reduceSub, Nat.reduceLeDiff, Nat.reduceMul, Nat.reduceEqDiff, reduceCtorEq, Int.reduceAdd, Int.reduceLT, Int.reduceLE, Int.reduceToNat, Int.reduceNeg, Int.reduceSub, Int.reduceBEq, Int.reduceBNe, Int.reduceGT, Int.reduceGE, Nat.reduceGT] | (rw [drawC_ok]; rotate_left; decide +kernel; exact cfg_mixed))
      | true =>
        rw [Bool.true_and]
        cases hls : Op.bytesLess l[i].name.toList l[q].name.toList with
        | true =>
          rw [Bool.true_or, Bool.not_true, Bool.false_and, Bool.false_and, Bool.false_and]
          clear c3
          repeat' (first | with_reducible refine br_split (fun _ => ?_) (fun _ => ?_) | simp only [*, push_cast, Array.reduceGetElem?, Nat.reduceBEq, Nat.reduceLT, Nat.reduceAdd, Nat.reduceSub, Nat.reduceLeDiff, Nat.reduceMul, Nat.reduceEqDiff, reduceCtorEq, Int.reduceAdd, Int.reduceLT, Int.reduceLE, Int.reduceToNat, Int.reduceNeg, Int.reduceSub, Int.reduceBEq, Int.reduceBNe, Int.reduceGT, Int.reduceGE, Nat.reduceGT] | (rw [drawC_ok]; rotate_left; decide +kernel; exact cfg_mixed))
        | false =>
         rw [Bool.false_or]
         cases hls2 : (l[i].name.toList == l[q].name.toList) with
         | true =>
          rw [Bool.not_true, Bool.false_and, Bool.false_and, Bool.false_and]
          clear c3
          repeat' (first | with_reducible refine br_split (fun _ => ?_) (fun _ => ?_) | simp only [*, push_cast, Array.reduceGetElem?, Nat.reduceBEq, Nat.reduceLT, Nat.reduceAdd, Nat.reduceSub, Nat.reduceLeDiff, Nat.reduceMul, Nat.reduceEqDiff, reduceCtorEq, Int.reduceAdd, Int.reduceLT, Int.reduceLE, Int.reduceToNat, Int.reduceNeg, Int.reduceSub, Int.reduceBEq, Int.reduceBNe, Int.reduceGT, Int.reduceGE, Nat.reduceGT] | (rw [drawC_ok]; rotate_left; decide +kernel; exact cfg_mixed))
         | false =>
         rw [Bool.not_false, Bool.true_and]
         cases hwo : wOk l[i].cols with
         | false =>
          rw [Bool.false_and, Bool.false_and]
          unfold wOk at hwo
          clear c3
          repeat' (first | with_reducible refine br_split (fun _ => ?_) (fun _ => ?_) | simp only [*, push_cast, Array.reduceGetElem?, Nat.reduceBEq, Nat.reduceLT, Nat.reduceAdd, Nat.reduceSub, Nat.reduceLeDiff, Nat.reduceMul, Nat.reduceEqDiff, reduceCtorEq, Int.reduceAdd, Int.reduceLT, Int.reduceLE, Int.reduceToNat, Int.reduceNeg, Int.reduceSub, Int.reduceBEq, Int.reduceBNe, Int.reduceGT, Int.reduceGE, Nat.reduceGT] | (rw [drawC_ok]; rotate_left; decide +kernel; exact cfg_mixed))
         | true =>
          rw [Bool.true_and]
          unfold wOk at hwo
          repeat' (first | with_reducible refine br_split (fun _ => ?_) (fun _ => ?_) | simp only [*, push_cast, Array.reduceGetElem?, Nat.reduceBEq, Nat.reduceLT, Nat.reduceAdd, Nat.reduceSub, Nat.reduceLeDiff, Nat.reduceMul, Nat.reduceEqDiff, reduceCtorEq, Int.reduceAdd, Int.reduceLT, Int.reduceLE, Int.reduceToNat, Int.reduceNeg, Int.reduceSub, Int.reduceBEq, Int.reduceBNe, Int.reduceGT, Int.reduceGE, Nat.reduceGT] | (rw [drawC_ok]; rotate_left; decide +kernel; exact cfg_mixed))
          generalize hcg : l[i].cols = cs at *
          rw [evM_for0 cs.length (fun k j => { t := [(0, .d (.sl .any (l.map scC))), (3, .d (.i .i64 i)), (4, .ptr 50 0), (5, .d (.i .i64 j))], o := [(50, .box [.d (.s l[i].name), .d (.sl .any (cs.map sC))])], ks := [50], n := 0, sz := 71, u := noU })
            (fun k => br (colFrom (cs.take k) (cs.drop k)) (some (.exit 2, { t := [(0, .d (.sl .any (l.map scC))), (3, .d (.i .i64 i))], o := [], ks := [], n := 0, sz := 71, u := noU })) (some (.ret, { t := [(2, .d (.b false))], o := [], ks := [], n := 0, sz := 71, u := noU })) ⟨⟩) ?istep ?ilast]
          case istep =>
            intro k hk ihk
            have hkc : (cs.map sC)[k]? = some [.s cs[k]] := get_map sC cs k hk
            have hkd := dec_lt hk
            have hkw := wrap_succ (i := k) (by omega)
            have hkn := ev_sNameOk cs[k] (by have := c3 _ (List.getElem_mem hk); omega)
            have hkh := ev_l03Has (cs.take k) cs[k] (by rw [List.length_take]; omega)
            have hkt : (cs.map sC).take k = (cs.take k).map sC := List.map_take.symm
            have hkb : decide (0 ≤ (k : Int) ∧ (k : Int) ≤ (cs.length : Int)) = true := decide_eq_true (by omega)
            have hkdr : cs.drop k = cs[k] :: cs.drop (k + 1) := List.drop_eq_getElem_cons hk
            have hktk : cs.take k ++ [cs[k]] = cs.take (k + 1) := (List.take_succ_eq_append_getElem hk).symm
            rw [hkdr, colFrom, hktk]
            clear hkdr hktk ih c3 hcc
            cases hkno : nameOk cs[k] with
            | false =>
              rw [Bool.false_and, Bool.false_and]
              repeat' (first | with_reducible refine br_split (fun _ => ?_) (fun _ => ?_) | simp only [*, push_cast, Array.reduceGetElem?, Nat.reduceBEq, Nat.reduceLT, Nat.reduceAdd, Nat.reduceSub, Nat.reduceLeDiff, Nat.reduceMul, Nat.reduceEqDiff, reduceCtorEq, Int.reduceAdd, Int.reduceLT, Int.reduceLE, Int.reduceToNat, Int.reduceNeg, Int.reduceSub, Int.reduceBEq, Int.reduceBNe, Int.reduceGT, Int.reduceGE, Nat.reduceGT] | (rw [drawC_ok]; rotate_left; decide +kernel; exact cfg_mixed))
            | true =>
              rw [Bool.true_and]
              cases hkhs : hasS (cs.take k) cs[k] with
              | true =>
                rw [Bool.not_true, Bool.false_and]
                repeat' (first | with_reducible refine br_split (fun _ => ?_) (fun _ => ?_) | simp only [*, push_cast, Array.reduceGetElem?, Nat.reduceBEq, Nat.reduceLT, Nat.reduceAdd, Nat.reduceSub, Nat.reduceLeDiff, Nat.reduceMul, Nat.reduceEqDiff, reduceCtorEq, Int.reduceAdd, Int.reduceLT, Int.reduceLE, Int.reduceToNat, Int.reduceNeg, Int.reduceSub, Int.reduceBEq, Int.reduceBNe, Int.reduceGT, Int.reduceGE, Nat.reduceGT] | (rw [drawC_ok]; rotate_left; decide +kernel; exact cfg_mixed))
              | false =>
                rw [Bool.not_false, Bool.true_and]
                repeat' (first | with_reducible refine br_split (fun _ => ?_) (fun _ => ?_) | simp only [*, push_cast, Array.reduceGetElem?, Nat.reduceBEq, Nat.reduceLT, Nat.reduceAdd, Nat.reduceSub, Nat.reduceLeDiff, Nat.reduceMul, Nat.reduceEqDiff, reduceCtorEq, Int.reduceAdd, Int.reduceLT, Int.reduceLE, Int.reduceToNat, Int.reduceNeg, Int.reduceSub, Int.reduceBEq, Int.reduceBNe, Int.reduceGT, Int.reduceGE, Nat.reduceGT] | (rw [drawC_ok]; rotate_left; decide +kernel; exact cfg_mixed))
          case ilast =>
            have h1 : colFrom (cs.take cs.length) (cs.drop cs.length) = true := by rw [List.drop_length]; unfold colFrom; rfl
            rw [h1]
            clear ih c3
            repeat' (first | with_reducible refine br_split (fun _ => ?_) (fun _ => ?_) | simp only [*, push_cast, Array.reduceGetElem?, Nat.reduceBEq, Nat.reduceLT, Nat.reduceAdd, Nat.reduceSub, Nat.reduceLeDiff, Nat.reduceMul, Nat.reduceEqDiff, reduceCtorEq, Int.reduceAdd, Int.reduceLT, Int.reduceLE, Int.reduceToNat, Int.reduceNeg, Int.reduceSub, Int.reduceBEq, Int.reduceBNe, Int.reduceGT, Int.reduceGE, Nat.reduceGT] | (rw [drawC_ok]; rotate_left; decide +kernel; exact cfg_mixed))
          · rw [List.take_zero, List.drop_zero]
            clear c3
            cases hcf : colFrom [] cs with
            | false =>
              rw [Bool.false_and]
              repeat' (first | with_reducible refine br_split (fun _ => ?_) (fun _ => ?_) | simp only [*, push_cast, Array.reduceGetElem?, Nat.reduceBEq, Nat.reduceLT, Nat.reduceAdd, Nat.reduceSub, Nat.reduceLeDiff, Nat.reduceMul, Nat.reduceEqDiff, reduceCtorEq, Int.reduceAdd, Int.reduceLT, Int.reduceLE, Int.reduceToNat, Int.reduceNeg, Int.reduceSub, Int.reduceBEq, Int.reduceBNe, Int.reduceGT, Int.reduceGE, Nat.reduceGT] | (rw [drawC_ok]; rotate_left; decide +kernel; exact cfg_mixed))
            | true =>
              rw [Bool.true_and]
              repeat' (first | with_reducible refine br_split (fun _ => ?_) (fun _ => ?_) | simp only [*, push_cast, Array.reduceGetElem?, Nat.reduceBEq, Nat.reduceLT, Nat.reduceAdd, Nat.reduceSub, Nat.reduceLeDiff, Nat.reduceMul, Nat.reduceEqDiff, reduceCtorEq, Int.reduceAdd, Int.reduceLT, Int.reduceLE, Int.reduceToNat, Int.reduceNeg, Int.reduceSub, Int.reduceBEq, Int.reduceBNe, Int.reduceGT, Int.reduceGE, Nat.reduceGT] | (rw [drawC_ok]; rotate_left; decide +kernel; exact cfg_mixed))
  case last =>
    have h1 : spFrom (prevOf (l.map Sc.name) l.length) (l.drop l.length) = true := by
      rw [List.drop_length]
      unfold spFrom
      rfl
    rw [h1]
    clear hc
    repeat' (first | with_reducible refine br_split (fun _ => ?_) (fun _ => ?_) | simp only [*, push_cast, Array.reduceGetElem?, Nat.reduceBEq, Nat.reduceLT, Nat.reduceAdd, Nat.reduceSub, Nat.reduceLeDiff, Nat.reduceMul, Nat.reduceEqDiff, reduceCtorEq, Int.reduceAdd, Int.reduceLT, Int.reduceLE, Int.reduceToNat, Int.reduceNeg, Int.reduceSub, Int.reduceBEq, Int.reduceBNe, Int.reduceGT, Int.reduceGE, Nat.reduceGT] | (rw [drawC_ok]; rotate_left; decide +kernel; exact cfg_mixed))
  · have h1 : spFrom (prevOf (l.map Sc.name) 0) (l.drop 0) = spFrom none l := by simp [prevOf]
    rw [h1]
    clear hc
    repeat' (first | with_reducible refine br_split (fun _ => ?_) (fun _ => ?_) | simp only [*, push_cast, Array.reduceGetElem?, Nat.reduceBEq, Nat.reduceLT, Nat.reduceAdd, Nat.reduceSub, Nat.reduceLeDiff, Nat.reduceMul, Nat.reduceEqDiff, reduceCtorEq, Int.reduceAdd, Int.reduceLT, Int.reduceLE, Int.reduceToNat, Int.reduceNeg, Int.reduceSub, Int.reduceBEq, Int.reduceBNe, Int.reduceGT, Int.reduceGE, Nat.reduceGT] | (rw [drawC_ok]; rotate_left; decide +kernel; exact cfg_mixed))
end Go.Av
end

section
namespace Go.Av
set_option linter.unusedSimpArgs false

theorem bl_lt : ∀ x y : List UInt8, Op.bytesLess x y = decide (x < y)
  | [], [] => by simp [Op.bytesLess]
  | [], _ :: _ => by simp [Op.bytesLess]
  | _ :: _, [] => by simp [Op.bytesLess]
  | a :: x, b :: y => by
    have ih := bl_lt x y
    unfold Op.bytesLess
    simp only [List.cons_lt_cons_iff]
    by_cases h : a < b
    · simp [h]
    · by_cases h2 : b < a
      · have : a ≠ b := fun e => by subst e; exact h h2
        simp [h, h2, this]
      · have : a = b := UInt8.le_antisymm (UInt8.not_lt.1 h2) (UInt8.not_lt.1 h)
        subst this
        simp [h, ih]
def bl (a : ByteArray) : List UInt8 := a.data.toList
theorem bl_inj {a b : ByteArray} (h : bl a = bl b) : a = b := ByteArray.ext (Array.toList_inj.1 h)
theorem less_eq (a b : ByteArray) : Op.bytesLess a.toList b.toList = decide (bl a < bl b) := by rw [ba_toList, ba_toList, bl_lt]; rfl
theorem up_eq (p a : ByteArray) : upOk (some p) a = decide (bl p < bl a) := by
  show (!(Op.bytesLess a.toList p.toList || a.toList == p.toList)) = _
  rw [less_eq, ba_toList, ba_toList]
  show (!(decide (bl a < bl p) || bl a == bl p)) = _
  by_cases h1 : bl p < bl a
  · have h2 : ¬ bl a < bl p := fun h => List.lt_irrefl _ (List.lt_trans h h1)
    have h3 : bl a ≠ bl p := fun h => by rw [h] at h1; exact List.lt_irrefl _ h1
    simp [h1, h2, h3]
  · by_cases h2 : bl a < bl p
    · simp [h1, h2]
    · have h3 : bl a = bl p := List.le_antisymm (List.not_lt.1 h1) (List.not_lt.1 h2)
      simp [h3, List.lt_irrefl]

/-- Strictly rising. -/
def strictFrom : Option ByteArray → List ByteArray → Bool
  | _, [] => true
  | none, a :: l => strictFrom (some a) l
  | some p, a :: l => decide (bl p < bl a) && strictFrom (some a) l
theorem ris_split : ∀ (p : Option ByteArray) (l : List ByteArray), risFrom p l = (l.all nameOk && strictFrom p l)
  | _, [] => by simp [risFrom, strictFrom]
  | none, a :: l => by simp only [risFrom, strictFrom, ris_split, List.all_cons, Bool.and_assoc]
  | some p, a :: l => by
    simp only [risFrom, strictFrom, ris_split, List.all_cons, less_eq]
    cases nameOk a <;> cases decide (bl p < bl a) <;> simp
theorem sp_split : ∀ (p : Option ByteArray) (l : List Sc), spFrom p l = (risFrom p (l.map Sc.name) && l.all fun x => wOk x.cols && colFrom [] x.cols)
  | _, [] => by simp [spFrom, risFrom]
  | none, x :: l => by
    simp only [spFrom, risFrom, sp_split, List.all_cons, List.map_cons, upOk]
    cases nameOk x.name <;> cases wOk x.cols <;> cases colFrom [] x.cols <;> simp
  | some p, x :: l => by
    simp only [spFrom, risFrom, sp_split, List.all_cons, List.map_cons, up_eq, less_eq]
    cases nameOk x.name <;> cases wOk x.cols <;> cases colFrom [] x.cols <;> cases decide (bl p < bl x.name) <;> simp

theorem col_iff : ∀ (p l : List ByteArray), colFrom p l = true ↔ l.all nameOk = true ∧ l.Nodup ∧ ∀ a ∈ l, a ∉ p
  | p, [] => by simp [colFrom]
  | p, a :: l => by
    rw [colFrom, Bool.and_eq_true, Bool.and_eq_true, col_iff (p ++ [a]) l]
    simp only [hasS, List.all_cons, Bool.and_eq_true, List.nodup_cons, List.mem_cons, List.mem_append, List.not_mem_nil, or_false, Bool.not_eq_true', List.any_eq_false, decide_eq_true_eq]
    constructor
    · rintro ⟨⟨h1, h2⟩, h3, h4, h5⟩
      refine ⟨⟨h1, h3⟩, ⟨fun h => h5 a h (.inr rfl), h4⟩, ?_⟩
      rintro b (rfl | hb) hbp
      · exact h2 b hbp rfl
      · exact h5 b hb (.inl hbp)
    · rintro ⟨⟨h1, h3⟩, ⟨h6, h4⟩, h5⟩
      refine ⟨⟨h1, fun x hx hxa => h5 a (.inl rfl) (by rw [← hxa]; exact hx)⟩, h3, h4, ?_⟩
      rintro b hb (h | rfl)
      · exact h5 b (.inr hb) h
      · exact h6 hb
theorem strict_iff : ∀ (l : List ByteArray), (∀ p, strictFrom (some p) l = true ↔ (l.Pairwise fun a b => bl a < bl b) ∧ ∀ a ∈ l, bl p < bl a) ∧ (strictFrom none l = true ↔ l.Pairwise fun a b => bl a < bl b)
  | [] => by simp [strictFrom]
  | a :: l => by
    obtain ⟨ih, _⟩ := strict_iff l
    have h0 : (strictFrom (some a) l = true) ↔ (a :: l).Pairwise (fun a b => bl a < bl b) := by
      rw [ih a, List.pairwise_cons]
      exact And.comm
    refine ⟨fun p => ?_, ?_⟩
    · simp only [strictFrom, Bool.and_eq_true, decide_eq_true_eq]
      rw [h0]
      constructor
      · rintro ⟨h1, h2⟩
        refine ⟨h2, ?_⟩
        intro b hb
        rcases List.mem_cons.1 hb with rfl | hb
        · exact h1
        · exact List.lt_trans h1 ((List.pairwise_cons.1 h2).1 b hb)
      · rintro ⟨h1, h2⟩
        exact ⟨h2 a (List.mem_cons_self ..), h1⟩
    · simp only [strictFrom]
      exact h0

theorem sStr_perm (l : List ByteArray) : (sStr l).Perm l := by
  have h := ((l.map fun s => s.data.toList).mergeSort_perm fun x y => decide (x ≤ y)).map fun s : List UInt8 => (⟨s.toArray⟩ : ByteArray)
  have e : (l.map fun s => s.data.toList).map (fun s : List UInt8 => (⟨s.toArray⟩ : ByteArray)) = l := by
    rw [List.map_map]
    conv => rhs; rw [← List.map_id l]
    apply List.map_congr_left
    intro a _
    simp
  rw [e] at h
  exact h
theorem sStr_sorted (l : List ByteArray) : (sStr l).Pairwise fun a b => bl a ≤ bl b := by
  have h := List.pairwise_mergeSort (le := fun x y : List UInt8 => decide (x ≤ y)) (fun a b c h1 h2 => decide_eq_true (List.le_trans (of_decide_eq_true h1) (of_decide_eq_true h2)))
    (fun a b => by rcases List.le_total a b with h | h <;> simp [h]) (l.map fun s => s.data.toList)
  unfold sStr
  rw [List.pairwise_map]
  refine h.imp ?_
  intro a b hab
  simpa [bl] using hab
theorem rising_sStr (l : List ByteArray) : rising (sStr l) = colFrom [] l := by
  rw [rising, ris_split, Bool.eq_iff_iff, Bool.and_eq_true, (strict_iff (sStr l)).2, col_iff]
  have hp := sStr_perm l
  have ha : (sStr l).all nameOk = l.all nameOk := by
    rw [Bool.eq_iff_iff, List.all_eq_true, List.all_eq_true]
    exact ⟨fun h x hx => h x (hp.mem_iff.2 hx), fun h x hx => h x (hp.mem_iff.1 hx)⟩
  rw [ha, ← hp.nodup_iff]
  refine and_congr_right fun _ => ⟨fun h => ⟨?_, fun a _ h => by cases h⟩, fun ⟨h, _⟩ => ?_⟩
  · exact h.imp fun hab e => by rw [e] at hab; exact List.lt_irrefl _ hab
  · have hs := sStr_sorted l
    refine (hs.and h).imp ?_
    rintro a b ⟨h1, h2⟩
    by_cases h3 : bl a < bl b
    · exact h3
    · exact absurd (bl_inj (List.le_antisymm h1 (List.not_lt.1 h3))) h2
theorem schemas_same (l : List Sc) : (spFrom none l && decide ((l.length : Int) ≤ 20)) = schemasOk l := by
  unfold schemasOk
  rw [sp_split]
  have : (fun x : Sc => wOk x.cols && colFrom [] x.cols) = fun x => colsOk x.cols := by
    funext x
    rw [colsOk, rising_sStr]
    rfl
  rw [this]
  show (rising (l.map Sc.name) && _ && _) = _
  cases rising (l.map Sc.name) <;> cases decide ((l.length : Int) ≤ 20) <;> simp
end Go.Av
end

section
namespace Go.Av
open Go.Proofs
set_option linter.unusedSimpArgs false

structure Sp where
  kind : Int
  name : ByteArray
  cols : List ByteArray
  query : ByteArray
  change : List R
  deriving DecidableEq
def spC (x : Sp) : List T := [.i .i64 x.kind, .s x.name, .sl .any (x.cols.map sC), .s x.query, .sl .any (x.change.map rC)]
@[push_cast] theorem spC_all (l : List Sp) : ((l.map spC).all fun e => e.length == 5) = true := by simp [spC]
def szSp (x : Sp) : Nat := x.name.size + szSs x.cols + x.query.size + szRs x.change
def szSps (l : List Sp) : Nat := l.length + (l.map szSp).sum
theorem szSps_mem {l : List Sp} {n : Nat} (h : szSps l ≤ n) : l.length ≤ n ∧ ∀ x ∈ l, szSp x ≤ n := sums_mem h
@[push_cast] theorem ev_toStep (kind : Int) (name : ByteArray) (cols : List ByteArray) (query : ByteArray) (change : List R) (h : szSp ⟨kind, name, cols, query, change⟩ ≤ 1048576) : evF cfg 10 [] [.agg [.d (.i .i64 kind), .d (.s name), .d (.sl .any (cols.map sC)), .d (.s query), .d (.sl .any (change.map rC))]] = some (.agg [.d (.i .i64 kind), .d (.s name), .d (.sl .any (cols.map sC)), .d (.s query), .d (.sl .any (change.map rC))], []) := by
  simp only [szSp] at h
  have ecols := ev_toStringS cols (by omega)
  have echange := ev_toRelS change (by omega)
  (refine (evF_code (C := cfg) (g := 10) (fn := Tryz.f10) rfl Tryz.func10 rfl (by rw [Tryz.ntmps10]; simp) (by kernel_rfl) (by first | decide | simp [keysOf])).trans ?_; rw [Tryz.results10, Tryz.ntmps10])
  repeat' (first | with_reducible refine br_split (fun _ => ?_) (fun _ => ?_) | simp only [*, push_cast, Array.reduceGetElem?, Nat.reduceBEq, Nat.reduceLT, Nat.reduceAdd, Nat.reduceSub, Nat.reduceLeDiff, Nat.reduceMul, Nat.reduceEqDiff, reduceCtorEq, Int.reduceAdd, Int.reduceLT, Int.reduceLE, Int.reduceToNat, Int.reduceNeg, Int.reduceSub, Int.reduceBEq, Int.reduceBNe, Int.reduceGT, Int.reduceGE, Nat.reduceGT] | (rw [drawC_ok]; rotate_left; decide +kernel; exact cfg_mixed))

theorem ev_szStep (kind : Int) (name : ByteArray) (cols : List ByteArray) (query : ByteArray) (change : List R) (left : Int) (h0 : 0 ≤ left) (h1 : left ≤ 1048576) (hlim : limCs (spC ⟨kind, name, cols, query, change⟩)) : evF cfg 8 [] [.agg [.d (.i .i64 kind), .d (.s name), .d (.sl .any (cols.map sC)), .d (.s query), .d (.sl .any (change.map rC))], .d (.i .i64 left)] = some (.d (.i .i64 (left1 left (szSp ⟨kind, name, cols, query, change⟩))), []) := by
  simp only [spC, limCs, T.lim] at hlim
  have hw0 : IntKind.i64.wrap (left - ((name.size : Nat) : Int)) = left - ((name.size : Nat) : Int) := i64_in (by omega) (by omega)
  by_cases hn0 : left - ((name.size : Nat) : Int) < 0
  · have hd0 : decide (left - ((name.size : Nat) : Int) < 0) = true := decide_eq_true hn0
    have hm : decide ((-1 : Int) < 0) = true := rfl
    have hr : left1 left (szSp ⟨kind, name, cols, query, change⟩) = -1 := left1_neg (by simp only [szSp]; omega)
    (refine (evF_code (C := cfg) (g := 8) (fn := Tryz.f8) rfl Tryz.func8 rfl (by rw [Tryz.ntmps8]; simp) (by kernel_rfl) (by first | decide | simp [keysOf])).trans ?_; rw [Tryz.results8, Tryz.ntmps8])
    repeat' (first | with_reducible refine br_split (fun _ => ?_) (fun _ => ?_) | simp only [*, push_cast, Array.reduceGetElem?, Nat.reduceBEq, Nat.reduceLT, Nat.reduceAdd, Nat.reduceSub, Nat.reduceLeDiff, Nat.reduceMul, Nat.reduceEqDiff, reduceCtorEq, Int.reduceAdd, Int.reduceLT, Int.reduceLE, Int.reduceToNat, Int.reduceNeg, Int.reduceSub, Int.reduceBEq, Int.reduceBNe, Int.reduceGT, Int.reduceGE, Nat.reduceGT] | (rw [drawC_ok]; rotate_left; decide +kernel; exact cfg_mixed))
  · have hd0 : decide (left - ((name.size : Nat) : Int) < 0) = false := decide_eq_false hn0
    have ee1 := ev_szStringS cols (left - ((name.size : Nat) : Int)) (by omega) (by omega) (by simp_all [limCs, T.lim, spC])
    by_cases hn1 : (left - ((name.size : Nat) : Int)) - ((szSs cols : Nat) : Int) < 0
    · have hd1 : decide ((left - ((name.size : Nat) : Int)) - ((szSs cols : Nat) : Int) < 0) = true := decide_eq_true hn1
      have el1 : left1 (left - ((name.size : Nat) : Int)) (szSs cols) = -1 := if_pos hn1
      have hm : decide ((-1 : Int) < 0) = true := rfl
      have hr : left1 left (szSp ⟨kind, name, cols, query, change⟩) = -1 := left1_neg (by simp only [szSp]; omega)
      (refine (evF_code (C := cfg) (g := 8) (fn := Tryz.f8) rfl Tryz.func8 rfl (by rw [Tryz.ntmps8]; simp) (by kernel_rfl) (by first | decide | simp [keysOf])).trans ?_; rw [Tryz.results8, Tryz.ntmps8])
      repeat' (first | with_reducible refine br_split (fun _ => ?_) (fun _ => ?_) | simp only [*, push_cast, Array.reduceGetElem?, Nat.reduceBEq, Nat.reduceLT, Nat.reduceAdd, Nat.reduceSub, Nat.reduceLeDiff, Nat.reduceMul, Nat.reduceEqDiff, reduceCtorEq, Int.reduceAdd, Int.reduceLT, Int.reduceLE, Int.reduceToNat, Int.reduceNeg, Int.reduceSub, Int.reduceBEq, Int.reduceBNe, Int.reduceGT, Int.reduceGE, Nat.reduceGT] | (rw [drawC_ok]; rotate_left; decide +kernel; exact cfg_mixed))
    · have hd1 : decide ((left - ((name.size : Nat) : Int)) - ((szSs cols : Nat) : Int) < 0) = false := decide_eq_false hn1
      have el1 : left1 (left - ((name.size : Nat) : Int)) (szSs cols) = (left - ((name.size : Nat) : Int)) - ((szSs cols : Nat) : Int) := if_neg hn1
      have hw2 : IntKind.i64.wrap (((left - ((name.size : Nat) : Int)) - ((szSs cols : Nat) : Int)) - ((query.size : Nat) : Int)) = ((left - ((name.size : Nat) : Int)) - ((szSs cols : Nat) : Int)) - ((query.size : Nat) : Int) := i64_in (by omega) (by omega)
      by_cases hn2 : ((left - ((name.size : Nat) : Int)) - ((szSs cols : Nat) : Int)) - ((query.size : Nat) : Int) < 0
      · have hd2 : decide (((left - ((name.size : Nat) : Int)) - ((szSs cols : Nat) : Int)) - ((query.size : Nat) : Int) < 0) = true := decide_eq_true hn2
        have hm : decide ((-1 : Int) < 0) = true := rfl
        have hr : left1 left (szSp ⟨kind, name, cols, query, change⟩) = -1 := left1_neg (by simp only [szSp]; omega)
        (refine (evF_code (C := cfg) (g := 8) (fn := Tryz.f8) rfl Tryz.func8 rfl (by rw [Tryz.ntmps8]; simp) (by kernel_rfl) (by first | decide | simp [keysOf])).trans ?_; rw [Tryz.results8, Tryz.ntmps8])
        repeat' (first | with_reducible refine br_split (fun _ => ?_) (fun _ => ?_) | simp only [*, push_cast, Array.reduceGetElem?, Nat.reduceBEq, Nat.reduceLT, Nat.reduceAdd, Nat.reduceSub, Nat.reduceLeDiff, Nat.reduceMul, Nat.reduceEqDiff, reduceCtorEq, Int.reduceAdd, Int.reduceLT, Int.reduceLE, Int.reduceToNat, Int.reduceNeg, Int.reduceSub, Int.reduceBEq, Int.reduceBNe, Int.reduceGT, Int.reduceGE, Nat.reduceGT] | (rw [drawC_ok]; rotate_left; decide +kernel; exact cfg_mixed))
      · have hd2 : decide (((left - ((name.size : Nat) : Int)) - ((szSs cols : Nat) : Int)) - ((query.size : Nat) : Int) < 0) = false := decide_eq_false hn2
        have ee3 := ev_szRelS change (((left - ((name.size : Nat) : Int)) - ((szSs cols : Nat) : Int)) - ((query.size : Nat) : Int)) (by omega) (by omega) (by simp_all [limCs, T.lim, spC])
        by_cases hn3 : (((left - ((name.size : Nat) : Int)) - ((szSs cols : Nat) : Int)) - ((query.size : Nat) : Int)) - ((szRs change : Nat) : Int) < 0
        · have hd3 : decide ((((left - ((name.size : Nat) : Int)) - ((szSs cols : Nat) : Int)) - ((query.size : Nat) : Int)) - ((szRs change : Nat) : Int) < 0) = true := decide_eq_true hn3
          have el3 : left1 (((left - ((name.size : Nat) : Int)) - ((szSs cols : Nat) : Int)) - ((query.size : Nat) : Int)) (szRs change) = -1 := if_pos hn3
          have hm : decide ((-1 : Int) < 0) = true := rfl
          have hr : left1 left (szSp ⟨kind, name, cols, query, change⟩) = -1 := left1_neg (by simp only [szSp]; omega)
          (refine (evF_code (C := cfg) (g := 8) (fn := Tryz.f8) rfl Tryz.func8 rfl (by rw [Tryz.ntmps8]; simp) (by kernel_rfl) (by first | decide | simp [keysOf])).trans ?_; rw [Tryz.results8, Tryz.ntmps8])
          repeat' (first | with_reducible refine br_split (fun _ => ?_) (fun _ => ?_) | simp only [*, push_cast, Array.reduceGetElem?, Nat.reduceBEq, Nat.reduceLT, Nat.reduceAdd, Nat.reduceSub, Nat.reduceLeDiff, Nat.reduceMul, Nat.reduceEqDiff, reduceCtorEq, Int.reduceAdd, Int.reduceLT, Int.reduceLE, Int.reduceToNat, Int.reduceNeg, Int.reduceSub, Int.reduceBEq, Int.reduceBNe, Int.reduceGT, Int.reduceGE, Nat.reduceGT] | (rw [drawC_ok]; rotate_left; decide +kernel; exact cfg_mixed))
        · have hd3 : decide ((((left - ((name.size : Nat) : Int)) - ((szSs cols : Nat) : Int)) - ((query.size : Nat) : Int)) - ((szRs change : Nat) : Int) < 0) = false := decide_eq_false hn3
          have el3 : left1 (((left - ((name.size : Nat) : Int)) - ((szSs cols : Nat) : Int)) - ((query.size : Nat) : Int)) (szRs change) = (((left - ((name.size : Nat) : Int)) - ((szSs cols : Nat) : Int)) - ((query.size : Nat) : Int)) - ((szRs change : Nat) : Int) := if_neg hn3
          have hr : left1 left (szSp ⟨kind, name, cols, query, change⟩) = ((((left - ((name.size : Nat) : Int)) - ((szSs cols : Nat) : Int)) - ((query.size : Nat) : Int)) - ((szRs change : Nat) : Int)) := (left1_pos (by simp only [szSp]; omega)).trans (by simp only [szSp] <;> omega)
          (refine (evF_code (C := cfg) (g := 8) (fn := Tryz.f8) rfl Tryz.func8 rfl (by rw [Tryz.ntmps8]; simp) (by kernel_rfl) (by first | decide | simp [keysOf])).trans ?_; rw [Tryz.results8, Tryz.ntmps8])
          repeat' (first | with_reducible refine br_split (fun _ => ?_) (fun _ => ?_) | simp only [*, push_cast, Array.reduceGetElem?, Nat.reduceBEq, Nat.reduceLT, Nat.reduceAdd, Nat.reduceSub, Nat.reduceLeDiff, Nat.reduceMul, Nat.reduceEqDiff, reduceCtorEq, Int.reduceAdd, Int.reduceLT, Int.reduceLE, Int.reduceToNat, Int.reduceNeg, Int.reduceSub, Int.reduceBEq, Int.reduceBNe, Int.reduceGT, Int.reduceGE, Nat.reduceGT] | (rw [drawC_ok]; rotate_left; decide +kernel; exact cfg_mixed))

theorem ev_eqStep (kind : Int) (name : ByteArray) (cols : List ByteArray) (query : ByteArray) (change : List R) (y_kind : Int) (y_name : ByteArray) (y_cols : List ByteArray) (y_query : ByteArray) (y_change : List R) (hlim : limCs (spC ⟨kind, name, cols, query, change⟩)) : evF cfg 12 [] [.agg [.d (.i .i64 kind), .d (.s name), .d (.sl .any (cols.map sC)), .d (.s query), .d (.sl .any (change.map rC))], .agg [.d (.i .i64 y_kind), .d (.s y_name), .d (.sl .any (y_cols.map sC)), .d (.s y_query), .d (.sl .any (y_change.map rC))]] = some (.d (.b (decide ((⟨kind, name, cols, query, change⟩ : Sp) = ⟨y_kind, y_name, y_cols, y_query, y_change⟩))), []) := by
  simp only [spC, limCs, limEs_map, T.lim] at hlim
  have ecols := ev_eqStringS cols y_cols (by simp_all [limCs, T.lim, limEs_map])
  have echange := ev_eqRelS change y_change (by simp_all [limCs, T.lim, limEs_map])
  (refine (evF_code (C := cfg) (g := 12) (fn := Tryz.f12) rfl Tryz.func12 rfl (by rw [Tryz.ntmps12]; simp) (by kernel_rfl) (by first | decide | simp [keysOf])).trans ?_; rw [Tryz.results12, Tryz.ntmps12])
  repeat' (first | with_reducible refine br_split (fun _ => ?_) (fun _ => ?_) | simp only [*, push_cast, Array.reduceGetElem?, Nat.reduceBEq, Nat.reduceLT, Nat.reduceAdd, Nat.reduceSub, Nat.reduceLeDiff, Nat.reduceMul, Nat.reduceEqDiff, reduceCtorEq, Int.reduceAdd, Int.reduceLT, Int.reduceLE, Int.reduceToNat, Int.reduceNeg, Int.reduceSub, Int.reduceBEq, Int.reduceBNe, Int.reduceGT, Int.reduceGE, Nat.reduceGT] | (rw [drawC_ok]; rotate_left; decide +kernel; exact cfg_mixed))
  all_goals simp_all

theorem ev_IndexFuncRel_A0 {h : FuncId} {p : R → Bool} (l : List R) (hl : l.length ≤ 1099511627776) (hp : ∀ x ∈ l, evF cfg 103 [(0, .box [.clo h []])] [.agg [.d (.s x.name), .d (.i .i64 x.bag.w), .d (.sl .any (x.bag.rows.map cC))], .ptr 0 0] = some (.d (.b (p x)), [(0, .box [.clo h []])])) :
    evF cfg 129 [(0, .box [.clo h []])] [.d (.sl .any (l.map rC)), .clo 103 [.ptr 0 0]] = some (.d (.i .i64 (idxOf p l)), [(0, .box [.clo h []])]) := by
  (refine (evF_code (C := cfg) (g := 129) (fn := Tryz.f129) rfl Tryz.func129 rfl (by rw [Tryz.ntmps129]; simp) (by kernel_rfl) (by first | decide | simp [keysOf])).trans ?_; rw [Tryz.results129, Tryz.ntmps129])
  repeat' (first | with_reducible refine br_split (fun _ => ?_) (fun _ => ?_) | simp only [*, push_cast, Array.reduceGetElem?, Nat.reduceBEq, Nat.reduceLT, Nat.reduceAdd, Nat.reduceSub, Nat.reduceLeDiff, Nat.reduceMul, Nat.reduceEqDiff, reduceCtorEq, Int.reduceAdd, Int.reduceLT, Int.reduceLE, Int.reduceToNat, Int.reduceNeg, Int.reduceSub, Int.reduceBEq, Int.reduceBNe, Int.reduceGT, Int.reduceGE, Nat.reduceGT] | (rw [drawC_ok]; rotate_left; decide +kernel; exact cfg_mixed))
  rw [evM_for0 l.length (fun i j => { t := [(0, .d (.sl .any (l.map rC))), (1, .clo 103 [.ptr 0 0]), (7, .d (.i .i64 l.length)), (8, .d (.i .i64 j))], o := [(0, .box [.clo h []])], ks := [0], n := 0, sz := 19, u := noU })
    (fun i => br ((l.drop i).any p) (some (.ret, { t := [(4, .d (.i .i64 (i + (l.drop i).findIdx p : Nat)))], o := [(0, .box [.clo h []])], ks := [0], n := 0, sz := 19, u := noU })) (some (.exit 0, { t := [], o := [(0, .box [.clo h []])], ks := [0], n := 0, sz := 19, u := noU })) ⟨⟩) ?step ?last]
  case step =>
    intro i hi ih
    have hc : (l.map rC)[i]? = some [.s l[i].name, .i .i64 l[i].bag.w, .sl .any (l[i].bag.rows.map cC)] := get_map rC l i hi
    have hd := dec_lt hi
    have hw : IntKind.i64.wrap ((i : Int) + 1) = (i : Int) + 1 := wrap_succ (by omega)
    have he := hp _ (List.getElem_mem hi)
    have hx := List.drop_eq_getElem_cons hi
    cases hpi : p l[i] with
    | true =>
      have h1 : (l.drop i).any p = true := by rw [hx, List.any_cons, hpi, Bool.true_or]
      have h2 : (l.drop i).findIdx p = 0 := by rw [hx, List.findIdx_cons, hpi]; rfl
      rw [h1, h2]
      clear hx h1 h2
      repeat' (first | with_reducible refine br_split (fun _ => ?_) (fun _ => ?_) | simp only [*, push_cast, Array.reduceGetElem?, Nat.reduceBEq, Nat.reduceLT, Nat.reduceAdd, Nat.reduceSub, Nat.reduceLeDiff, Nat.reduceMul, Nat.reduceEqDiff, reduceCtorEq, Int.reduceAdd, Int.reduceLT, Int.reduceLE, Int.reduceToNat, Int.reduceNeg, Int.reduceSub, Int.reduceBEq, Int.reduceBNe, Int.reduceGT, Int.reduceGE, Nat.reduceGT] | (rw [drawC_ok]; rotate_left; decide +kernel; exact cfg_mixed))
    | false =>
      have h1 : (l.drop i).any p = (l.drop (i + 1)).any p := by rw [hx, List.any_cons, hpi, Bool.false_or]
      have h2 : i + (l.drop i).findIdx p = i + 1 + (l.drop (i + 1)).findIdx p := by rw [hx, List.findIdx_cons, hpi, cond_false]; omega
      rw [h1, h2]
      clear hx h1 h2
      repeat' (first | with_reducible refine br_split (fun _ => ?_) (fun _ => ?_) | simp only [*, push_cast, Array.reduceGetElem?, Nat.reduceBEq, Nat.reduceLT, Nat.reduceAdd, Nat.reduceSub, Nat.reduceLeDiff, Nat.reduceMul, Nat.reduceEqDiff, reduceCtorEq, Int.reduceAdd, Int.reduceLT, Int.reduceLE, Int.reduceToNat, Int.reduceNeg, Int.reduceSub, Int.reduceBEq, Int.reduceBNe, Int.reduceGT, Int.reduceGE, Nat.reduceGT] | (rw [drawC_ok]; rotate_left; decide +kernel; exact cfg_mixed))
  case last =>
    rw [List.drop_length, List.any_nil]
    repeat' (first | with_reducible refine br_split (fun _ => ?_) (fun _ => ?_) | simp only [*, push_cast, Array.reduceGetElem?, Nat.reduceBEq, Nat.reduceLT, Nat.reduceAdd, Nat.reduceSub, Nat.reduceLeDiff, Nat.reduceMul, Nat.reduceEqDiff, reduceCtorEq, Int.reduceAdd, Int.reduceLT, Int.reduceLE, Int.reduceToNat, Int.reduceNeg, Int.reduceSub, Int.reduceBEq, Int.reduceBNe, Int.reduceGT, Int.reduceGE, Nat.reduceGT] | (rw [drawC_ok]; rotate_left; decide +kernel; exact cfg_mixed))
  · unfold idxOf
    rw [List.drop_zero, Nat.zero_add]
    cases l.any p <;> repeat' (first | with_reducible refine br_split (fun _ => ?_) (fun _ => ?_) | simp only [*, push_cast, Array.reduceGetElem?, Nat.reduceBEq, Nat.reduceLT, Nat.reduceAdd, Nat.reduceSub, Nat.reduceLeDiff, Nat.reduceMul, Nat.reduceEqDiff, reduceCtorEq, Int.reduceAdd, Int.reduceLT, Int.reduceLE, Int.reduceToNat, Int.reduceNeg, Int.reduceSub, Int.reduceBEq, Int.reduceBNe, Int.reduceGT, Int.reduceGE, Nat.reduceGT] | (rw [drawC_ok]; rotate_left; decide +kernel; exact cfg_mixed))
theorem ev_ContainsFuncRel_A0 {h : FuncId} {p : R → Bool} (l : List R) (hl : l.length ≤ 1099511627776) (hp : ∀ x ∈ l, evF cfg 103 [(0, .box [.clo h []])] [.agg [.d (.s x.name), .d (.i .i64 x.bag.w), .d (.sl .any (x.bag.rows.map cC))], .ptr 0 0] = some (.d (.b (p x)), [(0, .box [.clo h []])])) :
    evF cfg 102 [(0, .box [.clo h []])] [.d (.sl .any (l.map rC)), .clo 103 [.ptr 0 0]] = some (.d (.b (l.any p)), [(0, .box [.clo h []])]) := by
  have hi := ev_IndexFuncRel_A0  l hl hp
  have ha := idxOf_any p l
  clear hp
  (refine (evF_code (C := cfg) (g := 102) (fn := Tryz.f102) rfl Tryz.func102 rfl (by rw [Tryz.ntmps102]; simp) (by kernel_rfl) (by first | decide | simp [keysOf])).trans ?_; rw [Tryz.results102, Tryz.ntmps102])
  repeat' (first | with_reducible refine br_split (fun _ => ?_) (fun _ => ?_) | simp only [*, push_cast, Array.reduceGetElem?, Nat.reduceBEq, Nat.reduceLT, Nat.reduceAdd, Nat.reduceSub, Nat.reduceLeDiff, Nat.reduceMul, Nat.reduceEqDiff, reduceCtorEq, Int.reduceAdd, Int.reduceLT, Int.reduceLE, Int.reduceToNat, Int.reduceNeg, Int.reduceSub, Int.reduceBEq, Int.reduceBNe, Int.reduceGT, Int.reduceGE, Nat.reduceGT] | (rw [drawC_ok]; rotate_left; decide +kernel; exact cfg_mixed))
theorem ev_areAll1Rel_0 {h : FuncId} {p : Bool} (x : R) (hx : cfg.E h = none) (hX : cfg.Y h = false) (hp : evF cfg h [] [.agg [.d (.s x.name), .d (.i .i64 x.bag.w), .d (.sl .any (x.bag.rows.map cC))]] = some (.d (.b p), [])) :
    evF cfg 103 [(0, .box [.clo h []])] [.agg [.d (.s x.name), .d (.i .i64 x.bag.w), .d (.sl .any (x.bag.rows.map cC))], .ptr 0 0] = some (.d (.b (!p)), [(0, .box [.clo h []])]) := by
  simp only [push_cast, Array.reduceGetElem?, Nat.reduceBEq, Nat.reduceLT, Nat.reduceAdd, Nat.reduceSub, Nat.reduceLeDiff, Nat.reduceMul, Nat.reduceEqDiff, reduceCtorEq, Int.reduceAdd, Int.reduceLT, Int.reduceLE, Int.reduceToNat, Int.reduceNeg, Int.reduceSub, Int.reduceBEq, Int.reduceBNe, Int.reduceGT, Int.reduceGE, Nat.reduceGT] at hx hX
  (refine (evF_code (C := cfg) (g := 103) (fn := Tryz.f103) rfl Tryz.func103 rfl (by rw [Tryz.ntmps103]; simp) (by kernel_rfl) (by first | decide | simp [keysOf])).trans ?_; rw [Tryz.results103, Tryz.ntmps103])
  repeat' (first | with_reducible refine br_split (fun _ => ?_) (fun _ => ?_) | simp only [*, push_cast, Array.reduceGetElem?, Nat.reduceBEq, Nat.reduceLT, Nat.reduceAdd, Nat.reduceSub, Nat.reduceLeDiff, Nat.reduceMul, Nat.reduceEqDiff, reduceCtorEq, Int.reduceAdd, Int.reduceLT, Int.reduceLE, Int.reduceToNat, Int.reduceNeg, Int.reduceSub, Int.reduceBEq, Int.reduceBNe, Int.reduceGT, Int.reduceGE, Nat.reduceGT] | (rw [drawC_ok]; rotate_left; decide +kernel; exact cfg_mixed))
theorem ev_areAllRel_0 {h : FuncId} {p : R → Bool} (l : List R) (hl : l.length ≤ 1099511627776) (hx : cfg.E h = none) (hX : cfg.Y h = false)
    (hp : ∀ x ∈ l, evF cfg h [] [.agg [.d (.s x.name), .d (.i .i64 x.bag.w), .d (.sl .any (x.bag.rows.map cC))]] = some (.d (.b (p x)), [])) :
    evF cfg 69 [] [.d (.sl .any (l.map rC)), .clo h []] = some (.d (.b (l.all p)), []) := by
  have hc := ev_ContainsFuncRel_A0 (h := h)  l hl (fun x hm => ev_areAll1Rel_0  x hx hX (hp x hm))
  have ha : (!l.any fun x => !p x) = l.all p := not_any p l
  clear hp
  (refine (evF_code (C := cfg) (g := 69) (fn := Tryz.f69) rfl Tryz.func69 rfl (by rw [Tryz.ntmps69]; simp) (by kernel_rfl) (by first | decide | simp [keysOf])).trans ?_; rw [Tryz.results69, Tryz.ntmps69])
  repeat' (first | with_reducible refine br_split (fun _ => ?_) (fun _ => ?_) | simp only [*, push_cast, Array.reduceGetElem?, Nat.reduceBEq, Nat.reduceLT, Nat.reduceAdd, Nat.reduceSub, Nat.reduceLeDiff, Nat.reduceMul, Nat.reduceEqDiff, reduceCtorEq, Int.reduceAdd, Int.reduceLT, Int.reduceLE, Int.reduceToNat, Int.reduceNeg, Int.reduceSub, Int.reduceBEq, Int.reduceBNe, Int.reduceGT, Int.reduceGE, Nat.reduceGT] | (rw [drawC_ok]; rotate_left; decide +kernel; exact cfg_mixed))

end Go.Av
end

section
namespace Go.Av
open Go.Proofs
set_option linter.unusedSimpArgs false

theorem ev_relNames (l : List R) (hl : l.length ≤ 1048576) : evF cfg 68 [] [.d (.sl .any (l.map rC))] = some (.d (.sl .any ((l.map R.name).map sC)), []) := by
  (refine (evF_code (C := cfg) (g := 68) (fn := Tryz.f68) rfl Tryz.func68 rfl (by rw [Tryz.ntmps68]; simp) (by kernel_rfl) (by first | decide | simp [keysOf])).trans ?_; rw [Tryz.results68, Tryz.ntmps68])
  repeat' (first | with_reducible refine br_split (fun _ => ?_) (fun _ => ?_) | simp only [*, push_cast, Array.reduceGetElem?, Nat.reduceBEq, Nat.reduceLT, Nat.reduceAdd, Nat.reduceSub, Nat.reduceLeDiff, Nat.reduceMul, Nat.reduceEqDiff, reduceCtorEq, Int.reduceAdd, Int.reduceLT, Int.reduceLE, Int.reduceToNat, Int.reduceNeg, Int.reduceSub, Int.reduceBEq, Int.reduceBNe, Int.reduceGT, Int.reduceGE, Nat.reduceGT] | (rw [drawC_ok]; rotate_left; decide +kernel; exact cfg_mixed))
  rw [show ([] : List (List T)) = ((l.map R.name).take 0).map sC from rfl]
  rw [evM_for0 l.length (fun i j => { t := [(3, .own 50), (6, .d (.sl .any (l.map rC))), (7, .d (.i .i64 l.length)), (8, .d (.i .i64 j))], o := [(50, .arr .any 1 (((l.map R.name).take i).map sC))], ks := [50], n := 0, sz := 19, u := noU })
    (fun i => some (.exit 0, { t := [(3, .own 50)], o := [(50, .arr .any 1 ((l.map R.name).map sC))], ks := [50], n := 0, sz := 19, u := noU })) ?step ?last]
  case step =>
    intro i hi ih
    have hcc : (l.map rC)[i]? = some [.s l[i].name, .i .i64 l[i].bag.w, .sl .any (l[i].bag.rows.map cC)] := get_map rC l i hi
    have hd := dec_lt hi
    have hw := wrap_succ (i := i) (by omega)
    have h2 := len_ok (n := ((l.map R.name).take i).length + 1) 16 (by simp; omega) (by omega)
    have h3 : ((l.map R.name).take i).map sC ++ [[.s l[i].name]] = ((l.map R.name).take (i + 1)).map sC := by
      have := take_snoc sC (l := l.map R.name) (i := i) (by simpa using hi)
      simpa [sC] using this
    repeat' (first | with_reducible refine br_split (fun _ => ?_) (fun _ => ?_) | simp only [*, push_cast, Array.reduceGetElem?, Nat.reduceBEq, Nat.reduceLT, Nat.reduceAdd, Nat.reduceSub, Nat.reduceLeDiff, Nat.reduceMul, Nat.reduceEqDiff, reduceCtorEq, Int.reduceAdd, Int.reduceLT, Int.reduceLE, Int.reduceToNat, Int.reduceNeg, Int.reduceSub, Int.reduceBEq, Int.reduceBNe, Int.reduceGT, Int.reduceGE, Nat.reduceGT] | (rw [drawC_ok]; rotate_left; decide +kernel; exact cfg_mixed))
  case last =>
    have : (l.map R.name).take l.length = l.map R.name := List.take_of_length_le (by simp)
    repeat' (first | with_reducible refine br_split (fun _ => ?_) (fun _ => ?_) | simp only [*, push_cast, Array.reduceGetElem?, Nat.reduceBEq, Nat.reduceLT, Nat.reduceAdd, Nat.reduceSub, Nat.reduceLeDiff, Nat.reduceMul, Nat.reduceEqDiff, reduceCtorEq, Int.reduceAdd, Int.reduceLT, Int.reduceLE, Int.reduceToNat, Int.reduceNeg, Int.reduceSub, Int.reduceBEq, Int.reduceBNe, Int.reduceGT, Int.reduceGE, Nat.reduceGT] | (rw [drawC_ok]; rotate_left; decide +kernel; exact cfg_mixed))
  · repeat' (first | with_reducible refine br_split (fun _ => ?_) (fun _ => ?_) | simp only [*, push_cast, Array.reduceGetElem?, Nat.reduceBEq, Nat.reduceLT, Nat.reduceAdd, Nat.reduceSub, Nat.reduceLeDiff, Nat.reduceMul, Nat.reduceEqDiff, reduceCtorEq, Int.reduceAdd, Int.reduceLT, Int.reduceLE, Int.reduceToNat, Int.reduceNeg, Int.reduceSub, Int.reduceBEq, Int.reduceBNe, Int.reduceGT, Int.reduceGE, Nat.reduceGT] | (rw [drawC_ok]; rotate_left; decide +kernel; exact cfg_mixed))
@[push_cast] theorem ev_StepOk1 (name : ByteArray) (w : Int) (rows : List C) (hl : rows.length ≤ 1099511627776) (hr : ∀ c ∈ rows, c.row.length ≤ 1099511627776) : evF cfg 70 [] [.agg [.d (.s name), .d (.i .i64 w), .d (.sl .any (rows.map cC))]] = some (.d (.b (bagOk ⟨w, rows⟩)), []) := by
  have h := ev_BagOk w rows (by omega) hr
  clear hr
  (refine (evF_code (C := cfg) (g := 70) (fn := Tryz.f70) rfl Tryz.func70 rfl (by rw [Tryz.ntmps70]; simp) (by kernel_rfl) (by first | decide | simp [keysOf])).trans ?_; rw [Tryz.results70, Tryz.ntmps70])
  repeat' (first | with_reducible refine br_split (fun _ => ?_) (fun _ => ?_) | simp only [*, push_cast, Array.reduceGetElem?, Nat.reduceBEq, Nat.reduceLT, Nat.reduceAdd, Nat.reduceSub, Nat.reduceLeDiff, Nat.reduceMul, Nat.reduceEqDiff, reduceCtorEq, Int.reduceAdd, Int.reduceLT, Int.reduceLE, Int.reduceToNat, Int.reduceNeg, Int.reduceSub, Int.reduceBEq, Int.reduceBNe, Int.reduceGT, Int.reduceGE, Nat.reduceGT] | (rw [drawC_ok]; rotate_left; decide +kernel; exact cfg_mixed))

def noS : ByteArray := ⟨#[]⟩
def stepRest (x : Sp) : Bool :=
  if x.kind = 0 then nameOk x.name && colsOk x.cols
  else if x.kind = 1 then nameOk x.name && decide ((x.query.size : Int) ≤ 1000)
  else if x.kind = 2 then nameOk x.name
  else if x.kind = 3 then ((decide (x.name = noS) && (decide (1 ≤ (x.change.length : Int)) && decide ((x.change.length : Int) ≤ 20))) && rising (x.change.map R.name)) && x.change.all fun r => bagOk r.bag
  else false
def stepBad (x : Sp) : Bool := (decide (x.kind ≠ 0) && decide (0 < x.cols.length)) || (decide (x.kind ≠ 1) && decide (x.query ≠ noS)) || (decide (x.kind ≠ 3) && decide (0 < x.change.length))
def stepOk (x : Sp) : Bool := !stepBad x && stepRest x
set_option maxHeartbeats 4000000 in
theorem ev_StepOk (kind : Int) (name : ByteArray) (cols : List ByteArray) (query : ByteArray) (change : List R) (h : szSp ⟨kind, name, cols, query, change⟩ ≤ 1048576) :
    evF cfg 31 [] [.agg [.d (.i .i64 kind), .d (.s name), .d (.sl .any (cols.map sC)), .d (.s query), .d (.sl .any (change.map rC))]] = some (.d (.b (stepOk ⟨kind, name, cols, query, change⟩)), []) := by
  simp only [szSp] at h
  obtain ⟨c1, _⟩ := szSs_mem (l := cols) (n := 1048576) (by omega)
  obtain ⟨c2, c3⟩ := szRs_mem (l := change) (n := 1048576) (by omega)
  have c4 : ∀ x ∈ change, x.bag.rows.length ≤ 1099511627776 ∧ ∀ c ∈ x.bag.rows, c.row.length ≤ 1099511627776 := by
    intro x hx
    have := c3 x hx
    simp only [szR, szB] at this
    obtain ⟨d1, d2⟩ := szCs_mem (l := x.bag.rows) (n := 1048576) (by omega)
    refine ⟨by omega, fun c hc => ?_⟩
    have := d2 c hc
    simp only [szC] at this
    obtain ⟨e1, _⟩ := szVs_mem (l := c.row) (n := 1048576) (by omega)
    omega
  have hac := ev_areCols cols (by omega)
  have hrn := ev_relNames change c2
  have hri := ev_isRising (change.map R.name) (by simp; omega)
  have haa := ev_areAllRel_0 (h := 70) (p := fun x => bagOk x.bag) change (by omega) (by rfl) (by rfl) (fun x hx => ev_StepOk1 x.name x.bag.w x.bag.rows (c4 x hx).1 (c4 x hx).2)
  have hno := ev_NameOk name
  clear c1 c2 c3 c4 h
  by_cases k0 : kind = 0
  · subst k0
    (refine (evF_code (C := cfg) (g := 31) (fn := Tryz.f31) rfl Tryz.func31 rfl (by rw [Tryz.ntmps31]; simp) (by kernel_rfl) (by first | decide | simp [keysOf])).trans ?_; rw [Tryz.results31, Tryz.ntmps31])
    repeat' (first | with_reducible refine br_split (fun _ => ?_) (fun _ => ?_) | simp only [*, push_cast, Array.reduceGetElem?, Nat.reduceBEq, Nat.reduceLT, Nat.reduceAdd, Nat.reduceSub, Nat.reduceLeDiff, Nat.reduceMul, Nat.reduceEqDiff, reduceCtorEq, Int.reduceAdd, Int.reduceLT, Int.reduceLE, Int.reduceToNat, Int.reduceNeg, Int.reduceSub, Int.reduceBEq, Int.reduceBNe, Int.reduceGT, Int.reduceGE, Nat.reduceGT] | (rw [drawC_ok]; rotate_left; decide +kernel; exact cfg_mixed))
    all_goals simp_all [stepOk, stepBad, stepRest, noS]
  by_cases k1 : kind = 1
  · subst k1
    (refine (evF_code (C := cfg) (g := 31) (fn := Tryz.f31) rfl Tryz.func31 rfl (by rw [Tryz.ntmps31]; simp) (by kernel_rfl) (by first | decide | simp [keysOf])).trans ?_; rw [Tryz.results31, Tryz.ntmps31])
    repeat' (first | with_reducible refine br_split (fun _ => ?_) (fun _ => ?_) | simp only [*, push_cast, Array.reduceGetElem?, Nat.reduceBEq, Nat.reduceLT, Nat.reduceAdd, Nat.reduceSub, Nat.reduceLeDiff, Nat.reduceMul, Nat.reduceEqDiff, reduceCtorEq, Int.reduceAdd, Int.reduceLT, Int.reduceLE, Int.reduceToNat, Int.reduceNeg, Int.reduceSub, Int.reduceBEq, Int.reduceBNe, Int.reduceGT, Int.reduceGE, Nat.reduceGT] | (rw [drawC_ok]; rotate_left; decide +kernel; exact cfg_mixed))
    all_goals simp_all [stepOk, stepBad, stepRest, noS]
  by_cases k2 : kind = 2
  · subst k2
    (refine (evF_code (C := cfg) (g := 31) (fn := Tryz.f31) rfl Tryz.func31 rfl (by rw [Tryz.ntmps31]; simp) (by kernel_rfl) (by first | decide | simp [keysOf])).trans ?_; rw [Tryz.results31, Tryz.ntmps31])
    repeat' (first | with_reducible refine br_split (fun _ => ?_) (fun _ => ?_) | simp only [*, push_cast, Array.reduceGetElem?, Nat.reduceBEq, Nat.reduceLT, Nat.reduceAdd, Nat.reduceSub, Nat.reduceLeDiff, Nat.reduceMul, Nat.reduceEqDiff, reduceCtorEq, Int.reduceAdd, Int.reduceLT, Int.reduceLE, Int.reduceToNat, Int.reduceNeg, Int.reduceSub, Int.reduceBEq, Int.reduceBNe, Int.reduceGT, Int.reduceGE, Nat.reduceGT] | (rw [drawC_ok]; rotate_left; decide +kernel; exact cfg_mixed))
    all_goals simp_all [stepOk, stepBad, stepRest, noS]
  by_cases k3 : kind = 3
  · subst k3
    have hr : stepOk ⟨3, name, cols, query, change⟩ = ((!decide (0 < cols.length) && !decide (query ≠ noS)) && (((decide (name = noS) && (decide (1 ≤ (change.length : Int)) && decide ((change.length : Int) ≤ 20))) && rising (change.map R.name)) && change.all fun r => bagOk r.bag)) := by
      simp [stepOk, stepBad, stepRest]
    rw [hr]
    clear hr
    generalize (change.all fun r => bagOk r.bag) = ba at *
    generalize rising (change.map R.name) = ri at *
    (refine (evF_code (C := cfg) (g := 31) (fn := Tryz.f31) rfl Tryz.func31 rfl (by rw [Tryz.ntmps31]; simp) (by kernel_rfl) (by first | decide | simp [keysOf])).trans ?_; rw [Tryz.results31, Tryz.ntmps31])
    repeat' (first | with_reducible refine br_split (fun _ => ?_) (fun _ => ?_) | simp only [*, push_cast, Array.reduceGetElem?, Nat.reduceBEq, Nat.reduceLT, Nat.reduceAdd, Nat.reduceSub, Nat.reduceLeDiff, Nat.reduceMul, Nat.reduceEqDiff, reduceCtorEq, Int.reduceAdd, Int.reduceLT, Int.reduceLE, Int.reduceToNat, Int.reduceNeg, Int.reduceSub, Int.reduceBEq, Int.reduceBNe, Int.reduceGT, Int.reduceGE, Nat.reduceGT] | (rw [drawC_ok]; rotate_left; decide +kernel; exact cfg_mixed))
    all_goals simp_all [noS]
  · have e0 : (kind != 0) = true := by simpa using k0
    have e1 : (kind != 1) = true := by simpa using k1
    have e3 : (kind != 3) = true := by simpa using k3
    have f0 : (kind == 0) = false := by simpa using k0
    have f1 : (kind == 1) = false := by simpa using k1
    have f2 : (kind == 2) = false := by simpa using k2
    have f3 : (kind == 3) = false := by simpa using k3
    have hr : stepOk ⟨kind, name, cols, query, change⟩ = false := by simp [stepOk, stepRest, k0, k1, k2, k3]
    rw [hr]
    clear hr
    (refine (evF_code (C := cfg) (g := 31) (fn := Tryz.f31) rfl Tryz.func31 rfl (by rw [Tryz.ntmps31]; simp) (by kernel_rfl) (by first | decide | simp [keysOf])).trans ?_; rw [Tryz.results31, Tryz.ntmps31])
    repeat' (first | with_reducible refine br_split (fun _ => ?_) (fun _ => ?_) | simp only [*, push_cast, Array.reduceGetElem?, Nat.reduceBEq, Nat.reduceLT, Nat.reduceAdd, Nat.reduceSub, Nat.reduceLeDiff, Nat.reduceMul, Nat.reduceEqDiff, reduceCtorEq, Int.reduceAdd, Int.reduceLT, Int.reduceLE, Int.reduceToNat, Int.reduceNeg, Int.reduceSub, Int.reduceBEq, Int.reduceBNe, Int.reduceGT, Int.reduceGE, Nat.reduceGT] | (rw [drawC_ok]; rotate_left; decide +kernel; exact cfg_mixed))
end Go.Av
end
