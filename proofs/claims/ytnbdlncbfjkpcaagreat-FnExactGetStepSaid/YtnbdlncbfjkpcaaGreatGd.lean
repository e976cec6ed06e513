/- What functions of this seat give. -/
import Derived.Test.YtnbdlncbfjkpcaaGreatAvF
import Derived.Test.YtnbdlncbfjkpcaaGreatGc
import Derived.Test.YtnbdlncbfjkpcaaGreatAvCfg
import Derived.Test.YtnbdlncbfjkpcaaGreatGb
set_option linter.all false
set_option linter.unusedVariables false
set_option linter.unusedSimpArgs false

section
namespace Go.Av
@[push_cast] theorem er_sC (l : List ByteArray) : annEs .any (l.map sC) = l.map sC := annEs_map (fun _ => rfl) l
@[push_cast] theorem cn_sC (l : List ByteArray) (p : Tok) (i : Nat) : cnEs p i (l.map sC) = l.map sC := by
  rw [cnEs_eq]
  apply List.ext_getElem
  · simp
  · intro j h1 h2
    simp [sC, cnCs, T.cn]
@[push_cast] theorem tk_sC (l : List ByteArray) : tkEs (l.map sC) = [] := by
  induction l with
  | nil => rfl
  | cons x l ih => simp only [List.map_cons, tkEs, ih]; rfl
end Go.Av
end

section
namespace Go.Av
open Go.Proofs
set_option linter.unusedSimpArgs false

def schemasOk (l : List Sc) : Bool := (decide ((l.length : Int) ≤ 20) && rising (l.map Sc.name)) && l.all fun x => colsOk x.cols
def colFrom : List ByteArray → List ByteArray → Bool
  | _, [] => true
  | p, a :: l => (nameOk a && !hasS p a) && colFrom (p ++ [a]) l
def upOk : Option ByteArray → ByteArray → Bool
  | none, _ => true
  | some p, a => !(Op.bytesLess a.toList p.toList || a.toList == p.toList)
def wOk (l : List ByteArray) : Bool := decide (1 ≤ (l.length : Int)) && decide ((l.length : Int) ≤ 12)
def spFrom : Option ByteArray → List Sc → Bool
  | _, [] => true
  | p, x :: l => (((nameOk x.name && upOk p x.name) && wOk x.cols) && colFrom [] x.cols) && spFrom (some x.name) l
set_option maxHeartbeats 2000000 in
theorem ev_sSchemasOk (l : List Sc) (hl : l.length ≤ 1048576) (hc : ∀ x ∈ l, x.cols.length ≤ 1048576 ∧ x.name.size ≤ 1048576 ∧ ∀ c ∈ x.cols, c.size ≤ 1048576) : evF cfg 64 [] [.d (.sl .any (l.map scC))] =
    some (.d (.b (spFrom none l && decide ((l.length : Int) ≤ 20))), []) := by
  (refine (evF_code (C := cfg) (g := 64) (fn := Tryz.f64) rfl Tryz.func64 rfl (by rw [Tryz.ntmps64]; simp) (by kernel_rfl) (by first | decide | simp [keysOf])).trans ?_; rw [Tryz.results64, Tryz.ntmps64])
  repeat' (first | with_reducible refine br_split (fun _ => ?_) (fun _ => ?_) | simp only [*, push_cast, Array.reduceGetElem?, Nat.reduceBEq, Nat.reduceLT, Nat.reduceAdd, Nat.reduceSub, Nat.reduceLeDiff, Nat.reduceMul, Nat.reduceEqDiff, reduceCtorEq, Int.reduceAdd, Int.reduceLT, Int.reduceLE, Int.reduceToNat, Int.reduceNeg, Int.reduceSub, Int.reduceBEq, Int.reduceBNe, Int.reduceNe, Int.reduceGT, Int.reduceGE, Nat.reduceGT] | (rw [drawC_ok]; rotate_left; decide +kernel; exact cfg_mixed))
  rw [evM_for0 l.length (fun i j => { t := [(0, .d (.sl .any (l.map scC))), (3, .d (.i .i64 j))], o := [], ks := [], n := 0, sz := 71, u := noU })
    (fun i => br (spFrom (prevOf (l.map Sc.name) i) (l.drop i)) (some (.exit 0, { t := [(0, .d (.sl .any (l.map scC)))], o := [], ks := [], n := 0, sz := 71, u := noU })) (some (.ret, { t := [(2, .d (.b false))], o := [], ks := [], n := 0, sz := 71, u := noU })) ⟨⟩) ?step ?last]
  case step =>
    intro i hi ih
    have hcc : (l.map scC)[i]? = some [.s l[i].name, .sl .any (l[i].cols.map sC)] := get_map scC l i hi
    have hd := dec_lt hi
    have hw := wrap_succ (i := i) (by omega)
    obtain ⟨c1, c2, c3⟩ := hc _ (List.getElem_mem hi)
    have hn := ev_sNameOk l[i].name (by omega)
    have hdr : l.drop i = l[i] :: l.drop (i + 1) := List.drop_eq_getElem_cons hi
    have hnx : prevOf (l.map Sc.name) (i + 1) = some l[i].name := by simp [prevOf, hi]
    rw [hnx] at ih
    rw [hdr, spFrom]
    clear hnx hdr hc
    by_cases h0 : i = 0
    · have hp : prevOf (l.map Sc.name) i = none := by simp [prevOf, h0]
      have hg : decide ((i : Int) > 0) = false := decide_eq_false (by omega)
      have hu : upOk none l[i].name = true := rfl
      rw [hp, hu, Bool.and_true]
      clear hp h0 hu
      cases hno : nameOk l[i].name with
      | false =>
        rw [Bool.false_and, Bool.false_and, Bool.false_and]
        clear c3
        repeat' (first | with_reducible refine br_split (fun _ => ?_) (fun _ => ?_) | simp only [*, push_cast, Array.reduceGetElem?, Nat.reduceBEq, Nat.reduceLT, Nat.reduceAdd, Nat.reduceSub, Nat.reduceLeDiff, Nat.reduceMul, Nat.reduceEqDiff, reduceCtorEq, Int.reduceAdd, Int.reduceLT, Int.reduceLE, Int.reduceToNat, Int.reduceNeg, Int.reduceSub, Int.reduceBEq, Int.reduceBNe, Int.reduceNe, Int.reduceGT, Int.reduceGE, Nat.reduceGT] | (rw [drawC_ok]; rotate_left; decide +kernel; exact cfg_mixed))
      | true =>
        rw [Bool.true_and]
        cases hwo : wOk l[i].cols with
        | false =>
          rw [Bool.false_and, Bool.false_and]
          unfold wOk at hwo
          clear c3
          repeat' (first | with_reducible refine br_split (fun _ => ?_) (fun _ => ?_) | simp only [*, push_cast, Array.reduceGetElem?, Nat.reduceBEq, Nat.reduceLT, Nat.reduceAdd, Nat.reduceSub, Nat.reduceLeDiff, Nat.reduceMul, Nat.reduceEqDiff, reduceCtorEq, Int.reduceAdd, Int.reduceLT, Int.reduceLE, Int.reduceToNat, Int.reduceNeg, Int.reduceSub, Int.reduceBEq, Int.reduceBNe, Int.reduceNe, Int.reduceGT, Int.reduceGE, Nat.reduceGT] | (rw [drawC_ok]; rotate_left; decide +kernel; exact cfg_mixed))
        | true =>
          rw [Bool.true_and]
          unfold wOk at hwo
          repeat' (first | with_reducible refine br_split (fun _ => ?_) (fun _ => ?_) | simp only [*, push_cast, Array.reduceGetElem?, Nat.reduceBEq, Nat.reduceLT, Nat.reduceAdd, Nat.reduceSub, Nat.reduceLeDiff, Nat.reduceMul, Nat.reduceEqDiff, reduceCtorEq, Int.reduceAdd, Int.reduceLT, Int.reduceLE, Int.reduceToNat, Int.reduceNeg, Int.reduceSub, Int.reduceBEq, Int.reduceBNe, Int.reduceNe, Int.reduceGT, Int.reduceGE, Nat.reduceGT] | (rw [drawC_ok]; rotate_left; decide +kernel; exact cfg_mixed))
          generalize hcg : l[i].cols = cs at *
          rw [evM_for0 cs.length (fun k j => { t := [(0, .d (.sl .any (l.map scC))), (3, .d (.i .i64 i)), (4, .ptr 50 0), (5, .d (.i .i64 j))], o := [(50, .box [.d (.s l[i].name), .d (.sl .any (cs.map sC))])], ks := [50], n := 0, sz := 71, u := noU })
            (fun k => br (colFrom (cs.take k) (cs.drop k)) (some (.exit 2, { t := [(0, .d (.sl .any (l.map scC))), (3, .d (.i .i64 i))], o := [], ks := [], n := 0, sz := 71, u := noU })) (some (.ret, { t := [(2, .d (.b false))], o := [], ks := [], n := 0, sz := 71, u := noU })) ⟨⟩) ?istep ?ilast]
          case istep =>
            intro k hk ihk
            have hkc : (cs.map sC)[k]? = some [.s cs[k]] := get_map sC cs k hk
            have hkd := dec_lt hk
            have hkw := wrap_succ (i := k) (by omega)
            have hkn := ev_sNameOk cs[k] (by have := c3 _ (List.getElem_mem hk); omega)
            have hkh := ev_l03Has (cs.take k) cs[k] (by rw [List.length_take]; omega)
            have hkt : (cs.map sC).take k = (cs.take k).map sC := List.map_take.symm
            have hkb : decide (0 ≤ (k : Int) ∧ (k : Int) ≤ (cs.length : Int)) = true := decide_eq_true (by omega)
            have hkdr : cs.drop k = cs[k] :: cs.drop (k + 1) := List.drop_eq_getElem_cons hk
            have hktk : cs.take k ++ [cs[k]] = cs.take (k + 1) := (List.take_succ_eq_append_getElem hk).symm
            rw [hkdr, colFrom, hktk]
            clear hkdr hktk ih c3 hcc
            cases hkno : nameOk cs[k] with
            | false =>
              rw [Bool.false_and, Bool.false_and]
              repeat' (first | with_reducible refine br_split (fun _ => ?_) (fun _ => ?_) | simp only [*, push_cast, Array.reduceGetElem?, Nat.reduceBEq, Nat.reduceLT, Nat.reduceAdd, Nat.reduceSub, Nat.reduceLeDiff, Nat.reduceMul, Nat.reduceEqDiff, reduceCtorEq, Int.reduceAdd, Int.reduceLT, Int.reduceLE, Int.reduceToNat, Int.reduceNeg, Int.reduceSub, Int.reduceBEq, Int.reduceBNe, Int.reduceNe, Int.reduceGT, Int.reduceGE, Nat.reduceGT] | (rw [drawC_ok]; rotate_left; decide +kernel; exact cfg_mixed))
            | true =>
              rw [Bool.true_and]
              cases hkhs : hasS (cs.take k) cs[k] with
              | true =>
                rw [Bool.not_true, Bool.false_and]
                repeat' (first | with_reducible refine br_split (fun _ => ?_) (fun _ => ?_) | simp only [*, push_cast, Array.reduceGetElem?, Nat.reduceBEq, Nat.reduceLT, Nat.reduceAdd, Nat.reduceSub, Nat.reduceLeDiff, Nat.reduceMul, Nat.reduceEqDiff, reduceCtorEq, Int.reduceAdd, Int.reduceLT, Int.reduceLE, Int.reduceToNat, Int.reduceNeg, Int.reduceSub, Int.reduceBEq, Int.reduceBNe, Int.reduceNe, Int.reduceGT, Int.reduceGE, Nat.reduceGT] | (rw [drawC_ok]; rotate_left; decide +kernel; exact cfg_mixed))
              | false =>
                rw [Bool.not_false, Bool.true_and]
                repeat' (first | with_reducible refine br_split (fun _ => ?_) (fun _ => ?_) | simp only [*, push_cast, Array.reduceGetElem?, Nat.reduceBEq, Nat.reduceLT, Nat.reduceAdd, Nat.reduceSub, Nat.reduceLeDiff, Nat.reduceMul, Nat.reduceEqDiff, reduceCtorEq, Int.reduceAdd, Int.reduceLT, Int.reduceLE, Int.reduceToNat, Int.reduceNeg, Int.reduceSub, Int.reduceBEq, Int.reduceBNe, Int.reduceNe, Int.reduceGT, Int.reduceGE, Nat.reduceGT] | (rw [drawC_ok]; rotate_left; decide +kernel; exact cfg_mixed))
          case ilast =>
            have h1 : colFrom (cs.take cs.length) (cs.drop cs.length) = true := by rw [List.drop_length]; unfold colFrom; rfl
            rw [h1]
            clear ih c3
            repeat' (first | with_reducible refine br_split (fun _ => ?_) (fun _ => ?_) | simp only [*, push_cast, Array.reduceGetElem?, Nat.reduceBEq, Nat.reduceLT, Nat.reduceAdd, Nat.reduceSub, Nat.reduceLeDiff, Nat.reduceMul, Nat.reduceEqDiff, reduceCtorEq, Int.reduceAdd, Int.reduceLT, Int.reduceLE, Int.reduceToNat, Int.reduceNeg, Int.reduceSub, Int.reduceBEq, Int.reduceBNe, Int.reduceNe, Int.reduceGT, Int.reduceGE, Nat.reduceGT] | (rw [drawC_ok]; rotate_left; decide +kernel; exact cfg_mixed))
          · rw [List.take_zero, List.drop_zero]
            clear c3
            cases hcf : colFrom [] cs with
            | false =>
              rw [Bool.false_and]
              repeat' (first | with_reducible refine br_split (fun _ => ?_) (fun _ => ?_) | simp only [*, push_cast, Array.reduceGetElem?, Nat.reduceBEq, Nat.reduceLT, Nat.reduceAdd, Nat.reduceSub, Nat.reduceLeDiff, Nat.reduceMul, Nat.reduceEqDiff, reduceCtorEq, Int.reduceAdd, Int.reduceLT, Int.reduceLE, Int.reduceToNat, Int.reduceNeg, Int.reduceSub, Int.reduceBEq, Int.reduceBNe, Int.reduceNe, Int.reduceGT, Int.reduceGE, Nat.reduceGT] | (rw [drawC_ok]; rotate_left; decide +kernel; exact cfg_mixed))
            | true =>
              rw [Bool.true_and]
              repeat' (first | with_reducible refine br_split (fun _ => ?_) (fun _ => ?_) | simp only [*, push_cast, Array.reduceGetElem?, Nat.reduceBEq, Nat.reduceLT, Nat.reduceAdd, Nat.reduceSub, Nat.reduceLeDiff, Nat.reduceMul, Nat.reduceEqDiff, reduceCtorEq, Int.reduceAdd, Int.reduceLT, Int.reduceLE, Int.reduceToNat, Int.reduceNeg, Int.reduceSub, Int.reduceBEq, Int.reduceBNe, Int.reduceNe, Int.reduceGT, Int.reduceGE, Nat.reduceGT] | (rw [drawC_ok]; rotate_left; decide +kernel; exact cfg_mixed))
    · obtain ⟨q, hq⟩ : ∃ q, q = i - 1 := ⟨_, rfl⟩
      have hqi : q < l.length := by omega
      have hp : prevOf (l.map Sc.name) i = some l[q].name := by simp [prevOf, h0, hq, List.getElem?_eq_getElem (by omega : i - 1 < l.length)]
      have hg : decide ((i : Int) > 0) = true := decide_eq_true (by omega)
      have hwq : IntKind.i64.wrap ((i : Int) - 1) = (q : Int) := by rw [i64_in (by omega) (by omega)]; omega
      have hcq : (l.map scC)[q]? = some [.s l[q].name, .sl .any (l[q].cols.map sC)] := get_map scC l q hqi
      have hdq := dec_lt hqi
      have hu : upOk (some l[q].name) l[i].name = !(Op.bytesLess l[i].name.toList l[q].name.toList || l[i].name.toList == l[q].name.toList) := rfl
      rw [hp, hu]
      clear hp h0 hu hq
      cases hno : nameOk l[i].name with
      | false =>
        rw [Bool.false_and, Bool.false_and, Bool.false_and, Bool.false_and]
        clear c3
        repeat' (first | with_reducible refine br_split (fun _ => ?_) (fun _ => ?_) | simp only [*, push_cast, Array.reduceGetElem?, Nat.reduceBEq, Nat.reduceLT, Nat.reduceAdd, Nat.reduceSub, Nat.reduceLeDiff, Nat.reduceMul, Nat.reduceEqDiff, reduceCtorEq, Int.reduceAdd, Int.reduceLT, Int.reduceLE, Int.reduceToNat, Int.reduceNeg, Int.reduceSub, Int.reduceBEq, Int.reduceBNe, Int.reduceNe, Int.reduceGT, Int.reduceGE, Nat.reduceGT] | (rw [drawC_ok]; rotate_left; decide +kernel; exact cfg_mixed))
      | true =>
        rw [Bool.true_and]
        cases hls : Op.bytesLess l[i].name.toList l[q].name.toList with
        | true =>
          rw [Bool.true_or, Bool.not_true, Bool.false_and, Bool.false_and, Bool.false_and]
          clear c3
          repeat' (first | with_reducible refine br_split (fun _ => ?_) (fun _ => ?_) | simp only [*, push_cast, Array.reduceGetElem?, Nat.reduceBEq, Nat.reduceLT, Nat.reduceAdd, Nat.reduceSub, Nat.reduceLeDiff, Nat.reduceMul, Nat.reduceEqDiff, reduceCtorEq, Int.reduceAdd, Int.reduceLT, Int.reduceLE, Int.reduceToNat, Int.reduceNeg, Int.reduceSub, Int.reduceBEq, Int.reduceBNe, Int.reduceNe, Int.reduceGT, Int.reduceGE, Nat.reduceGT] | (rw [drawC_ok]; rotate_left; decide +kernel; exact cfg_mixed))
        | false =>
         rw [Bool.false_or]
         cases hls2 : (l[i].name.toList == l[q].name.toList) with
         | true =>
          rw [Bool.not_true, Bool.false_and, Bool.false_and, Bool.false_and]
          clear c3
          repeat' (first | with_reducible refine br_split (fun _ => ?_) (fun _ => ?_) | simp only [*, push_cast, Array.reduceGetElem?, Nat.reduceBEq, Nat.reduceLT, Nat.reduceAdd, Nat.reduceSub, Nat.reduceLeDiff, Nat.reduceMul, Nat.reduceEqDiff, reduceCtorEq, Int.reduceAdd, Int.reduceLT, Int.reduceLE, Int.reduceToNat, Int.reduceNeg, Int.reduceSub, Int.reduceBEq, Int.reduceBNe, Int.reduceNe, Int.reduceGT, Int.reduceGE, Nat.reduceGT] | (rw [drawC_ok]; rotate_left; decide +kernel; exact cfg_mixed))
         | false =>
         rw [Bool.not_false, Bool.true_and]
         cases hwo : wOk l[i].cols with
         | false =>
          rw [Bool.false_and, Bool.false_and]
          unfold wOk at hwo
          clear c3
          repeat' (first | with_reducible refine br_split (fun _ => ?_) (fun _ => ?_) | simp only [*, push_cast, Array.reduceGetElem?, Nat.reduceBEq, Nat.reduceLT, Nat.reduceAdd, Nat.reduceSub, Nat.reduceLeDiff, Nat.reduceMul, Nat.reduceEqDiff, reduceCtorEq, Int.reduceAdd, Int.reduceLT, Int.reduceLE, Int.reduceToNat, Int.reduceNeg, Int.reduceSub, Int.reduceBEq, Int.reduceBNe, Int.reduceNe, Int.reduceGT, Int.reduceGE, Nat.reduceGT] | (rw [drawC_ok]; rotate_left; decide +kernel; exact cfg_mixed))
         | true =>
          rw [Bool.true_and]
          unfold wOk at hwo
          repeat' (first | with_reducible refine br_split (fun _ => ?_) (fun _ => ?_) | simp only [*, push_cast, Array.reduceGetElem?, Nat.reduceBEq, Nat.reduceLT, Nat.reduceAdd, Nat.reduceSub, Nat.reduceLeDiff, Nat.reduceMul, Nat.reduceEqDiff, reduceCtorEq, Int.reduceAdd, Int.reduceLT, Int.reduceLE, Int.reduceToNat, Int.reduceNeg, Int.reduceSub, Int.reduceBEq, Int.reduceBNe, Int.reduceNe, Int.reduceGT, Int.reduceGE, Nat.reduceGT] | (rw [drawC_ok]; rotate_left; decide +kernel; exact cfg_mixed))
          generalize hcg : l[i].cols = cs at *
          rw [evM_for0 cs.length (fun k j => { t := [(0, .d (.sl .any (l.map scC))), (3, .d (.i .i64 i)), (4, .ptr 50 0), (5, .d (.i .i64 j))], o := [(50, .box [.d (.s l[i].name), .d (.sl .any (cs.map sC))])], ks := [50], n := 0, sz := 71, u := noU })
            (fun k => br (colFrom (cs.take k) (cs.drop k)) (some (.exit 2, { t := [(0, .d (.sl .any (l.map scC))), (3, .d (.i .i64 i))], o := [], ks := [], n := 0, sz := 71, u := noU })) (some (.ret, { t := [(2, .d (.b false))], o := [], ks := [], n := 0, sz := 71, u := noU })) ⟨⟩) ?istep ?ilast]
          case istep =>
            intro k hk ihk
            have hkc : (cs.map sC)[k]? = some [.s cs[k]] := get_map sC cs k hk
            have hkd := dec_lt hk
            have hkw := wrap_succ (i := k) (by omega)
            have hkn := ev_sNameOk cs[k] (by have := c3 _ (List.getElem_mem hk); omega)
            have hkh := ev_l03Has (cs.take k) cs[k] (by rw [List.length_take]; omega)
            have hkt : (cs.map sC).take k = (cs.take k).map sC := List.map_take.symm
            have hkb : decide (0 ≤ (k : Int) ∧ (k : Int) ≤ (cs.length : Int)) = true := decide_eq_true (by omega)
            have hkdr : cs.drop k = cs[k] :: cs.drop (k + 1) := List.drop_eq_getElem_cons hk
            have hktk : cs.take k ++ [cs[k]] = cs.take (k + 1) := (List.take_succ_eq_append_getElem hk).symm
            rw [hkdr, colFrom, hktk]
            clear hkdr hktk ih c3 hcc
            cases hkno : nameOk cs[k] with
            | false =>
              rw [Bool.false_and, Bool.false_and]
              repeat' (first | with_reducible refine br_split (fun _ => ?_) (fun _ => ?_) | simp only [*, push_cast, Array.reduceGetElem?, Nat.reduceBEq, Nat.reduceLT, Nat.reduceAdd, Nat.reduceSub, Nat.reduceLeDiff, Nat.reduceMul, Nat.reduceEqDiff, reduceCtorEq, Int.reduceAdd, Int.reduceLT, Int.reduceLE, Int.reduceToNat, Int.reduceNeg, Int.reduceSub, Int.reduceBEq, Int.reduceBNe, Int.reduceNe, Int.reduceGT, Int.reduceGE, Nat.reduceGT] | (rw [drawC_ok]; rotate_left; decide +kernel; exact cfg_mixed))
            | true =>
              rw [Bool.true_and]
              cases hkhs : hasS (cs.take k) cs[k] with
              | true =>
                rw [Bool.not_true, Bool.false_and]
                repeat' (first | with_reducible refine br_split (fun _ => ?_) (fun _ => ?_) | simp only [*, push_cast, Array.reduceGetElem?, Nat.reduceBEq, Nat.reduceLT, Nat.reduceAdd, Nat.reduceSub, Nat.reduceLeDiff, Nat.reduceMul, Nat.reduceEqDiff, reduceCtorEq, Int.reduceAdd, Int.reduceLT, Int.reduceLE, Int.reduceToNat, Int.reduceNeg, Int.reduceSub, Int.reduceBEq, Int.reduceBNe, Int.reduceNe, Int.reduceGT, Int.reduceGE, Nat.reduceGT] | (rw [drawC_ok]; rotate_left; decide +kernel; exact cfg_mixed))
              | false =>
                rw [Bool.not_false, Bool.true_and]
                repeat' (first | with_reducible refine br_split (fun _ => ?_) (fun _ => ?_) | simp only [*, push_cast, Array.reduceGetElem?, Nat.reduceBEq, Nat.reduceLT, Nat.reduceAdd, Nat.reduceSub, Nat.reduceLeDiff, Nat.reduceMul, Nat.reduceEqDiff, reduceCtorEq, Int.reduceAdd, Int.reduceLT, Int.reduceLE, Int.reduceToNat, Int.reduceNeg, Int.reduceSub, Int.reduceBEq, Int.reduceBNe, Int.reduceNe, Int.reduceGT, Int.reduceGE, Nat.reduceGT] | (rw [drawC_ok]; rotate_left; decide +kernel; exact cfg_mixed))
          case ilast =>
            have h1 : colFrom (cs.take cs.length) (cs.drop cs.length) = true := by rw [List.drop_length]; unfold colFrom; rfl
            rw [h1]
            clear ih c3
            repeat' (first | with_reducible refine br_split (fun _ => ?_) (fun _ => ?_) | simp only [*, push_cast, Array.reduceGetElem?, Nat.reduceBEq, Nat.reduceLT, Nat.reduceAdd, Nat.reduceSub, Nat.reduceLeDiff, Nat.reduceMul, Nat.reduceEqDiff, reduceCtorEq, Int.reduceAdd, Int.reduceLT, Int.reduceLE, Int.reduceToNat, Int.reduceNeg, Int.reduceSub, Int.reduceBEq, Int.reduceBNe, Int.reduceNe, Int.reduceGT, Int.reduceGE, Nat.reduceGT] | (rw [drawC_ok]; rotate_left; decide +kernel; exact cfg_mixed))
          · rw [List.take_zero, List.drop_zero]
            clear c3
            cases hcf : colFrom [] cs with
            | false =>
              rw [Bool.false_and]
              repeat' (first | with_reducible refine br_split (fun _ => ?_) (fun _ => ?_) | simp only [*, push_cast, Array.reduceGetElem?, Nat.reduceBEq, Nat.reduceLT, Nat.reduceAdd, Nat.reduceSub, Nat.reduceLeDiff, Nat.reduceMul, Nat.reduceEqDiff, reduceCtorEq, Int.reduceAdd, Int.reduceLT, Int.reduceLE, Int.reduceToNat, Int.reduceNeg, Int.reduceSub, Int.reduceBEq, Int.reduceBNe, Int.reduceNe, Int.reduceGT, Int.reduceGE, Nat.reduceGT] | (rw [drawC_ok]; rotate_left; decide +kernel; exact cfg_mixed))
            | true =>
              rw [Bool.true_and]
              repeat' (first | with_reducible refine br_split (fun _ => ?_) (fun _ => ?_) | simp only [*, push_cast, Array.reduceGetElem?, Nat.reduceBEq, Nat.reduceLT, Nat.reduceAdd, Nat.reduceSub, Nat.reduceLeDiff, Nat.reduceMul, Nat.reduceEqDiff, reduceCtorEq, Int.reduceAdd, Int.reduceLT, Int.reduceLE, Int.reduceToNat, Int.reduceNeg, Int.reduceSub, Int.reduceBEq, Int.reduceBNe, Int.reduceNe, Int.reduceGT, Int.reduceGE, Nat.reduceGT] | (rw [drawC_ok]; rotate_left; decide +kernel; exact cfg_mixed))
  case last =>
    have h1 : spFrom (prevOf (l.map Sc.name) l.length) (l.drop l.length) = true := by
      rw [List.drop_length]
      unfold spFrom
      rfl
    rw [h1]
    clear hc
    repeat' (first | with_reducible refine br_split (fun _ => ?_) (fun _ => ?_) | simp only [*, push_cast, Array.reduceGetElem?, Nat.reduceBEq, Nat.reduceLT, Nat.reduceAdd, Nat.reduceSub, Nat.reduceLeDiff, Nat.reduceMul, Nat.reduceEqDiff, reduceCtorEq, Int.reduceAdd, Int.reduceLT, Int.reduceLE, Int.reduceToNat, Int.reduceNeg, Int.reduceSub, Int.reduceBEq, Int.reduceBNe, Int.reduceNe, Int.reduceGT, Int.reduceGE, Nat.reduceGT] | (rw [drawC_ok]; rotate_left; decide +kernel; exact cfg_mixed))
  · have h1 : spFrom (prevOf (l.map Sc.name) 0) (l.drop 0) = spFrom none l := by simp [prevOf]
    rw [h1]
    clear hc
    repeat' (first | with_reducible refine br_split (fun _ => ?_) (fun _ => ?_) | simp only [*, push_cast, Array.reduceGetElem?, Nat.reduceBEq, Nat.reduceLT, Nat.reduceAdd, Nat.reduceSub, Nat.reduceLeDiff, Nat.reduceMul, Nat.reduceEqDiff, reduceCtorEq, Int.reduceAdd, Int.reduceLT, Int.reduceLE, Int.reduceToNat, Int.reduceNeg, Int.reduceSub, Int.reduceBEq, Int.reduceBNe, Int.reduceNe, Int.reduceGT, Int.reduceGE, Nat.reduceGT] | (rw [drawC_ok]; rotate_left; decide +kernel; exact cfg_mixed))
end Go.Av
end

section
namespace Go.Av
set_option linter.unusedSimpArgs false

theorem up_eq (p a : ByteArray) : upOk (some p) a = decide (bl p < bl a) := by
  show (!(Op.bytesLess a.toList p.toList || a.toList == p.toList)) = _
  rw [less_eq, ba_toList, ba_toList]
  show (!(decide (bl a < bl p) || bl a == bl p)) = _
  by_cases h1 : bl p < bl a
  · have h2 : ¬ bl a < bl p := fun h => List.lt_irrefl _ (List.lt_trans h h1)
    have h3 : bl a ≠ bl p := fun h => by rw [h] at h1; exact List.lt_irrefl _ h1
    simp [h1, h2, h3]
  · by_cases h2 : bl a < bl p
    · simp [h1, h2]
    · have h3 : bl a = bl p := List.le_antisymm (List.not_lt.1 h1) (List.not_lt.1 h2)
      simp [h3, List.lt_irrefl]

/-- Strictly rising. -/
def strictFrom : Option ByteArray → List ByteArray → Bool
  | _, [] => true
  | none, a :: l => strictFrom (some a) l
  | some p, a :: l => decide (bl p < bl a) && strictFrom (some a) l
theorem ris_split : ∀ (p : Option ByteArray) (l : List ByteArray), risFrom p l = (l.all nameOk && strictFrom p l)
  | _, [] => by simp [risFrom, strictFrom]
  | none, a :: l => by simp only [risFrom, strictFrom, ris_split, List.all_cons, Bool.and_assoc]
  | some p, a :: l => by
    simp only [risFrom, strictFrom, ris_split, List.all_cons, less_eq]
    cases nameOk a <;> cases decide (bl p < bl a) <;> simp
theorem sp_split : ∀ (p : Option ByteArray) (l : List Sc), spFrom p l = (risFrom p (l.map Sc.name) && l.all fun x => wOk x.cols && colFrom [] x.cols)
  | _, [] => by simp [spFrom, risFrom]
  | none, x :: l => by
    simp only [spFrom, risFrom, sp_split, List.all_cons, List.map_cons, upOk]
    cases nameOk x.name <;> cases wOk x.cols <;> cases colFrom [] x.cols <;> simp
  | some p, x :: l => by
    simp only [spFrom, risFrom, sp_split, List.all_cons, List.map_cons, up_eq, less_eq]
    cases nameOk x.name <;> cases wOk x.cols <;> cases colFrom [] x.cols <;> cases decide (bl p < bl x.name) <;> simp

theorem col_iff : ∀ (p l : List ByteArray), colFrom p l = true ↔ l.all nameOk = true ∧ l.Nodup ∧ ∀ a ∈ l, a ∉ p
  | p, [] => by simp [colFrom]
  | p, a :: l => by
    rw [colFrom, Bool.and_eq_true, Bool.and_eq_true, col_iff (p ++ [a]) l]
    simp only [hasS, List.all_cons, Bool.and_eq_true, List.nodup_cons, List.mem_cons, List.mem_append, List.not_mem_nil, or_false, Bool.not_eq_true', List.any_eq_false, decide_eq_true_eq]
    constructor
    · rintro ⟨⟨h1, h2⟩, h3, h4, h5⟩
      refine ⟨⟨h1, h3⟩, ⟨fun h => h5 a h (.inr rfl), h4⟩, ?_⟩
      rintro b (rfl | hb) hbp
      · exact h2 b hbp rfl
      · exact h5 b hb (.inl hbp)
    · rintro ⟨⟨h1, h3⟩, ⟨h6, h4⟩, h5⟩
      refine ⟨⟨h1, fun x hx hxa => h5 a (.inl rfl) (by rw [← hxa]; exact hx)⟩, h3, h4, ?_⟩
      rintro b hb (h | rfl)
      · exact h5 b (.inr hb) h
      · exact h6 hb
theorem strict_iff : ∀ (l : List ByteArray), (∀ p, strictFrom (some p) l = true ↔ (l.Pairwise fun a b => bl a < bl b) ∧ ∀ a ∈ l, bl p < bl a) ∧ (strictFrom none l = true ↔ l.Pairwise fun a b => bl a < bl b)
  | [] => by simp [strictFrom]
  | a :: l => by
    obtain ⟨ih, _⟩ := strict_iff l
    have h0 : (strictFrom (some a) l = true) ↔ (a :: l).Pairwise (fun a b => bl a < bl b) := by
      rw [ih a, List.pairwise_cons]
      exact And.comm
    refine ⟨fun p => ?_, ?_⟩
    · simp only [strictFrom, Bool.and_eq_true, decide_eq_true_eq]
      rw [h0]
      constructor
      · rintro ⟨h1, h2⟩
        refine ⟨h2, ?_⟩
        intro b hb
        rcases List.mem_cons.1 hb with rfl | hb
        · exact h1
        · exact List.lt_trans h1 ((List.pairwise_cons.1 h2).1 b hb)
      · rintro ⟨h1, h2⟩
        exact ⟨h2 a (List.mem_cons_self ..), h1⟩
    · simp only [strictFrom]
      exact h0

theorem sStr_perm (l : List ByteArray) : (sStr l).Perm l := by
  have h := ((l.map fun s => s.data.toList).mergeSort_perm fun x y => decide (x ≤ y)).map fun s : List UInt8 => (⟨s.toArray⟩ : ByteArray)
  have e : (l.map fun s => s.data.toList).map (fun s : List UInt8 => (⟨s.toArray⟩ : ByteArray)) = l := by
    rw [List.map_map]
    conv => rhs; rw [← List.map_id l]
    apply List.map_congr_left
    intro a _
    simp
  rw [e] at h
  exact h
theorem sStr_sorted (l : List ByteArray) : (sStr l).Pairwise fun a b => bl a ≤ bl b := by
  have h := List.pairwise_mergeSort (le := fun x y : List UInt8 => decide (x ≤ y)) (fun a b c h1 h2 => decide_eq_true (List.le_trans (of_decide_eq_true h1) (of_decide_eq_true h2)))
    (fun a b => by rcases List.le_total a b with h | h <;> simp [h]) (l.map fun s => s.data.toList)
  unfold sStr
  rw [List.pairwise_map]
  refine h.imp ?_
  intro a b hab
  simpa [bl] using hab
theorem rising_sStr (l : List ByteArray) : rising (sStr l) = colFrom [] l := by
  rw [rising, ris_split, Bool.eq_iff_iff, Bool.and_eq_true, (strict_iff (sStr l)).2, col_iff]
  have hp := sStr_perm l
  have ha : (sStr l).all nameOk = l.all nameOk := by
    rw [Bool.eq_iff_iff, List.all_eq_true, List.all_eq_true]
    exact ⟨fun h x hx => h x (hp.mem_iff.2 hx), fun h x hx => h x (hp.mem_iff.1 hx)⟩
  rw [ha, ← hp.nodup_iff]
  refine and_congr_right fun _ => ⟨fun h => ⟨?_, fun a _ h => by cases h⟩, fun ⟨h, _⟩ => ?_⟩
  · exact h.imp fun hab e => by rw [e] at hab; exact List.lt_irrefl _ hab
  · have hs := sStr_sorted l
    refine (hs.and h).imp ?_
    rintro a b ⟨h1, h2⟩
    by_cases h3 : bl a < bl b
    · exact h3
    · exact absurd (bl_inj (List.le_antisymm h1 (List.not_lt.1 h3))) h2
theorem schemas_same (l : List Sc) : (spFrom none l && decide ((l.length : Int) ≤ 20)) = schemasOk l := by
  unfold schemasOk
  rw [sp_split]
  have : (fun x : Sc => wOk x.cols && colFrom [] x.cols) = fun x => colsOk x.cols := by
    funext x
    rw [colsOk, rising_sStr]
    rfl
  rw [this]
  show (rising (l.map Sc.name) && _ && _) = _
  cases rising (l.map Sc.name) <;> cases decide ((l.length : Int) ≤ 20) <;> simp
end Go.Av
end

section
namespace Go.Av
open Go.Proofs
set_option linter.unusedSimpArgs false

structure Sp where
  kind : Int
  name : ByteArray
  cols : List ByteArray
  query : ByteArray
  change : List R
  deriving DecidableEq
def spC (x : Sp) : List T := [.i .i64 x.kind, .s x.name, .sl .any (x.cols.map sC), .s x.query, .sl .any (x.change.map rC)]
@[push_cast] theorem spC_all (l : List Sp) : ((l.map spC).all fun e => e.length == 5) = true := by simp [spC]
def szSp (x : Sp) : Nat := x.name.size + szSs x.cols + x.query.size + szRs x.change
theorem ev_eqStep (kind : Int) (name : ByteArray) (cols : List ByteArray) (query : ByteArray) (change : List R) (y_kind : Int) (y_name : ByteArray) (y_cols : List ByteArray) (y_query : ByteArray) (y_change : List R) (hlim : limCs (spC ⟨kind, name, cols, query, change⟩)) : evF cfg 8 [] [.agg [.d (.i .i64 kind), .d (.s name), .d (.sl .any (cols.map sC)), .d (.s query), .d (.sl .any (change.map rC))], .agg [.d (.i .i64 y_kind), .d (.s y_name), .d (.sl .any (y_cols.map sC)), .d (.s y_query), .d (.sl .any (y_change.map rC))]] = some (.d (.b (decide ((⟨kind, name, cols, query, change⟩ : Sp) = ⟨y_kind, y_name, y_cols, y_query, y_change⟩))), []) := by
  simp only [spC, limCs, limEs_map, T.lim] at hlim
  have ecols := ev_eqStringS cols y_cols (by simp_all [limCs, T.lim, limEs_map])
  have echange := ev_eqRelS change y_change (by simp_all [limCs, T.lim, limEs_map])
  (refine (evF_codeZ (C := cfg) (g := 8) (fn := Tryz.f8) rfl Tryz.func8 rfl (by rw [Tryz.ntmps8]; simp) (by kernel_rfl)).trans ?_; rw [Tryz.results8, Tryz.ntmps8])
  repeat' (first | with_reducible refine br_split (fun _ => ?_) (fun _ => ?_) | simp only [*, push_cast, Array.reduceGetElem?, Nat.reduceBEq, Nat.reduceLT, Nat.reduceAdd, Nat.reduceSub, Nat.reduceLeDiff, Nat.reduceMul, Nat.reduceEqDiff, reduceCtorEq, Int.reduceAdd, Int.reduceLT, Int.reduceLE, Int.reduceToNat, Int.reduceNeg, Int.reduceSub, Int.reduceBEq, Int.reduceBNe, Int.reduceNe, Int.reduceGT, Int.reduceGE, Nat.reduceGT] | (rw [drawC_ok]; rotate_left; decide +kernel; exact cfg_mixed))
  all_goals simp_all

theorem ev_IndexFuncRel_A0 {h : FuncId} {p : R → Bool} (l : List R) (hl : l.length ≤ 1099511627776) (hp : ∀ x ∈ l, evF cfg 93 [(0, .box [.clo h []])] [.agg [.d (.s x.name), .d (.i .i64 x.bag.w), .d (.sl .any (x.bag.rows.map cC))], .ptr 0 0] = some (.d (.b (p x)), [(0, .box [.clo h []])])) :
    evF cfg 117 [(0, .box [.clo h []])] [.d (.sl .any (l.map rC)), .clo 93 [.ptr 0 0]] = some (.d (.i .i64 (idxOf p l)), [(0, .box [.clo h []])]) := by
  (refine (evF_code (C := cfg) (g := 117) (fn := Tryz.f117) rfl Tryz.func117 rfl (by rw [Tryz.ntmps117]; simp) (by kernel_rfl) (by first | decide | simp [keysOf])).trans ?_; rw [Tryz.results117, Tryz.ntmps117])
  repeat' (first | with_reducible refine br_split (fun _ => ?_) (fun _ => ?_) | simp only [*, push_cast, Array.reduceGetElem?, Nat.reduceBEq, Nat.reduceLT, Nat.reduceAdd, Nat.reduceSub, Nat.reduceLeDiff, Nat.reduceMul, Nat.reduceEqDiff, reduceCtorEq, Int.reduceAdd, Int.reduceLT, Int.reduceLE, Int.reduceToNat, Int.reduceNeg, Int.reduceSub, Int.reduceBEq, Int.reduceBNe, Int.reduceNe, Int.reduceGT, Int.reduceGE, Nat.reduceGT] | (rw [drawC_ok]; rotate_left; decide +kernel; exact cfg_mixed))
  rw [evM_for0 l.length (fun i j => { t := [(0, .d (.sl .any (l.map rC))), (1, .clo 93 [.ptr 0 0]), (7, .d (.i .i64 l.length)), (8, .d (.i .i64 j))], o := [(0, .box [.clo h []])], ks := [0], n := 0, sz := 19, u := noU })
    (fun i => br ((l.drop i).any p) (some (.ret, { t := [(4, .d (.i .i64 (i + (l.drop i).findIdx p : Nat)))], o := [(0, .box [.clo h []])], ks := [0], n := 0, sz := 19, u := noU })) (some (.exit 0, { t := [], o := [(0, .box [.clo h []])], ks := [0], n := 0, sz := 19, u := noU })) ⟨⟩) ?step ?last]
  case step =>
    intro i hi ih
    have hc : (l.map rC)[i]? = some [.s l[i].name, .i .i64 l[i].bag.w, .sl .any (l[i].bag.rows.map cC)] := get_map rC l i hi
    have hd := dec_lt hi
    have hw : IntKind.i64.wrap ((i : Int) + 1) = (i : Int) + 1 := wrap_succ (by omega)
    have he := hp _ (List.getElem_mem hi)
    have hx := List.drop_eq_getElem_cons hi
    cases hpi : p l[i] with
    | true =>
      have h1 : (l.drop i).any p = true := by rw [hx, List.any_cons, hpi, Bool.true_or]
      have h2 : (l.drop i).findIdx p = 0 := by rw [hx, List.findIdx_cons, hpi]; rfl
      rw [h1, h2]
      clear hx h1 h2
      repeat' (first | with_reducible refine br_split (fun _ => ?_) (fun _ => ?_) | simp only [*, push_cast, Array.reduceGetElem?, Nat.reduceBEq, Nat.reduceLT, Nat.reduceAdd, Nat.reduceSub, Nat.reduceLeDiff, Nat.reduceMul, Nat.reduceEqDiff, reduceCtorEq, Int.reduceAdd, Int.reduceLT, Int.reduceLE, Int.reduceToNat, Int.reduceNeg, Int.reduceSub, Int.reduceBEq, Int.reduceBNe, Int.reduceNe, Int.reduceGT, Int.reduceGE, Nat.reduceGT] | (rw [drawC_ok]; rotate_left; decide +kernel; exact cfg_mixed))
    | false =>
      have h1 : (l.drop i).any p = (l.drop (i + 1)).any p := by rw [hx, List.any_cons, hpi, Bool.false_or]
      have h2 : i + (l.drop i).findIdx p = i + 1 + (l.drop (i + 1)).findIdx p := by rw [hx, List.findIdx_cons, hpi, cond_false]; omega
      rw [h1, h2]
      clear hx h1 h2
      repeat' (first | with_reducible refine br_split (fun _ => ?_) (fun _ => ?_) | simp only [*, push_cast, Array.reduceGetElem?, Nat.reduceBEq, Nat.reduceLT, Nat.reduceAdd, Nat.reduceSub, Nat.reduceLeDiff, Nat.reduceMul, Nat.reduceEqDiff, reduceCtorEq, Int.reduceAdd, Int.reduceLT, Int.reduceLE, Int.reduceToNat, Int.reduceNeg, Int.reduceSub, Int.reduceBEq, Int.reduceBNe, Int.reduceNe, Int.reduceGT, Int.reduceGE, Nat.reduceGT] | (rw [drawC_ok]; rotate_left; decide +kernel; exact cfg_mixed))
  case last =>
    rw [List.drop_length, List.any_nil]
    repeat' (first | with_reducible refine br_split (fun _ => ?_) (fun _ => ?_) | simp only [*, push_cast, Array.reduceGetElem?, Nat.reduceBEq, Nat.reduceLT, Nat.reduceAdd, Nat.reduceSub, Nat.reduceLeDiff, Nat.reduceMul, Nat.reduceEqDiff, reduceCtorEq, Int.reduceAdd, Int.reduceLT, Int.reduceLE, Int.reduceToNat, Int.reduceNeg, Int.reduceSub, Int.reduceBEq, Int.reduceBNe, Int.reduceNe, Int.reduceGT, Int.reduceGE, Nat.reduceGT] | (rw [drawC_ok]; rotate_left; decide +kernel; exact cfg_mixed))
  · unfold idxOf
    rw [List.drop_zero, Nat.zero_add]
    cases l.any p <;> repeat' (first | with_reducible refine br_split (fun _ => ?_) (fun _ => ?_) | simp only [*, push_cast, Array.reduceGetElem?, Nat.reduceBEq, Nat.reduceLT, Nat.reduceAdd, Nat.reduceSub, Nat.reduceLeDiff, Nat.reduceMul, Nat.reduceEqDiff, reduceCtorEq, Int.reduceAdd, Int.reduceLT, Int.reduceLE, Int.reduceToNat, Int.reduceNeg, Int.reduceSub, Int.reduceBEq, Int.reduceBNe, Int.reduceNe, Int.reduceGT, Int.reduceGE, Nat.reduceGT] | (rw [drawC_ok]; rotate_left; decide +kernel; exact cfg_mixed))
theorem ev_ContainsFuncRel_A0 {h : FuncId} {p : R → Bool} (l : List R) (hl : l.length ≤ 1099511627776) (hp : ∀ x ∈ l, evF cfg 93 [(0, .box [.clo h []])] [.agg [.d (.s x.name), .d (.i .i64 x.bag.w), .d (.sl .any (x.bag.rows.map cC))], .ptr 0 0] = some (.d (.b (p x)), [(0, .box [.clo h []])])) :
    evF cfg 92 [(0, .box [.clo h []])] [.d (.sl .any (l.map rC)), .clo 93 [.ptr 0 0]] = some (.d (.b (l.any p)), [(0, .box [.clo h []])]) := by
  have hi := ev_IndexFuncRel_A0  l hl hp
  have ha := idxOf_any p l
  clear hp
  (refine (evF_code (C := cfg) (g := 92) (fn := Tryz.f92) rfl Tryz.func92 rfl (by rw [Tryz.ntmps92]; simp) (by kernel_rfl) (by first | decide | simp [keysOf])).trans ?_; rw [Tryz.results92, Tryz.ntmps92])
  repeat' (first | with_reducible refine br_split (fun _ => ?_) (fun _ => ?_) | simp only [*, push_cast, Array.reduceGetElem?, Nat.reduceBEq, Nat.reduceLT, Nat.reduceAdd, Nat.reduceSub, Nat.reduceLeDiff, Nat.reduceMul, Nat.reduceEqDiff, reduceCtorEq, Int.reduceAdd, Int.reduceLT, Int.reduceLE, Int.reduceToNat, Int.reduceNeg, Int.reduceSub, Int.reduceBEq, Int.reduceBNe, Int.reduceNe, Int.reduceGT, Int.reduceGE, Nat.reduceGT] | (rw [drawC_ok]; rotate_left; decide +kernel; exact cfg_mixed))
theorem ev_areAll1Rel_0 {h : FuncId} {p : Bool} (x : R) (hx : cfg.E h = none) (hX : cfg.Y h = false) (hZ : cfg.Z h = false) (hp : evF cfg h [] [.agg [.d (.s x.name), .d (.i .i64 x.bag.w), .d (.sl .any (x.bag.rows.map cC))]] = some (.d (.b p), [])) :
    evF cfg 93 [(0, .box [.clo h []])] [.agg [.d (.s x.name), .d (.i .i64 x.bag.w), .d (.sl .any (x.bag.rows.map cC))], .ptr 0 0] = some (.d (.b (!p)), [(0, .box [.clo h []])]) := by
  simp only [push_cast, Array.reduceGetElem?, Nat.reduceBEq, Nat.reduceLT, Nat.reduceAdd, Nat.reduceSub, Nat.reduceLeDiff, Nat.reduceMul, Nat.reduceEqDiff, reduceCtorEq, Int.reduceAdd, Int.reduceLT, Int.reduceLE, Int.reduceToNat, Int.reduceNeg, Int.reduceSub, Int.reduceBEq, Int.reduceBNe, Int.reduceNe, Int.reduceGT, Int.reduceGE, Nat.reduceGT] at hx hX hZ
  (refine (evF_code (C := cfg) (g := 93) (fn := Tryz.f93) rfl Tryz.func93 rfl (by rw [Tryz.ntmps93]; simp) (by kernel_rfl) (by first | decide | simp [keysOf])).trans ?_; rw [Tryz.results93, Tryz.ntmps93])
  repeat' (first | with_reducible refine br_split (fun _ => ?_) (fun _ => ?_) | simp only [*, push_cast, Array.reduceGetElem?, Nat.reduceBEq, Nat.reduceLT, Nat.reduceAdd, Nat.reduceSub, Nat.reduceLeDiff, Nat.reduceMul, Nat.reduceEqDiff, reduceCtorEq, Int.reduceAdd, Int.reduceLT, Int.reduceLE, Int.reduceToNat, Int.reduceNeg, Int.reduceSub, Int.reduceBEq, Int.reduceBNe, Int.reduceNe, Int.reduceGT, Int.reduceGE, Nat.reduceGT] | (rw [drawC_ok]; rotate_left; decide +kernel; exact cfg_mixed))
theorem ev_areAllRel_0 {h : FuncId} {p : R → Bool} (l : List R) (hl : l.length ≤ 1099511627776) (hx : cfg.E h = none) (hX : cfg.Y h = false) (hZ : cfg.Z h = false)
    (hp : ∀ x ∈ l, evF cfg h [] [.agg [.d (.s x.name), .d (.i .i64 x.bag.w), .d (.sl .any (x.bag.rows.map cC))]] = some (.d (.b (p x)), [])) :
    evF cfg 61 [] [.d (.sl .any (l.map rC)), .clo h []] = some (.d (.b (l.all p)), []) := by
  have hc := ev_ContainsFuncRel_A0 (h := h)  l hl (fun x hm => ev_areAll1Rel_0  x hx hX hZ (hp x hm))
  have ha : (!l.any fun x => !p x) = l.all p := not_any p l
  clear hp
  (refine (evF_code (C := cfg) (g := 61) (fn := Tryz.f61) rfl Tryz.func61 rfl (by rw [Tryz.ntmps61]; simp) (by kernel_rfl) (by first | decide | simp [keysOf])).trans ?_; rw [Tryz.results61, Tryz.ntmps61])
  repeat' (first | with_reducible refine br_split (fun _ => ?_) (fun _ => ?_) | simp only [*, push_cast, Array.reduceGetElem?, Nat.reduceBEq, Nat.reduceLT, Nat.reduceAdd, Nat.reduceSub, Nat.reduceLeDiff, Nat.reduceMul, Nat.reduceEqDiff, reduceCtorEq, Int.reduceAdd, Int.reduceLT, Int.reduceLE, Int.reduceToNat, Int.reduceNeg, Int.reduceSub, Int.reduceBEq, Int.reduceBNe, Int.reduceNe, Int.reduceGT, Int.reduceGE, Nat.reduceGT] | (rw [drawC_ok]; rotate_left; decide +kernel; exact cfg_mixed))

end Go.Av
end

section
namespace Go.Av
open Go.Proofs
set_option linter.unusedSimpArgs false

theorem ev_relNames (l : List R) (hl : l.length ≤ 1048576) : evF cfg 60 [] [.d (.sl .any (l.map rC))] = some (.d (.sl .any ((l.map R.name).map sC)), []) := by
  (refine (evF_code (C := cfg) (g := 60) (fn := Tryz.f60) rfl Tryz.func60 rfl (by rw [Tryz.ntmps60]; simp) (by kernel_rfl) (by first | decide | simp [keysOf])).trans ?_; rw [Tryz.results60, Tryz.ntmps60])
  repeat' (first | with_reducible refine br_split (fun _ => ?_) (fun _ => ?_) | simp only [*, push_cast, Array.reduceGetElem?, Nat.reduceBEq, Nat.reduceLT, Nat.reduceAdd, Nat.reduceSub, Nat.reduceLeDiff, Nat.reduceMul, Nat.reduceEqDiff, reduceCtorEq, Int.reduceAdd, Int.reduceLT, Int.reduceLE, Int.reduceToNat, Int.reduceNeg, Int.reduceSub, Int.reduceBEq, Int.reduceBNe, Int.reduceNe, Int.reduceGT, Int.reduceGE, Nat.reduceGT] | (rw [drawC_ok]; rotate_left; decide +kernel; exact cfg_mixed))
  rw [show ([] : List (List T)) = ((l.map R.name).take 0).map sC from rfl]
  rw [evM_for0 l.length (fun i j => { t := [(3, .own 50), (6, .d (.sl .any (l.map rC))), (7, .d (.i .i64 l.length)), (8, .d (.i .i64 j))], o := [(50, .arr .any 1 (((l.map R.name).take i).map sC))], ks := [50], n := 0, sz := 19, u := noU })
    (fun i => some (.exit 0, { t := [(3, .own 50)], o := [(50, .arr .any 1 ((l.map R.name).map sC))], ks := [50], n := 0, sz := 19, u := noU })) ?step ?last]
  case step =>
    intro i hi ih
    have hcc : (l.map rC)[i]? = some [.s l[i].name, .i .i64 l[i].bag.w, .sl .any (l[i].bag.rows.map cC)] := get_map rC l i hi
    have hd := dec_lt hi
    have hw := wrap_succ (i := i) (by omega)
    have h2 := len_ok (n := ((l.map R.name).take i).length + 1) 16 (by simp; omega) (by omega)
    have h3 : ((l.map R.name).take i).map sC ++ [[.s l[i].name]] = ((l.map R.name).take (i + 1)).map sC := by
      have := take_snoc sC (l := l.map R.name) (i := i) (by simpa using hi)
      simpa [sC] using this
    repeat' (first | with_reducible refine br_split (fun _ => ?_) (fun _ => ?_) | simp only [*, push_cast, Array.reduceGetElem?, Nat.reduceBEq, Nat.reduceLT, Nat.reduceAdd, Nat.reduceSub, Nat.reduceLeDiff, Nat.reduceMul, Nat.reduceEqDiff, reduceCtorEq, Int.reduceAdd, Int.reduceLT, Int.reduceLE, Int.reduceToNat, Int.reduceNeg, Int.reduceSub, Int.reduceBEq, Int.reduceBNe, Int.reduceNe, Int.reduceGT, Int.reduceGE, Nat.reduceGT] | (rw [drawC_ok]; rotate_left; decide +kernel; exact cfg_mixed))
  case last =>
    have : (l.map R.name).take l.length = l.map R.name := List.take_of_length_le (by simp)
    repeat' (first | with_reducible refine br_split (fun _ => ?_) (fun _ => ?_) | simp only [*, push_cast, Array.reduceGetElem?, Nat.reduceBEq, Nat.reduceLT, Nat.reduceAdd, Nat.reduceSub, Nat.reduceLeDiff, Nat.reduceMul, Nat.reduceEqDiff, reduceCtorEq, Int.reduceAdd, Int.reduceLT, Int.reduceLE, Int.reduceToNat, Int.reduceNeg, Int.reduceSub, Int.reduceBEq, Int.reduceBNe, Int.reduceNe, Int.reduceGT, Int.reduceGE, Nat.reduceGT] | (rw [drawC_ok]; rotate_left; decide +kernel; exact cfg_mixed))
  · repeat' (first | with_reducible refine br_split (fun _ => ?_) (fun _ => ?_) | simp only [*, push_cast, Array.reduceGetElem?, Nat.reduceBEq, Nat.reduceLT, Nat.reduceAdd, Nat.reduceSub, Nat.reduceLeDiff, Nat.reduceMul, Nat.reduceEqDiff, reduceCtorEq, Int.reduceAdd, Int.reduceLT, Int.reduceLE, Int.reduceToNat, Int.reduceNeg, Int.reduceSub, Int.reduceBEq, Int.reduceBNe, Int.reduceNe, Int.reduceGT, Int.reduceGE, Nat.reduceGT] | (rw [drawC_ok]; rotate_left; decide +kernel; exact cfg_mixed))
@[push_cast] theorem ev_StepOk1 (name : ByteArray) (w : Int) (rows : List C) (hl : rows.length ≤ 1099511627776) (hr : ∀ c ∈ rows, c.row.length ≤ 1099511627776) : evF cfg 62 [] [.agg [.d (.s name), .d (.i .i64 w), .d (.sl .any (rows.map cC))]] = some (.d (.b (bagOk ⟨w, rows⟩)), []) := by
  have h := ev_BagOk w rows (by omega) hr
  clear hr
  (refine (evF_code (C := cfg) (g := 62) (fn := Tryz.f62) rfl Tryz.func62 rfl (by rw [Tryz.ntmps62]; simp) (by kernel_rfl) (by first | decide | simp [keysOf])).trans ?_; rw [Tryz.results62, Tryz.ntmps62])
  repeat' (first | with_reducible refine br_split (fun _ => ?_) (fun _ => ?_) | simp only [*, push_cast, Array.reduceGetElem?, Nat.reduceBEq, Nat.reduceLT, Nat.reduceAdd, Nat.reduceSub, Nat.reduceLeDiff, Nat.reduceMul, Nat.reduceEqDiff, reduceCtorEq, Int.reduceAdd, Int.reduceLT, Int.reduceLE, Int.reduceToNat, Int.reduceNeg, Int.reduceSub, Int.reduceBEq, Int.reduceBNe, Int.reduceNe, Int.reduceGT, Int.reduceGE, Nat.reduceGT] | (rw [drawC_ok]; rotate_left; decide +kernel; exact cfg_mixed))

def noS : ByteArray := ⟨#[]⟩
def stepRest (x : Sp) : Bool :=
  if x.kind = 0 then nameOk x.name && colsOk x.cols
  else if x.kind = 1 then nameOk x.name && decide ((x.query.size : Int) ≤ 1000)
  else if x.kind = 2 then nameOk x.name
  else if x.kind = 3 then ((decide (x.name = noS) && (decide (1 ≤ (x.change.length : Int)) && decide ((x.change.length : Int) ≤ 20))) && rising (x.change.map R.name)) && x.change.all fun r => bagOk r.bag
  else false
def stepBad (x : Sp) : Bool := (decide (x.kind ≠ 0) && decide (0 < x.cols.length)) || (decide (x.kind ≠ 1) && decide (x.query ≠ noS)) || (decide (x.kind ≠ 3) && decide (0 < x.change.length))
def stepOk (x : Sp) : Bool := !stepBad x && stepRest x
set_option maxHeartbeats 4000000 in
theorem ev_StepOk (kind : Int) (name : ByteArray) (cols : List ByteArray) (query : ByteArray) (change : List R) (h : szSp ⟨kind, name, cols, query, change⟩ ≤ 1048576) :
    evF cfg 27 [] [.agg [.d (.i .i64 kind), .d (.s name), .d (.sl .any (cols.map sC)), .d (.s query), .d (.sl .any (change.map rC))]] = some (.d (.b (stepOk ⟨kind, name, cols, query, change⟩)), []) := by
  simp only [szSp] at h
  obtain ⟨c1, _⟩ := szSs_mem (l := cols) (n := 1048576) (by omega)
  obtain ⟨c2, c3⟩ := szRs_mem (l := change) (n := 1048576) (by omega)
  have c4 : ∀ x ∈ change, x.bag.rows.length ≤ 1099511627776 ∧ ∀ c ∈ x.bag.rows, c.row.length ≤ 1099511627776 := by
    intro x hx
    have := c3 x hx
    simp only [szR, szB] at this
    obtain ⟨d1, d2⟩ := szCs_mem (l := x.bag.rows) (n := 1048576) (by omega)
    refine ⟨by omega, fun c hc => ?_⟩
    have := d2 c hc
    simp only [szC] at this
    obtain ⟨e1, _⟩ := szVs_mem (l := c.row) (n := 1048576) (by omega)
    omega
  have hac := ev_areCols cols (by omega)
  have hrn := ev_relNames change c2
  have hri := ev_isRising (change.map R.name) (by simp; omega)
  have haa := ev_areAllRel_0 (h := 62) (p := fun x => bagOk x.bag) change (by omega) (by rfl) (by rfl) (by rfl) (fun x hx => ev_StepOk1 x.name x.bag.w x.bag.rows (c4 x hx).1 (c4 x hx).2)
  have hno := ev_NameOk name
  clear c1 c2 c3 c4 h
  by_cases k0 : kind = 0
  · subst k0
    (refine (evF_code (C := cfg) (g := 27) (fn := Tryz.f27) rfl Tryz.func27 rfl (by rw [Tryz.ntmps27]; simp) (by kernel_rfl) (by first | decide | simp [keysOf])).trans ?_; rw [Tryz.results27, Tryz.ntmps27])
    repeat' (first | with_reducible refine br_split (fun _ => ?_) (fun _ => ?_) | simp only [*, push_cast, Array.reduceGetElem?, Nat.reduceBEq, Nat.reduceLT, Nat.reduceAdd, Nat.reduceSub, Nat.reduceLeDiff, Nat.reduceMul, Nat.reduceEqDiff, reduceCtorEq, Int.reduceAdd, Int.reduceLT, Int.reduceLE, Int.reduceToNat, Int.reduceNeg, Int.reduceSub, Int.reduceBEq, Int.reduceBNe, Int.reduceNe, Int.reduceGT, Int.reduceGE, Nat.reduceGT] | (rw [drawC_ok]; rotate_left; decide +kernel; exact cfg_mixed))
    all_goals simp_all [stepOk, stepBad, stepRest, noS]
  by_cases k1 : kind = 1
  · subst k1
    (refine (evF_code (C := cfg) (g := 27) (fn := Tryz.f27) rfl Tryz.func27 rfl (by rw [Tryz.ntmps27]; simp) (by kernel_rfl) (by first | decide | simp [keysOf])).trans ?_; rw [Tryz.results27, Tryz.ntmps27])
    repeat' (first | with_reducible refine br_split (fun _ => ?_) (fun _ => ?_) | simp only [*, push_cast, Array.reduceGetElem?, Nat.reduceBEq, Nat.reduceLT, Nat.reduceAdd, Nat.reduceSub, Nat.reduceLeDiff, Nat.reduceMul, Nat.reduceEqDiff, reduceCtorEq, Int.reduceAdd, Int.reduceLT, Int.reduceLE, Int.reduceToNat, Int.reduceNeg, Int.reduceSub, Int.reduceBEq, Int.reduceBNe, Int.reduceNe, Int.reduceGT, Int.reduceGE, Nat.reduceGT] | (rw [drawC_ok]; rotate_left; decide +kernel; exact cfg_mixed))
    all_goals simp_all [stepOk, stepBad, stepRest, noS]
  by_cases k2 : kind = 2
  · subst k2
    (refine (evF_code (C := cfg) (g := 27) (fn := Tryz.f27) rfl Tryz.func27 rfl (by rw [Tryz.ntmps27]; simp) (by kernel_rfl) (by first | decide | simp [keysOf])).trans ?_; rw [Tryz.results27, Tryz.ntmps27])
    repeat' (first | with_reducible refine br_split (fun _ => ?_) (fun _ => ?_) | simp only [*, push_cast, Array.reduceGetElem?, Nat.reduceBEq, Nat.reduceLT, Nat.reduceAdd, Nat.reduceSub, Nat.reduceLeDiff, Nat.reduceMul, Nat.reduceEqDiff, reduceCtorEq, Int.reduceAdd, Int.reduceLT, Int.reduceLE, Int.reduceToNat, Int.reduceNeg, Int.reduceSub, Int.reduceBEq, Int.reduceBNe, Int.reduceNe, Int.reduceGT, Int.reduceGE, Nat.reduceGT] | (rw [drawC_ok]; rotate_left; decide +kernel; exact cfg_mixed))
    all_goals simp_all [stepOk, stepBad, stepRest, noS]
  by_cases k3 : kind = 3
  · subst k3
    have hr : stepOk ⟨3, name, cols, query, change⟩ = ((!decide (0 < cols.length) && !decide (query ≠ noS)) && (((decide (name = noS) && (decide (1 ≤ (change.length : Int)) && decide ((change.length : Int) ≤ 20))) && rising (change.map R.name)) && change.all fun r => bagOk r.bag)) := by
      simp [stepOk, stepBad, stepRest]
    rw [hr]
    clear hr
    generalize (change.all fun r => bagOk r.bag) = ba at *
    generalize rising (change.map R.name) = ri at *
    (refine (evF_code (C := cfg) (g := 27) (fn := Tryz.f27) rfl Tryz.func27 rfl (by rw [Tryz.ntmps27]; simp) (by kernel_rfl) (by first | decide | simp [keysOf])).trans ?_; rw [Tryz.results27, Tryz.ntmps27])
    repeat' (first | with_reducible refine br_split (fun _ => ?_) (fun _ => ?_) | simp only [*, push_cast, Array.reduceGetElem?, Nat.reduceBEq, Nat.reduceLT, Nat.reduceAdd, Nat.reduceSub, Nat.reduceLeDiff, Nat.reduceMul, Nat.reduceEqDiff, reduceCtorEq, Int.reduceAdd, Int.reduceLT, Int.reduceLE, Int.reduceToNat, Int.reduceNeg, Int.reduceSub, Int.reduceBEq, Int.reduceBNe, Int.reduceNe, Int.reduceGT, Int.reduceGE, Nat.reduceGT] | (rw [drawC_ok]; rotate_left; decide +kernel; exact cfg_mixed))
    all_goals simp_all [noS]
  · have e0 : (kind != 0) = true := by simpa using k0
    have e1 : (kind != 1) = true := by simpa using k1
    have e3 : (kind != 3) = true := by simpa using k3
    have f0 : (kind == 0) = false := by simpa using k0
    have f1 : (kind == 1) = false := by simpa using k1
    have f2 : (kind == 2) = false := by simpa using k2
    have f3 : (kind == 3) = false := by simpa using k3
    have hr : stepOk ⟨kind, name, cols, query, change⟩ = false := by simp [stepOk, stepRest, k0, k1, k2, k3]
    rw [hr]
    clear hr
    (refine (evF_code (C := cfg) (g := 27) (fn := Tryz.f27) rfl Tryz.func27 rfl (by rw [Tryz.ntmps27]; simp) (by kernel_rfl) (by first | decide | simp [keysOf])).trans ?_; rw [Tryz.results27, Tryz.ntmps27])
    repeat' (first | with_reducible refine br_split (fun _ => ?_) (fun _ => ?_) | simp only [*, push_cast, Array.reduceGetElem?, Nat.reduceBEq, Nat.reduceLT, Nat.reduceAdd, Nat.reduceSub, Nat.reduceLeDiff, Nat.reduceMul, Nat.reduceEqDiff, reduceCtorEq, Int.reduceAdd, Int.reduceLT, Int.reduceLE, Int.reduceToNat, Int.reduceNeg, Int.reduceSub, Int.reduceBEq, Int.reduceBNe, Int.reduceNe, Int.reduceGT, Int.reduceGE, Nat.reduceGT] | (rw [drawC_ok]; rotate_left; decide +kernel; exact cfg_mixed))
end Go.Av
end

section
namespace Go.Av
open Go.Proofs
set_option linter.unusedSimpArgs false

def chFrom : Option ByteArray → List R → Bool
  | _, [] => true
  | p, x :: l => ((nameOk x.name && bagOk x.bag) && upOk p x.name) && chFrom (some x.name) l
theorem ch_split : ∀ (p : Option ByteArray) (l : List R), chFrom p l = (risFrom p (l.map R.name) && l.all fun x => bagOk x.bag)
  | _, [] => by simp [chFrom, risFrom]
  | none, x :: l => by
    simp only [chFrom, risFrom, ch_split, List.all_cons, List.map_cons, upOk]
    cases nameOk x.name <;> cases bagOk x.bag <;> simp
  | some p, x :: l => by
    simp only [chFrom, risFrom, ch_split, List.all_cons, List.map_cons, up_eq, less_eq]
    cases nameOk x.name <;> cases bagOk x.bag <;> cases decide (bl p < bl x.name) <;> simp
def stepTail (kind : Int) (name : ByteArray) (change : List R) : Bool := (decide (kind = 3) && decide (name = noS)) && (decide (1 ≤ (change.length : Int)) && decide ((change.length : Int) ≤ 20))
set_option maxHeartbeats 4000000 in
/-- The loop over a step's changes, and what comes behind it. -/
theorem ev_sStepOk3 (kind : Int) (name : ByteArray) (cols : List ByteArray) (query : ByteArray) (change : List R) (h : szSp ⟨kind, name, cols, query, change⟩ ≤ 1048576) (k0 : ¬ kind = 0) (k1 : ¬ kind = 1) (k2 : ¬ kind = 2)
    (hb : stepBad ⟨kind, name, cols, query, change⟩ = false) :
    evF cfg 28 [] [.agg [.d (.i .i64 kind), .d (.s name), .d (.sl .any (cols.map sC)), .d (.s query), .d (.sl .any (change.map rC))]] = some (.d (.b (chFrom none change && stepTail kind name change)), []) := by
  simp only [szSp] at h
  obtain ⟨c2, c3⟩ := szRs_mem (l := change) (n := 1048576) (by omega)
  have c4 : ∀ x ∈ change, x.name.size ≤ 1048576 ∧ x.bag.rows.length ≤ 1099511627776 ∧ ∀ c ∈ x.bag.rows, c.row.length ≤ 1099511627776 := by
    intro x hx
    have := c3 x hx
    simp only [szR, szB] at this
    obtain ⟨d1, d2⟩ := szCs_mem (l := x.bag.rows) (n := 1048576) (by omega)
    refine ⟨by omega, by omega, fun c hc => ?_⟩
    have := d2 c hc
    simp only [szC] at this
    obtain ⟨e1, _⟩ := szVs_mem (l := c.row) (n := 1048576) (by omega)
    omega
  have e0 : (kind != 0) = true := by simpa using k0
  have e1 : (kind != 1) = true := by simpa using k1
  have f0 : (kind == 0) = false := by simpa using k0
  have f1 : (kind == 1) = false := by simpa using k1
  have f2 : (kind == 2) = false := by simpa using k2
  have hb1 : cols = [] := by
    simp only [stepBad, Bool.or_eq_false_iff, Bool.and_eq_false_iff, decide_eq_false_iff_not] at hb
    rcases hb.1.1 with h | h
    · exact absurd k0 h
    · exact List.eq_nil_of_length_eq_zero (by omega)
  have hb2 : query = noS := by
    simp only [stepBad, Bool.or_eq_false_iff, Bool.and_eq_false_iff, decide_eq_false_iff_not] at hb
    rcases hb.1.2 with h | h
    · exact absurd k1 h
    · exact Classical.not_not.1 h
  have hb3 : ((kind != 3) && decide (0 < change.length)) = false := by
    simp only [stepBad, Bool.or_eq_false_iff] at hb
    have := hb.2
    simpa using this
  subst hb1
  subst hb2
  clear hb k0 k1 k2 c3 h
  unfold noS
  unfold stepTail
  cases k3 : (kind != 3) with
  | true =>
    rw [k3, Bool.true_and] at hb3
    have hc0 : change = [] := List.eq_nil_of_length_eq_zero (by have := of_decide_eq_false hb3; omega)
    have k3' : (kind == 3) = false := by simpa using k3
    have k3'' : decide (kind = 3) = false := by simpa using k3
    subst hc0
    rw [k3'', Bool.false_and, Bool.false_and, Bool.and_false]
    clear hb3 c4 c2 k3''
    (refine (evF_code (C := cfg) (g := 28) (fn := Tryz.f28) rfl Tryz.func28 rfl (by rw [Tryz.ntmps28]; simp) (by kernel_rfl) (by first | decide | simp [keysOf])).trans ?_; rw [Tryz.results28, Tryz.ntmps28])
    repeat' (first | with_reducible refine br_split (fun _ => ?_) (fun _ => ?_) | simp only [*, push_cast, Array.reduceGetElem?, Nat.reduceBEq, Nat.reduceLT, Nat.reduceAdd, Nat.reduceSub, Nat.reduceLeDiff, Nat.reduceMul, Nat.reduceEqDiff, reduceCtorEq, Int.reduceAdd, Int.reduceLT, Int.reduceLE, Int.reduceToNat, Int.reduceNeg, Int.reduceSub, Int.reduceBEq, Int.reduceBNe, Int.reduceNe, Int.reduceGT, Int.reduceGE, Nat.reduceGT] | (rw [drawC_ok]; rotate_left; decide +kernel; exact cfg_mixed))
    rw [evM_eq]
    repeat' (first | with_reducible refine br_split (fun _ => ?_) (fun _ => ?_) | simp only [*, push_cast, Array.reduceGetElem?, Nat.reduceBEq, Nat.reduceLT, Nat.reduceAdd, Nat.reduceSub, Nat.reduceLeDiff, Nat.reduceMul, Nat.reduceEqDiff, reduceCtorEq, Int.reduceAdd, Int.reduceLT, Int.reduceLE, Int.reduceToNat, Int.reduceNeg, Int.reduceSub, Int.reduceBEq, Int.reduceBNe, Int.reduceNe, Int.reduceGT, Int.reduceGE, Nat.reduceGT] | (rw [drawC_ok]; rotate_left; decide +kernel; exact cfg_mixed))
  | false =>
    have k3' : kind = 3 := by simpa using k3
    subst k3'
    clear hb3 e0 e1 f0 f1 f2 k3
    (refine (evF_code (C := cfg) (g := 28) (fn := Tryz.f28) rfl Tryz.func28 rfl (by rw [Tryz.ntmps28]; simp) (by kernel_rfl) (by first | decide | simp [keysOf])).trans ?_; rw [Tryz.results28, Tryz.ntmps28])
    repeat' (first | with_reducible refine br_split (fun _ => ?_) (fun _ => ?_) | simp only [*, push_cast, Array.reduceGetElem?, Nat.reduceBEq, Nat.reduceLT, Nat.reduceAdd, Nat.reduceSub, Nat.reduceLeDiff, Nat.reduceMul, Nat.reduceEqDiff, reduceCtorEq, Int.reduceAdd, Int.reduceLT, Int.reduceLE, Int.reduceToNat, Int.reduceNeg, Int.reduceSub, Int.reduceBEq, Int.reduceBNe, Int.reduceNe, Int.reduceGT, Int.reduceGE, Nat.reduceGT] | (rw [drawC_ok]; rotate_left; decide +kernel; exact cfg_mixed))
    rw [evM_for0 change.length (fun i j => { t := [(1, .ptr 50 0), (3, .d (.i .i64 j))], o := [(50, .box [.d (.i .i64 3), .d (.s name), .d (.sl .any []), .d (.s ⟨#[]⟩), .d (.sl .any (change.map rC))])], ks := [50], n := 0, sz := 120, u := noU })
      (fun i => br (chFrom (prevOf (change.map R.name) i) (change.drop i)) (some (.exit 1, { t := [(1, .ptr 50 0)], o := [(50, .box [.d (.i .i64 3), .d (.s name), .d (.sl .any []), .d (.s ⟨#[]⟩), .d (.sl .any (change.map rC))])], ks := [50], n := 0, sz := 120, u := noU })) (some (.ret, { t := [(2, .d (.b false))], o := [], ks := [], n := 0, sz := 120, u := noU })) ⟨⟩) ?step ?last]
    case step =>
      intro i hi ih
      have hcc : (change.map rC)[i]? = some [.s change[i].name, .i .i64 change[i].bag.w, .sl .any (change[i].bag.rows.map cC)] := get_map rC change i hi
      have hd := dec_lt hi
      have hw := wrap_succ (i := i) (by omega)
      obtain ⟨g1, g2, g3⟩ := c4 _ (List.getElem_mem hi)
      have hn := ev_sNameOk change[i].name (by omega)
      have hbg := ev_sBagOk change[i].bag.w change[i].bag.rows (by omega) g3
      have hdr : change.drop i = change[i] :: change.drop (i + 1) := List.drop_eq_getElem_cons hi
      have hnx : prevOf (change.map R.name) (i + 1) = some change[i].name := by simp [prevOf, hi]
      rw [hnx] at ih
      rw [hdr, chFrom]
      clear hnx hdr c4 g3
      cases hno : nameOk change[i].name with
      | false =>
        rw [Bool.false_and, Bool.false_and, Bool.false_and]
        repeat' (first | with_reducible refine br_split (fun _ => ?_) (fun _ => ?_) | simp only [*, push_cast, Array.reduceGetElem?, Nat.reduceBEq, Nat.reduceLT, Nat.reduceAdd, Nat.reduceSub, Nat.reduceLeDiff, Nat.reduceMul, Nat.reduceEqDiff, reduceCtorEq, Int.reduceAdd, Int.reduceLT, Int.reduceLE, Int.reduceToNat, Int.reduceNeg, Int.reduceSub, Int.reduceBEq, Int.reduceBNe, Int.reduceNe, Int.reduceGT, Int.reduceGE, Nat.reduceGT] | (rw [drawC_ok]; rotate_left; decide +kernel; exact cfg_mixed))
      | true =>
        rw [Bool.true_and]
        cases hbo : bagOk change[i].bag with
        | false =>
          rw [Bool.false_and, Bool.false_and]
          repeat' (first | with_reducible refine br_split (fun _ => ?_) (fun _ => ?_) | simp only [*, push_cast, Array.reduceGetElem?, Nat.reduceBEq, Nat.reduceLT, Nat.reduceAdd, Nat.reduceSub, Nat.reduceLeDiff, Nat.reduceMul, Nat.reduceEqDiff, reduceCtorEq, Int.reduceAdd, Int.reduceLT, Int.reduceLE, Int.reduceToNat, Int.reduceNeg, Int.reduceSub, Int.reduceBEq, Int.reduceBNe, Int.reduceNe, Int.reduceGT, Int.reduceGE, Nat.reduceGT] | (rw [drawC_ok]; rotate_left; decide +kernel; exact cfg_mixed))
        | true =>
          rw [Bool.true_and]
          by_cases h0 : i = 0
          · have hp : prevOf (change.map R.name) i = none := by simp [prevOf, h0]
            have hg : decide ((i : Int) > 0) = false := decide_eq_false (by omega)
            have hu : upOk none change[i].name = true := rfl
            rw [hp, hu, Bool.true_and]
            clear hp h0 hu
            repeat' (first | with_reducible refine br_split (fun _ => ?_) (fun _ => ?_) | simp only [*, push_cast, Array.reduceGetElem?, Nat.reduceBEq, Nat.reduceLT, Nat.reduceAdd, Nat.reduceSub, Nat.reduceLeDiff, Nat.reduceMul, Nat.reduceEqDiff, reduceCtorEq, Int.reduceAdd, Int.reduceLT, Int.reduceLE, Int.reduceToNat, Int.reduceNeg, Int.reduceSub, Int.reduceBEq, Int.reduceBNe, Int.reduceNe, Int.reduceGT, Int.reduceGE, Nat.reduceGT] | (rw [drawC_ok]; rotate_left; decide +kernel; exact cfg_mixed))
          · obtain ⟨q, hq⟩ : ∃ q, q = i - 1 := ⟨_, rfl⟩
            have hqi : q < change.length := by omega
            have hp : prevOf (change.map R.name) i = some change[q].name := by simp [prevOf, h0, hq, List.getElem?_eq_getElem (by omega : i - 1 < change.length)]
            have hg : decide ((i : Int) > 0) = true := decide_eq_true (by omega)
            have hwq : IntKind.i64.wrap ((i : Int) - 1) = (q : Int) := by rw [i64_in (by omega) (by omega)]; omega
            have hcq : (change.map rC)[q]? = some [.s change[q].name, .i .i64 change[q].bag.w, .sl .any (change[q].bag.rows.map cC)] := get_map rC change q hqi
            have hdq := dec_lt hqi
            have hu : upOk (some change[q].name) change[i].name = !(Op.bytesLess change[i].name.toList change[q].name.toList || change[i].name.toList == change[q].name.toList) := rfl
            rw [hp, hu]
            clear hp h0 hu hq
            cases hls : Op.bytesLess change[i].name.toList change[q].name.toList with
            | true =>
              rw [Bool.true_or, Bool.not_true, Bool.false_and]
              repeat' (first | with_reducible refine br_split (fun _ => ?_) (fun _ => ?_) | simp only [*, push_cast, Array.reduceGetElem?, Nat.reduceBEq, Nat.reduceLT, Nat.reduceAdd, Nat.reduceSub, Nat.reduceLeDiff, Nat.reduceMul, Nat.reduceEqDiff, reduceCtorEq, Int.reduceAdd, Int.reduceLT, Int.reduceLE, Int.reduceToNat, Int.reduceNeg, Int.reduceSub, Int.reduceBEq, Int.reduceBNe, Int.reduceNe, Int.reduceGT, Int.reduceGE, Nat.reduceGT] | (rw [drawC_ok]; rotate_left; decide +kernel; exact cfg_mixed))
            | false =>
              rw [Bool.false_or]
              cases hls2 : (change[i].name.toList == change[q].name.toList) with
              | true =>
                rw [Bool.not_true, Bool.false_and]
                repeat' (first | with_reducible refine br_split (fun _ => ?_) (fun _ => ?_) | simp only [*, push_cast, Array.reduceGetElem?, Nat.reduceBEq, Nat.reduceLT, Nat.reduceAdd, Nat.reduceSub, Nat.reduceLeDiff, Nat.reduceMul, Nat.reduceEqDiff, reduceCtorEq, Int.reduceAdd, Int.reduceLT, Int.reduceLE, Int.reduceToNat, Int.reduceNeg, Int.reduceSub, Int.reduceBEq, Int.reduceBNe, Int.reduceNe, Int.reduceGT, Int.reduceGE, Nat.reduceGT] | (rw [drawC_ok]; rotate_left; decide +kernel; exact cfg_mixed))
              | false =>
                rw [Bool.not_false, Bool.true_and]
                repeat' (first | with_reducible refine br_split (fun _ => ?_) (fun _ => ?_) | simp only [*, push_cast, Array.reduceGetElem?, Nat.reduceBEq, Nat.reduceLT, Nat.reduceAdd, Nat.reduceSub, Nat.reduceLeDiff, Nat.reduceMul, Nat.reduceEqDiff, reduceCtorEq, Int.reduceAdd, Int.reduceLT, Int.reduceLE, Int.reduceToNat, Int.reduceNeg, Int.reduceSub, Int.reduceBEq, Int.reduceBNe, Int.reduceNe, Int.reduceGT, Int.reduceGE, Nat.reduceGT] | (rw [drawC_ok]; rotate_left; decide +kernel; exact cfg_mixed))
    case last =>
      have h1 : chFrom (prevOf (change.map R.name) change.length) (change.drop change.length) = true := by
        rw [List.drop_length]
        unfold chFrom
        rfl
      rw [h1]
      clear c4
      repeat' (first | with_reducible refine br_split (fun _ => ?_) (fun _ => ?_) | simp only [*, push_cast, Array.reduceGetElem?, Nat.reduceBEq, Nat.reduceLT, Nat.reduceAdd, Nat.reduceSub, Nat.reduceLeDiff, Nat.reduceMul, Nat.reduceEqDiff, reduceCtorEq, Int.reduceAdd, Int.reduceLT, Int.reduceLE, Int.reduceToNat, Int.reduceNeg, Int.reduceSub, Int.reduceBEq, Int.reduceBNe, Int.reduceNe, Int.reduceGT, Int.reduceGE, Nat.reduceGT] | (rw [drawC_ok]; rotate_left; decide +kernel; exact cfg_mixed))
    · have h1 : chFrom (prevOf (change.map R.name) 0) (change.drop 0) = chFrom none change := by simp [prevOf]
      rw [h1]
      clear c4
      cases chFrom none change with
      | false =>
        rw [Bool.false_and]
        repeat' (first | with_reducible refine br_split (fun _ => ?_) (fun _ => ?_) | simp only [*, push_cast, Array.reduceGetElem?, Nat.reduceBEq, Nat.reduceLT, Nat.reduceAdd, Nat.reduceSub, Nat.reduceLeDiff, Nat.reduceMul, Nat.reduceEqDiff, reduceCtorEq, Int.reduceAdd, Int.reduceLT, Int.reduceLE, Int.reduceToNat, Int.reduceNeg, Int.reduceSub, Int.reduceBEq, Int.reduceBNe, Int.reduceNe, Int.reduceGT, Int.reduceGE, Nat.reduceGT] | (rw [drawC_ok]; rotate_left; decide +kernel; exact cfg_mixed))
      | true =>
        rw [Bool.true_and]
        repeat' (first | with_reducible refine br_split (fun _ => ?_) (fun _ => ?_) | simp only [*, push_cast, Array.reduceGetElem?, Nat.reduceBEq, Nat.reduceLT, Nat.reduceAdd, Nat.reduceSub, Nat.reduceLeDiff, Nat.reduceMul, Nat.reduceEqDiff, reduceCtorEq, Int.reduceAdd, Int.reduceLT, Int.reduceLE, Int.reduceToNat, Int.reduceNeg, Int.reduceSub, Int.reduceBEq, Int.reduceBNe, Int.reduceNe, Int.reduceGT, Int.reduceGE, Nat.reduceGT] | (rw [drawC_ok]; rotate_left; decide +kernel; exact cfg_mixed))
        all_goals simp_all [noS]
end Go.Av
end

section
namespace Go.Av
open Go.Proofs
set_option linter.unusedSimpArgs false

theorem ev_sSchema1 (name : ByteArray) (cols : List ByteArray) (hn : name.size ≤ 1048576) (hl : cols.length ≤ 1048576) (hc : ∀ c ∈ cols, c.size ≤ 1048576) : evF cfg 64 [] [.d (.sl .any [[.s name, .sl .any (cols.map sC)]])] =
    some (.d (.b (nameOk name && colsOk cols)), []) := by
  have h := ev_sSchemasOk [⟨name, cols⟩] (by simp) (by
    intro x hx
    obtain rfl : x = ⟨name, cols⟩ := by simpa using hx
    exact ⟨hl, hn, hc⟩)
  have e : (spFrom none [(⟨name, cols⟩ : Sc)] && decide ((([(⟨name, cols⟩ : Sc)].length : Nat) : Int) ≤ 20)) = (nameOk name && colsOk cols) := by
    rw [schemas_same]
    simp [schemasOk, rising, risFrom]
  rw [e] at h
  exact h
set_option maxHeartbeats 4000000 in
theorem ev_sStepOk (kind : Int) (name : ByteArray) (cols : List ByteArray) (query : ByteArray) (change : List R) (h : szSp ⟨kind, name, cols, query, change⟩ ≤ 1048576) :
    evF cfg 28 [] [.agg [.d (.i .i64 kind), .d (.s name), .d (.sl .any (cols.map sC)), .d (.s query), .d (.sl .any (change.map rC))]] = some (.d (.b (stepOk ⟨kind, name, cols, query, change⟩)), []) := by
  have h' := h
  simp only [szSp] at h
  obtain ⟨c1, c2⟩ := szSs_mem (l := cols) (n := 1048576) (by omega)
  have hsc := ev_sSchema1 name cols (by omega) c1 c2
  have hno := ev_sNameOk name (by omega)
  clear c1 c2 h
  by_cases k0 : kind = 0
  · subst k0
    clear h'
    (refine (evF_code (C := cfg) (g := 28) (fn := Tryz.f28) rfl Tryz.func28 rfl (by rw [Tryz.ntmps28]; simp) (by kernel_rfl) (by first | decide | simp [keysOf])).trans ?_; rw [Tryz.results28, Tryz.ntmps28])
    repeat' (first | with_reducible refine br_split (fun _ => ?_) (fun _ => ?_) | simp only [*, push_cast, Array.reduceGetElem?, Nat.reduceBEq, Nat.reduceLT, Nat.reduceAdd, Nat.reduceSub, Nat.reduceLeDiff, Nat.reduceMul, Nat.reduceEqDiff, reduceCtorEq, Int.reduceAdd, Int.reduceLT, Int.reduceLE, Int.reduceToNat, Int.reduceNeg, Int.reduceSub, Int.reduceBEq, Int.reduceBNe, Int.reduceNe, Int.reduceGT, Int.reduceGE, Nat.reduceGT] | (rw [drawC_ok]; rotate_left; decide +kernel; exact cfg_mixed))
    all_goals simp_all [stepOk, stepBad, stepRest, noS]
  by_cases k1 : kind = 1
  · subst k1
    clear h'
    (refine (evF_code (C := cfg) (g := 28) (fn := Tryz.f28) rfl Tryz.func28 rfl (by rw [Tryz.ntmps28]; simp) (by kernel_rfl) (by first | decide | simp [keysOf])).trans ?_; rw [Tryz.results28, Tryz.ntmps28])
    repeat' (first | with_reducible refine br_split (fun _ => ?_) (fun _ => ?_) | simp only [*, push_cast, Array.reduceGetElem?, Nat.reduceBEq, Nat.reduceLT, Nat.reduceAdd, Nat.reduceSub, Nat.reduceLeDiff, Nat.reduceMul, Nat.reduceEqDiff, reduceCtorEq, Int.reduceAdd, Int.reduceLT, Int.reduceLE, Int.reduceToNat, Int.reduceNeg, Int.reduceSub, Int.reduceBEq, Int.reduceBNe, Int.reduceNe, Int.reduceGT, Int.reduceGE, Nat.reduceGT] | (rw [drawC_ok]; rotate_left; decide +kernel; exact cfg_mixed))
    all_goals simp_all [stepOk, stepBad, stepRest, noS]
  by_cases k2 : kind = 2
  · subst k2
    clear h'
    (refine (evF_code (C := cfg) (g := 28) (fn := Tryz.f28) rfl Tryz.func28 rfl (by rw [Tryz.ntmps28]; simp) (by kernel_rfl) (by first | decide | simp [keysOf])).trans ?_; rw [Tryz.results28, Tryz.ntmps28])
    repeat' (first | with_reducible refine br_split (fun _ => ?_) (fun _ => ?_) | simp only [*, push_cast, Array.reduceGetElem?, Nat.reduceBEq, Nat.reduceLT, Nat.reduceAdd, Nat.reduceSub, Nat.reduceLeDiff, Nat.reduceMul, Nat.reduceEqDiff, reduceCtorEq, Int.reduceAdd, Int.reduceLT, Int.reduceLE, Int.reduceToNat, Int.reduceNeg, Int.reduceSub, Int.reduceBEq, Int.reduceBNe, Int.reduceNe, Int.reduceGT, Int.reduceGE, Nat.reduceGT] | (rw [drawC_ok]; rotate_left; decide +kernel; exact cfg_mixed))
    all_goals simp_all [stepOk, stepBad, stepRest, noS]
  have e0 : (kind != 0) = true := by simpa using k0
  have e1 : (kind != 1) = true := by simpa using k1
  cases hb : stepBad ⟨kind, name, cols, query, change⟩ with
  | false =>
    rw [ev_sStepOk3 kind name cols query change h' k0 k1 k2 hb, ch_split]
    have : stepOk ⟨kind, name, cols, query, change⟩ = ((risFrom none (change.map R.name) && change.all fun x => bagOk x.bag) && stepTail kind name change) := by
      unfold stepOk
      rw [hb]
      simp only [stepRest, k0, k1, k2, if_false, stepTail, rising]
      by_cases k3 : kind = 3
      · simp only [k3, if_true, decide_true, Bool.true_and]
        cases decide (name = noS) <;> cases (decide (1 ≤ (change.length : Int)) && decide ((change.length : Int) ≤ 20)) <;> cases risFrom none (change.map R.name) <;> simp
      · simp [k3]
    rw [this]
  | true =>
    have hr : stepOk ⟨kind, name, cols, query, change⟩ = false := by unfold stepOk; rw [hb]; rfl
    rw [hr]
    have hx : cols.length > 0 ∨ query ≠ noS ∨ (kind ≠ 3 ∧ 0 < change.length) := by
      simp only [stepBad, Bool.or_eq_true, Bool.and_eq_true, decide_eq_true_eq] at hb
      rcases hb with (⟨_, h⟩ | ⟨_, h⟩) | ⟨h1, h2⟩
      · exact .inl h
      · exact .inr (.inl h)
      · exact .inr (.inr ⟨h1, h2⟩)
    clear hb hr h' k0 k1 k2 hsc hno
    rcases hx with hx | hx | ⟨h1, h2⟩
    · have d1 : decide ((cols.length : Int) > 0) = true := decide_eq_true (by omega)
      clear hx
      (refine (evF_code (C := cfg) (g := 28) (fn := Tryz.f28) rfl Tryz.func28 rfl (by rw [Tryz.ntmps28]; simp) (by kernel_rfl) (by first | decide | simp [keysOf])).trans ?_; rw [Tryz.results28, Tryz.ntmps28])
      repeat' (first | with_reducible refine br_split (fun _ => ?_) (fun _ => ?_) | simp only [*, push_cast, Array.reduceGetElem?, Nat.reduceBEq, Nat.reduceLT, Nat.reduceAdd, Nat.reduceSub, Nat.reduceLeDiff, Nat.reduceMul, Nat.reduceEqDiff, reduceCtorEq, Int.reduceAdd, Int.reduceLT, Int.reduceLE, Int.reduceToNat, Int.reduceNeg, Int.reduceSub, Int.reduceBEq, Int.reduceBNe, Int.reduceNe, Int.reduceGT, Int.reduceGE, Nat.reduceGT] | (rw [drawC_ok]; rotate_left; decide +kernel; exact cfg_mixed))
    · cases d1 : decide ((cols.length : Int) > 0) with
      | true =>
        clear hx
        (refine (evF_code (C := cfg) (g := 28) (fn := Tryz.f28) rfl Tryz.func28 rfl (by rw [Tryz.ntmps28]; simp) (by kernel_rfl) (by first | decide | simp [keysOf])).trans ?_; rw [Tryz.results28, Tryz.ntmps28])
        repeat' (first | with_reducible refine br_split (fun _ => ?_) (fun _ => ?_) | simp only [*, push_cast, Array.reduceGetElem?, Nat.reduceBEq, Nat.reduceLT, Nat.reduceAdd, Nat.reduceSub, Nat.reduceLeDiff, Nat.reduceMul, Nat.reduceEqDiff, reduceCtorEq, Int.reduceAdd, Int.reduceLT, Int.reduceLE, Int.reduceToNat, Int.reduceNeg, Int.reduceSub, Int.reduceBEq, Int.reduceBNe, Int.reduceNe, Int.reduceGT, Int.reduceGE, Nat.reduceGT] | (rw [drawC_ok]; rotate_left; decide +kernel; exact cfg_mixed))
      | false =>
        have d2 : decide (query = ⟨#[]⟩) = false := decide_eq_false hx
        clear hx
        (refine (evF_code (C := cfg) (g := 28) (fn := Tryz.f28) rfl Tryz.func28 rfl (by rw [Tryz.ntmps28]; simp) (by kernel_rfl) (by first | decide | simp [keysOf])).trans ?_; rw [Tryz.results28, Tryz.ntmps28])
        repeat' (first | with_reducible refine br_split (fun _ => ?_) (fun _ => ?_) | simp only [*, push_cast, Array.reduceGetElem?, Nat.reduceBEq, Nat.reduceLT, Nat.reduceAdd, Nat.reduceSub, Nat.reduceLeDiff, Nat.reduceMul, Nat.reduceEqDiff, reduceCtorEq, Int.reduceAdd, Int.reduceLT, Int.reduceLE, Int.reduceToNat, Int.reduceNeg, Int.reduceSub, Int.reduceBEq, Int.reduceBNe, Int.reduceNe, Int.reduceGT, Int.reduceGE, Nat.reduceGT] | (rw [drawC_ok]; rotate_left; decide +kernel; exact cfg_mixed))
    · have d4 : (kind != 3) = true := by simpa using h1
      have d5 : decide ((change.length : Int) > 0) = true := decide_eq_true (by omega)
      clear h1 h2
      cases d1 : decide ((cols.length : Int) > 0) with
      | true =>
        (refine (evF_code (C := cfg) (g := 28) (fn := Tryz.f28) rfl Tryz.func28 rfl (by rw [Tryz.ntmps28]; simp) (by kernel_rfl) (by first | decide | simp [keysOf])).trans ?_; rw [Tryz.results28, Tryz.ntmps28])
        repeat' (first | with_reducible refine br_split (fun _ => ?_) (fun _ => ?_) | simp only [*, push_cast, Array.reduceGetElem?, Nat.reduceBEq, Nat.reduceLT, Nat.reduceAdd, Nat.reduceSub, Nat.reduceLeDiff, Nat.reduceMul, Nat.reduceEqDiff, reduceCtorEq, Int.reduceAdd, Int.reduceLT, Int.reduceLE, Int.reduceToNat, Int.reduceNeg, Int.reduceSub, Int.reduceBEq, Int.reduceBNe, Int.reduceNe, Int.reduceGT, Int.reduceGE, Nat.reduceGT] | (rw [drawC_ok]; rotate_left; decide +kernel; exact cfg_mixed))
      | false =>
        cases d2 : decide (query = ⟨#[]⟩) with
        | true =>
          (refine (evF_code (C := cfg) (g := 28) (fn := Tryz.f28) rfl Tryz.func28 rfl (by rw [Tryz.ntmps28]; simp) (by kernel_rfl) (by first | decide | simp [keysOf])).trans ?_; rw [Tryz.results28, Tryz.ntmps28])
          repeat' (first | with_reducible refine br_split (fun _ => ?_) (fun _ => ?_) | simp only [*, push_cast, Array.reduceGetElem?, Nat.reduceBEq, Nat.reduceLT, Nat.reduceAdd, Nat.reduceSub, Nat.reduceLeDiff, Nat.reduceMul, Nat.reduceEqDiff, reduceCtorEq, Int.reduceAdd, Int.reduceLT, Int.reduceLE, Int.reduceToNat, Int.reduceNeg, Int.reduceSub, Int.reduceBEq, Int.reduceBNe, Int.reduceNe, Int.reduceGT, Int.reduceGE, Nat.reduceGT] | (rw [drawC_ok]; rotate_left; decide +kernel; exact cfg_mixed))
        | false =>
          (refine (evF_code (C := cfg) (g := 28) (fn := Tryz.f28) rfl Tryz.func28 rfl (by rw [Tryz.ntmps28]; simp) (by kernel_rfl) (by first | decide | simp [keysOf])).trans ?_; rw [Tryz.results28, Tryz.ntmps28])
          repeat' (first | with_reducible refine br_split (fun _ => ?_) (fun _ => ?_) | simp only [*, push_cast, Array.reduceGetElem?, Nat.reduceBEq, Nat.reduceLT, Nat.reduceAdd, Nat.reduceSub, Nat.reduceLeDiff, Nat.reduceMul, Nat.reduceEqDiff, reduceCtorEq, Int.reduceAdd, Int.reduceLT, Int.reduceLE, Int.reduceToNat, Int.reduceNeg, Int.reduceSub, Int.reduceBEq, Int.reduceBNe, Int.reduceNe, Int.reduceGT, Int.reduceGE, Nat.reduceGT] | (rw [drawC_ok]; rotate_left; decide +kernel; exact cfg_mixed))
end Go.Av
end
