/- What functions of this seat give. -/
import Derived.Test.YtflkffnelppigaaGo
import Derived.Test.YtflkffnelppigaaGe
import Derived.Test.YtflkffnelppigaaRows
import Derived.WalkKit
import Derived.ProofKit
import Derived.OpenShut
import Derived.ShutString
import Derived.ChangeOld
import Derived.Below
import Derived.SizedLaws
set_option linter.all false
set_option linter.unusedVariables false
set_option linter.unusedSimpArgs false

section
namespace Go.Av
open Go.Proofs
set_option linter.unusedSimpArgs false
set_option linter.unusedVariables false
/-- A relation behind a change. -/
def chgR (d : List R) (r : R) : R := match findR d r.name with
  | some x => ⟨r.name, ⟨r.bag.w, (addBag r.bag x.bag).rows⟩⟩
  | none => r
theorem findR_mem {l : List R} {s : ByteArray} {x : R} (h : findR l s = some x) : x ∈ l := List.mem_of_find?_eq_some h
theorem addBag_nil (b : B) : (addBag b ⟨b.w, []⟩).rows = b.rows := by
  unfold addBag
  split
  · rename_i h
    simp only [Bool.and_eq_true] at h
    split
    · show norm (b.rows ++ []) = b.rows
      rw [List.append_nil, norm_self (bagOk_canon h.1)]
    · rfl
  · rfl
structure Pair (l d : List R) : Prop where
  fst : SmR l
  snd : SmR d
  both : ∀ r ∈ l, ∀ x ∈ d, r.bag.rows.length + x.bag.rows.length ≤ 1048576
theorem szR_rows {l : List R} {r : R} (h : r ∈ l) : r.bag.rows.length ≤ szRs l := by
  have := (szRs_mem (Nat.le_refl (szRs l))).2 r h
  simp only [szR, szB, szCs] at this
  omega
theorem Pair.of {l d : List R} (h : szRs l + szRs d ≤ 1048576) : Pair l d :=
  ⟨szRs_all (by omega), szRs_all (by omega), fun r hr x hx => by have := szR_rows hr; have := szR_rows hx; omega⟩
theorem Pair.chg {l d : List R} (h : Pair l d) : SmR (l.map (chgR d)) := by
  refine ⟨by simpa using h.fst.1, fun r hr => ?_⟩
  obtain ⟨x, hx, rfl⟩ := List.mem_map.1 hr
  unfold chgR
  split
  · rename_i y hy
    have hm := findR_mem hy
    exact addBag_small (a := x.bag) (b := y.bag) (h.both x hx y hm) (h.fst.2 x hx).2 (h.snd.2 y hm).2
  · exact h.fst.2 x hx
theorem Pair.lim {l d : List R} (h : Pair l d) (hl : (T.sl .any (l.map rC)).lim) (hd : (T.sl .any (d.map rC)).lim) : (T.sl .any ((l.map (chgR d)).map rC)).lim := by
  simp only [T.lim, List.length_map, limEs_map] at hl hd ⊢
  refine ⟨hl.1, fun r hr => ?_⟩
  obtain ⟨x, hx, rfl⟩ := List.mem_map.1 hr
  have hx1 := hl.2 x hx
  unfold chgR
  split
  · rename_i y hy
    have hm := findR_mem hy
    have hy1 := hd.2 y hm
    simp only [rC, limCs] at hx1 hy1 ⊢
    have := addBag_lim (a := x.bag) (b := y.bag) (h.both x hx y hm) (h.fst.2 x hx).2 (h.snd.2 y hm).2 (by simp only [bC, limCs]; exact ⟨trivial, hx1.2.2.1, trivial⟩) (by simp only [bC, limCs]; exact ⟨trivial, hy1.2.2.1, trivial⟩)
    simp only [bC, limCs] at this
    exact ⟨hx1.1, trivial, this.2.1, trivial⟩
  · exact hx1
theorem ev_l05Copy (l : List R) (h : SmR l) : evF cfg 82 [] [.d (.sl .any (l.map rC))] = some (.own 40, [(40, .arr .any 3 (l.map rC))]) := by
  have H := Hd.mk h
  clear h
  (refine (evF_code (C := cfg) (g := 82) (fn := Try.f82) rfl Try.func82 rfl (by rw [Try.ntmps82]; simp) (by kernel_rfl) (by first | decide | simp [keysOf])).trans ?_; rw [Try.results82, Try.ntmps82])
  repeat' (first | with_reducible refine br_split (fun _ => ?_) (fun _ => ?_) | simp only [*, push_cast, Array.reduceGetElem?, Nat.reduceBEq, Nat.reduceLT, Nat.reduceAdd, Nat.reduceSub, Nat.reduceLeDiff, Nat.reduceMul, Nat.reduceEqDiff, reduceCtorEq, Int.reduceAdd, Int.reduceLT, Int.reduceLE, Int.reduceToNat, Int.reduceNeg, Int.reduceSub, Int.reduceBEq, Int.reduceBNe, Int.reduceNe, Int.reduceGT, Int.reduceGE, Nat.reduceGT] | (rw [drawC_ok]; rotate_left; decide +kernel; exact cfg_mixed))
  rw [show ([] : List (List T)) = (l.take 0).map rC from rfl]
  rw [evM_for0 l.length (fun i j => { t := [(0, .d (.sl .any (l.map rC))), (3, .own 50), (4, .d (.i .i64 j))], o := [(50, .arr .any 3 ((l.take i).map rC))], ks := [50], n := 0, sz := 28, u := noU }) (fun i => some (.exit 0, { t := [(3, .own 50)], o := [(50, .arr .any 3 (l.map rC))], ks := [50], n := 0, sz := 28, u := noU })) ?step ?last]
  case step =>
    intro i hi ih
    obtain ⟨hl, hr⟩ := H.out
    have hc : (l.map rC)[i]? = some [.s l[i].name, .i .i64 l[i].bag.w, .sl .any (l[i].bag.rows.map cC)] := get_map rC l i hi
    have hd := dec_lt hi
    have hdn := dec_ltN hi
    have hw : IntKind.i64.wrap ((i : Int) + 1) = (i : Int) + 1 := wrap_succ (by omega)
    have h1 := ev_l02Copy l[i].bag.w l[i].bag.rows (hr _ (List.getElem_mem hi)).1 (hr _ (List.getElem_mem hi)).2
    have h2 := len_ok (n := (l.take i).length + 1) 48 (by simp; omega) (by omega)
    have h3 : (l.take i).map rC ++ [[.s l[i].name, .i .i64 l[i].bag.w, .sl .any (l[i].bag.rows.map cC)]] = (l.take (i + 1)).map rC := take_snoc rC hi
    clear hl hr H
    repeat' (first | with_reducible refine br_split (fun _ => ?_) (fun _ => ?_) | simp only [*, push_cast, Array.reduceGetElem?, Nat.reduceBEq, Nat.reduceLT, Nat.reduceAdd, Nat.reduceSub, Nat.reduceLeDiff, Nat.reduceMul, Nat.reduceEqDiff, reduceCtorEq, Int.reduceAdd, Int.reduceLT, Int.reduceLE, Int.reduceToNat, Int.reduceNeg, Int.reduceSub, Int.reduceBEq, Int.reduceBNe, Int.reduceNe, Int.reduceGT, Int.reduceGE, Nat.reduceGT] | (rw [drawC_ok]; rotate_left; decide +kernel; exact cfg_mixed))
  case last =>
    have hl := H.out.1
    have hf : l.take l.length = l := List.take_length
    clear H
    repeat' (first | with_reducible refine br_split (fun _ => ?_) (fun _ => ?_) | simp only [*, push_cast, Array.reduceGetElem?, Nat.reduceBEq, Nat.reduceLT, Nat.reduceAdd, Nat.reduceSub, Nat.reduceLeDiff, Nat.reduceMul, Nat.reduceEqDiff, reduceCtorEq, Int.reduceAdd, Int.reduceLT, Int.reduceLE, Int.reduceToNat, Int.reduceNeg, Int.reduceSub, Int.reduceBEq, Int.reduceBNe, Int.reduceNe, Int.reduceGT, Int.reduceGE, Nat.reduceGT] | (rw [drawC_ok]; rotate_left; decide +kernel; exact cfg_mixed))
  repeat' (first | with_reducible refine br_split (fun _ => ?_) (fun _ => ?_) | simp only [*, push_cast, Array.reduceGetElem?, Nat.reduceBEq, Nat.reduceLT, Nat.reduceAdd, Nat.reduceSub, Nat.reduceLeDiff, Nat.reduceMul, Nat.reduceEqDiff, reduceCtorEq, Int.reduceAdd, Int.reduceLT, Int.reduceLE, Int.reduceToNat, Int.reduceNeg, Int.reduceSub, Int.reduceBEq, Int.reduceBNe, Int.reduceNe, Int.reduceGT, Int.reduceGE, Nat.reduceGT] | (rw [drawC_ok]; rotate_left; decide +kernel; exact cfg_mixed))
/-- The relations in the midst of a change: the first i are changed. -/
def midR (d l : List R) (i : Nat) : List R := (l.take i).map (chgR d) ++ l.drop i
theorem midR_zero (d l : List R) : midR d l 0 = l := by simp [midR]
theorem midR_all (d l : List R) : midR d l l.length = l.map (chgR d) := by simp [midR]
theorem midR_len (d l : List R) (i : Nat) : (midR d l i).length = l.length := by simp [midR]; omega
theorem midR_get (d : List R) {l : List R} {i : Nat} (h : i < l.length) : ((midR d l i).map rC)[i]? = some [.s l[i].name, .i .i64 l[i].bag.w, .sl .any (l[i].bag.rows.map cC)] := by
  have h1 : (midR d l i)[i]? = some l[i] := by
    rw [midR, List.getElem?_append_right (by simp; omega)]
    simp [Nat.min_eq_left (Nat.le_of_lt h)]
  rw [List.getElem?_map, h1]; rfl
theorem midR_succ (d : List R) {l : List R} {i : Nat} (h : i < l.length) : midR d l (i + 1) = (midR d l i).set i (chgR d l[i]) := by
  apply List.ext_getElem?
  intro j
  have hl : (midR d l i).length = l.length := midR_len d l i
  rw [List.getElem?_set]
  by_cases hj : i = j
  · subst hj
    rw [if_pos rfl, if_pos (by omega), midR, List.getElem?_append_left (by simp; omega), List.getElem?_map, List.getElem?_take, if_pos (by omega), List.getElem?_eq_getElem h]
    rfl
  · rw [if_neg hj]
    by_cases hlt : j < i
    · rw [midR, midR, List.getElem?_append_left (by simp; omega), List.getElem?_append_left (by simp; omega), List.getElem?_map, List.getElem?_map, List.getElem?_take, List.getElem?_take, if_pos (by omega), if_pos hlt]
    · rw [midR, midR, List.getElem?_append_right (by simp; omega), List.getElem?_append_right (by simp; omega), List.getElem?_drop, List.getElem?_drop]
      congr 1
      simp
      omega
theorem midR_none {d l : List R} {i : Nat} (h : i < l.length) (hf : findR d l[i].name = none) : midR d l (i + 1) = midR d l i := by
  rw [midR_succ d h]
  have : chgR d l[i] = l[i] := by unfold chgR; rw [hf]
  rw [this]
  apply List.ext_getElem?
  intro j
  rw [List.getElem?_set]
  by_cases hj : i = j
  · subst hj
    rw [if_pos rfl, if_pos (by rw [midR_len]; exact h), midR, List.getElem?_append_right (by simp; omega)]
    simp [Nat.min_eq_left (Nat.le_of_lt h)]
  · rw [if_neg hj]
theorem midR_set {d l : List R} {i : Nat} {x : R} (h : i < l.length) (hf : findR d l[i].name = some x) :
    ((midR d l i).map rC).set i [.s l[i].name, .i .i64 l[i].bag.w, .sl .any ((addBag ⟨l[i].bag.w, l[i].bag.rows⟩ ⟨x.bag.w, x.bag.rows⟩).rows.map cC)] = (midR d l (i + 1)).map rC := by
  rw [midR_succ d h, List.map_set]
  congr 1
  unfold chgR
  rw [hf]
  rfl
theorem ev_sChanged (l d : List R) (h : Pair l d) : evF cfg 43 [] [.d (.sl .any (l.map rC)), .d (.sl .any (d.map rC))] = some (.d (.sl .any ((l.map (chgR d)).map rC)), []) := by
  have H := Hd.mk h
  have hcp := ev_l05Copy l h.fst
  clear h
  (refine (evF_code (C := cfg) (g := 43) (fn := Try.f43) rfl Try.func43 rfl (by rw [Try.ntmps43]; simp) (by kernel_rfl) (by first | decide | simp [keysOf])).trans ?_; rw [Try.results43, Try.ntmps43])
  repeat' (first | with_reducible refine br_split (fun _ => ?_) (fun _ => ?_) | simp only [*, push_cast, Array.reduceGetElem?, Nat.reduceBEq, Nat.reduceLT, Nat.reduceAdd, Nat.reduceSub, Nat.reduceLeDiff, Nat.reduceMul, Nat.reduceEqDiff, reduceCtorEq, Int.reduceAdd, Int.reduceLT, Int.reduceLE, Int.reduceToNat, Int.reduceNeg, Int.reduceSub, Int.reduceBEq, Int.reduceBNe, Int.reduceNe, Int.reduceGT, Int.reduceGE, Nat.reduceGT] | (rw [drawC_ok]; rotate_left; decide +kernel; exact cfg_mixed))
  rw [← midR_zero d l]
  rw [evM_for0 l.length (fun i j => { t := [(1, .d (.sl .any (d.map rC))), (5, .own 50), (6, .d (.i .i64 j))], o := [(50, .arr .any 3 ((midR d l i).map rC))], ks := [50], n := 0, sz := 40, u := noU }) (fun i => some (.exit 0, { t := [(5, .own 50)], o := [(50, .arr .any 3 ((l.map (chgR d)).map rC))], ks := [50], n := 0, sz := 40, u := noU })) ?step ?last]
  case step =>
    intro i hi ih
    have h := H.out
    have hl := h.fst.1
    have hc := midR_get d hi
    have hlen := midR_len d l i
    have hd := dec_lt hi
    have hdn := dec_ltN hi
    have hw : IntKind.i64.wrap ((i : Int) + 1) = (i : Int) + 1 := wrap_succ (by omega)
    have hr := ev_l04Rel d l[i].name h.snd.1
    cases hf : findR d l[i].name with
    | none =>
      rw [hf] at hr
      have hm := midR_none (d := d) hi hf
      rw [hm] at ih
      simp only at hr
      clear hl hf hm h H hcp
      repeat' (first | with_reducible refine br_split (fun _ => ?_) (fun _ => ?_) | simp only [*, push_cast, Array.reduceGetElem?, Nat.reduceBEq, Nat.reduceLT, Nat.reduceAdd, Nat.reduceSub, Nat.reduceLeDiff, Nat.reduceMul, Nat.reduceEqDiff, reduceCtorEq, Int.reduceAdd, Int.reduceLT, Int.reduceLE, Int.reduceToNat, Int.reduceNeg, Int.reduceSub, Int.reduceBEq, Int.reduceBNe, Int.reduceNe, Int.reduceGT, Int.reduceGE, Nat.reduceGT] | (rw [drawC_ok]; rotate_left; decide +kernel; exact cfg_mixed))
    | some x =>
      rw [hf] at hr
      have hm := midR_set hi hf
      have ha := ev_sAddBag l[i].bag.w x.bag.w l[i].bag.rows x.bag.rows (h.both _ (List.getElem_mem hi) _ (findR_mem hf)) (h.fst.2 _ (List.getElem_mem hi)).2 (h.snd.2 _ (findR_mem hf)).2
      simp only [relTV] at hr
      clear hl hf h H hcp
      repeat' (first | with_reducible refine br_split (fun _ => ?_) (fun _ => ?_) | simp only [*, push_cast, Array.reduceGetElem?, Nat.reduceBEq, Nat.reduceLT, Nat.reduceAdd, Nat.reduceSub, Nat.reduceLeDiff, Nat.reduceMul, Nat.reduceEqDiff, reduceCtorEq, Int.reduceAdd, Int.reduceLT, Int.reduceLE, Int.reduceToNat, Int.reduceNeg, Int.reduceSub, Int.reduceBEq, Int.reduceBNe, Int.reduceNe, Int.reduceGT, Int.reduceGE, Nat.reduceGT] | (rw [drawC_ok]; rotate_left; decide +kernel; exact cfg_mixed))
  case last =>
    have hl := H.out.fst.1
    have hf := midR_all d l
    have hlen := midR_len d l l.length
    clear H hcp
    repeat' (first | with_reducible refine br_split (fun _ => ?_) (fun _ => ?_) | simp only [*, push_cast, Array.reduceGetElem?, Nat.reduceBEq, Nat.reduceLT, Nat.reduceAdd, Nat.reduceSub, Nat.reduceLeDiff, Nat.reduceMul, Nat.reduceEqDiff, reduceCtorEq, Int.reduceAdd, Int.reduceLT, Int.reduceLE, Int.reduceToNat, Int.reduceNeg, Int.reduceSub, Int.reduceBEq, Int.reduceBNe, Int.reduceNe, Int.reduceGT, Int.reduceGE, Nat.reduceGT] | (rw [drawC_ok]; rotate_left; decide +kernel; exact cfg_mixed))
  clear hcp
  rw [midR_zero]
  repeat' (first | with_reducible refine br_split (fun _ => ?_) (fun _ => ?_) | simp only [*, push_cast, Array.reduceGetElem?, Nat.reduceBEq, Nat.reduceLT, Nat.reduceAdd, Nat.reduceSub, Nat.reduceLeDiff, Nat.reduceMul, Nat.reduceEqDiff, reduceCtorEq, Int.reduceAdd, Int.reduceLT, Int.reduceLE, Int.reduceToNat, Int.reduceNeg, Int.reduceSub, Int.reduceBEq, Int.reduceBNe, Int.reduceNe, Int.reduceGT, Int.reduceGE, Nat.reduceGT] | (rw [drawC_ok]; rotate_left; decide +kernel; exact cfg_mixed))
end Go.Av
end

section
namespace Go.Av
open Go.Proofs
set_option linter.unusedSimpArgs false
theorem findR_idx (l : List R) (s : ByteArray) : findR l s = if l.any (fun r => decide (r.name = s)) then l[l.findIdx fun r => decide (r.name = s)]? else none := by
  unfold findR
  induction l with
  | nil => rfl
  | cons a l ih =>
    by_cases h : a.name = s
    · simp [h, List.findIdx_cons]
    · simp only [List.find?_cons, List.any_cons, List.findIdx_cons, h, decide_false, Bool.false_or, cond_false, List.getElem?_cons_succ]
      exact ih
theorem ev_findRel1 (n : ByteArray) (w : Int) (rows : List C) (s : ByteArray) : evF cfg 120 [(0, .box [.d (.s s)])] [.agg [.d (.s n), .d (.i .i64 w), .d (.sl .any (rows.map cC))], .ptr 0 0] = some (.d (.b (decide (n = s))), [(0, .box [.d (.s s)])]) := by
  (refine (evF_code (C := cfg) (g := 120) (fn := Try.f120) rfl Try.func120 rfl (by rw [Try.ntmps120]; simp) (by kernel_rfl) (by first | decide | simp [keysOf])).trans ?_; rw [Try.results120, Try.ntmps120])
  repeat' (first | with_reducible refine br_split (fun _ => ?_) (fun _ => ?_) | simp only [*, push_cast, Array.reduceGetElem?, Nat.reduceBEq, Nat.reduceLT, Nat.reduceAdd, Nat.reduceSub, Nat.reduceLeDiff, Nat.reduceMul, Nat.reduceEqDiff, reduceCtorEq, Int.reduceAdd, Int.reduceLT, Int.reduceLE, Int.reduceToNat, Int.reduceNeg, Int.reduceSub, Int.reduceBEq, Int.reduceBNe, Int.reduceNe, Int.reduceGT, Int.reduceGE, Nat.reduceGT] | (rw [drawC_ok]; rotate_left; decide +kernel; exact cfg_mixed))
theorem ev_IndexFuncRel (l : List R) (s : ByteArray) (hl : l.length ≤ 1048576) :
    evF cfg 119 [(0, .box [.d (.s s)])] [.d (.sl .any (l.map rC)), .clo 120 [.ptr 0 0]] = some (.d (.i .i64 (idxOf (fun r => decide (r.name = s)) l)), [(0, .box [.d (.s s)])]) := by
  generalize hp : (fun r : R => decide (r.name = s)) = p
  have H := Hd.mk (And.intro hl hp)
  clear hl hp
  (refine (evF_code (C := cfg) (g := 119) (fn := Try.f119) rfl Try.func119 rfl (by rw [Try.ntmps119]; simp) (by kernel_rfl) (by first | decide | simp [keysOf])).trans ?_; rw [Try.results119, Try.ntmps119])
  repeat' (first | with_reducible refine br_split (fun _ => ?_) (fun _ => ?_) | simp only [*, push_cast, Array.reduceGetElem?, Nat.reduceBEq, Nat.reduceLT, Nat.reduceAdd, Nat.reduceSub, Nat.reduceLeDiff, Nat.reduceMul, Nat.reduceEqDiff, reduceCtorEq, Int.reduceAdd, Int.reduceLT, Int.reduceLE, Int.reduceToNat, Int.reduceNeg, Int.reduceSub, Int.reduceBEq, Int.reduceBNe, Int.reduceNe, Int.reduceGT, Int.reduceGE, Nat.reduceGT] | (rw [drawC_ok]; rotate_left; decide +kernel; exact cfg_mixed))
  rw [evM_for0 l.length (fun i j => { t := [(0, .d (.sl .any (l.map rC))), (1, .clo 120 [.ptr 0 0]), (7, .d (.i .i64 l.length)), (8, .d (.i .i64 j))], o := [(0, .box [.d (.s s)])], ks := [0], n := 0, sz := 19, u := noU })
    (fun i => br ((l.drop i).any p) (some (.ret, { t := [(4, .d (.i .i64 (i + (l.drop i).findIdx p : Nat)))], o := [(0, .box [.d (.s s)])], ks := [0], n := 0, sz := 19, u := noU })) (some (.exit 0, { t := [], o := [(0, .box [.d (.s s)])], ks := [0], n := 0, sz := 19, u := noU })) ⟨⟩) ?step ?last]
  case step =>
    intro i hi ih
    obtain ⟨hl, hp⟩ := H.out
    have hc : (l.map rC)[i]? = some [.s l[i].name, .i .i64 l[i].bag.w, .sl .any (l[i].bag.rows.map cC)] := get_map rC l i hi
    have hd := dec_lt hi
    have hw : IntKind.i64.wrap ((i : Int) + 1) = (i : Int) + 1 := wrap_succ (by omega)
    have he := ev_findRel1 l[i].name l[i].bag.w l[i].bag.rows s
    have hx := List.drop_eq_getElem_cons hi
    have hq : decide (l[i].name = s) = p l[i] := by rw [← hp]
    rw [hq] at he
    clear hp hl H
    cases hpi : p l[i] with
    | true =>
      have h1 : (l.drop i).any p = true := by rw [hx, List.any_cons, hpi, Bool.true_or]
      have h2 : (l.drop i).findIdx p = 0 := by rw [hx, List.findIdx_cons, hpi]; rfl
      rw [h1, h2]
      clear hx h1 h2 hq
      repeat' (first | with_reducible refine br_split (fun _ => ?_) (fun _ => ?_) | simp only [*, push_cast, Array.reduceGetElem?, Nat.reduceBEq, Nat.reduceLT, Nat.reduceAdd, Nat.reduceSub, Nat.reduceLeDiff, Nat.reduceMul, Nat.reduceEqDiff, reduceCtorEq, Int.reduceAdd, Int.reduceLT, Int.reduceLE, Int.reduceToNat, Int.reduceNeg, Int.reduceSub, Int.reduceBEq, Int.reduceBNe, Int.reduceNe, Int.reduceGT, Int.reduceGE, Nat.reduceGT] | (rw [drawC_ok]; rotate_left; decide +kernel; exact cfg_mixed))
    | false =>
      have h1 : (l.drop i).any p = (l.drop (i + 1)).any p := by rw [hx, List.any_cons, hpi, Bool.false_or]
      have h2 : i + (l.drop i).findIdx p = i + 1 + (l.drop (i + 1)).findIdx p := by rw [hx, List.findIdx_cons, hpi, cond_false]; omega
      rw [h1, h2]
      clear hx h1 h2 hq
      repeat' (first | with_reducible refine br_split (fun _ => ?_) (fun _ => ?_) | simp only [*, push_cast, Array.reduceGetElem?, Nat.reduceBEq, Nat.reduceLT, Nat.reduceAdd, Nat.reduceSub, Nat.reduceLeDiff, Nat.reduceMul, Nat.reduceEqDiff, reduceCtorEq, Int.reduceAdd, Int.reduceLT, Int.reduceLE, Int.reduceToNat, Int.reduceNeg, Int.reduceSub, Int.reduceBEq, Int.reduceBNe, Int.reduceNe, Int.reduceGT, Int.reduceGE, Nat.reduceGT] | (rw [drawC_ok]; rotate_left; decide +kernel; exact cfg_mixed))
  case last =>
    clear H
    rw [List.drop_length, List.any_nil]
    repeat' (first | with_reducible refine br_split (fun _ => ?_) (fun _ => ?_) | simp only [*, push_cast, Array.reduceGetElem?, Nat.reduceBEq, Nat.reduceLT, Nat.reduceAdd, Nat.reduceSub, Nat.reduceLeDiff, Nat.reduceMul, Nat.reduceEqDiff, reduceCtorEq, Int.reduceAdd, Int.reduceLT, Int.reduceLE, Int.reduceToNat, Int.reduceNeg, Int.reduceSub, Int.reduceBEq, Int.reduceBNe, Int.reduceNe, Int.reduceGT, Int.reduceGE, Nat.reduceGT] | (rw [drawC_ok]; rotate_left; decide +kernel; exact cfg_mixed))
  · clear H
    unfold idxOf
    rw [List.drop_zero, Nat.zero_add]
    cases l.any p <;> repeat' (first | with_reducible refine br_split (fun _ => ?_) (fun _ => ?_) | simp only [*, push_cast, Array.reduceGetElem?, Nat.reduceBEq, Nat.reduceLT, Nat.reduceAdd, Nat.reduceSub, Nat.reduceLeDiff, Nat.reduceMul, Nat.reduceEqDiff, reduceCtorEq, Int.reduceAdd, Int.reduceLT, Int.reduceLE, Int.reduceToNat, Int.reduceNeg, Int.reduceSub, Int.reduceBEq, Int.reduceBNe, Int.reduceNe, Int.reduceGT, Int.reduceGE, Nat.reduceGT] | (rw [drawC_ok]; rotate_left; decide +kernel; exact cfg_mixed))
theorem ev_findRel (l : List R) (s : ByteArray) (hl : l.length ≤ 1048576) : evF cfg 106 [] [.d (.sl .any (l.map rC)), .d (.s s)] =
    some (match findR l s with | some r => .tup [.agg [.d (.s r.name), .d (.i .i64 r.bag.w), .d (.sl .any (r.bag.rows.map cC))], .d (.b true)] | none => .tup [.agg [.d (.s ⟨#[]⟩), .d (.i .i64 0), .d (.sl .any [])], .d (.b false)], []) := by
  have hi := ev_IndexFuncRel l s hl
  rw [findR_idx]
  unfold idxOf at hi
  cases ha : l.any (fun r => decide (r.name = s)) with
  | false =>
    rw [ha] at hi
    simp only [Bool.false_eq_true, if_false] at hi ⊢
    clear ha
    have hm : decide ((-1 : Int) < 0) = true := rfl
    (refine (evF_code (C := cfg) (g := 106) (fn := Try.f106) rfl Try.func106 rfl (by rw [Try.ntmps106]; simp) (by kernel_rfl) (by first | decide | simp [keysOf])).trans ?_; rw [Try.results106, Try.ntmps106])
    repeat' (first | with_reducible refine br_split (fun _ => ?_) (fun _ => ?_) | simp only [*, push_cast, Array.reduceGetElem?, Nat.reduceBEq, Nat.reduceLT, Nat.reduceAdd, Nat.reduceSub, Nat.reduceLeDiff, Nat.reduceMul, Nat.reduceEqDiff, reduceCtorEq, Int.reduceAdd, Int.reduceLT, Int.reduceLE, Int.reduceToNat, Int.reduceNeg, Int.reduceSub, Int.reduceBEq, Int.reduceBNe, Int.reduceNe, Int.reduceGT, Int.reduceGE, Nat.reduceGT] | (rw [drawC_ok]; rotate_left; decide +kernel; exact cfg_mixed))
  | true =>
    rw [ha] at hi
    simp only [if_true] at hi ⊢
    have hlt : (l.findIdx fun r => decide (r.name = s)) < l.length := List.findIdx_lt_length_of_exists (by simpa [List.any_eq_true] using ha)
    generalize (l.findIdx fun r => decide (r.name = s)) = k at *
    rw [List.getElem?_eq_getElem hlt]
    have hc : (l.map rC)[k]? = some [.s l[k].name, .i .i64 l[k].bag.w, .sl .any (l[k].bag.rows.map cC)] := get_map rC l k hlt
    have hd := dec_lt hlt
    have hdn := dec_ltN hlt
    have hn : decide ((k : Int) < 0) = false := decide_eq_false (by omega)
    clear ha
    (refine (evF_code (C := cfg) (g := 106) (fn := Try.f106) rfl Try.func106 rfl (by rw [Try.ntmps106]; simp) (by kernel_rfl) (by first | decide | simp [keysOf])).trans ?_; rw [Try.results106, Try.ntmps106])
    repeat' (first | with_reducible refine br_split (fun _ => ?_) (fun _ => ?_) | simp only [*, push_cast, Array.reduceGetElem?, Nat.reduceBEq, Nat.reduceLT, Nat.reduceAdd, Nat.reduceSub, Nat.reduceLeDiff, Nat.reduceMul, Nat.reduceEqDiff, reduceCtorEq, Int.reduceAdd, Int.reduceLT, Int.reduceLE, Int.reduceToNat, Int.reduceNeg, Int.reduceSub, Int.reduceBEq, Int.reduceBNe, Int.reduceNe, Int.reduceGT, Int.reduceGE, Nat.reduceGT] | (rw [drawC_ok]; rotate_left; decide +kernel; exact cfg_mixed))
theorem ev_part (l : List R) (s : ByteArray) (wd : Int) (hl : l.length ≤ 1048576) : evF cfg 84 [] [.d (.sl .any (l.map rC)), .d (.s s), .d (.i .i64 wd)] =
    some (match findR l s with | some r => relTV r | none => .agg [.d (.i .i64 wd), .d (.sl .any [])], []) := by
  have hf := ev_findRel l s hl
  cases h : findR l s with
  | none =>
    rw [h] at hf
    simp only at hf ⊢
    (refine (evF_code (C := cfg) (g := 84) (fn := Try.f84) rfl Try.func84 rfl (by rw [Try.ntmps84]; simp) (by kernel_rfl) (by first | decide | simp [keysOf])).trans ?_; rw [Try.results84, Try.ntmps84])
    repeat' (first | with_reducible refine br_split (fun _ => ?_) (fun _ => ?_) | simp only [*, push_cast, Array.reduceGetElem?, Nat.reduceBEq, Nat.reduceLT, Nat.reduceAdd, Nat.reduceSub, Nat.reduceLeDiff, Nat.reduceMul, Nat.reduceEqDiff, reduceCtorEq, Int.reduceAdd, Int.reduceLT, Int.reduceLE, Int.reduceToNat, Int.reduceNeg, Int.reduceSub, Int.reduceBEq, Int.reduceBNe, Int.reduceNe, Int.reduceGT, Int.reduceGE, Nat.reduceGT] | (rw [drawC_ok]; rotate_left; decide +kernel; exact cfg_mixed))
  | some r =>
    rw [h] at hf
    simp only [relTV] at hf ⊢
    (refine (evF_code (C := cfg) (g := 84) (fn := Try.f84) rfl Try.func84 rfl (by rw [Try.ntmps84]; simp) (by kernel_rfl) (by first | decide | simp [keysOf])).trans ?_; rw [Try.results84, Try.ntmps84])
    repeat' (first | with_reducible refine br_split (fun _ => ?_) (fun _ => ?_) | simp only [*, push_cast, Array.reduceGetElem?, Nat.reduceBEq, Nat.reduceLT, Nat.reduceAdd, Nat.reduceSub, Nat.reduceLeDiff, Nat.reduceMul, Nat.reduceEqDiff, reduceCtorEq, Int.reduceAdd, Int.reduceLT, Int.reduceLE, Int.reduceToNat, Int.reduceNeg, Int.reduceSub, Int.reduceBEq, Int.reduceBNe, Int.reduceNe, Int.reduceGT, Int.reduceGE, Nat.reduceGT] | (rw [drawC_ok]; rotate_left; decide +kernel; exact cfg_mixed))
theorem ev_Changed (l d : List R) (h : Pair l d) : evF cfg 44 [] [.d (.sl .any (l.map rC)), .d (.sl .any (d.map rC))] =
    some (.d (.sl (.tok [0]) (cnEs [0] 0 ((l.map (chgR d)).map rC))), []) := by
  have H := Hd.mk h
  clear h
  have hcan := canOk_top (rZ fun i => [i, 0, 1]) (l.map (chgR d)) (rZ_nm fun i => ⟨[0, 1], rfl⟩)
  rw [List.length_map] at hcan
  (refine (evF_codeZ (C := cfg) (g := 44) (fn := Try.f44) rfl Try.func44 rfl (by rw [Try.ntmps44]; simp) (by kernel_rfl)).trans ?_; rw [Try.results44, Try.ntmps44])
  repeat' (first | with_reducible refine br_split (fun _ => ?_) (fun _ => ?_) | simp only [*, push_cast, Array.reduceGetElem?, Nat.reduceBEq, Nat.reduceLT, Nat.reduceAdd, Nat.reduceSub, Nat.reduceLeDiff, Nat.reduceMul, Nat.reduceEqDiff, reduceCtorEq, Int.reduceAdd, Int.reduceLT, Int.reduceLE, Int.reduceToNat, Int.reduceNeg, Int.reduceSub, Int.reduceBEq, Int.reduceBNe, Int.reduceNe, Int.reduceGT, Int.reduceGE, Nat.reduceGT] | (rw [drawC_ok]; rotate_left; decide +kernel; exact cfg_mixed))
  rw [show ([] : List (List T)) = ((l.map (chgR d)).take 0).mapIdx (rZ fun i => [i, 0, 1]) from rfl]
  rw [evM_for0 l.length (fun i j => { t := [(1, .d (.sl .any (d.map rC))), (5, .own 50), (8, .d (.sl .any (l.map rC))), (9, .d (.i .i64 l.length)), (10, .d (.i .i64 j))], o := [(50, .arr .any 3 (((l.map (chgR d)).take i).mapIdx (rZ fun i => [i, 0, 1])))], ks := [50], n := 0, sz := 32, u := noU, g := some (i, false) }) (fun i => some (.exit 0, { t := [(5, .own 50)], o := [(50, .arr .any 3 ((l.map (chgR d)).mapIdx (rZ fun i => [i, 0, 1])))], ks := [50], n := 0, sz := 32, u := noU, g := some (l.length, false) })) ?step ?last]
  case step =>
    intro i hi ih
    have h := H.out
    have hl := h.fst.1
    have hc : (l.map rC)[i]? = some [.s l[i].name, .i .i64 l[i].bag.w, .sl .any (l[i].bag.rows.map cC)] := get_map rC l i hi
    have hd := dec_lt hi
    have hdn := dec_ltN hi
    have hw : IntKind.i64.wrap ((i : Int) + 1) = (i : Int) + 1 := wrap_succ (by omega)
    have h2 := len_ok (n := (((l.map (chgR d)).take i).mapIdx (rZ fun i => [i, 0, 1])).length + 1) 48 (by simp; omega) (by omega)
    have hp := ev_part d l[i].name l[i].bag.w h.snd.1
    cases hf : findR d l[i].name with
    | none =>
      have ha := ev_AddBag l[i].bag.w l[i].bag.w l[i].bag.rows [] (by have := (h.fst.2 _ (List.getElem_mem hi)).1; simpa using this) (h.fst.2 _ (List.getElem_mem hi)).2 (fun c hc => by cases hc)
      have h3 : ((l.map (chgR d)).take i).mapIdx (rZ fun i => [i, 0, 1]) ++ [[.s l[i].name, .i .i64 l[i].bag.w, .sl (.tok [i, 0, 1]) (cnEs [i, 0, 1] 0 (l[i].bag.rows.map cC))]] = ((l.map (chgR d)).take (i + 1)).mapIdx (rZ fun i => [i, 0, 1]) := by
        have := take_snocI (rZ fun i => [i, 0, 1]) (l := l.map (chgR d)) (i := i) (by simpa using hi)
        rw [← this]
        simp [rZ, chgR, hf]
      rw [addBag_nil ⟨l[i].bag.w, l[i].bag.rows⟩] at ha
      rw [hf] at hp
      simp only [List.map_nil] at hp ha
      clear hl h H hcan hf
      repeat' (first | with_reducible refine br_split (fun _ => ?_) (fun _ => ?_) | simp only [*, push_cast, Array.reduceGetElem?, Nat.reduceBEq, Nat.reduceLT, Nat.reduceAdd, Nat.reduceSub, Nat.reduceLeDiff, Nat.reduceMul, Nat.reduceEqDiff, reduceCtorEq, Int.reduceAdd, Int.reduceLT, Int.reduceLE, Int.reduceToNat, Int.reduceNeg, Int.reduceSub, Int.reduceBEq, Int.reduceBNe, Int.reduceNe, Int.reduceGT, Int.reduceGE, Nat.reduceGT] | (rw [drawC_ok]; rotate_left; decide +kernel; exact cfg_mixed))
    | some x =>
      have ha := ev_AddBag l[i].bag.w x.bag.w l[i].bag.rows x.bag.rows (h.both _ (List.getElem_mem hi) _ (findR_mem hf)) (h.fst.2 _ (List.getElem_mem hi)).2 (h.snd.2 _ (findR_mem hf)).2
      have h3 : ((l.map (chgR d)).take i).mapIdx (rZ fun i => [i, 0, 1]) ++ [[.s l[i].name, .i .i64 l[i].bag.w, .sl (.tok [i, 0, 1]) (cnEs [i, 0, 1] 0 ((addBag ⟨l[i].bag.w, l[i].bag.rows⟩ ⟨x.bag.w, x.bag.rows⟩).rows.map cC))]] = ((l.map (chgR d)).take (i + 1)).mapIdx (rZ fun i => [i, 0, 1]) := by
        have := take_snocI (rZ fun i => [i, 0, 1]) (l := l.map (chgR d)) (i := i) (by simpa using hi)
        rw [← this]
        simp [rZ, chgR, hf]
      rw [hf] at hp
      simp only [relTV] at hp
      clear hl h H hcan hf
      repeat' (first | with_reducible refine br_split (fun _ => ?_) (fun _ => ?_) | simp only [*, push_cast, Array.reduceGetElem?, Nat.reduceBEq, Nat.reduceLT, Nat.reduceAdd, Nat.reduceSub, Nat.reduceLeDiff, Nat.reduceMul, Nat.reduceEqDiff, reduceCtorEq, Int.reduceAdd, Int.reduceLT, Int.reduceLE, Int.reduceToNat, Int.reduceNeg, Int.reduceSub, Int.reduceBEq, Int.reduceBNe, Int.reduceNe, Int.reduceGT, Int.reduceGE, Nat.reduceGT] | (rw [drawC_ok]; rotate_left; decide +kernel; exact cfg_mixed))
  case last =>
    have hl := H.out.fst.1
    have hf : (l.map (chgR d)).take l.length = l.map (chgR d) := by rw [List.take_of_length_le]; simp
    clear H
    repeat' (first | with_reducible refine br_split (fun _ => ?_) (fun _ => ?_) | simp only [*, push_cast, Array.reduceGetElem?, Nat.reduceBEq, Nat.reduceLT, Nat.reduceAdd, Nat.reduceSub, Nat.reduceLeDiff, Nat.reduceMul, Nat.reduceEqDiff, reduceCtorEq, Int.reduceAdd, Int.reduceLT, Int.reduceLE, Int.reduceToNat, Int.reduceNeg, Int.reduceSub, Int.reduceBEq, Int.reduceBNe, Int.reduceNe, Int.reduceGT, Int.reduceGE, Nat.reduceGT] | (rw [drawC_ok]; rotate_left; decide +kernel; exact cfg_mixed))
  clear H
  repeat' (first | with_reducible refine br_split (fun _ => ?_) (fun _ => ?_) | simp only [*, push_cast, Array.reduceGetElem?, Nat.reduceBEq, Nat.reduceLT, Nat.reduceAdd, Nat.reduceSub, Nat.reduceLeDiff, Nat.reduceMul, Nat.reduceEqDiff, reduceCtorEq, Int.reduceAdd, Int.reduceLT, Int.reduceLE, Int.reduceToNat, Int.reduceNeg, Int.reduceSub, Int.reduceBEq, Int.reduceBNe, Int.reduceNe, Int.reduceGT, Int.reduceGE, Nat.reduceGT] | (rw [drawC_ok]; rotate_left; decide +kernel; exact cfg_mixed))
end Go.Av
end

section
namespace Go.Av
open Go.Proofs Go.RowKit
set_option linter.unusedSimpArgs false
set_option linter.unusedVariables false
attribute [local instance] noKn

theorem cellsR_bound {l : List R} (h : SmR l) : cellsR l ≤ 1048576 * (1048576 * (3 * 1048576 + 1) + 2) := by
  have h1 : ∀ r ∈ l, cellsC r.bag.rows ≤ 1048576 * (3 * 1048576 + 1) := fun r hr => by
    have := cellsC_le (h.2 r hr).2
    exact Nat.le_trans this (Nat.mul_le_mul_right _ (h.2 r hr).1)
  have := cellsR_le h1
  have h3 : l.length * (1048576 * (3 * 1048576 + 1) + 2) ≤ 1048576 * (1048576 * (3 * 1048576 + 1) + 2) := Nat.mul_le_mul_right _ h.1
  exact Nat.le_trans this h3
theorem mcall_RelSk {p : Tok} (hp : p ≠ []) {l : List R} (h : SmR l) (k : Int) :
    MCall Try.prog 20 p (.sl (.tok p) (cnEs p 0 (l.map rC))) (.sl (.tok p) (cnEs p 0 ((markRs mtOf l k).map rC))) [.d (.sl (.tok p) (cnEs p 0 (l.map rC))), .d (.i .i64 k)] (rAt l k l.length) := by
  intro w S β vs hn hlt hnm hl hrv
  have h0 := hrv 0 (by simp) (by rw [← hl]; simp)
  have h1 := hrv 1 (by simp) (by rw [← hl]; simp)
  obtain ⟨v0, v1, rfl⟩ := two_of (vs := vs) (by rw [← hl]; rfl)
  simp only [List.getElem_cons_zero, List.getElem_cons_succ, List.getElem_toArray] at h0 h1
  cases h1 with | d h1 => cases h1 with | i =>
  cases h0 with | d h0 =>
  refine (mok_RelS txtOk w S p (l.map rC) v0 k hp hn hlt hnm ⟨l, rfl, by have := h.1; omega, fun r hr => ⟨by have := (h.2 r hr).1; omega, fun c hc => by have := (h.2 r hr).2 c hc; omega⟩⟩ h0).mono ?_
  rintro e w' ⟨rfl, h2, h3⟩
  have h4 := root_all hn hp (mkEs_len _ _ _) h0 h2
  simp only [mkEs_rC] at h4
  exact ⟨by rw [mkEs_rC], h3, h4⟩
theorem law_Changed {w : World} {l d : List R} {vs : Array Value} (hlimA : (T.sl .any (l.map rC)).lim) (hlimB : (T.sl .any (d.map rC)).lim)
    (hl : 2 = vs.size) (hrv : ∀ i (hi : i < 2) (hj : i < vs.size), RV Try.prog w (inHeap w) noPl ([TV.d (.sl .any (l.map rC)), TV.d (.sl .any (d.map rC))][i]) vs[i]) :
    Calls Try.prog 7 vs w fun e w' => e = .returned (.bool true) ∧ Go.RowKit.Below w.heap.size w w' := by
  refine law_true (fn := Try.f7) (args := [TV.d (.sl .any (l.map rC)), TV.d (.sl .any (d.map rC))]) (t := 4) Try.func7 rfl (by rw [Try.ntmps7]; simp) Try.results7 (fun b o v h => h.elim) hl hrv (by simp [okL, TV.ok]) ?_
  rw [Try.ntmps7]
  intro Q hQ
  have hsz := ev_szRelS l 1048576 (by omega) (by omega) hlimA
  simp only [initL, argT]
  have HQ := Hd.mk hQ
  clear hQ
  by_cases hb : (1048576 : Int) - (szRs l : Nat) < 0
  · have h1 : left1 1048576 (szRs l) = -1 := left1_neg hb
    have hd : decide ((-1 : Int) < 0) = true := rfl
    clear hb hrv hl hlimA hlimB
    apply Wp.last (C := cfg) (g := 7) cfg_hE cfg_hO
    · repeat' (first | with_reducible refine br_split (fun _ => ?_) (fun _ => ?_) | simp only [*, push_cast, Array.reduceGetElem?, Nat.reduceBEq, Nat.reduceLT, Nat.reduceAdd, Nat.reduceSub, Nat.reduceLeDiff, Nat.reduceMul, Nat.reduceEqDiff, reduceCtorEq, Int.reduceAdd, Int.reduceLT, Int.reduceLE, Int.reduceToNat, Int.reduceNeg, Int.reduceSub, Int.reduceBEq, Int.reduceBNe, Int.reduceNe, Int.reduceGT, Int.reduceGE, Nat.reduceGT] | (rw [drawC_ok]; rotate_left; decide +kernel; exact cfg_mixed))
      rfl
    · exact HQ.out _ rfl
  · have h1 : left1 1048576 (szRs l) = 1048576 - (szRs l : Nat) := left1_pos hb
    have hd : decide ((1048576 : Int) - (szRs l : Nat) < 0) = false := decide_eq_false hb
    have hsz2 := ev_szRelS d (1048576 - (szRs l : Nat)) (by omega) (by omega) hlimB
    by_cases hb2 : ((1048576 : Int) - (szRs l : Nat)) - (szRs d : Nat) < 0
    · have h2 : left1 (1048576 - (szRs l : Nat)) (szRs d) = -1 := left1_neg hb2
      have hd2 : decide ((-1 : Int) < 0) = true := rfl
      clear hb hb2 hrv hl hlimA hlimB
      apply Wp.last (C := cfg) (g := 7) cfg_hE cfg_hO
      · repeat' (first | with_reducible refine br_split (fun _ => ?_) (fun _ => ?_) | simp only [*, push_cast, Array.reduceGetElem?, Nat.reduceBEq, Nat.reduceLT, Nat.reduceAdd, Nat.reduceSub, Nat.reduceLeDiff, Nat.reduceMul, Nat.reduceEqDiff, reduceCtorEq, Int.reduceAdd, Int.reduceLT, Int.reduceLE, Int.reduceToNat, Int.reduceNeg, Int.reduceSub, Int.reduceBEq, Int.reduceBNe, Int.reduceNe, Int.reduceGT, Int.reduceGE, Nat.reduceGT] | (rw [drawC_ok]; rotate_left; decide +kernel; exact cfg_mixed))
        rfl
      · exact HQ.out _ rfl
    · have h2 : left1 (1048576 - (szRs l : Nat)) (szRs d) = 1048576 - (szRs l : Nat) - (szRs d : Nat) := left1_pos hb2
      have hd2 : decide ((1048576 : Int) - (szRs l : Nat) - (szRs d : Nat) < 0) = false := decide_eq_false hb2
      have hP : Pair l d := .of (by omega)
      have c1 := hP.fst
      have b1 := hP.snd
      have m1 := hP.chg
      have htoA := ev_toRelS l (by omega)
      have htoB := ev_toRelS d (by omega)
      have hsp := ev_sChanged l d hP
      have him := ev_Changed l d hP
      have m3 := hP.lim hlimA hlimB
      generalize hM : l.map (chgR d) = M at *
      have hq1 := ev_eqRelS M M m3
      have hq2 := ev_eqRelS l l hlimA
      have hq3 := ev_eqRelS d d hlimB
      have hd3 : decide (M = M) = true := decide_eq_true rfl
      have hd4 : decide (l = l) = true := decide_eq_true rfl
      have hd5 : decide (d = d) = true := decide_eq_true rfl
      have cA := cellsR_bound c1
      have cB := cellsR_bound b1
      have hmk1 := mcall_RelSk (p := [2, 0]) (by simp) c1 1
      have hK1v : rAt l 1 l.length = 1 + cellsR l := rAt_in l 1 (by omega) (by omega)
      have hmk2 := mcall_RelSk (p := [3, 0]) (by simp) b1 (rAt l 1 l.length)
      have hmk3 := mcall_RelSk (p := [4, 0]) (by simp) m1 1
      have hhe := ev_heldRelSP m1
      have k3 := rAt_pos m1
      have hK2v : rAt d (rAt l 1 l.length) d.length = rAt l 1 l.length + cellsR d := rAt_in d _ (by omega) (by omega)
      generalize hK1 : rAt l 1 l.length = K1 at *
      generalize hK2 : rAt d K1 d.length = K2 at *
      generalize hK3 : rAt M 1 M.length = K3 at *
      have hkk2 : decide (K2 < 0) = false := decide_eq_false (by omega)
      have hkk3 : decide (K3 < 0) = false := decide_eq_false (by omega)
      have hkn : (K3 != K3) = false := bne_self_eq_false _
      have er1 := er_ageR l
      have er2 := er_ageR d
      have er3 := er_ageR M
      clear hb hb2 hrv hl hlimA hlimB hP c1 b1 m1 m3 hK1v hK2v cA cB hK1 hK2 hK3 k3 hM
      iterate 7
        apply Wp.seq (C := cfg) (g := 7) cfg_hE cfg_hO
        · repeat' (first | with_reducible refine br_split (fun _ => ?_) (fun _ => ?_) | simp only [*, push_cast, Array.reduceGetElem?, Nat.reduceBEq, Nat.reduceLT, Nat.reduceAdd, Nat.reduceSub, Nat.reduceLeDiff, Nat.reduceMul, Nat.reduceEqDiff, reduceCtorEq, Int.reduceAdd, Int.reduceLT, Int.reduceLE, Int.reduceToNat, Int.reduceNeg, Int.reduceSub, Int.reduceBEq, Int.reduceBNe, Int.reduceNe, Int.reduceGT, Int.reduceGE, Nat.reduceGT] | (rw [drawC_ok]; rotate_left; decide +kernel; exact cfg_mixed))
          rfl
      apply Wp.age (n := 2) rfl rfl
      simp only [ageSt, ageT, ageO, ageTV, ageL, T.ann]
      iterate 7
        apply Wp.seq (C := cfg) (g := 7) cfg_hE cfg_hO
        · repeat' (first | with_reducible refine br_split (fun _ => ?_) (fun _ => ?_) | simp only [*, push_cast, Array.reduceGetElem?, Nat.reduceBEq, Nat.reduceLT, Nat.reduceAdd, Nat.reduceSub, Nat.reduceLeDiff, Nat.reduceMul, Nat.reduceEqDiff, reduceCtorEq, Int.reduceAdd, Int.reduceLT, Int.reduceLE, Int.reduceToNat, Int.reduceNeg, Int.reduceSub, Int.reduceBEq, Int.reduceBNe, Int.reduceNe, Int.reduceGT, Int.reduceGE, Nat.reduceGT] | (rw [drawC_ok]; rotate_left; decide +kernel; exact cfg_mixed))
          rfl
      apply Wp.mark4 (C := cfg) (n := (10, true)) (p := [2, 0]) (f := 20) (k := K1) (t0 := .sl (.tok [2, 0]) (cnEs [2, 0] 0 (l.map rC))) (t1 := .sl (.tok [2, 0]) (cnEs [2, 0] 0 ((markRs mtOf l 1).map rC)))
        (args := [.d (.sl (.tok [2, 0]) (cnEs [2, 0] 0 (l.map rC))), .d (.i .i64 1)])
        (tm := [(9, .d (.sl (.tok [4, 0]) (cnEs [4, 0] 0 (M.map rC)))), (8, .d (.sl (.tok [3, 0]) (cnEs [3, 0] 0 (d.map rC)))), (6, .d (.sl (.tok []) (annEs (.tok []) (M.map rC)))), (4, .d (.b false)), (1, .d (.sl (.tok []) (annEs (.tok []) (d.map rC)))), (0, .d (.sl (.tok []) (annEs (.tok []) (l.map rC))))])
        (ob := []) cfg_hE cfg_hO (fun _ _ _ h => h)
      case e1 => repeat' (first | with_reducible refine br_split (fun _ => ?_) (fun _ => ?_) | simp only [*, push_cast, Array.reduceGetElem?, Nat.reduceBEq, Nat.reduceLT, Nat.reduceAdd, Nat.reduceSub, Nat.reduceLeDiff, Nat.reduceMul, Nat.reduceEqDiff, reduceCtorEq, Int.reduceAdd, Int.reduceLT, Int.reduceLE, Int.reduceToNat, Int.reduceNeg, Int.reduceSub, Int.reduceBEq, Int.reduceBNe, Int.reduceNe, Int.reduceGT, Int.reduceGE, Nat.reduceGT] | (rw [drawC_ok]; rotate_left; decide +kernel; exact cfg_mixed)); rfl
      case hg => rfl
      case hp => simp
      case hgd => rfl
      case ho => rfl
      case hf => rfl
      case hpl => exact plain_markRelS
      case hargs => rfl
      case hc => exact hmk1
      case h1 => exact .cons rfl (.keep (SafeT.sl (by decide) _)) (.cons rfl (.keep (SafeT.sl (by decide) _)) (.cons rfl (.keep (SafeT.age _)) (.cons rfl (.leaf rfl) (.cons rfl (.keep (SafeT.age _)) (.cons rfl (.keep (SafeT.age _)) .nil)))))
      case h2 => exact .nil
      case hput => rfl
      case e2 => repeat' (first | with_reducible refine br_split (fun _ => ?_) (fun _ => ?_) | simp only [*, push_cast, Array.reduceGetElem?, Nat.reduceBEq, Nat.reduceLT, Nat.reduceAdd, Nat.reduceSub, Nat.reduceLeDiff, Nat.reduceMul, Nat.reduceEqDiff, reduceCtorEq, Int.reduceAdd, Int.reduceLT, Int.reduceLE, Int.reduceToNat, Int.reduceNeg, Int.reduceSub, Int.reduceBEq, Int.reduceBNe, Int.reduceNe, Int.reduceGT, Int.reduceGE, Nat.reduceGT] | (rw [drawC_ok]; rotate_left; decide +kernel; exact cfg_mixed)); rfl
      apply Wp.mark4 (C := cfg) (n := (10, true)) (p := [3, 0]) (f := 20) (k := K2) (t0 := .sl (.tok [3, 0]) (cnEs [3, 0] 0 (d.map rC))) (t1 := .sl (.tok [3, 0]) (cnEs [3, 0] 0 ((markRs mtOf d K1).map rC)))
        (args := [.d (.sl (.tok [3, 0]) (cnEs [3, 0] 0 (d.map rC))), .d (.i .i64 K1)])
        (tm := [(10, .unk), (9, .d (.sl (.tok [4, 0]) (cnEs [4, 0] 0 (M.map rC)))), (6, .d (.sl (.tok []) (annEs (.tok []) (M.map rC)))), (4, .d (.b false)), (1, .d (.sl (.tok []) (annEs (.tok []) (d.map rC)))), (0, .d (.sl (.tok []) (annEs (.tok []) (l.map rC))))])
        (ob := []) cfg_hE cfg_hO (fun _ _ _ h => h)
      case e1 => repeat' (first | with_reducible refine br_split (fun _ => ?_) (fun _ => ?_) | simp only [*, push_cast, Array.reduceGetElem?, Nat.reduceBEq, Nat.reduceLT, Nat.reduceAdd, Nat.reduceSub, Nat.reduceLeDiff, Nat.reduceMul, Nat.reduceEqDiff, reduceCtorEq, Int.reduceAdd, Int.reduceLT, Int.reduceLE, Int.reduceToNat, Int.reduceNeg, Int.reduceSub, Int.reduceBEq, Int.reduceBNe, Int.reduceNe, Int.reduceGT, Int.reduceGE, Nat.reduceGT] | (rw [drawC_ok]; rotate_left; decide +kernel; exact cfg_mixed)); rfl
      case hg => rfl
      case hp => simp
      case hgd => rfl
      case ho => rfl
      case hf => rfl
      case hpl => exact plain_markRelS
      case hargs => rfl
      case hc => exact hmk2
      case h1 => exact .cons rfl trivial (.cons rfl (.keep (SafeT.sl (by decide) _)) (.cons rfl (.keep (SafeT.age _)) (.cons rfl (.leaf rfl) (.cons rfl (.keep (SafeT.age _)) (.cons rfl (.keep (SafeT.age _)) .nil)))))
      case h2 => exact .nil
      case hput => rfl
      case e2 => repeat' (first | with_reducible refine br_split (fun _ => ?_) (fun _ => ?_) | simp only [*, push_cast, Array.reduceGetElem?, Nat.reduceBEq, Nat.reduceLT, Nat.reduceAdd, Nat.reduceSub, Nat.reduceLeDiff, Nat.reduceMul, Nat.reduceEqDiff, reduceCtorEq, Int.reduceAdd, Int.reduceLT, Int.reduceLE, Int.reduceToNat, Int.reduceNeg, Int.reduceSub, Int.reduceBEq, Int.reduceBNe, Int.reduceNe, Int.reduceGT, Int.reduceGE, Nat.reduceGT] | (rw [drawC_ok]; rotate_left; decide +kernel; exact cfg_mixed)); rfl
      iterate 2
        apply Wp.seq (C := cfg) (g := 7) cfg_hE cfg_hO
        · repeat' (first | with_reducible refine br_split (fun _ => ?_) (fun _ => ?_) | simp only [*, push_cast, Array.reduceGetElem?, Nat.reduceBEq, Nat.reduceLT, Nat.reduceAdd, Nat.reduceSub, Nat.reduceLeDiff, Nat.reduceMul, Nat.reduceEqDiff, reduceCtorEq, Int.reduceAdd, Int.reduceLT, Int.reduceLE, Int.reduceToNat, Int.reduceNeg, Int.reduceSub, Int.reduceBEq, Int.reduceBNe, Int.reduceNe, Int.reduceGT, Int.reduceGE, Nat.reduceGT] | (rw [drawC_ok]; rotate_left; decide +kernel; exact cfg_mixed))
          rfl
      apply Wp.mark4 (C := cfg) (n := (11, true)) (p := [4, 0]) (f := 20) (k := K3) (t0 := .sl (.tok [4, 0]) (cnEs [4, 0] 0 (M.map rC))) (t1 := .sl (.tok [4, 0]) (cnEs [4, 0] 0 ((markRs mtOf M 1).map rC)))
        (args := [.d (.sl (.tok [4, 0]) (cnEs [4, 0] 0 (M.map rC))), .d (.i .i64 1)])
        (tm := [(9, .d (.sl (.tok [4, 0]) (cnEs [4, 0] 0 ((markRs mtOf M 1).map rC)))), (6, .d (.sl (.tok []) (annEs (.tok []) (M.map rC)))), (4, .d (.b false)), (1, .d (.sl (.tok []) (annEs (.tok []) (d.map rC)))), (0, .d (.sl (.tok []) (annEs (.tok []) (l.map rC))))])
        (ob := []) cfg_hE cfg_hO (fun _ _ _ h => h)
      case e1 => repeat' (first | with_reducible refine br_split (fun _ => ?_) (fun _ => ?_) | simp only [*, push_cast, Array.reduceGetElem?, Nat.reduceBEq, Nat.reduceLT, Nat.reduceAdd, Nat.reduceSub, Nat.reduceLeDiff, Nat.reduceMul, Nat.reduceEqDiff, reduceCtorEq, Int.reduceAdd, Int.reduceLT, Int.reduceLE, Int.reduceToNat, Int.reduceNeg, Int.reduceSub, Int.reduceBEq, Int.reduceBNe, Int.reduceNe, Int.reduceGT, Int.reduceGE, Nat.reduceGT] | (rw [drawC_ok]; rotate_left; decide +kernel; exact cfg_mixed)); rfl
      case hg => rfl
      case hp => simp
      case hgd => rfl
      case ho => rfl
      case hf => rfl
      case hpl => exact plain_markRelS
      case hargs => rfl
      case hc => exact hmk3
      case h1 => exact .cons rfl .root (.cons rfl (.keep (SafeT.age _)) (.cons rfl (.leaf rfl) (.cons rfl (.keep (SafeT.age _)) (.cons rfl (.keep (SafeT.age _)) .nil))))
      case h2 => exact .nil
      case hput => rfl
      case e2 => repeat' (first | with_reducible refine br_split (fun _ => ?_) (fun _ => ?_) | simp only [*, push_cast, Array.reduceGetElem?, Nat.reduceBEq, Nat.reduceLT, Nat.reduceAdd, Nat.reduceSub, Nat.reduceLeDiff, Nat.reduceMul, Nat.reduceEqDiff, reduceCtorEq, Int.reduceAdd, Int.reduceLT, Int.reduceLE, Int.reduceToNat, Int.reduceNeg, Int.reduceSub, Int.reduceBEq, Int.reduceBNe, Int.reduceNe, Int.reduceGT, Int.reduceGE, Nat.reduceGT] | (rw [drawC_ok]; rotate_left; decide +kernel; exact cfg_mixed)); rfl
      apply Wp.last (C := cfg) (g := 7) cfg_hE cfg_hO
      · repeat' (first | with_reducible refine br_split (fun _ => ?_) (fun _ => ?_) | simp only [*, push_cast, Array.reduceGetElem?, Nat.reduceBEq, Nat.reduceLT, Nat.reduceAdd, Nat.reduceSub, Nat.reduceLeDiff, Nat.reduceMul, Nat.reduceEqDiff, reduceCtorEq, Int.reduceAdd, Int.reduceLT, Int.reduceLE, Int.reduceToNat, Int.reduceNeg, Int.reduceSub, Int.reduceBEq, Int.reduceBNe, Int.reduceNe, Int.reduceGT, Int.reduceGE, Nat.reduceGT] | (rw [drawC_ok]; rotate_left; decide +kernel; exact cfg_mixed))
        rfl
      · exact HQ.out _ rfl
end Go.Av
end

section
namespace Go.Av
open Go.Proofs
theorem law_FnExactChanged {w : World} {v v' : Value} {tr tr' : T} (hi : Is tr (.sl [.s, .i .i64, .sl [.sl [.i .i64, .i .i64, .s], .i .i64]])) (hr : Rep w (inHeap w) tr v) (hi' : Is tr' (.sl [.s, .i .i64, .sl [.sl [.i .i64, .i .i64, .s], .i .i64]])) (hr' : Rep w (inHeap w) tr' v') :
    Calls Try.prog 7 #[v, v'] w fun e w' => e = .returned (.bool true) ∧ Go.RowKit.Below w.heap.size w w' := by
  letI := noKn
  obtain ⟨l, rfl⟩ := is_rels hi
  obtain ⟨d, rfl⟩ := is_rels hi'
  refine law_Changed (l := l) (d := d) hi.lim hi'.lim rfl ?_
  intro i h1 h2
  match i, h1 with
  | 0, _ => exact .d hr
  | 1, _ => exact .d hr'
end Go.Av
namespace Go.Proofs.Ytflkffnelppigaa.fnExactChanged
open Go.ChangeShapes Go.WideShapes Go.ChangeAt Go.RowKit
open Go.ChangeMaps (open_string shut_string)
set_option linter.unusedVariables false
theorem own : ownKnob Try.prog.godebug = none := by kernel_rfl
set_option maxRecDepth 100000 in
theorem lifted (os : Os) (started : os.Started) (H : Type) (enc : TypeId × Value → H) :
    ReturnsInHanded {} Try.checked os 7 .any (Rows.fnExactChangedSpec.pre6 enc Try.prog Try.f7 Rows.fnExactChangedRow.domain false) (Rows.fnExactChangedSpec.post enc Try.prog Try.f7 false true false false) := by
  refine returnsInHanded_of_change_sized (C := Try.checked) own started (by kernel_rfl) Try.func7
    (ChangeSpec.witness6 (enc := enc) (C := Try.checked) false ⟨#[], #[.slice none 0 0, .slice none 0 0], []⟩ 8 (by kernel_rfl) (by kernel_rfl) (by kernel_rfl) (by kernel_rfl)) ?_
  intro W base args ds gs before hval0 hW hcnd hsz0 _
  have hsz : (DataW.weightsEach Try.prog (Try.f7.params.toList ++ Rows.fnExactChangedSpec.plain.varTypes Try.prog) (ds ++ gs)).all (· ≤ reachBytes) = true := hsz0
  have hval : ∀ (j : Nat) t v, Try.f7.params[j]? = some t → args[j]? = some v → Value.okWide Try.prog W .any base t v := hval0
  have hW' := hW
  obtain ⟨p, q, hA0, hV, rfl, hfz, hnd⟩ := hW
  have hA : DataW.TrodAll enc Try.prog W 0 (fun _ => true) true Try.f7.params.toList args.toList ds p := hA0
  rw [Try.params7] at hA hval hsz
  have hA1 := hA
  obtain ⟨u0, us0, e0, es0, z0, y0, hargs0, rfl, rfl, g0, r1⟩ := trodAll_cons hA
  obtain ⟨v0, vs0, d0, ds0, p0, q0, rfl, rfl, rfl, h0, r0⟩ := trodAll_cons r1
  obtain ⟨rfl, rfl, rfl⟩ := trodAll_nil r0
  obtain rfl : args = #[u0, v0] := by cases args; simp_all
  obtain ⟨rfl, rfl⟩ := trodVars_none hV
  obtain ⟨tr, hi, hr⟩ := Go.Av.arg_slice (n := 9) (sh := .sl [.s, .i .i64, .sl [.sl [.i .i64, .i .i64, .s], .i .i64]]) Try.underlying34 (by kernel_rfl) (hval 0 34 u0 rfl rfl) g0 (by
    intro y hy
    have := List.all_eq_true.1 hsz y (by
      refine Go.Av.weightsEach_mem (i := 0) (t := 34) (d := e0) rfl rfl hy)
    exact of_decide_eq_true this)
  obtain ⟨tr', hi', hr'⟩ := Go.Av.arg_slice (n := 9) (sh := .sl [.s, .i .i64, .sl [.sl [.i .i64, .i .i64, .s], .i .i64]]) Try.underlying34 (by kernel_rfl) (hval 1 34 v0 rfl rfl) h0 (by
    intro y hy
    have := List.all_eq_true.1 hsz y (by
      refine Go.Av.weightsEach_mem (i := 1) (t := 34) (d := d0) rfl rfl hy)
    exact of_decide_eq_true this)
  clear hA0 hval0 hsz0 hsz
  refine (Go.Av.law_FnExactChanged hi hr hi' hr').mono fun e W' ⟨he, bel⟩ => ?_
  subst he
  exact ⟨_, rfl, _, _, _, [], _, [], hW', trodAll_mk1 (shut_bool Try.underlying4 _), Go.Av.trodAll_stays (by kernel_rfl) bel (by
    intro t ht
    obtain rfl : t = 34 := by simpa using ht
    exact ⟨by kernel_rfl, by decide⟩) hA1, rfl, bel.frame _, fun h => by cases h⟩
theorem over : Rows.fnExactChangedRow.holds Try.pinned (OpenSpec.ofChange Rows.fnExactChangedSpec) :=
  OpenClaim.holds_of_wide 7 Try.f7 rfl rfl rfl rfl rfl rfl rfl ⟨rfl, rfl, rfl, rfl, rfl⟩ rfl rfl rfl rfl rfl (by kernel_rfl) Try.func7 (by kernel_rfl)
    (of_decide_eq_true (by kernel_rfl)) (by unfold Func.isWrapper; first | (rw [if_pos (by decide +kernel)]; kernel_rfl) | (rw [if_neg (by decide +kernel)]; exact ⟨rfl, rfl⟩))
    (fun os started H enc _ => lifted os started H enc)
end Go.Proofs.Ytflkffnelppigaa.fnExactChanged
namespace Go.Proofs.Ytflkffnelppigaa
/-- The row, under a short name, for the claim. -/
theorem fnExactChanged_holds : Rows.FnExactChangedSaid := fnExactChanged.over
#print axioms fnExactChanged_holds
end Go.Proofs.Ytflkffnelppigaa
end
