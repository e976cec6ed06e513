/- What functions of this seat give. -/
import Derived.Test.YtefokklbhephpaaGc
set_option linter.all false
set_option linter.unusedVariables false
set_option linter.unusedSimpArgs false

section
namespace Go.Av
open Go.Proofs
set_option linter.unusedSimpArgs false

/-- Names that rise, the one ahead of them known. -/
def risFrom : Option ByteArray → List ByteArray → Bool
  | _, [] => true
  | none, a :: l => nameOk a && risFrom (some a) l
  | some p, a :: l => (nameOk a && Op.bytesLess p.toList a.toList) && risFrom (some a) l
def rising (l : List ByteArray) : Bool := risFrom none l
def prevOf (l : List ByteArray) (i : Nat) : Option ByteArray := if i = 0 then none else l[i - 1]?

theorem ev_isRising (l : List ByteArray) (hl : l.length ≤ 1099511627776) : evF cfg 69 [] [.d (.sl .any (l.map sC))] = some (.d (.b (rising l)), []) := by
  (refine (evF_code (C := cfg) (g := 69) (fn := Try.f69) rfl Try.func69 rfl (by rw [Try.ntmps69]; simp) (by kernel_rfl) (by first | decide | simp [keysOf])).trans ?_; rw [Try.results69, Try.ntmps69])
  repeat' (first | with_reducible refine br_split (fun _ => ?_) (fun _ => ?_) | simp only [*, push_cast, Array.reduceGetElem?, Nat.reduceBEq, Nat.reduceLT, Nat.reduceAdd, Nat.reduceSub, Nat.reduceLeDiff, Nat.reduceMul, Nat.reduceEqDiff, reduceCtorEq, Int.reduceAdd, Int.reduceLT, Int.reduceLE, Int.reduceToNat, Int.reduceNeg, Int.reduceSub, Int.reduceBEq, Int.reduceBNe, Int.reduceGT, Int.reduceGE, Nat.reduceGT] | (rw [drawC_ok]; rotate_left; decide +kernel; exact cfg_mixed))
  rw [evM_for0 l.length (fun i j => { t := [(0, .d (.sl .any (l.map sC))), (5, .d (.sl .any (l.map sC))), (6, .d (.i .i64 l.length)), (7, .d (.i .i64 j))], o := [], ks := [], n := 0, sz := 29, u := noU })
    (fun i => br (risFrom (prevOf l i) (l.drop i)) (some (.exit 0, { t := [], o := [], ks := [], n := 0, sz := 29, u := noU })) (some (.ret, { t := [(2, .d (.b false))], o := [], ks := [], n := 0, sz := 29, u := noU })) ⟨⟩) ?step ?last]
  case step =>
    intro i hi ih
    have hc : (l.map sC)[i]? = some [.s l[i]] := get_map sC l i hi
    have hd := dec_lt hi
    have hw := wrap_succ (i := i) (by omega)
    have hn := ev_NameOk l[i]
    have hdr : l.drop i = l[i] :: l.drop (i + 1) := List.drop_eq_getElem_cons hi
    have hnx : prevOf l (i + 1) = some l[i] := by simp [prevOf, hi]
    rw [hnx] at ih
    rw [hdr]
    clear hnx hdr
    by_cases h0 : i = 0
    · have hp : prevOf l i = none := by simp [prevOf, h0]
      have hg : decide ((i : Int) > 0) = false := decide_eq_false (by omega)
      rw [hp, risFrom]
      clear hp h0
      cases hno : nameOk l[i] with
      | false =>
        rw [Bool.false_and]
        repeat' (first | with_reducible refine br_split (fun _ => ?_) (fun _ => ?_) | simp only [*, push_cast, Array.reduceGetElem?, Nat.reduceBEq, Nat.reduceLT, Nat.reduceAdd, Nat.reduceSub, Nat.reduceLeDiff, Nat.reduceMul, Nat.reduceEqDiff, reduceCtorEq, Int.reduceAdd, Int.reduceLT, Int.reduceLE, Int.reduceToNat, Int.reduceNeg, Int.reduceSub, Int.reduceBEq, Int.reduceBNe, Int.reduceGT, Int.reduceGE, Nat.reduceGT] | (rw [drawC_ok]; rotate_left; decide +kernel; exact cfg_mixed))
      | true =>
        rw [Bool.true_and]
        repeat' (first | with_reducible refine br_split (fun _ => ?_) (fun _ => ?_) | simp only [*, push_cast, Array.reduceGetElem?, Nat.reduceBEq, Nat.reduceLT, Nat.reduceAdd, Nat.reduceSub, Nat.reduceLeDiff, Nat.reduceMul, Nat.reduceEqDiff, reduceCtorEq, Int.reduceAdd, Int.reduceLT, Int.reduceLE, Int.reduceToNat, Int.reduceNeg, Int.reduceSub, Int.reduceBEq, Int.reduceBNe, Int.reduceGT, Int.reduceGE, Nat.reduceGT] | (rw [drawC_ok]; rotate_left; decide +kernel; exact cfg_mixed))
    · obtain ⟨k, hk⟩ : ∃ k, k = i - 1 := ⟨_, rfl⟩
      have hki : k < l.length := by omega
      have hp : prevOf l i = some l[k] := by simp [prevOf, h0, hk, List.getElem?_eq_getElem (by omega : i - 1 < l.length)]
      have hg : decide ((i : Int) > 0) = true := decide_eq_true (by omega)
      have hwk : IntKind.i64.wrap ((i : Int) - 1) = (k : Int) := by rw [i64_in (by omega) (by omega)]; omega
      have hck : (l.map sC)[k]? = some [.s l[k]] := get_map sC l k hki
      have hdk := dec_lt hki
      rw [hp, risFrom]
      clear hp h0 hk
      cases hno : nameOk l[i] with
      | false =>
        rw [Bool.false_and, Bool.false_and]
        repeat' (first | with_reducible refine br_split (fun _ => ?_) (fun _ => ?_) | simp only [*, push_cast, Array.reduceGetElem?, Nat.reduceBEq, Nat.reduceLT, Nat.reduceAdd, Nat.reduceSub, Nat.reduceLeDiff, Nat.reduceMul, Nat.reduceEqDiff, reduceCtorEq, Int.reduceAdd, Int.reduceLT, Int.reduceLE, Int.reduceToNat, Int.reduceNeg, Int.reduceSub, Int.reduceBEq, Int.reduceBNe, Int.reduceGT, Int.reduceGE, Nat.reduceGT] | (rw [drawC_ok]; rotate_left; decide +kernel; exact cfg_mixed))
      | true =>
        rw [Bool.true_and]
        cases hls : Op.bytesLess l[k].toList l[i].toList with
        | false =>
          rw [Bool.false_and]
          repeat' (first | with_reducible refine br_split (fun _ => ?_) (fun _ => ?_) | simp only [*, push_cast, Array.reduceGetElem?, Nat.reduceBEq, Nat.reduceLT, Nat.reduceAdd, Nat.reduceSub, Nat.reduceLeDiff, Nat.reduceMul, Nat.reduceEqDiff, reduceCtorEq, Int.reduceAdd, Int.reduceLT, Int.reduceLE, Int.reduceToNat, Int.reduceNeg, Int.reduceSub, Int.reduceBEq, Int.reduceBNe, Int.reduceGT, Int.reduceGE, Nat.reduceGT] | (rw [drawC_ok]; rotate_left; decide +kernel; exact cfg_mixed))
        | true =>
          rw [Bool.true_and]
          repeat' (first | with_reducible refine br_split (fun _ => ?_) (fun _ => ?_) | simp only [*, push_cast, Array.reduceGetElem?, Nat.reduceBEq, Nat.reduceLT, Nat.reduceAdd, Nat.reduceSub, Nat.reduceLeDiff, Nat.reduceMul, Nat.reduceEqDiff, reduceCtorEq, Int.reduceAdd, Int.reduceLT, Int.reduceLE, Int.reduceToNat, Int.reduceNeg, Int.reduceSub, Int.reduceBEq, Int.reduceBNe, Int.reduceGT, Int.reduceGE, Nat.reduceGT] | (rw [drawC_ok]; rotate_left; decide +kernel; exact cfg_mixed))
  case last =>
    have h1 : risFrom (prevOf l l.length) (l.drop l.length) = true := by
      rw [List.drop_length]
      unfold risFrom
      rfl
    rw [h1]
    repeat' (first | with_reducible refine br_split (fun _ => ?_) (fun _ => ?_) | simp only [*, push_cast, Array.reduceGetElem?, Nat.reduceBEq, Nat.reduceLT, Nat.reduceAdd, Nat.reduceSub, Nat.reduceLeDiff, Nat.reduceMul, Nat.reduceEqDiff, reduceCtorEq, Int.reduceAdd, Int.reduceLT, Int.reduceLE, Int.reduceToNat, Int.reduceNeg, Int.reduceSub, Int.reduceBEq, Int.reduceBNe, Int.reduceGT, Int.reduceGE, Nat.reduceGT] | (rw [drawC_ok]; rotate_left; decide +kernel; exact cfg_mixed))
  · have h1 : risFrom (prevOf l 0) (l.drop 0) = rising l := by simp [prevOf, rising]
    rw [h1]
    repeat' (first | with_reducible refine br_split (fun _ => ?_) (fun _ => ?_) | simp only [*, push_cast, Array.reduceGetElem?, Nat.reduceBEq, Nat.reduceLT, Nat.reduceAdd, Nat.reduceSub, Nat.reduceLeDiff, Nat.reduceMul, Nat.reduceEqDiff, reduceCtorEq, Int.reduceAdd, Int.reduceLT, Int.reduceLE, Int.reduceToNat, Int.reduceNeg, Int.reduceSub, Int.reduceBEq, Int.reduceBNe, Int.reduceGT, Int.reduceGE, Nat.reduceGT] | (rw [drawC_ok]; rotate_left; decide +kernel; exact cfg_mixed))

def hasS (l : List ByteArray) (s : ByteArray) : Bool := l.any fun x => decide (x = s)
theorem ev_l03Has (l : List ByteArray) (s : ByteArray) (hl : l.length ≤ 1099511627776) : evF cfg 67 [] [.d (.sl .any (l.map sC)), .d (.s s)] = some (.d (.b (hasS l s)), []) := by
  (refine (evF_code (C := cfg) (g := 67) (fn := Try.f67) rfl Try.func67 rfl (by rw [Try.ntmps67]; simp) (by kernel_rfl) (by first | decide | simp [keysOf])).trans ?_; rw [Try.results67, Try.ntmps67])
  repeat' (first | with_reducible refine br_split (fun _ => ?_) (fun _ => ?_) | simp only [*, push_cast, Array.reduceGetElem?, Nat.reduceBEq, Nat.reduceLT, Nat.reduceAdd, Nat.reduceSub, Nat.reduceLeDiff, Nat.reduceMul, Nat.reduceEqDiff, reduceCtorEq, Int.reduceAdd, Int.reduceLT, Int.reduceLE, Int.reduceToNat, Int.reduceNeg, Int.reduceSub, Int.reduceBEq, Int.reduceBNe, Int.reduceGT, Int.reduceGE, Nat.reduceGT] | (rw [drawC_ok]; rotate_left; decide +kernel; exact cfg_mixed))
  rw [evM_for0 l.length (fun i j => { t := [(0, .d (.sl .any (l.map sC))), (1, .d (.s s)), (5, .d (.i .i64 j))], o := [], ks := [], n := 0, sz := 18, u := noU })
    (fun i => br (hasS (l.drop i) s) (some (.ret, { t := [(4, .d (.b true))], o := [], ks := [], n := 0, sz := 18, u := noU })) (some (.exit 0, { t := [], o := [], ks := [], n := 0, sz := 18, u := noU })) ⟨⟩) ?step ?last]
  case step =>
    intro i hi ih
    have hc : (l.map sC)[i]? = some [.s l[i]] := get_map sC l i hi
    have hd := dec_lt hi
    have hw := wrap_succ (i := i) (by omega)
    have hdr : hasS (l.drop i) s = (decide (l[i] = s) || hasS (l.drop (i + 1)) s) := by unfold hasS; rw [List.drop_eq_getElem_cons hi, List.any_cons]
    rw [hdr]
    clear hdr
    cases he : decide (l[i] = s) with
    | true => 
      rw [Bool.true_or]
      repeat' (first | with_reducible refine br_split (fun _ => ?_) (fun _ => ?_) | simp only [*, push_cast, Array.reduceGetElem?, Nat.reduceBEq, Nat.reduceLT, Nat.reduceAdd, Nat.reduceSub, Nat.reduceLeDiff, Nat.reduceMul, Nat.reduceEqDiff, reduceCtorEq, Int.reduceAdd, Int.reduceLT, Int.reduceLE, Int.reduceToNat, Int.reduceNeg, Int.reduceSub, Int.reduceBEq, Int.reduceBNe, Int.reduceGT, Int.reduceGE, Nat.reduceGT] | (rw [drawC_ok]; rotate_left; decide +kernel; exact cfg_mixed))
    | false =>
      rw [Bool.false_or]
      repeat' (first | with_reducible refine br_split (fun _ => ?_) (fun _ => ?_) | simp only [*, push_cast, Array.reduceGetElem?, Nat.reduceBEq, Nat.reduceLT, Nat.reduceAdd, Nat.reduceSub, Nat.reduceLeDiff, Nat.reduceMul, Nat.reduceEqDiff, reduceCtorEq, Int.reduceAdd, Int.reduceLT, Int.reduceLE, Int.reduceToNat, Int.reduceNeg, Int.reduceSub, Int.reduceBEq, Int.reduceBNe, Int.reduceGT, Int.reduceGE, Nat.reduceGT] | (rw [drawC_ok]; rotate_left; decide +kernel; exact cfg_mixed))
  case last =>
    rw [List.drop_length]
    have : hasS [] s = false := rfl
    repeat' (first | with_reducible refine br_split (fun _ => ?_) (fun _ => ?_) | simp only [*, push_cast, Array.reduceGetElem?, Nat.reduceBEq, Nat.reduceLT, Nat.reduceAdd, Nat.reduceSub, Nat.reduceLeDiff, Nat.reduceMul, Nat.reduceEqDiff, reduceCtorEq, Int.reduceAdd, Int.reduceLT, Int.reduceLE, Int.reduceToNat, Int.reduceNeg, Int.reduceSub, Int.reduceBEq, Int.reduceBNe, Int.reduceGT, Int.reduceGE, Nat.reduceGT] | (rw [drawC_ok]; rotate_left; decide +kernel; exact cfg_mixed))
  · rw [List.drop_zero]
    cases hasS l s <;> repeat' (first | with_reducible refine br_split (fun _ => ?_) (fun _ => ?_) | simp only [*, push_cast, Array.reduceGetElem?, Nat.reduceBEq, Nat.reduceLT, Nat.reduceAdd, Nat.reduceSub, Nat.reduceLeDiff, Nat.reduceMul, Nat.reduceEqDiff, reduceCtorEq, Int.reduceAdd, Int.reduceLT, Int.reduceLE, Int.reduceToNat, Int.reduceNeg, Int.reduceSub, Int.reduceBEq, Int.reduceBNe, Int.reduceGT, Int.reduceGE, Nat.reduceGT] | (rw [drawC_ok]; rotate_left; decide +kernel; exact cfg_mixed))

theorem ev_Values (es : List (List T)) : evF cfg 95 [] [.d (.sl .any es)] = some (.clo 114 [.ptr 40 0], [(40, .box [.d (.sl .any es)])]) := by
  (refine (evF_code (C := cfg) (g := 95) (fn := Try.f95) rfl Try.func95 rfl (by rw [Try.ntmps95]; simp) (by kernel_rfl) (by first | decide | simp [keysOf])).trans ?_; rw [Try.results95, Try.ntmps95])
  repeat' (first | with_reducible refine br_split (fun _ => ?_) (fun _ => ?_) | simp only [*, push_cast, Array.reduceGetElem?, Nat.reduceBEq, Nat.reduceLT, Nat.reduceAdd, Nat.reduceSub, Nat.reduceLeDiff, Nat.reduceMul, Nat.reduceEqDiff, reduceCtorEq, Int.reduceAdd, Int.reduceLT, Int.reduceLE, Int.reduceToNat, Int.reduceNeg, Int.reduceSub, Int.reduceBEq, Int.reduceBNe, Int.reduceGT, Int.reduceGE, Nat.reduceGT] | (rw [drawC_ok]; rotate_left; decide +kernel; exact cfg_mixed))
def colsOk (l : List ByteArray) : Bool := (decide (1 ≤ (l.length : Int)) && decide ((l.length : Int) ≤ 12)) && rising (sStr l)
theorem sStr_length (l : List ByteArray) : (sStr l).length = l.length := sStr_len l
theorem ev_areCols (l : List ByteArray) (hl : l.length ≤ 1099511627776) : evF cfg 72 [] [.d (.sl .any (l.map sC))] = some (.d (.b (colsOk l)), []) := by
  have hv := ev_Values (l.map sC)
  have hs : evF cfg 94 [(0, .box [.d (.sl .any (l.map sC))])] [.clo 114 [.ptr 0 0]] = some (.own 40, [(40, .arr .any 1 ((sStr l).map sC))]) := ev_Sorted l hl
  have hr := ev_isRising (sStr l) (by rw [sStr_len]; exact hl)
  unfold colsOk
  (refine (evF_code (C := cfg) (g := 72) (fn := Try.f72) rfl Try.func72 rfl (by rw [Try.ntmps72]; simp) (by kernel_rfl) (by first | decide | simp [keysOf])).trans ?_; rw [Try.results72, Try.ntmps72])
  repeat' (first | with_reducible refine br_split (fun _ => ?_) (fun _ => ?_) | simp only [*, push_cast, Array.reduceGetElem?, Nat.reduceBEq, Nat.reduceLT, Nat.reduceAdd, Nat.reduceSub, Nat.reduceLeDiff, Nat.reduceMul, Nat.reduceEqDiff, reduceCtorEq, Int.reduceAdd, Int.reduceLT, Int.reduceLE, Int.reduceToNat, Int.reduceNeg, Int.reduceSub, Int.reduceBEq, Int.reduceBNe, Int.reduceGT, Int.reduceGE, Nat.reduceGT] | (rw [drawC_ok]; rotate_left; decide +kernel; exact cfg_mixed))
end Go.Av
end

section
namespace Go.Av
open Go.Proofs
set_option linter.unusedSimpArgs false

def schemasOk (l : List Sc) : Bool := (decide ((l.length : Int) ≤ 20) && rising (l.map Sc.name)) && l.all fun x => colsOk x.cols
@[push_cast] theorem ev_SchemasOk1 (name : ByteArray) (cols : List ByteArray) (hl : cols.length ≤ 1099511627776) : evF cfg 71 [] [.agg [.d (.s name), .d (.sl .any (cols.map sC))]] = some (.d (.b (colsOk cols)), []) := by
  have h := ev_areCols cols hl
  (refine (evF_code (C := cfg) (g := 71) (fn := Try.f71) rfl Try.func71 rfl (by rw [Try.ntmps71]; simp) (by kernel_rfl) (by first | decide | simp [keysOf])).trans ?_; rw [Try.results71, Try.ntmps71])
  repeat' (first | with_reducible refine br_split (fun _ => ?_) (fun _ => ?_) | simp only [*, push_cast, Array.reduceGetElem?, Nat.reduceBEq, Nat.reduceLT, Nat.reduceAdd, Nat.reduceSub, Nat.reduceLeDiff, Nat.reduceMul, Nat.reduceEqDiff, reduceCtorEq, Int.reduceAdd, Int.reduceLT, Int.reduceLE, Int.reduceToNat, Int.reduceNeg, Int.reduceSub, Int.reduceBEq, Int.reduceBNe, Int.reduceGT, Int.reduceGE, Nat.reduceGT] | (rw [drawC_ok]; rotate_left; decide +kernel; exact cfg_mixed))
theorem ev_SchemasOk (l : List Sc) (hl : l.length ≤ 1048576) (hc : ∀ x ∈ l, x.cols.length ≤ 1048576) : evF cfg 38 [] [.d (.sl .any (l.map scC))] = some (.d (.b (schemasOk l)), []) := by
  have hr := ev_isRising (l.map Sc.name) (by simp; omega)
  have ha := ev_areAllSchema_0 (h := 71) (p := fun x => colsOk x.cols) l (by omega) (by rfl) (by rfl) (fun x hx => ev_SchemasOk1 x.name x.cols (by have := hc x hx; omega))
  unfold schemasOk
  clear hc
  (refine (evF_code (C := cfg) (g := 38) (fn := Try.f38) rfl Try.func38 rfl (by rw [Try.ntmps38]; simp) (by kernel_rfl) (by first | decide | simp [keysOf])).trans ?_; rw [Try.results38, Try.ntmps38])
  repeat' (first | with_reducible refine br_split (fun _ => ?_) (fun _ => ?_) | simp only [*, push_cast, Array.reduceGetElem?, Nat.reduceBEq, Nat.reduceLT, Nat.reduceAdd, Nat.reduceSub, Nat.reduceLeDiff, Nat.reduceMul, Nat.reduceEqDiff, reduceCtorEq, Int.reduceAdd, Int.reduceLT, Int.reduceLE, Int.reduceToNat, Int.reduceNeg, Int.reduceSub, Int.reduceBEq, Int.reduceBNe, Int.reduceGT, Int.reduceGE, Nat.reduceGT] | (rw [drawC_ok]; rotate_left; decide +kernel; exact cfg_mixed))
  rw [show ([] : List (List T)) = ((l.map Sc.name).take 0).map sC from rfl]
  rw [evM_for0 l.length (fun i j => { t := [(0, .d (.sl .any (l.map scC))), (3, .own 50), (6, .d (.sl .any (l.map scC))), (7, .d (.i .i64 l.length)), (8, .d (.i .i64 j))], o := [(50, .arr .any 1 (((l.map Sc.name).take i).map sC))], ks := [50], n := 0, sz := 29, u := noU })
    (fun i => some (.exit 0, { t := [(0, .d (.sl .any (l.map scC))), (3, .own 50)], o := [(50, .arr .any 1 ((l.map Sc.name).map sC))], ks := [50], n := 0, sz := 29, u := noU })) ?step ?last]
  case step =>
    intro i hi ih
    have hcc : (l.map scC)[i]? = some [.s l[i].name, .sl .any (l[i].cols.map sC)] := get_map scC l i hi
    have hd := dec_lt hi
    have hw := wrap_succ (i := i) (by omega)
    have h2 := len_ok (n := ((l.map Sc.name).take i).length + 1) 16 (by simp; omega) (by omega)
    have h3 : ((l.map Sc.name).take i).map sC ++ [[.s l[i].name]] = ((l.map Sc.name).take (i + 1)).map sC := by
      have := take_snoc sC (l := l.map Sc.name) (i := i) (by simpa using hi)
      simpa [sC] using this
    repeat' (first | with_reducible refine br_split (fun _ => ?_) (fun _ => ?_) | simp only [*, push_cast, Array.reduceGetElem?, Nat.reduceBEq, Nat.reduceLT, Nat.reduceAdd, Nat.reduceSub, Nat.reduceLeDiff, Nat.reduceMul, Nat.reduceEqDiff, reduceCtorEq, Int.reduceAdd, Int.reduceLT, Int.reduceLE, Int.reduceToNat, Int.reduceNeg, Int.reduceSub, Int.reduceBEq, Int.reduceBNe, Int.reduceGT, Int.reduceGE, Nat.reduceGT] | (rw [drawC_ok]; rotate_left; decide +kernel; exact cfg_mixed))
  case last =>
    have : (l.map Sc.name).take l.length = l.map Sc.name := List.take_of_length_le (by simp)
    repeat' (first | with_reducible refine br_split (fun _ => ?_) (fun _ => ?_) | simp only [*, push_cast, Array.reduceGetElem?, Nat.reduceBEq, Nat.reduceLT, Nat.reduceAdd, Nat.reduceSub, Nat.reduceLeDiff, Nat.reduceMul, Nat.reduceEqDiff, reduceCtorEq, Int.reduceAdd, Int.reduceLT, Int.reduceLE, Int.reduceToNat, Int.reduceNeg, Int.reduceSub, Int.reduceBEq, Int.reduceBNe, Int.reduceGT, Int.reduceGE, Nat.reduceGT] | (rw [drawC_ok]; rotate_left; decide +kernel; exact cfg_mixed))
  · cases h20 : decide ((l.length : Int) ≤ 20) with
    | false => repeat' (first | with_reducible refine br_split (fun _ => ?_) (fun _ => ?_) | simp only [*, push_cast, Array.reduceGetElem?, Nat.reduceBEq, Nat.reduceLT, Nat.reduceAdd, Nat.reduceSub, Nat.reduceLeDiff, Nat.reduceMul, Nat.reduceEqDiff, reduceCtorEq, Int.reduceAdd, Int.reduceLT, Int.reduceLE, Int.reduceToNat, Int.reduceNeg, Int.reduceSub, Int.reduceBEq, Int.reduceBNe, Int.reduceGT, Int.reduceGE, Nat.reduceGT] | (rw [drawC_ok]; rotate_left; decide +kernel; exact cfg_mixed))
    | true =>
      cases hri : rising (l.map Sc.name) with
      | false => repeat' (first | with_reducible refine br_split (fun _ => ?_) (fun _ => ?_) | simp only [*, push_cast, Array.reduceGetElem?, Nat.reduceBEq, Nat.reduceLT, Nat.reduceAdd, Nat.reduceSub, Nat.reduceLeDiff, Nat.reduceMul, Nat.reduceEqDiff, reduceCtorEq, Int.reduceAdd, Int.reduceLT, Int.reduceLE, Int.reduceToNat, Int.reduceNeg, Int.reduceSub, Int.reduceBEq, Int.reduceBNe, Int.reduceGT, Int.reduceGE, Nat.reduceGT] | (rw [drawC_ok]; rotate_left; decide +kernel; exact cfg_mixed))
      | true => repeat' (first | with_reducible refine br_split (fun _ => ?_) (fun _ => ?_) | simp only [*, push_cast, Array.reduceGetElem?, Nat.reduceBEq, Nat.reduceLT, Nat.reduceAdd, Nat.reduceSub, Nat.reduceLeDiff, Nat.reduceMul, Nat.reduceEqDiff, reduceCtorEq, Int.reduceAdd, Int.reduceLT, Int.reduceLE, Int.reduceToNat, Int.reduceNeg, Int.reduceSub, Int.reduceBEq, Int.reduceBNe, Int.reduceGT, Int.reduceGE, Nat.reduceGT] | (rw [drawC_ok]; rotate_left; decide +kernel; exact cfg_mixed))

def colFrom : List ByteArray → List ByteArray → Bool
  | _, [] => true
  | p, a :: l => (nameOk a && !hasS p a) && colFrom (p ++ [a]) l
def upOk : Option ByteArray → ByteArray → Bool
  | none, _ => true
  | some p, a => !(Op.bytesLess a.toList p.toList || a.toList == p.toList)
def wOk (l : List ByteArray) : Bool := decide (1 ≤ (l.length : Int)) && decide ((l.length : Int) ≤ 12)
def spFrom : Option ByteArray → List Sc → Bool
  | _, [] => true
  | p, x :: l => (((nameOk x.name && upOk p x.name) && wOk x.cols) && colFrom [] x.cols) && spFrom (some x.name) l
set_option maxHeartbeats 2000000 in
theorem ev_sSchemasOk (l : List Sc) (hl : l.length ≤ 1048576) (hc : ∀ x ∈ l, x.cols.length ≤ 1048576 ∧ x.name.size ≤ 1048576 ∧ ∀ c ∈ x.cols, c.size ≤ 1048576) : evF cfg 36 [] [.d (.sl .any (l.map scC))] =
    some (.d (.b (spFrom none l && decide ((l.length : Int) ≤ 20))), []) := by
  (refine (evF_code (C := cfg) (g := 36) (fn := Try.f36) rfl Try.func36 rfl (by rw [Try.ntmps36]; simp) (by kernel_rfl) (by first | decide | simp [keysOf])).trans ?_; rw [Try.results36, Try.ntmps36])
  repeat' (first | with_reducible refine br_split (fun _ => ?_) (fun _ => ?_) | simp only [*, push_cast, Array.reduceGetElem?, Nat.reduceBEq, Nat.reduceLT, Nat.reduceAdd, Nat.reduceSub, Nat.reduceLeDiff, Nat.reduceMul, Nat.reduceEqDiff, reduceCtorEq, Int.reduceAdd, Int.reduceLT, Int.reduceLE, Int.reduceToNat, Int.reduceNeg, Int.reduceSub, Int.reduceBEq, Int.reduceBNe, Int.reduceGT, Int.reduceGE, Nat.reduceGT] | (rw [drawC_ok]; rotate_left; decide +kernel; exact cfg_mixed))
  rw [evM_for0 l.length (fun i j => { t := [(0, .d (.sl .any (l.map scC))), (3, .d (.i .i64 j))], o := [], ks := [], n := 0, sz := 71, u := noU })
    (fun i => br (spFrom (prevOf (l.map Sc.name) i) (l.drop i)) (some (.exit 0, { t := [(0, .d (.sl .any (l.map scC)))], o := [], ks := [], n := 0, sz := 71, u := noU })) (some (.ret, { t := [(2, .d (.b false))], o := [], ks := [], n := 0, sz := 71, u := noU })) ⟨⟩) ?step ?last]
  case step =>
    intro i hi ih
    have hcc : (l.map scC)[i]? = some [.s l[i].name, .sl .any (l[i].cols.map sC)] := get_map scC l i hi
    have hd := dec_lt hi
    have hw := wrap_succ (i := i) (by omega)
    obtain ⟨c1, c2, c3⟩ := hc _ (List.getElem_mem hi)
    have hn := ev_sNameOk l[i].name (by omega)
    have hdr : l.drop i = l[i] :: l.drop (i + 1) := List.drop_eq_getElem_cons hi
    have hnx : prevOf (l.map Sc.name) (i + 1) = some l[i].name := by simp [prevOf, hi]
    rw [hnx] at ih
    rw [hdr, spFrom]
    clear hnx hdr hc
    by_cases h0 : i = 0
    · have hp : prevOf (l.map Sc.name) i = none := by simp [prevOf, h0]
      have hg : decide ((i : Int) > 0) = false := decide_eq_false (by omega)
      have hu : upOk none l[i].name = true := rfl
      rw [hp, hu, Bool.and_true]
      clear hp h0 hu
      cases hno : nameOk l[i].name with
      | false =>
        rw [Bool.false_and, Bool.false_and, Bool.false_and]
        clear c3
        repeat' (first | with_reducible refine br_split (fun _ => ?_) (fun _ => ?_) | simp only [*, push_cast, Array.reduceGetElem?, Nat.reduceBEq, Nat.reduceLT, Nat.reduceAdd, Nat.reduceSub, Nat.reduceLeDiff, Nat.reduceMul, Nat.reduceEqDiff, reduceCtorEq, Int.reduceAdd, Int.reduceLT, Int.reduceLE, Int.reduceToNat, Int.reduceNeg, Int.reduceSub, Int.reduceBEq, Int.reduceBNe, Int.reduceGT, Int.reduceGE, Nat.reduceGT] | (rw [drawC_ok]; rotate_left; decide +kernel; exact cfg_mixed))
      | true =>
        rw [Bool.true_and]
        cases hwo : wOk l[i].cols with
        | false =>
          rw [Bool.false_and, Bool.false_and]
          unfold wOk at hwo
          clear c3
          repeat' (first | with_reducible refine br_split (fun _ => ?_) (fun _ => ?_) | simp only [*, push_cast, Array.reduceGetElem?, Nat.reduceBEq, Nat.reduceLT, Nat.reduceAdd, Nat.reduceSub, Nat.reduceLeDiff, Nat.reduceMul, Nat.reduceEqDiff, reduceCtorEq, Int.reduceAdd, Int.reduceLT, Int.reduceLE, Int.reduceToNat, Int.reduceNeg, Int.reduceSub, Int.reduceBEq, Int.reduceBNe, Int.reduceGT, Int.reduceGE, Nat.reduceGT] | (rw [drawC_ok]; rotate_left; decide +kernel; exact cfg_mixed))
        | true =>
          rw [Bool.true_and]
          unfold wOk at hwo
          repeat' (first | with_reducible refine br_split (fun _ => ?_) (fun _ => ?_) | simp only [*, push_cast, Array.reduceGetElem?, Nat.reduceBEq, Nat.reduceLT, Nat.reduceAdd, Nat.reduceSub, Nat.reduceLeDiff, Nat.reduceMul, Nat.reduceEqDiff, reduceCtorEq, Int.reduceAdd, Int.reduceLT, Int.reduceLE, Int.reduceToNat, Int.reduceNeg, Int.reduceSub, Int.reduceBEq, Int.reduceBNe, Int.reduceGT, Int.reduceGE, Nat.reduceGT] | (rw [drawC_ok]; rotate_left; decide +kernel; exact cfg_mixed))
          generalize hcg : l[i].cols = cs at *
          rw [evM_for0 cs.length (fun k j => { t := [(0, .d (.sl .any (l.map scC))), (3, .d (.i .i64 i)), (4, .ptr 50 0), (5, .d (.i .i64 j))], o := [(50, .box [.d (.s l[i].name), .d (.sl .any (cs.map sC))])], ks := [50], n := 0, sz := 71, u := noU })
            (fun k => br (colFrom (cs.take k) (cs.drop k)) (some (.exit 2, { t := [(0, .d (.sl .any (l.map scC))), (3, .d (.i .i64 i))], o := [], ks := [], n := 0, sz := 71, u := noU })) (some (.ret, { t := [(2, .d (.b false))], o := [], ks := [], n := 0, sz := 71, u := noU })) ⟨⟩) ?istep ?ilast]
          case istep =>
            intro k hk ihk
            have hkc : (cs.map sC)[k]? = some [.s cs[k]] := get_map sC cs k hk
            have hkd := dec_lt hk
            have hkw := wrap_succ (i := k) (by omega)
            have hkn := ev_sNameOk cs[k] (by have := c3 _ (List.getElem_mem hk); omega)
            have hkh := ev_l03Has (cs.take k) cs[k] (by rw [List.length_take]; omega)
            have hkt : (cs.map sC).take k = (cs.take k).map sC := List.map_take.symm
            have hkb : decide (0 ≤ (k : Int) ∧ (k : Int) ≤ (cs.length : Int)) = true := decide_eq_true (by omega)
            have hkdr : cs.drop k = cs[k] :: cs.drop (k + 1) := List.drop_eq_getElem_cons hk
            have hktk : cs.take k ++ [cs[k]] = cs.take (k + 1) := (List.take_succ_eq_append_getElem hk).symm
            rw [hkdr, colFrom, hktk]
            clear hkdr hktk ih c3 hcc
            cases hkno : nameOk cs[k] with
            | false =>
              rw [Bool.false_and, Bool.false_and]
              repeat' (first | with_reducible refine br_split (fun _ => ?_) (fun _ => ?_) | simp only [*, push_cast, Array.reduceGetElem?, Nat.reduceBEq, Nat.reduceLT, Nat.reduceAdd, Nat.reduceSub, Nat.reduceLeDiff, Nat.reduceMul, Nat.reduceEqDiff, reduceCtorEq, Int.reduceAdd, Int.reduceLT, Int.reduceLE, Int.reduceToNat, Int.reduceNeg, Int.reduceSub, Int.reduceBEq, Int.reduceBNe, Int.reduceGT, Int.reduceGE, Nat.reduceGT] | (rw [drawC_ok]; rotate_left; decide +kernel; exact cfg_mixed))
            | true =>
              rw [Bool.true_and]
              cases hkhs : hasS (cs.take k) cs[k] with
              | true =>
                rw [Bool.not_true, Bool.false_and]
                repeat' (first | with_reducible refine br_split (fun _ => ?_) (fun _ => ?_) | simp only [*, push_cast, Array.reduceGetElem?, Nat.reduceBEq, Nat.reduceLT, Nat.reduceAdd, Nat.reduceSub, Nat.reduceLeDiff, Nat.reduceMul, Nat.reduceEqDiff, reduceCtorEq, Int.reduceAdd, Int.reduceLT, Int.reduceLE, Int.reduceToNat, Int.reduceNeg, Int.reduceSub, Int.reduceBEq, Int.reduceBNe, Int.reduceGT, Int.reduceGE, Nat.reduceGT] | (rw [drawC_ok]; rotate_left; decide +kernel; exact cfg_mixed))
              | false =>
                rw [Bool.not_false, Bool.true_and]
                repeat' (first | with_reducible refine br_split (fun _ => ?_) (fun _ => ?_) | simp only [*, push_cast, Array.reduceGetElem?, Nat.reduceBEq, Nat.reduceLT, Nat.reduceAdd, Nat.reduceSub, Nat.reduceLeDiff, Nat.reduceMul, Nat.reduceEqDiff, reduceCtorEq, Int.reduceAdd, Int.reduceLT, Int.reduceLE, Int.reduceToNat, Int.reduceNeg, Int.reduceSub, Int.reduceBEq, Int.reduceBNe, Int.reduceGT, Int.reduceGE, Nat.reduceGT] | (rw [drawC_ok]; rotate_left; decide +kernel; exact cfg_mixed))
          case ilast =>
            have h1 : colFrom (cs.take cs.length) (cs.drop cs.length) = true := by rw [List.drop_length]; unfold colFrom; rfl
            rw [h1]
            clear ih c3
            repeat' (first | with_reducible refine br_split (fun _ => ?_) (fun _ => ?_) | simp only [*, push_cast, Array.reduceGetElem?, Nat.reduceBEq, Nat.reduceLT, Nat.reduceAdd, Nat.reduceSub, Nat.reduceLeDiff, Nat.reduceMul, Nat.reduceEqDiff, reduceCtorEq, Int.reduceAdd, Int.reduceLT, Int.reduceLE, Int.reduceToNat, Int.reduceNeg, Int.reduceSub, Int.reduceBEq, Int.reduceBNe, Int.reduceGT, Int.reduceGE, Nat.reduceGT] | (rw [drawC_ok]; rotate_left; decide +kernel; exact cfg_mixed))
          · rw [List.take_zero, List.drop_zero]
            clear c3
            cases hcf : colFrom [] cs with
            | false =>
              rw [Bool.false_and]
              repeat' (first | with_reducible refine br_split (fun _ => ?_) (fun _ => ?_) | simp only [*, push_cast, Array.reduceGetElem?, Nat.reduceBEq, Nat.reduceLT, Nat.reduceAdd, Nat.reduceSub, Nat.reduceLeDiff, Nat.reduceMul, Nat.reduceEqDiff, reduceCtorEq, Int.reduceAdd, Int.reduceLT, Int.reduceLE, Int.reduceToNat, Int.reduceNeg, Int.reduceSub, Int.reduceBEq, Int.reduceBNe, Int.reduceGT, Int.reduceGE, Nat.reduceGT] | (rw [drawC_ok]; rotate_left; decide +kernel; exact cfg_mixed))
            | true =>
              rw [Bool.true_and]
              repeat' (first | with_reducible refine br_split (fun _ => ?_) (fun _ => ?_) | simp only [*, push_cast, Array.reduceGetElem?, Nat.reduceBEq, Nat.reduceLT, Nat.reduceAdd, Nat.reduceSub, Nat.reduceLeDiff, Nat.reduceMul, Nat.reduceEqDiff, reduceCtorEq, Int.reduceAdd, Int.reduceLT, Int.reduceLE, Int.reduceToNat, Int.reduceNeg, Int.reduceSub, Int.reduceBEq, Int.reduceBNe, Int.reduceGT, Int.reduceGE, Nat.reduceGT] | (rw [drawC_ok]; rotate_left; decide +kernel; exact cfg_mixed))
    · obtain ⟨q, hq⟩ : ∃ q, q = i - 1 := ⟨_, rfl⟩
      have hqi : q < l.length := by omega
      have hp : prevOf (l.map Sc.name) i = some l[q].name := by simp [prevOf, h0, hq, List.getElem?_eq_getElem (by omega : i - 1 < l.length)]
      have hg : decide ((i : Int) > 0) = true := decide_eq_true (by omega)
      have hwq : IntKind.i64.wrap ((i : Int) - 1) = (q : Int) := by rw [i64_in (by omega) (by omega)]; omega
      have hcq : (l.map scC)[q]? = some [.s l[q].name, .sl .any (l[q].cols.map sC)] := get_map scC l q hqi
      have hdq := dec_lt hqi
      have hu : upOk (some l[q].name) l[i].name = !(Op.bytesLess l[i].name.toList l[q].name.toList || l[i].name.toList == l[q].name.toList) := rfl
      rw [hp, hu]
      clear hp h0 hu hq
      cases hno : nameOk l[i].name with
      | false =>
        rw [Bool.false_and, Bool.false_and, Bool.false_and, Bool.false_and]
        clear c3
        repeat' (first | with_reducible refine br_split (fun _ => ?_) (fun _ => ?_) | simp only [*, push_cast, Array.reduceGetElem?, Nat.reduceBEq, Nat.reduceLT, Nat.reduceAdd, Nat.reduceSub, Nat.reduceLeDiff, Nat.reduceMul, Nat.reduceEqDiff, reduceCtorEq, Int.reduceAdd, Int.reduceLT, Int.reduceLE, Int.reduceToNat, Int.reduceNeg, Int.reduceSub, Int.reduceBEq, Int.reduceBNe, Int.reduceGT, Int.reduceGE, Nat.reduceGT] | (rw [drawC_ok]; rotate_left; decide +kernel; exact cfg_mixed))
      | true =>
        rw [Bool.true_and]
        cases hls : Op.bytesLess l[i].name.toList l[q].name.toList with
        | true =>
          rw [Bool.true_or, Bool.not_true, Bool.false_and, Bool.false_and, Bool.false_and]
          clear c3
          repeat' (first | with_reducible refine br_split (fun _ => ?_) (fun _ => ?_) | simp only [*, push_cast, Array.reduceGetElem?, Nat.reduceBEq, Nat.reduceLT, Nat.reduceAdd, Nat.reduceSub, Nat.reduceLeDiff, Nat.reduceMul, Nat.reduceEqDiff, reduceCtorEq, Int.reduceAdd, Int.reduceLT, Int.reduceLE, Int.reduceToNat, Int.reduceNeg, Int.reduceSub, Int.reduceBEq, Int.reduceBNe, Int.reduceGT, Int.reduceGE, Nat.reduceGT] | (rw [drawC_ok]; rotate_left; decide +kernel; exact cfg_mixed))
        | false =>
         rw [Bool.false_or]
         cases hls2 : (l[i].name.toList == l[q].name.toList) with
         | true =>
          rw [Bool.not_true, Bool.false_and, Bool.false_and, Bool.false_and]
          clear c3
          repeat' (first | with_reducible refine br_split (fun _ => ?_) (fun _ => ?_) | simp only [*, push_cast, Array.reduceGetElem?, Nat.reduceBEq, Nat.reduceLT, Nat.reduceAdd, Nat.reduceSub, Nat.reduceLeDiff, Nat.reduceMul, Nat.reduceEqDiff, reduceCtorEq, Int.reduceAdd, Int.reduceLT, Int.reduceLE, Int.reduceToNat, Int.reduceNeg, Int.reduceSub, Int.reduceBEq, Int.reduceBNe, Int.reduceGT, Int.reduceGE, Nat.reduceGT] | (rw [drawC_ok]; rotate_left; decide +kernel; exact cfg_mixed))
         | false =>
         rw [Bool.not_false, Bool.true_and]
         cases hwo : wOk l[i].cols with
         | false =>
          rw [Bool.false_and, Bool.false_and]
          unfold wOk at hwo
          clear c3
          repeat' (first | with_reducible refine br_split (fun _ => ?_) (fun _ => ?_) | simp only [*, push_cast, Array.reduceGetElem?, Nat.reduceBEq, Nat.reduceLT, Nat.reduceAdd, Nat.reduceSub, Nat.reduceLeDiff, Nat.reduceMul, Nat.reduceEqDiff, reduceCtorEq, Int.reduceAdd, Int.reduceLT, Int.reduceLE, Int.reduceToNat, Int.reduceNeg, Int.reduceSub, Int.reduceBEq, Int.reduceBNe, Int.reduceGT, Int.reduceGE, Nat.reduceGT] | (rw [drawC_ok]; rotate_left; decide +kernel; exact cfg_mixed))
         | true =>
          rw [Bool.true_and]
          unfold wOk at hwo
          repeat' (first | with_reducible refine br_split (fun _ => ?_) (fun _ => ?_) | simp only [*, push_cast, Array.reduceGetElem?, Nat.reduceBEq, Nat.reduceLT, Nat.reduceAdd, Nat.reduceSub, Nat.reduceLeDiff, Nat.reduceMul, Nat.reduceEqDiff, reduceCtorEq, Int.reduceAdd, Int.reduceLT, Int.reduceLE, Int.reduceToNat, Int.reduceNeg, Int.reduceSub, Int.reduceBEq, Int.reduceBNe, Int.reduceGT, Int.reduceGE, Nat.reduceGT] | (rw [drawC_ok]; rotate_left; decide +kernel; exact cfg_mixed))
          generalize hcg : l[i].cols = cs at *
          rw [evM_for0 cs.length (fun k j => { t := [(0, .d (.sl .any (l.map scC))), (3, .d (.i .i64 i)), (4, .ptr 50 0), (5, .d (.i .i64 j))], o := [(50, .box [.d (.s l[i].name), .d (.sl .any (cs.map sC))])], ks := [50], n := 0, sz := 71, u := noU })
            (fun k => br (colFrom (cs.take k) (cs.drop k)) (some (.exit 2, { t := [(0, .d (.sl .any (l.map scC))), (3, .d (.i .i64 i))], o := [], ks := [], n := 0, sz := 71, u := noU })) (some (.ret, { t := [(2, .d (.b false))], o := [], ks := [], n := 0, sz := 71, u := noU })) ⟨⟩) ?istep ?ilast]
          case istep =>
            intro k hk ihk
            have hkc : (cs.map sC)[k]? = some [.s cs[k]] := get_map sC cs k hk
            have hkd := dec_lt hk
            have hkw := wrap_succ (i := k) (by omega)
            have hkn := ev_sNameOk cs[k] (by have := c3 _ (List.getElem_mem hk); omega)
            have hkh := ev_l03Has (cs.take k) cs[k] (by rw [List.length_take]; omega)
            have hkt : (cs.map sC).take k = (cs.take k).map sC := List.map_take.symm
            have hkb : decide (0 ≤ (k : Int) ∧ (k : Int) ≤ (cs.length : Int)) = true := decide_eq_true (by omega)
            have hkdr : cs.drop k = cs[k] :: cs.drop (k + 1) := List.drop_eq_getElem_cons hk
            have hktk : cs.take k ++ [cs[k]] = cs.take (k + 1) := (List.take_succ_eq_append_getElem hk).symm
            rw [hkdr, colFrom, hktk]
            clear hkdr hktk ih c3 hcc
            cases hkno : nameOk cs[k] with
            | false =>
              rw [Bool.false_and, Bool.false_and]
              repeat' (first | with_reducible refine br_split (fun _ => ?_) (fun _ => ?_) | simp only [*, push_cast, Array.reduceGetElem?, Nat.reduceBEq, Nat.reduceLT, Nat.reduceAdd, Nat.reduceSub, Nat.reduceLeDiff, Nat.reduceMul, Nat.reduceEqDiff, reduceCtorEq, Int.reduceAdd, Int.reduceLT, Int.reduceLE, Int.reduceToNat, Int.reduceNeg, Int.reduceSub, Int.reduceBEq, Int.reduceBNe, Int.reduceGT, Int.reduceGE, Nat.reduceGT] | (rw [drawC_ok]; rotate_left; decide +kernel; exact cfg_mixed))
            | true =>
              rw [Bool.true_and]
              cases hkhs : hasS (cs.take k) cs[k] with
              | true =>
                rw [Bool.not_true, Bool.false_and]
                repeat' (first | with_reducible refine br_split (fun _ => ?_) (fun _ => ?_) | simp only [*, push_cast, Array.reduceGetElem?, Nat.reduceBEq, Nat.reduceLT, Nat.reduceAdd, Nat.reduceSub, Nat.reduceLeDiff, Nat.reduceMul, Nat.reduceEqDiff, reduceCtorEq, Int.reduceAdd, Int.reduceLT, Int.reduceLE, Int.reduceToNat, Int.reduceNeg, Int.reduceSub, Int.reduceBEq, Int.reduceBNe, Int.reduceGT, Int.reduceGE, Nat.reduceGT] | (rw [drawC_ok]; rotate_left; decide +kernel; exact cfg_mixed))
              | false =>
                rw [Bool.not_false, Bool.true_and]
                repeat' (first | with_reducible refine br_split (fun _ => ?_) (fun _ => ?_) | simp only [*, push_cast, Array.reduceGetElem?, Nat.reduceBEq, Nat.reduceLT, Nat.reduceAdd, Nat.reduceSub, Nat.reduceLeDiff, Nat.reduceMul, Nat.reduceEqDiff, reduceCtorEq, Int.reduceAdd, Int.reduceLT, Int.reduceLE, Int.reduceToNat, Int.reduceNeg, Int.reduceSub, Int.reduceBEq, Int.reduceBNe, Int.reduceGT, Int.reduceGE, Nat.reduceGT] | (rw [drawC_ok]; rotate_left; decide +kernel; exact cfg_mixed))
          case ilast =>
            have h1 : colFrom (cs.take cs.length) (cs.drop cs.length) = true := by rw [List.drop_length]; unfold colFrom; rfl
            rw [h1]
            clear ih c3
            repeat' (first | with_reducible refine br_split (fun _ => ?_) (fun _ => ?_) | simp only [*, push_cast, Array.reduceGetElem?, Nat.reduceBEq, Nat.reduceLT, Nat.reduceAdd, Nat.reduceSub, Nat.reduceLeDiff, Nat.reduceMul, Nat.reduceEqDiff, reduceCtorEq, Int.reduceAdd, Int.reduceLT, Int.reduceLE, Int.reduceToNat, Int.reduceNeg, Int.reduceSub, Int.reduceBEq, Int.reduceBNe, Int.reduceGT, Int.reduceGE, Nat.reduceGT] | (rw [drawC_ok]; rotate_left; decide +kernel; exact cfg_mixed))
          · rw [List.take_zero, List.drop_zero]
            clear c3
            cases hcf : colFrom [] cs with
            | false =>
              rw [Bool.false_and]
              repeat' (first | with_reducible refine br_split (fun _ => ?_) (fun _ => ?_) | simp only [*, push_cast, Array.reduceGetElem?, Nat.reduceBEq, Nat.reduceLT, Nat.reduceAdd, Nat.reduceSub, Nat.reduceLeDiff, Nat.reduceMul, Nat.reduceEqDiff, reduceCtorEq, Int.reduceAdd, Int.reduceLT, Int.reduceLE, Int.reduceToNat, Int.reduceNeg, Int.reduceSub, Int.reduceBEq, Int.reduceBNe, Int.reduceGT, Int.reduceGE, Nat.reduceGT] | (rw [drawC_ok]; rotate_left; decide +kernel; exact cfg_mixed))
            | true =>
              rw [Bool.true_and]
              repeat' (first | with_reducible refine br_split (fun _ => ?_) (fun _ => ?_) | simp only [*, push_cast, Array.reduceGetElem?, Nat.reduceBEq, Nat.reduceLT, Nat.reduceAdd, Nat.reduceSub, Nat.reduceLeDiff, Nat.reduceMul, Nat.reduceEqDiff, reduceCtorEq, Int.reduceAdd, Int.reduceLT, Int.reduceLE, Int.reduceToNat, Int.reduceNeg, Int.reduceSub, Int.reduceBEq, Int.reduceBNe, Int.reduceGT, Int.reduceGE, Nat.reduceGT] | (rw [drawC_ok]; rotate_left; decide +kernel; exact cfg_mixed))
  case last =>
    have h1 : spFrom (prevOf (l.map Sc.name) l.length) (l.drop l.length) = true := by
      rw [List.drop_length]
      unfold spFrom
      rfl
    rw [h1]
    clear hc
    repeat' (first | with_reducible refine br_split (fun _ => ?_) (fun _ => ?_) | simp only [*, push_cast, Array.reduceGetElem?, Nat.reduceBEq, Nat.reduceLT, Nat.reduceAdd, Nat.reduceSub, Nat.reduceLeDiff, Nat.reduceMul, Nat.reduceEqDiff, reduceCtorEq, Int.reduceAdd, Int.reduceLT, Int.reduceLE, Int.reduceToNat, Int.reduceNeg, Int.reduceSub, Int.reduceBEq, Int.reduceBNe, Int.reduceGT, Int.reduceGE, Nat.reduceGT] | (rw [drawC_ok]; rotate_left; decide +kernel; exact cfg_mixed))
  · have h1 : spFrom (prevOf (l.map Sc.name) 0) (l.drop 0) = spFrom none l := by simp [prevOf]
    rw [h1]
    clear hc
    repeat' (first | with_reducible refine br_split (fun _ => ?_) (fun _ => ?_) | simp only [*, push_cast, Array.reduceGetElem?, Nat.reduceBEq, Nat.reduceLT, Nat.reduceAdd, Nat.reduceSub, Nat.reduceLeDiff, Nat.reduceMul, Nat.reduceEqDiff, reduceCtorEq, Int.reduceAdd, Int.reduceLT, Int.reduceLE, Int.reduceToNat, Int.reduceNeg, Int.reduceSub, Int.reduceBEq, Int.reduceBNe, Int.reduceGT, Int.reduceGE, Nat.reduceGT] | (rw [drawC_ok]; rotate_left; decide +kernel; exact cfg_mixed))
end Go.Av
end

section
namespace Go.Av
set_option linter.unusedSimpArgs false

theorem bl_lt : ∀ x y : List UInt8, Op.bytesLess x y = decide (x < y)
  | [], [] => by simp [Op.bytesLess]
  | [], _ :: _ => by simp [Op.bytesLess]
  | _ :: _, [] => by simp [Op.bytesLess]
  | a :: x, b :: y => by
    have ih := bl_lt x y
    unfold Op.bytesLess
    simp only [List.cons_lt_cons_iff]
    by_cases h : a < b
    · simp [h]
    · by_cases h2 : b < a
      · have : a ≠ b := fun e => by subst e; exact h h2
        simp [h, h2, this]
      · have : a = b := UInt8.le_antisymm (UInt8.not_lt.1 h2) (UInt8.not_lt.1 h)
        subst this
        simp [h, ih]
def bl (a : ByteArray) : List UInt8 := a.data.toList
theorem bl_inj {a b : ByteArray} (h : bl a = bl b) : a = b := ByteArray.ext (Array.toList_inj.1 h)
theorem less_eq (a b : ByteArray) : Op.bytesLess a.toList b.toList = decide (bl a < bl b) := by rw [ba_toList, ba_toList, bl_lt]; rfl
theorem up_eq (p a : ByteArray) : upOk (some p) a = decide (bl p < bl a) := by
  show (!(Op.bytesLess a.toList p.toList || a.toList == p.toList)) = _
  rw [less_eq, ba_toList, ba_toList]
  show (!(decide (bl a < bl p) || bl a == bl p)) = _
  by_cases h1 : bl p < bl a
  · have h2 : ¬ bl a < bl p := fun h => List.lt_irrefl _ (List.lt_trans h h1)
    have h3 : bl a ≠ bl p := fun h => by rw [h] at h1; exact List.lt_irrefl _ h1
    simp [h1, h2, h3]
  · by_cases h2 : bl a < bl p
    · simp [h1, h2]
    · have h3 : bl a = bl p := List.le_antisymm (List.not_lt.1 h1) (List.not_lt.1 h2)
      simp [h3, List.lt_irrefl]

/-- Strictly rising. -/
def strictFrom : Option ByteArray → List ByteArray → Bool
  | _, [] => true
  | none, a :: l => strictFrom (some a) l
  | some p, a :: l => decide (bl p < bl a) && strictFrom (some a) l
theorem ris_split : ∀ (p : Option ByteArray) (l : List ByteArray), risFrom p l = (l.all nameOk && strictFrom p l)
  | _, [] => by simp [risFrom, strictFrom]
  | none, a :: l => by simp only [risFrom, strictFrom, ris_split, List.all_cons, Bool.and_assoc]
  | some p, a :: l => by
    simp only [risFrom, strictFrom, ris_split, List.all_cons, less_eq]
    cases nameOk a <;> cases decide (bl p < bl a) <;> simp
theorem sp_split : ∀ (p : Option ByteArray) (l : List Sc), spFrom p l = (risFrom p (l.map Sc.name) && l.all fun x => wOk x.cols && colFrom [] x.cols)
  | _, [] => by simp [spFrom, risFrom]
  | none, x :: l => by
    simp only [spFrom, risFrom, sp_split, List.all_cons, List.map_cons, upOk]
    cases nameOk x.name <;> cases wOk x.cols <;> cases colFrom [] x.cols <;> simp
  | some p, x :: l => by
    simp only [spFrom, risFrom, sp_split, List.all_cons, List.map_cons, up_eq, less_eq]
    cases nameOk x.name <;> cases wOk x.cols <;> cases colFrom [] x.cols <;> cases decide (bl p < bl x.name) <;> simp

theorem col_iff : ∀ (p l : List ByteArray), colFrom p l = true ↔ l.all nameOk = true ∧ l.Nodup ∧ ∀ a ∈ l, a ∉ p
  | p, [] => by simp [colFrom]
  | p, a :: l => by
    rw [colFrom, Bool.and_eq_true, Bool.and_eq_true, col_iff (p ++ [a]) l]
    simp only [hasS, List.all_cons, Bool.and_eq_true, List.nodup_cons, List.mem_cons, List.mem_append, List.not_mem_nil, or_false, Bool.not_eq_true', List.any_eq_false, decide_eq_true_eq]
    constructor
    · rintro ⟨⟨h1, h2⟩, h3, h4, h5⟩
      refine ⟨⟨h1, h3⟩, ⟨fun h => h5 a h (.inr rfl), h4⟩, ?_⟩
      rintro b (rfl | hb) hbp
      · exact h2 b hbp rfl
      · exact h5 b hb (.inl hbp)
    · rintro ⟨⟨h1, h3⟩, ⟨h6, h4⟩, h5⟩
      refine ⟨⟨h1, fun x hx hxa => h5 a (.inl rfl) (by rw [← hxa]; exact hx)⟩, h3, h4, ?_⟩
      rintro b hb (h | rfl)
      · exact h5 b (.inr hb) h
      · exact h6 hb
theorem strict_iff : ∀ (l : List ByteArray), (∀ p, strictFrom (some p) l = true ↔ (l.Pairwise fun a b => bl a < bl b) ∧ ∀ a ∈ l, bl p < bl a) ∧ (strictFrom none l = true ↔ l.Pairwise fun a b => bl a < bl b)
  | [] => by simp [strictFrom]
  | a :: l => by
    obtain ⟨ih, _⟩ := strict_iff l
    have h0 : (strictFrom (some a) l = true) ↔ (a :: l).Pairwise (fun a b => bl a < bl b) := by
      rw [ih a, List.pairwise_cons]
      exact And.comm
    refine ⟨fun p => ?_, ?_⟩
    · simp only [strictFrom, Bool.and_eq_true, decide_eq_true_eq]
      rw [h0]
      constructor
      · rintro ⟨h1, h2⟩
        refine ⟨h2, ?_⟩
        intro b hb
        rcases List.mem_cons.1 hb with rfl | hb
        · exact h1
        · exact List.lt_trans h1 ((List.pairwise_cons.1 h2).1 b hb)
      · rintro ⟨h1, h2⟩
        exact ⟨h2 a (List.mem_cons_self ..), h1⟩
    · simp only [strictFrom]
      exact h0

theorem sStr_perm (l : List ByteArray) : (sStr l).Perm l := by
  have h := ((l.map fun s => s.data.toList).mergeSort_perm fun x y => decide (x ≤ y)).map fun s : List UInt8 => (⟨s.toArray⟩ : ByteArray)
  have e : (l.map fun s => s.data.toList).map (fun s : List UInt8 => (⟨s.toArray⟩ : ByteArray)) = l := by
    rw [List.map_map]
    conv => rhs; rw [← List.map_id l]
    apply List.map_congr_left
    intro a _
    simp
  rw [e] at h
  exact h
theorem sStr_sorted (l : List ByteArray) : (sStr l).Pairwise fun a b => bl a ≤ bl b := by
  have h := List.pairwise_mergeSort (le := fun x y : List UInt8 => decide (x ≤ y)) (fun a b c h1 h2 => decide_eq_true (List.le_trans (of_decide_eq_true h1) (of_decide_eq_true h2)))
    (fun a b => by rcases List.le_total a b with h | h <;> simp [h]) (l.map fun s => s.data.toList)
  unfold sStr
  rw [List.pairwise_map]
  refine h.imp ?_
  intro a b hab
  simpa [bl] using hab
theorem rising_sStr (l : List ByteArray) : rising (sStr l) = colFrom [] l := by
  rw [rising, ris_split, Bool.eq_iff_iff, Bool.and_eq_true, (strict_iff (sStr l)).2, col_iff]
  have hp := sStr_perm l
  have ha : (sStr l).all nameOk = l.all nameOk := by
    rw [Bool.eq_iff_iff, List.all_eq_true, List.all_eq_true]
    exact ⟨fun h x hx => h x (hp.mem_iff.2 hx), fun h x hx => h x (hp.mem_iff.1 hx)⟩
  rw [ha, ← hp.nodup_iff]
  refine and_congr_right fun _ => ⟨fun h => ⟨?_, fun a _ h => by cases h⟩, fun ⟨h, _⟩ => ?_⟩
  · exact h.imp fun hab e => by rw [e] at hab; exact List.lt_irrefl _ hab
  · have hs := sStr_sorted l
    refine (hs.and h).imp ?_
    rintro a b ⟨h1, h2⟩
    by_cases h3 : bl a < bl b
    · exact h3
    · exact absurd (bl_inj (List.le_antisymm h1 (List.not_lt.1 h3))) h2
theorem schemas_same (l : List Sc) : (spFrom none l && decide ((l.length : Int) ≤ 20)) = schemasOk l := by
  unfold schemasOk
  rw [sp_split]
  have : (fun x : Sc => wOk x.cols && colFrom [] x.cols) = fun x => colsOk x.cols := by
    funext x
    rw [colsOk, rising_sStr]
    rfl
  rw [this]
  show (rising (l.map Sc.name) && _ && _) = _
  cases rising (l.map Sc.name) <;> cases decide ((l.length : Int) ≤ 20) <;> simp
end Go.Av
end

section
namespace Go.Av
open Go.Proofs
set_option linter.unusedSimpArgs false

theorem szScs_all {l : List Sc} {n : Nat} (h : szScs l ≤ n) : l.length ≤ n ∧ ∀ x ∈ l, x.cols.length ≤ n ∧ x.name.size ≤ n ∧ ∀ c ∈ x.cols, c.size ≤ n := by
  obtain ⟨h1, h2⟩ := szScs_mem h
  refine ⟨h1, fun x hx => ?_⟩
  have h3 := h2 x hx
  unfold szSc at h3
  obtain ⟨h4, h5⟩ := szSs_mem (l := x.cols) (n := n) (by omega)
  exact ⟨h4, by omega, h5⟩
theorem ev_FnExactSchemasOk (l : List Sc) (hlim : (T.sl .any (l.map scC)).lim) : evF cfg 7 [] [.d (.sl .any (l.map scC))] = some (.d (.b true), []) := by
  have hsz := ev_szSchemaS l 1048576 (by omega) (by omega) hlim
  by_cases hb : (1048576 : Int) - (szScs l : Nat) < 0
  · have h1 : left1 1048576 (szScs l) = -1 := left1_neg hb
    have hd : decide ((-1 : Int) < 0) = true := rfl
    (refine (evF_code (C := cfg) (g := 7) (fn := Try.f7) rfl Try.func7 rfl (by rw [Try.ntmps7]; simp) (by kernel_rfl) (by first | decide | simp [keysOf])).trans ?_; rw [Try.results7, Try.ntmps7])
    repeat' (first | with_reducible refine br_split (fun _ => ?_) (fun _ => ?_) | simp only [*, push_cast, Array.reduceGetElem?, Nat.reduceBEq, Nat.reduceLT, Nat.reduceAdd, Nat.reduceSub, Nat.reduceLeDiff, Nat.reduceMul, Nat.reduceEqDiff, reduceCtorEq, Int.reduceAdd, Int.reduceLT, Int.reduceLE, Int.reduceToNat, Int.reduceNeg, Int.reduceSub, Int.reduceBEq, Int.reduceBNe, Int.reduceGT, Int.reduceGE, Nat.reduceGT] | (rw [drawC_ok]; rotate_left; decide +kernel; exact cfg_mixed))
  · have h1 : left1 1048576 (szScs l) = 1048576 - (szScs l : Nat) := left1_pos hb
    have hd : decide ((1048576 : Int) - (szScs l : Nat) < 0) = false := decide_eq_false hb
    have hle : szScs l ≤ 1048576 := by omega
    obtain ⟨c1, c2⟩ := szScs_all hle
    have hto := ev_toSchemaS l hle
    have hsp := ev_sSchemasOk l c1 c2
    rw [schemas_same] at hsp
    have him := ev_SchemasOk l c1 (fun x hx => (c2 x hx).1)
    have heq := ev_eqSchemaS l l hlim
    have hee : decide (l = l) = true := decide_eq_true rfl
    have hbb : (schemasOk l != schemasOk l) = false := by simp
    clear c2
    (refine (evF_code (C := cfg) (g := 7) (fn := Try.f7) rfl Try.func7 rfl (by rw [Try.ntmps7]; simp) (by kernel_rfl) (by first | decide | simp [keysOf])).trans ?_; rw [Try.results7, Try.ntmps7])
    repeat' (first | with_reducible refine br_split (fun _ => ?_) (fun _ => ?_) | simp only [*, push_cast, Array.reduceGetElem?, Nat.reduceBEq, Nat.reduceLT, Nat.reduceAdd, Nat.reduceSub, Nat.reduceLeDiff, Nat.reduceMul, Nat.reduceEqDiff, reduceCtorEq, Int.reduceAdd, Int.reduceLT, Int.reduceLE, Int.reduceToNat, Int.reduceNeg, Int.reduceSub, Int.reduceBEq, Int.reduceBNe, Int.reduceGT, Int.reduceGE, Nat.reduceGT] | (rw [drawC_ok]; rotate_left; decide +kernel; exact cfg_mixed))
end Go.Av
end
