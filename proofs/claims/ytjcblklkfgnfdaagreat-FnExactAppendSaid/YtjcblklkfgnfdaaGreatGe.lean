/- What functions of this seat give. -/
import Derived.Test.YtjcblklkfgnfdaaGreatGd
set_option linter.all false
set_option linter.unusedVariables false
set_option linter.unusedSimpArgs false

section
namespace Go.Av
open Go.Proofs
set_option linter.unusedSimpArgs false

def chFrom : Option ByteArray → List R → Bool
  | _, [] => true
  | p, x :: l => ((nameOk x.name && bagOk x.bag) && upOk p x.name) && chFrom (some x.name) l
theorem ch_split : ∀ (p : Option ByteArray) (l : List R), chFrom p l = (risFrom p (l.map R.name) && l.all fun x => bagOk x.bag)
  | _, [] => by simp [chFrom, risFrom]
  | none, x :: l => by
    simp only [chFrom, risFrom, ch_split, List.all_cons, List.map_cons, upOk]
    cases nameOk x.name <;> cases bagOk x.bag <;> simp
  | some p, x :: l => by
    simp only [chFrom, risFrom, ch_split, List.all_cons, List.map_cons, up_eq, less_eq]
    cases nameOk x.name <;> cases bagOk x.bag <;> cases decide (bl p < bl x.name) <;> simp
def stepTail (kind : Int) (name : ByteArray) (change : List R) : Bool := (decide (kind = 3) && decide (name = noS)) && (decide (1 ≤ (change.length : Int)) && decide ((change.length : Int) ≤ 20))
set_option maxHeartbeats 4000000 in
/-- The loop over a step's changes, and what comes behind it. -/
theorem ev_sStepOk3 (kind : Int) (name : ByteArray) (cols : List ByteArray) (query : ByteArray) (change : List R) (h : szSp ⟨kind, name, cols, query, change⟩ ≤ 1048576) (k0 : ¬ kind = 0) (k1 : ¬ kind = 1) (k2 : ¬ kind = 2)
    (hb : stepBad ⟨kind, name, cols, query, change⟩ = false) :
    evF cfg 32 [] [.agg [.d (.i .i64 kind), .d (.s name), .d (.sl .any (cols.map sC)), .d (.s query), .d (.sl .any (change.map rC))]] = some (.d (.b (chFrom none change && stepTail kind name change)), []) := by
  simp only [szSp] at h
  obtain ⟨c2, c3⟩ := szRs_mem (l := change) (n := 1048576) (by omega)
  have c4 : ∀ x ∈ change, x.name.size ≤ 1048576 ∧ x.bag.rows.length ≤ 1099511627776 ∧ ∀ c ∈ x.bag.rows, c.row.length ≤ 1099511627776 := by
    intro x hx
    have := c3 x hx
    simp only [szR, szB] at this
    obtain ⟨d1, d2⟩ := szCs_mem (l := x.bag.rows) (n := 1048576) (by omega)
    refine ⟨by omega, by omega, fun c hc => ?_⟩
    have := d2 c hc
    simp only [szC] at this
    obtain ⟨e1, _⟩ := szVs_mem (l := c.row) (n := 1048576) (by omega)
    omega
  have e0 : (kind != 0) = true := by simpa using k0
  have e1 : (kind != 1) = true := by simpa using k1
  have f0 : (kind == 0) = false := by simpa using k0
  have f1 : (kind == 1) = false := by simpa using k1
  have f2 : (kind == 2) = false := by simpa using k2
  have hb1 : cols = [] := by
    simp only [stepBad, Bool.or_eq_false_iff, Bool.and_eq_false_iff, decide_eq_false_iff_not] at hb
    rcases hb.1.1 with h | h
    · exact absurd k0 h
    · exact List.eq_nil_of_length_eq_zero (by omega)
  have hb2 : query = noS := by
    simp only [stepBad, Bool.or_eq_false_iff, Bool.and_eq_false_iff, decide_eq_false_iff_not] at hb
    rcases hb.1.2 with h | h
    · exact absurd k1 h
    · exact Classical.not_not.1 h
  have hb3 : ((kind != 3) && decide (0 < change.length)) = false := by
    simp only [stepBad, Bool.or_eq_false_iff] at hb
    have := hb.2
    simpa using this
  subst hb1
  subst hb2
  clear hb k0 k1 k2 c3 h
  unfold noS
  unfold stepTail
  cases k3 : (kind != 3) with
  | true =>
    rw [k3, Bool.true_and] at hb3
    have hc0 : change = [] := List.eq_nil_of_length_eq_zero (by have := of_decide_eq_false hb3; omega)
    have k3' : (kind == 3) = false := by simpa using k3
    have k3'' : decide (kind = 3) = false := by simpa using k3
    subst hc0
    rw [k3'', Bool.false_and, Bool.false_and, Bool.and_false]
    clear hb3 c4 c2 k3''
    (refine (evF_code (C := cfg) (g := 32) (fn := Tryz.f32) rfl Tryz.func32 rfl (by rw [Tryz.ntmps32]; simp) (by kernel_rfl) (by first | decide | simp [keysOf])).trans ?_; rw [Tryz.results32, Tryz.ntmps32])
    repeat' (first | with_reducible refine br_split (fun _ => ?_) (fun _ => ?_) | simp only [*, push_cast, Array.reduceGetElem?, Nat.reduceBEq, Nat.reduceLT, Nat.reduceAdd, Nat.reduceSub, Nat.reduceLeDiff, Nat.reduceMul, Nat.reduceEqDiff, reduceCtorEq, Int.reduceAdd, Int.reduceLT, Int.reduceLE, Int.reduceToNat, Int.reduceNeg, Int.reduceSub, Int.reduceBEq, Int.reduceBNe, Int.reduceGT, Int.reduceGE, Nat.reduceGT] | (rw [drawC_ok]; rotate_left; decide +kernel; exact cfg_mixed))
    rw [evM_eq]
    repeat' (first | with_reducible refine br_split (fun _ => ?_) (fun _ => ?_) | simp only [*, push_cast, Array.reduceGetElem?, Nat.reduceBEq, Nat.reduceLT, Nat.reduceAdd, Nat.reduceSub, Nat.reduceLeDiff, Nat.reduceMul, Nat.reduceEqDiff, reduceCtorEq, Int.reduceAdd, Int.reduceLT, Int.reduceLE, Int.reduceToNat, Int.reduceNeg, Int.reduceSub, Int.reduceBEq, Int.reduceBNe, Int.reduceGT, Int.reduceGE, Nat.reduceGT] | (rw [drawC_ok]; rotate_left; decide +kernel; exact cfg_mixed))
  | false =>
    have k3' : kind = 3 := by simpa using k3
    subst k3'
    clear hb3 e0 e1 f0 f1 f2 k3
    (refine (evF_code (C := cfg) (g := 32) (fn := Tryz.f32) rfl Tryz.func32 rfl (by rw [Tryz.ntmps32]; simp) (by kernel_rfl) (by first | decide | simp [keysOf])).trans ?_; rw [Tryz.results32, Tryz.ntmps32])
    repeat' (first | with_reducible refine br_split (fun _ => ?_) (fun _ => ?_) | simp only [*, push_cast, Array.reduceGetElem?, Nat.reduceBEq, Nat.reduceLT, Nat.reduceAdd, Nat.reduceSub, Nat.reduceLeDiff, Nat.reduceMul, Nat.reduceEqDiff, reduceCtorEq, Int.reduceAdd, Int.reduceLT, Int.reduceLE, Int.reduceToNat, Int.reduceNeg, Int.reduceSub, Int.reduceBEq, Int.reduceBNe, Int.reduceGT, Int.reduceGE, Nat.reduceGT] | (rw [drawC_ok]; rotate_left; decide +kernel; exact cfg_mixed))
    rw [evM_for0 change.length (fun i j => { t := [(1, .ptr 50 0), (3, .d (.i .i64 j))], o := [(50, .box [.d (.i .i64 3), .d (.s name), .d (.sl .any []), .d (.s ⟨#[]⟩), .d (.sl .any (change.map rC))])], ks := [50], n := 0, sz := 120, u := noU })
      (fun i => br (chFrom (prevOf (change.map R.name) i) (change.drop i)) (some (.exit 1, { t := [(1, .ptr 50 0)], o := [(50, .box [.d (.i .i64 3), .d (.s name), .d (.sl .any []), .d (.s ⟨#[]⟩), .d (.sl .any (change.map rC))])], ks := [50], n := 0, sz := 120, u := noU })) (some (.ret, { t := [(2, .d (.b false))], o := [], ks := [], n := 0, sz := 120, u := noU })) ⟨⟩) ?step ?last]
    case step =>
      intro i hi ih
      have hcc : (change.map rC)[i]? = some [.s change[i].name, .i .i64 change[i].bag.w, .sl .any (change[i].bag.rows.map cC)] := get_map rC change i hi
      have hd := dec_lt hi
      have hw := wrap_succ (i := i) (by omega)
      obtain ⟨g1, g2, g3⟩ := c4 _ (List.getElem_mem hi)
      have hn := ev_sNameOk change[i].name (by omega)
      have hbg := ev_sBagOk change[i].bag.w change[i].bag.rows (by omega) g3
      have hdr : change.drop i = change[i] :: change.drop (i + 1) := List.drop_eq_getElem_cons hi
      have hnx : prevOf (change.map R.name) (i + 1) = some change[i].name := by simp [prevOf, hi]
      rw [hnx] at ih
      rw [hdr, chFrom]
      clear hnx hdr c4 g3
      cases hno : nameOk change[i].name with
      | false =>
        rw [Bool.false_and, Bool.false_and, Bool.false_and]
        repeat' (first | with_reducible refine br_split (fun _ => ?_) (fun _ => ?_) | simp only [*, push_cast, Array.reduceGetElem?, Nat.reduceBEq, Nat.reduceLT, Nat.reduceAdd, Nat.reduceSub, Nat.reduceLeDiff, Nat.reduceMul, Nat.reduceEqDiff, reduceCtorEq, Int.reduceAdd, Int.reduceLT, Int.reduceLE, Int.reduceToNat, Int.reduceNeg, Int.reduceSub, Int.reduceBEq, Int.reduceBNe, Int.reduceGT, Int.reduceGE, Nat.reduceGT] | (rw [drawC_ok]; rotate_left; decide +kernel; exact cfg_mixed))
      | true =>
        rw [Bool.true_and]
        cases hbo : bagOk change[i].bag with
        | false =>
          rw [Bool.false_and, Bool.false_and]
          repeat' (first | with_reducible refine br_split (fun _ => ?_) (fun _ => ?_) | simp only [*, push_cast, Array.reduceGetElem?, Nat.reduceBEq, Nat.reduceLT, Nat.reduceAdd, Nat.reduceSub, Nat.reduceLeDiff, Nat.reduceMul, Nat.reduceEqDiff, reduceCtorEq, Int.reduceAdd, Int.reduceLT, Int.reduceLE, Int.reduceToNat, Int.reduceNeg, Int.reduceSub, Int.reduceBEq, Int.reduceBNe, Int.reduceGT, Int.reduceGE, Nat.reduceGT] | (rw [drawC_ok]; rotate_left; decide +kernel; exact cfg_mixed))
        | true =>
          rw [Bool.true_and]
          by_cases h0 : i = 0
          · have hp : prevOf (change.map R.name) i = none := by simp [prevOf, h0]
            have hg : decide ((i : Int) > 0) = false := decide_eq_false (by omega)
            have hu : upOk none change[i].name = true := rfl
            rw [hp, hu, Bool.true_and]
            clear hp h0 hu
            repeat' (first | with_reducible refine br_split (fun _ => ?_) (fun _ => ?_) | simp only [*, push_cast, Array.reduceGetElem?, Nat.reduceBEq, Nat.reduceLT, Nat.reduceAdd, Nat.reduceSub, Nat.reduceLeDiff, Nat.reduceMul, Nat.reduceEqDiff, reduceCtorEq, Int.reduceAdd, Int.reduceLT, Int.reduceLE, Int.reduceToNat, Int.reduceNeg, Int.reduceSub, Int.reduceBEq, Int.reduceBNe, Int.reduceGT, Int.reduceGE, Nat.reduceGT] | (rw [drawC_ok]; rotate_left; decide +kernel; exact cfg_mixed))
          · obtain ⟨q, hq⟩ : ∃ q, q = i - 1 := ⟨_, rfl⟩
            have hqi : q < change.length := by omega
            have hp : prevOf (change.map R.name) i = some change[q].name := by simp [prevOf, h0, hq, List.getElem?_eq_getElem (by omega : i - 1 < change.length)]
            have hg : decide ((i : Int) > 0) = true := decide_eq_true (by omega)
            have hwq : IntKind.i64.wrap ((i : Int) - 1) = (q : Int) := by rw [i64_in (by omega) (by omega)]; omega
            have hcq : (change.map rC)[q]? = some [.s change[q].name, .i .i64 change[q].bag.w, .sl .any (change[q].bag.rows.map cC)] := get_map rC change q hqi
            have hdq := dec_lt hqi
            have hu : upOk (some change[q].name) change[i].name = !(Op.bytesLess change[i].name.toList change[q].name.toList || change[i].name.toList == change[q].name.toList) := rfl
            rw [hp, hu]
            clear hp h0 hu hq
            cases hls : Op.bytesLess change[i].name.toList change[q].name.toList with
            | true =>
              rw [Bool.true_or, Bool.not_true, Bool.false_and]
              repeat' (first | with_reducible refine br_split (fun _ => ?_) (fun _ => ?_) | simp only [*, push_cast, Array.reduceGetElem?, Nat.reduceBEq, Nat.reduceLT, Nat.reduceAdd, Nat.reduceSub, Nat.reduceLeDiff, Nat.reduceMul, Nat.reduceEqDiff, reduceCtorEq, Int.reduceAdd, Int.reduceLT, Int.reduceLE, Int.reduceToNat, Int.reduceNeg, Int.reduceSub, Int.reduceBEq, Int.reduceBNe, Int.reduceGT, Int.reduceGE, Nat.reduceGT] | (rw [drawC_ok]; rotate_left; decide +kernel; exact cfg_mixed))
            | false =>
              rw [Bool.false_or]
              cases hls2 : (change[i].name.toList == change[q].name.toList) with
              | true =>
                rw [Bool.not_true, Bool.false_and]
                repeat' (first | with_reducible refine br_split (fun _ => ?_) (fun _ => ?_) | simp only [*, push_cast, Array.reduceGetElem?, Nat.reduceBEq, Nat.reduceLT, Nat.reduceAdd, Nat.reduceSub, Nat.reduceLeDiff, Nat.reduceMul, Nat.reduceEqDiff, reduceCtorEq, Int.reduceAdd, Int.reduceLT, Int.reduceLE, Int.reduceToNat, Int.reduceNeg, Int.reduceSub, Int.reduceBEq, Int.reduceBNe, Int.reduceGT, Int.reduceGE, Nat.reduceGT] | (rw [drawC_ok]; rotate_left; decide +kernel; exact cfg_mixed))
              | false =>
                rw [Bool.not_false, Bool.true_and]
                repeat' (first | with_reducible refine br_split (fun _ => ?_) (fun _ => ?_) | simp only [*, push_cast, Array.reduceGetElem?, Nat.reduceBEq, Nat.reduceLT, Nat.reduceAdd, Nat.reduceSub, Nat.reduceLeDiff, Nat.reduceMul, Nat.reduceEqDiff, reduceCtorEq, Int.reduceAdd, Int.reduceLT, Int.reduceLE, Int.reduceToNat, Int.reduceNeg, Int.reduceSub, Int.reduceBEq, Int.reduceBNe, Int.reduceGT, Int.reduceGE, Nat.reduceGT] | (rw [drawC_ok]; rotate_left; decide +kernel; exact cfg_mixed))
    case last =>
      have h1 : chFrom (prevOf (change.map R.name) change.length) (change.drop change.length) = true := by
        rw [List.drop_length]
        unfold chFrom
        rfl
      rw [h1]
      clear c4
      repeat' (first | with_reducible refine br_split (fun _ => ?_) (fun _ => ?_) | simp only [*, push_cast, Array.reduceGetElem?, Nat.reduceBEq, Nat.reduceLT, Nat.reduceAdd, Nat.reduceSub, Nat.reduceLeDiff, Nat.reduceMul, Nat.reduceEqDiff, reduceCtorEq, Int.reduceAdd, Int.reduceLT, Int.reduceLE, Int.reduceToNat, Int.reduceNeg, Int.reduceSub, Int.reduceBEq, Int.reduceBNe, Int.reduceGT, Int.reduceGE, Nat.reduceGT] | (rw [drawC_ok]; rotate_left; decide +kernel; exact cfg_mixed))
    · have h1 : chFrom (prevOf (change.map R.name) 0) (change.drop 0) = chFrom none change := by simp [prevOf]
      rw [h1]
      clear c4
      cases chFrom none change with
      | false =>
        rw [Bool.false_and]
        repeat' (first | with_reducible refine br_split (fun _ => ?_) (fun _ => ?_) | simp only [*, push_cast, Array.reduceGetElem?, Nat.reduceBEq, Nat.reduceLT, Nat.reduceAdd, Nat.reduceSub, Nat.reduceLeDiff, Nat.reduceMul, Nat.reduceEqDiff, reduceCtorEq, Int.reduceAdd, Int.reduceLT, Int.reduceLE, Int.reduceToNat, Int.reduceNeg, Int.reduceSub, Int.reduceBEq, Int.reduceBNe, Int.reduceGT, Int.reduceGE, Nat.reduceGT] | (rw [drawC_ok]; rotate_left; decide +kernel; exact cfg_mixed))
      | true =>
        rw [Bool.true_and]
        repeat' (first | with_reducible refine br_split (fun _ => ?_) (fun _ => ?_) | simp only [*, push_cast, Array.reduceGetElem?, Nat.reduceBEq, Nat.reduceLT, Nat.reduceAdd, Nat.reduceSub, Nat.reduceLeDiff, Nat.reduceMul, Nat.reduceEqDiff, reduceCtorEq, Int.reduceAdd, Int.reduceLT, Int.reduceLE, Int.reduceToNat, Int.reduceNeg, Int.reduceSub, Int.reduceBEq, Int.reduceBNe, Int.reduceGT, Int.reduceGE, Nat.reduceGT] | (rw [drawC_ok]; rotate_left; decide +kernel; exact cfg_mixed))
        all_goals simp_all [noS]
end Go.Av
end

section
namespace Go.Av
open Go.Proofs
set_option linter.unusedSimpArgs false

theorem ev_sSchema1 (name : ByteArray) (cols : List ByteArray) (hn : name.size ≤ 1048576) (hl : cols.length ≤ 1048576) (hc : ∀ c ∈ cols, c.size ≤ 1048576) : evF cfg 72 [] [.d (.sl .any [[.s name, .sl .any (cols.map sC)]])] =
    some (.d (.b (nameOk name && colsOk cols)), []) := by
  have h := ev_sSchemasOk [⟨name, cols⟩] (by simp) (by
    intro x hx
    obtain rfl : x = ⟨name, cols⟩ := by simpa using hx
    exact ⟨hl, hn, hc⟩)
  have e : (spFrom none [(⟨name, cols⟩ : Sc)] && decide ((([(⟨name, cols⟩ : Sc)].length : Nat) : Int) ≤ 20)) = (nameOk name && colsOk cols) := by
    rw [schemas_same]
    simp [schemasOk, rising, risFrom]
  rw [e] at h
  exact h
set_option maxHeartbeats 4000000 in
theorem ev_sStepOk (kind : Int) (name : ByteArray) (cols : List ByteArray) (query : ByteArray) (change : List R) (h : szSp ⟨kind, name, cols, query, change⟩ ≤ 1048576) :
    evF cfg 32 [] [.agg [.d (.i .i64 kind), .d (.s name), .d (.sl .any (cols.map sC)), .d (.s query), .d (.sl .any (change.map rC))]] = some (.d (.b (stepOk ⟨kind, name, cols, query, change⟩)), []) := by
  have h' := h
  simp only [szSp] at h
  obtain ⟨c1, c2⟩ := szSs_mem (l := cols) (n := 1048576) (by omega)
  have hsc := ev_sSchema1 name cols (by omega) c1 c2
  have hno := ev_sNameOk name (by omega)
  clear c1 c2 h
  by_cases k0 : kind = 0
  · subst k0
    clear h'
    (refine (evF_code (C := cfg) (g := 32) (fn := Tryz.f32) rfl Tryz.func32 rfl (by rw [Tryz.ntmps32]; simp) (by kernel_rfl) (by first | decide | simp [keysOf])).trans ?_; rw [Tryz.results32, Tryz.ntmps32])
    repeat' (first | with_reducible refine br_split (fun _ => ?_) (fun _ => ?_) | simp only [*, push_cast, Array.reduceGetElem?, Nat.reduceBEq, Nat.reduceLT, Nat.reduceAdd, Nat.reduceSub, Nat.reduceLeDiff, Nat.reduceMul, Nat.reduceEqDiff, reduceCtorEq, Int.reduceAdd, Int.reduceLT, Int.reduceLE, Int.reduceToNat, Int.reduceNeg, Int.reduceSub, Int.reduceBEq, Int.reduceBNe, Int.reduceGT, Int.reduceGE, Nat.reduceGT] | (rw [drawC_ok]; rotate_left; decide +kernel; exact cfg_mixed))
    all_goals simp_all [stepOk, stepBad, stepRest, noS]
  by_cases k1 : kind = 1
  · subst k1
    clear h'
    (refine (evF_code (C := cfg) (g := 32) (fn := Tryz.f32) rfl Tryz.func32 rfl (by rw [Tryz.ntmps32]; simp) (by kernel_rfl) (by first | decide | simp [keysOf])).trans ?_; rw [Tryz.results32, Tryz.ntmps32])
    repeat' (first | with_reducible refine br_split (fun _ => ?_) (fun _ => ?_) | simp only [*, push_cast, Array.reduceGetElem?, Nat.reduceBEq, Nat.reduceLT, Nat.reduceAdd, Nat.reduceSub, Nat.reduceLeDiff, Nat.reduceMul, Nat.reduceEqDiff, reduceCtorEq, Int.reduceAdd, Int.reduceLT, Int.reduceLE, Int.reduceToNat, Int.reduceNeg, Int.reduceSub, Int.reduceBEq, Int.reduceBNe, Int.reduceGT, Int.reduceGE, Nat.reduceGT] | (rw [drawC_ok]; rotate_left; decide +kernel; exact cfg_mixed))
    all_goals simp_all [stepOk, stepBad, stepRest, noS]
  by_cases k2 : kind = 2
  · subst k2
    clear h'
    (refine (evF_code (C := cfg) (g := 32) (fn := Tryz.f32) rfl Tryz.func32 rfl (by rw [Tryz.ntmps32]; simp) (by kernel_rfl) (by first | decide | simp [keysOf])).trans ?_; rw [Tryz.results32, Tryz.ntmps32])
    repeat' (first | with_reducible refine br_split (fun _ => ?_) (fun _ => ?_) | simp only [*, push_cast, Array.reduceGetElem?, Nat.reduceBEq, Nat.reduceLT, Nat.reduceAdd, Nat.reduceSub, Nat.reduceLeDiff, Nat.reduceMul, Nat.reduceEqDiff, reduceCtorEq, Int.reduceAdd, Int.reduceLT, Int.reduceLE, Int.reduceToNat, Int.reduceNeg, Int.reduceSub, Int.reduceBEq, Int.reduceBNe, Int.reduceGT, Int.reduceGE, Nat.reduceGT] | (rw [drawC_ok]; rotate_left; decide +kernel; exact cfg_mixed))
    all_goals simp_all [stepOk, stepBad, stepRest, noS]
  have e0 : (kind != 0) = true := by simpa using k0
  have e1 : (kind != 1) = true := by simpa using k1
  cases hb : stepBad ⟨kind, name, cols, query, change⟩ with
  | false =>
    rw [ev_sStepOk3 kind name cols query change h' k0 k1 k2 hb, ch_split]
    have : stepOk ⟨kind, name, cols, query, change⟩ = ((risFrom none (change.map R.name) && change.all fun x => bagOk x.bag) && stepTail kind name change) := by
      unfold stepOk
      rw [hb]
      simp only [stepRest, k0, k1, k2, if_false, stepTail, rising]
      by_cases k3 : kind = 3
      · simp only [k3, if_true, decide_true, Bool.true_and]
        cases decide (name = noS) <;> cases (decide (1 ≤ (change.length : Int)) && decide ((change.length : Int) ≤ 20)) <;> cases risFrom none (change.map R.name) <;> simp
      · simp [k3]
    rw [this]
  | true =>
    have hr : stepOk ⟨kind, name, cols, query, change⟩ = false := by unfold stepOk; rw [hb]; rfl
    rw [hr]
    have hx : cols.length > 0 ∨ query ≠ noS ∨ (kind ≠ 3 ∧ 0 < change.length) := by
      simp only [stepBad, Bool.or_eq_true, Bool.and_eq_true, decide_eq_true_eq] at hb
      rcases hb with (⟨_, h⟩ | ⟨_, h⟩) | ⟨h1, h2⟩
      · exact .inl h
      · exact .inr (.inl h)
      · exact .inr (.inr ⟨h1, h2⟩)
    clear hb hr h' k0 k1 k2 hsc hno
    rcases hx with hx | hx | ⟨h1, h2⟩
    · have d1 : decide ((cols.length : Int) > 0) = true := decide_eq_true (by omega)
      clear hx
      (refine (evF_code (C := cfg) (g := 32) (fn := Tryz.f32) rfl Tryz.func32 rfl (by rw [Tryz.ntmps32]; simp) (by kernel_rfl) (by first | decide | simp [keysOf])).trans ?_; rw [Tryz.results32, Tryz.ntmps32])
      repeat' (first | with_reducible refine br_split (fun _ => ?_) (fun _ => ?_) | simp only [*, push_cast, Array.reduceGetElem?, Nat.reduceBEq, Nat.reduceLT, Nat.reduceAdd, Nat.reduceSub, Nat.reduceLeDiff, Nat.reduceMul, Nat.reduceEqDiff, reduceCtorEq, Int.reduceAdd, Int.reduceLT, Int.reduceLE, Int.reduceToNat, Int.reduceNeg, Int.reduceSub, Int.reduceBEq, Int.reduceBNe, Int.reduceGT, Int.reduceGE, Nat.reduceGT] | (rw [drawC_ok]; rotate_left; decide +kernel; exact cfg_mixed))
    · cases d1 : decide ((cols.length : Int) > 0) with
      | true =>
        clear hx
        (refine (evF_code (C := cfg) (g := 32) (fn := Tryz.f32) rfl Tryz.func32 rfl (by rw [Tryz.ntmps32]; simp) (by kernel_rfl) (by first | decide | simp [keysOf])).trans ?_; rw [Tryz.results32, Tryz.ntmps32])
        repeat' (first | with_reducible refine br_split (fun _ => ?_) (fun _ => ?_) | simp only [*, push_cast, Array.reduceGetElem?, Nat.reduceBEq, Nat.reduceLT, Nat.reduceAdd, Nat.reduceSub, Nat.reduceLeDiff, Nat.reduceMul, Nat.reduceEqDiff, reduceCtorEq, Int.reduceAdd, Int.reduceLT, Int.reduceLE, Int.reduceToNat, Int.reduceNeg, Int.reduceSub, Int.reduceBEq, Int.reduceBNe, Int.reduceGT, Int.reduceGE, Nat.reduceGT] | (rw [drawC_ok]; rotate_left; decide +kernel; exact cfg_mixed))
      | false =>
        have d2 : decide (query = ⟨#[]⟩) = false := decide_eq_false hx
        clear hx
        (refine (evF_code (C := cfg) (g := 32) (fn := Tryz.f32) rfl Tryz.func32 rfl (by rw [Tryz.ntmps32]; simp) (by kernel_rfl) (by first | decide | simp [keysOf])).trans ?_; rw [Tryz.results32, Tryz.ntmps32])
        repeat' (first | with_reducible refine br_split (fun _ => ?_) (fun _ => ?_) | simp only [*, push_cast, Array.reduceGetElem?, Nat.reduceBEq, Nat.reduceLT, Nat.reduceAdd, Nat.reduceSub, Nat.reduceLeDiff, Nat.reduceMul, Nat.reduceEqDiff, reduceCtorEq, Int.reduceAdd, Int.reduceLT, Int.reduceLE, Int.reduceToNat, Int.reduceNeg, Int.reduceSub, Int.reduceBEq, Int.reduceBNe, Int.reduceGT, Int.reduceGE, Nat.reduceGT] | (rw [drawC_ok]; rotate_left; decide +kernel; exact cfg_mixed))
    · have d4 : (kind != 3) = true := by simpa using h1
      have d5 : decide ((change.length : Int) > 0) = true := decide_eq_true (by omega)
      clear h1 h2
      cases d1 : decide ((cols.length : Int) > 0) with
      | true =>
        (refine (evF_code (C := cfg) (g := 32) (fn := Tryz.f32) rfl Tryz.func32 rfl (by rw [Tryz.ntmps32]; simp) (by kernel_rfl) (by first | decide | simp [keysOf])).trans ?_; rw [Tryz.results32, Tryz.ntmps32])
        repeat' (first | with_reducible refine br_split (fun _ => ?_) (fun _ => ?_) | simp only [*, push_cast, Array.reduceGetElem?, Nat.reduceBEq, Nat.reduceLT, Nat.reduceAdd, Nat.reduceSub, Nat.reduceLeDiff, Nat.reduceMul, Nat.reduceEqDiff, reduceCtorEq, Int.reduceAdd, Int.reduceLT, Int.reduceLE, Int.reduceToNat, Int.reduceNeg, Int.reduceSub, Int.reduceBEq, Int.reduceBNe, Int.reduceGT, Int.reduceGE, Nat.reduceGT] | (rw [drawC_ok]; rotate_left; decide +kernel; exact cfg_mixed))
      | false =>
        cases d2 : decide (query = ⟨#[]⟩) with
        | true =>
          (refine (evF_code (C := cfg) (g := 32) (fn := Tryz.f32) rfl Tryz.func32 rfl (by rw [Tryz.ntmps32]; simp) (by kernel_rfl) (by first | decide | simp [keysOf])).trans ?_; rw [Tryz.results32, Tryz.ntmps32])
          repeat' (first | with_reducible refine br_split (fun _ => ?_) (fun _ => ?_) | simp only [*, push_cast, Array.reduceGetElem?, Nat.reduceBEq, Nat.reduceLT, Nat.reduceAdd, Nat.reduceSub, Nat.reduceLeDiff, Nat.reduceMul, Nat.reduceEqDiff, reduceCtorEq, Int.reduceAdd, Int.reduceLT, Int.reduceLE, Int.reduceToNat, Int.reduceNeg, Int.reduceSub, Int.reduceBEq, Int.reduceBNe, Int.reduceGT, Int.reduceGE, Nat.reduceGT] | (rw [drawC_ok]; rotate_left; decide +kernel; exact cfg_mixed))
        | false =>
          (refine (evF_code (C := cfg) (g := 32) (fn := Tryz.f32) rfl Tryz.func32 rfl (by rw [Tryz.ntmps32]; simp) (by kernel_rfl) (by first | decide | simp [keysOf])).trans ?_; rw [Tryz.results32, Tryz.ntmps32])
          repeat' (first | with_reducible refine br_split (fun _ => ?_) (fun _ => ?_) | simp only [*, push_cast, Array.reduceGetElem?, Nat.reduceBEq, Nat.reduceLT, Nat.reduceAdd, Nat.reduceSub, Nat.reduceLeDiff, Nat.reduceMul, Nat.reduceEqDiff, reduceCtorEq, Int.reduceAdd, Int.reduceLT, Int.reduceLE, Int.reduceToNat, Int.reduceNeg, Int.reduceSub, Int.reduceBEq, Int.reduceBNe, Int.reduceGT, Int.reduceGE, Nat.reduceGT] | (rw [drawC_ok]; rotate_left; decide +kernel; exact cfg_mixed))
end Go.Av
end

section
/- Bytes of numbers, plain. -/
namespace Go.Av
def bs (l : List UInt8) : ByteArray := ⟨l.toArray⟩
theorem bl_bs (l : List UInt8) : bl (bs l) = l := by simp [bl, bs]
theorem bs_bl (x : ByteArray) : bs (bl x) = x := ByteArray.ext (by simp [bl, bs])
theorem bs_inj {l m : List UInt8} (h : bs l = bs m) : l = m := by rw [← bl_bs l, h, bl_bs]
theorem bs_size (l : List UInt8) : (bs l).size = l.length := by simp [bs, ByteArray.size]
theorem bs_app (l m : List UInt8) : bs l ++ bs m = bs (l ++ m) := by
  apply ByteArray.ext
  rw [ByteArray.data_append]
  simp [bs]
theorem bs_appX (l : List UInt8) (x : ByteArray) : bs l ++ x = bs (l ++ bl x) := by rw [← bs_app, bs_bl]
theorem bs_appE (l : List UInt8) : bs l ++ (⟨#[]⟩ : ByteArray) = bs l := by rw [bs_appX]; simp [bl]
theorem size_nil : (⟨#[]⟩ : ByteArray).size = 0 := rfl
theorem bs_nil : (⟨#[]⟩ : ByteArray) = bs [] := rfl
theorem bl_size (x : ByteArray) : (bl x).length = x.size := Array.length_toList
theorem bytesT_bs (l : List UInt8) : bytesT (bs l) = l.map byC := by unfold bytesT bs byC; simp
theorem strOf_map (l : List UInt8) : strOf (l.map byC) = some (bs l) := by rw [← bytesT_bs, strOf_bytesT]
/-- i bytes of a number, the highest first. -/
def beB (n : Nat) : Nat → List UInt8
  | 0 => []
  | i + 1 => UInt8.ofNat (n / 256 ^ i % 256) :: beB n i
theorem beB_len (n : Nat) : ∀ i, (beB n i).length = i
  | 0 => rfl
  | i + 1 => by rw [beB, List.length_cons, beB_len]
def u64 (n : Int) : Nat := (n % 18446744073709551616).toNat
theorem u64_nn {n : Nat} (h : n < 18446744073709551616) : u64 n = n := by unfold u64; omega
/-- The byte at place i from the right. -/
theorem byte_at (n : Int) (i : Nat) (hi : i < 8) : T.i IntKind.u8 (IntKind.u8.wrap (n.fdiv (2 ^ (min (8 * (i : Int)).toNat IntKind.i64.bits)))) = .i .u8 ((UInt8.ofNat (u64 n / 256 ^ i % 256)).toNat : Nat) := by
  have hw : ∀ x : Int, IntKind.u8.wrap x = x % 256 := fun x => by
    have a : ((2 : Int) ^ IntKind.u8.bits) = 256 := by decide
    have c : IntKind.u8.signed = false := rfl
    simp only [IntKind.wrap, a, c, Bool.false_and]
    rfl
  have hb : IntKind.i64.bits = 64 := rfl
  rw [hw, hb]
  congr 1
  have e1 : ∀ m : Nat, m < 256 → (UInt8.ofNat m).toNat = m := fun m h => by simp [UInt8.toNat_ofNat']; omega
  rw [e1 _ (Nat.mod_lt _ (by omega))]
  unfold u64
  match i, hi with
  | 0, _ => simp; omega
  | 1, _ => simp only [show (min (8 * ((1 : Nat) : Int)).toNat 64) = 8 from rfl, show (2 : Int) ^ 8 = 256 from rfl, Nat.pow_one]; rw [Int.fdiv_eq_ediv_of_nonneg _ (by omega)]; omega
  | 2, _ => simp only [show (min (8 * ((2 : Nat) : Int)).toNat 64) = 16 from rfl, show (2 : Int) ^ 16 = 65536 from rfl, show 256 ^ 2 = 65536 from rfl]; rw [Int.fdiv_eq_ediv_of_nonneg _ (by omega)]; omega
  | 3, _ => simp only [show (min (8 * ((3 : Nat) : Int)).toNat 64) = 24 from rfl, show (2 : Int) ^ 24 = 16777216 from rfl, show 256 ^ 3 = 16777216 from rfl]; rw [Int.fdiv_eq_ediv_of_nonneg _ (by omega)]; omega
  | 4, _ => simp only [show (min (8 * ((4 : Nat) : Int)).toNat 64) = 32 from rfl, show (2 : Int) ^ 32 = 4294967296 from rfl, show 256 ^ 4 = 4294967296 from rfl]; rw [Int.fdiv_eq_ediv_of_nonneg _ (by omega)]; omega
  | 5, _ => simp only [show (min (8 * ((5 : Nat) : Int)).toNat 64) = 40 from rfl, show (2 : Int) ^ 40 = 1099511627776 from rfl, show 256 ^ 5 = 1099511627776 from rfl]; rw [Int.fdiv_eq_ediv_of_nonneg _ (by omega)]; omega
  | 6, _ => simp only [show (min (8 * ((6 : Nat) : Int)).toNat 64) = 48 from rfl, show (2 : Int) ^ 48 = 281474976710656 from rfl, show 256 ^ 6 = 281474976710656 from rfl]; rw [Int.fdiv_eq_ediv_of_nonneg _ (by omega)]; omega
  | 7, _ => simp only [show (min (8 * ((7 : Nat) : Int)).toNat 64) = 56 from rfl, show (2 : Int) ^ 56 = 72057594037927936 from rfl, show 256 ^ 7 = 72057594037927936 from rfl]; rw [Int.fdiv_eq_ediv_of_nonneg _ (by omega)]; omega
def dv (n i : Nat) : Nat := n / 256 ^ i
theorem dv_zero (n : Nat) : dv n 0 = n := by simp [dv]
theorem dv_succ (n i : Nat) : dv n (i + 1) = dv n i / 256 := by unfold dv; rw [Nat.pow_succ, ← Nat.div_div_eq_div_mul]
theorem dv_le (n i : Nat) : dv n i ≤ n := Nat.div_le_self ..
theorem beB_succ (n i : Nat) : beB n (i + 1) = UInt8.ofNat (dv n i % 256) :: beB n i := rfl
theorem u8_nat (x : Nat) : IntKind.u8.wrap ((x : Int) % 256) = ((UInt8.ofNat (x % 256)).toNat : Nat) := by
  have a : ((2 : Int) ^ IntKind.u8.bits) = 256 := by decide
  have c : IntKind.u8.signed = false := rfl
  have e1 : (UInt8.ofNat (x % 256)).toNat = x % 256 := by simp [UInt8.toNat_ofNat']
  simp only [IntKind.wrap, a, c, Bool.false_and, e1]
  show ((x : Int) % 256) % 256 = _
  omega
/-- The array that big fills from the right. -/
def bigE (n : Int) (m i : Nat) : List (List T) := List.replicate (m - i) [.i .u8 0] ++ (beB (u64 n) i).map byC
theorem bigE_zero (n : Int) (m : Nat) : List.replicate m [T.i .u8 0] = bigE n m 0 := by simp [bigE, beB]
theorem bigE_full (n : Int) (m : Nat) : bigE n m m = (beB (u64 n) m).map byC := by simp [bigE]
theorem bigE_len (n : Int) {m i : Nat} (h : i ≤ m) : (bigE n m i).length = m := by simp [bigE, beB_len]; omega
theorem bigE_get (n : Int) {m i : Nat} (h : i < m) : (bigE n m i)[m - 1 - i]? = some [.i .u8 0] := by
  unfold bigE
  rw [List.getElem?_append_left (by simp; omega), List.getElem?_replicate, if_pos (by omega)]
theorem bigE_set (n : Int) {m i : Nat} (h : i < m) : (bigE n m i).set (m - 1 - i) [.i .u8 ((UInt8.ofNat (u64 n / 256 ^ i % 256)).toNat : Nat)] = bigE n m (i + 1) := by
  unfold bigE
  rw [List.set_append_left _ _ (by simp; omega)]
  have e : m - i = (m - (i + 1)) + 1 := by omega
  have e2 : m - 1 - i = m - (i + 1) := by omega
  rw [e, List.replicate_succ', e2, List.set_append_right _ _ (by simp)]
  simp only [List.length_replicate, Nat.sub_self, List.set_cons_zero, beB, List.map_cons, List.append_assoc, List.cons_append, List.nil_append]
  rfl
theorem u64_lt (n : Int) : u64 n < 18446744073709551616 := by unfold u64; omega
theorem u64_wrap (n : Int) : IntKind.u64.wrap n = (u64 n : Nat) := by
  have a : ((2 : Int) ^ IntKind.u64.bits) = 18446744073709551616 := by decide
  have c : IntKind.u64.signed = false := rfl
  simp only [IntKind.wrap, a, c, Bool.false_and]
  unfold u64
  show n % 18446744073709551616 = _
  omega
theorem u8_any (n : Int) : IntKind.u8.wrap n = ((UInt8.ofNat (dv (u64 n) 0 % 256)).toNat : Nat) := by
  have a : ((2 : Int) ^ IntKind.u8.bits) = 256 := by decide
  have c : IntKind.u8.signed = false := rfl
  have e1 : ∀ x : Nat, (UInt8.ofNat (x % 256)).toNat = x % 256 := fun x => by simp [UInt8.toNat_ofNat']
  simp only [IntKind.wrap, a, c, Bool.false_and, e1, dv_zero]
  unfold u64
  show n % 256 = _
  omega
def wv (i : Nat) : Nat := 72057594037927936 / 256 ^ i
theorem wv_zero : wv 0 = 72057594037927936 := by simp [wv]
theorem wv_succ (i : Nat) : wv (i + 1) = wv i / 256 := by unfold wv; rw [Nat.pow_succ, ← Nat.div_div_eq_div_mul]
theorem wv_le (i : Nat) : wv i ≤ 72057594037927936 := Nat.div_le_self ..
theorem wv_pos {i : Nat} (h : i < 8) : 0 < wv i := by
  match i, h with
  | 0, _ => decide
  | 1, _ => decide
  | 2, _ => decide
  | 3, _ => decide
  | 4, _ => decide
  | 5, _ => decide
  | 6, _ => decide
  | 7, _ => decide
theorem wv_zeroI : (72057594037927936 : Int) = ((wv 0 : Nat) : Int) := by rw [wv_zero]; rfl
def kb (k : Int) : UInt8 := UInt8.ofNat (dv (u64 k) 0 % 256)
theorem beB1 (k : Int) : beB (u64 k) 1 = [kb k] := rfl
theorem u8_kb (k : Int) : IntKind.u8.wrap k = ((kb k).toNat : Nat) := u8_any k
/-- spec.PutValue's bytes of a number behind i rounds. -/
def arrK (k n : Int) (i : Nat) : List (List T) := (kb k :: (beB (u64 n) 8).take i).map byC
theorem arrK_zero (k n : Int) : [byC (kb k)] = arrK k n 0 := rfl
theorem arrK_full (k n : Int) : arrK k n 8 = (kb k :: beB (u64 n) 8).map byC := rfl
theorem arrK_len (k n : Int) {i : Nat} (h : i ≤ 8) : (arrK k n i).length = i + 1 := by simp [arrK, beB_len]; omega
theorem be8_take (n : Nat) {i : Nat} (h : i < 8) : (beB n 8).take i ++ [UInt8.ofNat (n / wv i % 256)] = (beB n 8).take (i + 1) := by
  match i, h with
  | 0, _ => rfl
  | 1, _ => rfl
  | 2, _ => rfl
  | 3, _ => rfl
  | 4, _ => rfl
  | 5, _ => rfl
  | 6, _ => rfl
  | 7, _ => simp [beB, wv]
theorem arrK_succ (k n : Int) {i : Nat} (h : i < 8) : arrK k n i ++ [byC (UInt8.ofNat (u64 n / wv i % 256))] = arrK k n (i + 1) := by
  unfold arrK
  rw [← be8_take (u64 n) h]
  simp
end Go.Av
end

section
namespace Go.Av
open Go.Proofs
set_option linter.unusedSimpArgs false
attribute [push_cast] strOf_map bs_app
@[push_cast] theorem beB_zero (n : Nat) : beB n 0 = [] := rfl
theorem strEmpty : (⟨#[]⟩ : ByteArray) = bs [] := rfl

/-- So many bytes of a number. -/
theorem ev_big (n : Int) (m : Nat) (hm : m ≤ 8) : evF cfg 41 [] [.d (.i .i64 n), .d (.i .i64 m)] = some (.d (.s (bs (beB (u64 n) m))), []) := by
  have hmk := mk_ok (n := m) 1 (by omega) (by omega)
  have hz := bigE_zero n m
  have hl0 := bigE_len n (m := m) (i := 0) (by omega)
  (refine (evF_code (C := cfg) (g := 41) (fn := Tryz.f41) rfl Tryz.func41 rfl (by rw [Tryz.ntmps41]; simp) (by kernel_rfl) (by first | decide | simp [keysOf])).trans ?_; rw [Tryz.results41, Tryz.ntmps41])
  repeat' (first | with_reducible refine br_split (fun _ => ?_) (fun _ => ?_) | simp only [*, push_cast, Array.reduceGetElem?, Nat.reduceBEq, Nat.reduceLT, Nat.reduceAdd, Nat.reduceSub, Nat.reduceLeDiff, Nat.reduceMul, Nat.reduceEqDiff, reduceCtorEq, Int.reduceAdd, Int.reduceLT, Int.reduceLE, Int.reduceToNat, Int.reduceNeg, Int.reduceSub, Int.reduceBEq, Int.reduceBNe, Int.reduceGT, Int.reduceGE, Nat.reduceGT] | (rw [drawC_ok]; rotate_left; decide +kernel; exact cfg_mixed))
  rw [evM_for0 m (fun i j => { t := [(0, .d (.i .i64 n)), (1, .d (.i .i64 m)), (5, .own 50), (10, .d (.i .i64 m)), (11, .d (.i .i64 j))], o := [(50, .arr (.u8 5) 1 (bigE n m i))], ks := [50], n := 0, sz := 28, u := noU })
    (fun i => some (.exit 0, { t := [(5, .own 50)], o := [(50, .arr (.u8 5) 1 (bigE n m m))], ks := [50], n := 0, sz := 28, u := noU })) ?step ?last]
  case step =>
    intro i hi ih
    have hd := dec_lt hi
    have hw := wrap_succ (i := i) (by omega)
    have h1 : IntKind.i64.wrap ((m : Int) - 1) = ((m - 1 : Nat) : Int) := by rw [i64_in (by omega) (by omega)]; omega
    have h2 : IntKind.i64.wrap (((m - 1 : Nat) : Int) - (i : Int)) = ((m - 1 - i : Nat) : Int) := by rw [i64_in (by omega) (by omega)]; omega
    have h3 : IntKind.i64.wrap (8 * (i : Int)) = 8 * (i : Int) := i64_in (by omega) (by omega)
    have h4 : decide (0 ≤ 8 * (i : Int)) = true := decide_eq_true (by omega)
    have hl := bigE_len n (m := m) (i := i) (by omega)
    have hg := bigE_get n hi
    have hb := byte_at n i (by omega)
    have hs := bigE_set n hi
    have hlt : decide (m - 1 - i < m) = true := decide_eq_true (by omega)
    repeat' (first | with_reducible refine br_split (fun _ => ?_) (fun _ => ?_) | simp only [*, push_cast, Array.reduceGetElem?, Nat.reduceBEq, Nat.reduceLT, Nat.reduceAdd, Nat.reduceSub, Nat.reduceLeDiff, Nat.reduceMul, Nat.reduceEqDiff, reduceCtorEq, Int.reduceAdd, Int.reduceLT, Int.reduceLE, Int.reduceToNat, Int.reduceNeg, Int.reduceSub, Int.reduceBEq, Int.reduceBNe, Int.reduceGT, Int.reduceGE, Nat.reduceGT] | (rw [drawC_ok]; rotate_left; decide +kernel; exact cfg_mixed))
  case last =>
    repeat' (first | with_reducible refine br_split (fun _ => ?_) (fun _ => ?_) | simp only [*, push_cast, Array.reduceGetElem?, Nat.reduceBEq, Nat.reduceLT, Nat.reduceAdd, Nat.reduceSub, Nat.reduceLeDiff, Nat.reduceMul, Nat.reduceEqDiff, reduceCtorEq, Int.reduceAdd, Int.reduceLT, Int.reduceLE, Int.reduceToNat, Int.reduceNeg, Int.reduceSub, Int.reduceBEq, Int.reduceBNe, Int.reduceGT, Int.reduceGE, Nat.reduceGT] | (rw [drawC_ok]; rotate_left; decide +kernel; exact cfg_mixed))
  · have hf := bigE_full n m
    repeat' (first | with_reducible refine br_split (fun _ => ?_) (fun _ => ?_) | simp only [*, push_cast, Array.reduceGetElem?, Nat.reduceBEq, Nat.reduceLT, Nat.reduceAdd, Nat.reduceSub, Nat.reduceLeDiff, Nat.reduceMul, Nat.reduceEqDiff, reduceCtorEq, Int.reduceAdd, Int.reduceLT, Int.reduceLE, Int.reduceToNat, Int.reduceNeg, Int.reduceSub, Int.reduceBEq, Int.reduceBNe, Int.reduceGT, Int.reduceGE, Nat.reduceGT] | (rw [drawC_ok]; rotate_left; decide +kernel; exact cfg_mixed))

@[push_cast] theorem ev_big1 (n : Int) : evF cfg 41 [] [.d (.i .i64 n), .d (.i .i64 1)] = some (.d (.s (bs (beB (u64 n) 1))), []) := ev_big n 1 (by omega)
@[push_cast] theorem ev_big4 (n : Int) : evF cfg 41 [] [.d (.i .i64 n), .d (.i .i64 4)] = some (.d (.s (bs (beB (u64 n) 4))), []) := ev_big n 4 (by omega)
@[push_cast] theorem ev_big8 (n : Int) : evF cfg 41 [] [.d (.i .i64 n), .d (.i .i64 8)] = some (.d (.s (bs (beB (u64 n) 8))), []) := ev_big n 8 (by omega)
attribute [push_cast] beB_len
@[push_cast] theorem strOf_one (b : UInt8) : strOf [[T.i .u8 (b.toNat : Nat)]] = some (bs [b]) := strOf_map [b]
@[push_cast] theorem bs_size' (l : List UInt8) : (bs l).size = l.length := bs_size l
theorem ev_l10Size (x m : Nat) (hm : m ≤ 8) (hx : x ≤ 9223372036854775807) : evF cfg 36 [] [.d (.i .i64 x), .d (.i .i64 m)] = some (.d (.s (bs (beB x m))), []) := by
  (refine (evF_code (C := cfg) (g := 36) (fn := Tryz.f36) rfl Tryz.func36 rfl (by rw [Tryz.ntmps36]; simp) (by kernel_rfl) (by first | decide | simp [keysOf])).trans ?_; rw [Tryz.results36, Tryz.ntmps36])
  repeat' (first | with_reducible refine br_split (fun _ => ?_) (fun _ => ?_) | simp only [*, push_cast, Array.reduceGetElem?, Nat.reduceBEq, Nat.reduceLT, Nat.reduceAdd, Nat.reduceSub, Nat.reduceLeDiff, Nat.reduceMul, Nat.reduceEqDiff, reduceCtorEq, Int.reduceAdd, Int.reduceLT, Int.reduceLE, Int.reduceToNat, Int.reduceNeg, Int.reduceSub, Int.reduceBEq, Int.reduceBNe, Int.reduceGT, Int.reduceGE, Nat.reduceGT] | (rw [drawC_ok]; rotate_left; decide +kernel; exact cfg_mixed))
  rw [strEmpty, ← beB_zero x]
  have e0 : ((dv x 0 : Nat) : Int) = (x : Int) := congrArg (fun y : Nat => (y : Int)) (dv_zero x)
  rw [← e0]
  clear e0
  rw [evM_for0 m (fun i j => { t := [(0, .d (.i .i64 (dv x i : Nat))), (1, .d (.i .i64 m)), (5, .d (.s (bs (beB x i)))), (6, .d (.i .i64 j))], o := [], ks := [], n := 0, sz := 22, u := noU })
    (fun i => some (.exit 0, { t := [(5, .d (.s (bs (beB x m))))], o := [], ks := [], n := 0, sz := 22, u := noU })) ?step ?last]
  case step =>
    intro i hi ih
    have hd := dec_lt hi
    have hw := wrap_succ (i := i) (by omega)
    have hle := dv_le x i
    have h1 : ((dv x i : Nat) : Int).tmod 256 = (dv x i : Int) % 256 := Int.tmod_eq_emod_of_nonneg (by omega)
    have h2 : IntKind.i64.wrap (((dv x i : Nat) : Int).tdiv 256) = ((dv x (i + 1) : Nat) : Int) := by
      rw [Int.tdiv_eq_ediv_of_nonneg (by omega), i64_in (by omega) (by omega), dv_succ]
      omega
    have h3 := u8_nat (dv x i)
    have h4 : UInt8.ofNat (dv x i % 256) :: beB x i = beB x (i + 1) := rfl
    have hbl := beB_len x i
    have h5 : decide (1 + i ≤ 1099511627776) = true := decide_eq_true (by omega)
    have hne : decide ((256 : Int) ≠ 0) = true := rfl
    clear hle
    repeat' (first | with_reducible refine br_split (fun _ => ?_) (fun _ => ?_) | simp only [*, push_cast, Array.reduceGetElem?, Nat.reduceBEq, Nat.reduceLT, Nat.reduceAdd, Nat.reduceSub, Nat.reduceLeDiff, Nat.reduceMul, Nat.reduceEqDiff, reduceCtorEq, Int.reduceAdd, Int.reduceLT, Int.reduceLE, Int.reduceToNat, Int.reduceNeg, Int.reduceSub, Int.reduceBEq, Int.reduceBNe, Int.reduceGT, Int.reduceGE, Nat.reduceGT] | (rw [drawC_ok]; rotate_left; decide +kernel; exact cfg_mixed))
  case last =>
    repeat' (first | with_reducible refine br_split (fun _ => ?_) (fun _ => ?_) | simp only [*, push_cast, Array.reduceGetElem?, Nat.reduceBEq, Nat.reduceLT, Nat.reduceAdd, Nat.reduceSub, Nat.reduceLeDiff, Nat.reduceMul, Nat.reduceEqDiff, reduceCtorEq, Int.reduceAdd, Int.reduceLT, Int.reduceLE, Int.reduceToNat, Int.reduceNeg, Int.reduceSub, Int.reduceBEq, Int.reduceBNe, Int.reduceGT, Int.reduceGE, Nat.reduceGT] | (rw [drawC_ok]; rotate_left; decide +kernel; exact cfg_mixed))
  · repeat' (first | with_reducible refine br_split (fun _ => ?_) (fun _ => ?_) | simp only [*, push_cast, Array.reduceGetElem?, Nat.reduceBEq, Nat.reduceLT, Nat.reduceAdd, Nat.reduceSub, Nat.reduceLeDiff, Nat.reduceMul, Nat.reduceEqDiff, reduceCtorEq, Int.reduceAdd, Int.reduceLT, Int.reduceLE, Int.reduceToNat, Int.reduceNeg, Int.reduceSub, Int.reduceBEq, Int.reduceBNe, Int.reduceGT, Int.reduceGE, Nat.reduceGT] | (rw [drawC_ok]; rotate_left; decide +kernel; exact cfg_mixed))
/-- A text behind so many bytes of how many bytes it has. -/
theorem ev_sized (s : ByteArray) (m : Nat) (hm : m ≤ 8) (hs : s.size ≤ 1099511627000) : evF cfg 42 [] [.d (.s s), .d (.i .i64 m)] = some (.d (.s (bs (beB s.size m ++ bl s))), []) := by
  have hb := ev_big s.size m hm
  have hu : u64 (s.size : Int) = s.size := u64_nn (by omega)
  rw [hu] at hb
  have hl := beB_len s.size m
  have h5 : decide (m + s.size ≤ 1099511627776) = true := decide_eq_true (by omega)
  have ha := bs_appX (beB s.size m) s
  clear hu hs
  (refine (evF_code (C := cfg) (g := 42) (fn := Tryz.f42) rfl Tryz.func42 rfl (by rw [Tryz.ntmps42]; simp) (by kernel_rfl) (by first | decide | simp [keysOf])).trans ?_; rw [Tryz.results42, Tryz.ntmps42])
  repeat' (first | with_reducible refine br_split (fun _ => ?_) (fun _ => ?_) | simp only [*, push_cast, Array.reduceGetElem?, Nat.reduceBEq, Nat.reduceLT, Nat.reduceAdd, Nat.reduceSub, Nat.reduceLeDiff, Nat.reduceMul, Nat.reduceEqDiff, reduceCtorEq, Int.reduceAdd, Int.reduceLT, Int.reduceLE, Int.reduceToNat, Int.reduceNeg, Int.reduceSub, Int.reduceBEq, Int.reduceBNe, Int.reduceGT, Int.reduceGE, Nat.reduceGT] | (rw [drawC_ok]; rotate_left; decide +kernel; exact cfg_mixed))
theorem ev_l10Text (s : ByteArray) (m : Nat) (hm : m ≤ 8) (hs : s.size ≤ 1099511627000) : evF cfg 37 [] [.d (.s s), .d (.i .i64 m)] = some (.d (.s (bs (beB s.size m ++ bl s))), []) := by
  have hb := ev_l10Size s.size m hm (by omega)
  have hl := beB_len s.size m
  have h5 : decide (m + s.size ≤ 1099511627776) = true := decide_eq_true (by omega)
  have ha := bs_appX (beB s.size m) s
  clear hs
  (refine (evF_code (C := cfg) (g := 37) (fn := Tryz.f37) rfl Tryz.func37 rfl (by rw [Tryz.ntmps37]; simp) (by kernel_rfl) (by first | decide | simp [keysOf])).trans ?_; rw [Tryz.results37, Tryz.ntmps37])
  repeat' (first | with_reducible refine br_split (fun _ => ?_) (fun _ => ?_) | simp only [*, push_cast, Array.reduceGetElem?, Nat.reduceBEq, Nat.reduceLT, Nat.reduceAdd, Nat.reduceSub, Nat.reduceLeDiff, Nat.reduceMul, Nat.reduceEqDiff, reduceCtorEq, Int.reduceAdd, Int.reduceLT, Int.reduceLE, Int.reduceToNat, Int.reduceNeg, Int.reduceSub, Int.reduceBEq, Int.reduceBNe, Int.reduceGT, Int.reduceGE, Nat.reduceGT] | (rw [drawC_ok]; rotate_left; decide +kernel; exact cfg_mixed))
@[push_cast] theorem ev_number (n : Int) : evF cfg 82 [] [.d (.i .i64 n)] = some (.agg [.d (.i .i64 1), .d (.i .i64 n), .d (.s ⟨#[]⟩)], []) := by
  (refine (evF_code (C := cfg) (g := 82) (fn := Tryz.f82) rfl Tryz.func82 rfl (by rw [Tryz.ntmps82]; simp) (by kernel_rfl) (by first | decide | simp [keysOf])).trans ?_; rw [Tryz.results82, Tryz.ntmps82])
  repeat' (first | with_reducible refine br_split (fun _ => ?_) (fun _ => ?_) | simp only [*, push_cast, Array.reduceGetElem?, Nat.reduceBEq, Nat.reduceLT, Nat.reduceAdd, Nat.reduceSub, Nat.reduceLeDiff, Nat.reduceMul, Nat.reduceEqDiff, reduceCtorEq, Int.reduceAdd, Int.reduceLT, Int.reduceLE, Int.reduceToNat, Int.reduceNeg, Int.reduceSub, Int.reduceBEq, Int.reduceBNe, Int.reduceGT, Int.reduceGE, Nat.reduceGT] | (rw [drawC_ok]; rotate_left; decide +kernel; exact cfg_mixed))
@[push_cast] theorem ev_l01Int (n : Int) : evF cfg 78 [] [.d (.i .i64 n)] = some (.agg [.d (.i .i64 1), .d (.i .i64 n), .d (.s ⟨#[]⟩)], []) := by
  (refine (evF_code (C := cfg) (g := 78) (fn := Tryz.f78) rfl Tryz.func78 rfl (by rw [Tryz.ntmps78]; simp) (by kernel_rfl) (by first | decide | simp [keysOf])).trans ?_; rw [Tryz.results78, Tryz.ntmps78])
  repeat' (first | with_reducible refine br_split (fun _ => ?_) (fun _ => ?_) | simp only [*, push_cast, Array.reduceGetElem?, Nat.reduceBEq, Nat.reduceLT, Nat.reduceAdd, Nat.reduceSub, Nat.reduceLeDiff, Nat.reduceMul, Nat.reduceEqDiff, reduceCtorEq, Int.reduceAdd, Int.reduceLT, Int.reduceLE, Int.reduceToNat, Int.reduceNeg, Int.reduceSub, Int.reduceBEq, Int.reduceBNe, Int.reduceGT, Int.reduceGE, Nat.reduceGT] | (rw [drawC_ok]; rotate_left; decide +kernel; exact cfg_mixed))
end Go.Av
end

section
namespace Go.Av
open Go.Proofs
set_option linter.unusedSimpArgs false
/-- The bytes of a value. -/
def pvL (v : V) : List UInt8 :=
  if valueOk v = true then beB (u64 v.k) 1 ++ (if v.k = 1 then beB (u64 v.n) 8 else if v.k = 2 then beB (u64 v.n) 1 else if v.k = 3 then beB v.s.size 1 ++ bl v.s else []) else []
theorem valueOk_size {v : V} (h : valueOk v = true) (h3 : v.k = 3) : v.s.size ≤ 100 := by
  simp [valueOk, h3] at h
  omega
theorem ev_PutValue (k n : Int) (s : ByteArray) : evF cfg 81 [] [.agg [.d (.i .i64 k), .d (.i .i64 n), .d (.s s)]] = some (.d (.s (bs (pvL ⟨k, n, s⟩))), []) := by
  cases hv : valueOk ⟨k, n, s⟩ with
  | false =>
    have hr : pvL ⟨k, n, s⟩ = [] := by simp [pvL, hv]
    have he := strEmpty
    rw [hr, ← he]
    clear he hr
    (refine (evF_code (C := cfg) (g := 81) (fn := Tryz.f81) rfl Tryz.func81 rfl (by rw [Tryz.ntmps81]; simp) (by kernel_rfl) (by first | decide | simp [keysOf])).trans ?_; rw [Tryz.results81, Tryz.ntmps81])
    repeat' (first | with_reducible refine br_split (fun _ => ?_) (fun _ => ?_) | simp only [*, push_cast, Array.reduceGetElem?, Nat.reduceBEq, Nat.reduceLT, Nat.reduceAdd, Nat.reduceSub, Nat.reduceLeDiff, Nat.reduceMul, Nat.reduceEqDiff, reduceCtorEq, Int.reduceAdd, Int.reduceLT, Int.reduceLE, Int.reduceToNat, Int.reduceNeg, Int.reduceSub, Int.reduceBEq, Int.reduceBNe, Int.reduceGT, Int.reduceGE, Nat.reduceGT] | (rw [drawC_ok]; rotate_left; decide +kernel; exact cfg_mixed))
  | true =>
    by_cases h1 : k = 1
    · subst h1
      have hr : pvL ⟨1, n, s⟩ = beB (u64 1) 1 ++ beB (u64 n) 8 := by simp [pvL, hv]
      rw [hr]
      clear hr
      (refine (evF_code (C := cfg) (g := 81) (fn := Tryz.f81) rfl Tryz.func81 rfl (by rw [Tryz.ntmps81]; simp) (by kernel_rfl) (by first | decide | simp [keysOf])).trans ?_; rw [Tryz.results81, Tryz.ntmps81])
      repeat' (first | with_reducible refine br_split (fun _ => ?_) (fun _ => ?_) | simp only [*, push_cast, Array.reduceGetElem?, Nat.reduceBEq, Nat.reduceLT, Nat.reduceAdd, Nat.reduceSub, Nat.reduceLeDiff, Nat.reduceMul, Nat.reduceEqDiff, reduceCtorEq, Int.reduceAdd, Int.reduceLT, Int.reduceLE, Int.reduceToNat, Int.reduceNeg, Int.reduceSub, Int.reduceBEq, Int.reduceBNe, Int.reduceGT, Int.reduceGE, Nat.reduceGT] | (rw [drawC_ok]; rotate_left; decide +kernel; exact cfg_mixed))
    by_cases h2 : k = 2
    · subst h2
      have hr : pvL ⟨2, n, s⟩ = beB (u64 2) 1 ++ beB (u64 n) 1 := by simp [pvL, hv]
      rw [hr]
      clear hr h1
      (refine (evF_code (C := cfg) (g := 81) (fn := Tryz.f81) rfl Tryz.func81 rfl (by rw [Tryz.ntmps81]; simp) (by kernel_rfl) (by first | decide | simp [keysOf])).trans ?_; rw [Tryz.results81, Tryz.ntmps81])
      repeat' (first | with_reducible refine br_split (fun _ => ?_) (fun _ => ?_) | simp only [*, push_cast, Array.reduceGetElem?, Nat.reduceBEq, Nat.reduceLT, Nat.reduceAdd, Nat.reduceSub, Nat.reduceLeDiff, Nat.reduceMul, Nat.reduceEqDiff, reduceCtorEq, Int.reduceAdd, Int.reduceLT, Int.reduceLE, Int.reduceToNat, Int.reduceNeg, Int.reduceSub, Int.reduceBEq, Int.reduceBNe, Int.reduceGT, Int.reduceGE, Nat.reduceGT] | (rw [drawC_ok]; rotate_left; decide +kernel; exact cfg_mixed))
    by_cases h3 : k = 3
    · subst h3
      have hsz := valueOk_size hv rfl
      simp only [] at hsz
      have hu : u64 (s.size : Int) = s.size := u64_nn (by omega)
      have hr : pvL ⟨3, n, s⟩ = (beB (u64 3) 1 ++ beB s.size 1) ++ bl s := by simp [pvL, hv]
      have ha := bs_appX (beB (u64 3) 1 ++ beB s.size 1) s
      have hd : decide (1 + 1 + s.size ≤ 1099511627776) = true := decide_eq_true (by omega)
      have hd2 : decide (2 + s.size ≤ 1099511627776) = true := decide_eq_true (by omega)
      rw [hr, ← ha]
      clear hr h1 h2 hsz ha
      (refine (evF_code (C := cfg) (g := 81) (fn := Tryz.f81) rfl Tryz.func81 rfl (by rw [Tryz.ntmps81]; simp) (by kernel_rfl) (by first | decide | simp [keysOf])).trans ?_; rw [Tryz.results81, Tryz.ntmps81])
      repeat' (first | with_reducible refine br_split (fun _ => ?_) (fun _ => ?_) | simp only [*, push_cast, Array.reduceGetElem?, Nat.reduceBEq, Nat.reduceLT, Nat.reduceAdd, Nat.reduceSub, Nat.reduceLeDiff, Nat.reduceMul, Nat.reduceEqDiff, reduceCtorEq, Int.reduceAdd, Int.reduceLT, Int.reduceLE, Int.reduceToNat, Int.reduceNeg, Int.reduceSub, Int.reduceBEq, Int.reduceBNe, Int.reduceGT, Int.reduceGE, Nat.reduceGT] | (rw [drawC_ok]; rotate_left; decide +kernel; exact cfg_mixed))
    · have e1 : (k == 1) = false := by simpa using h1
      have e2 : (k == 2) = false := by simpa using h2
      have e3 : (k == 3) = false := by simpa using h3
      have hr : pvL ⟨k, n, s⟩ = beB (u64 k) 1 := by simp [pvL, hv, h1, h2, h3]
      rw [hr]
      clear hr h1 h2 h3
      (refine (evF_code (C := cfg) (g := 81) (fn := Tryz.f81) rfl Tryz.func81 rfl (by rw [Tryz.ntmps81]; simp) (by kernel_rfl) (by first | decide | simp [keysOf])).trans ?_; rw [Tryz.results81, Tryz.ntmps81])
      repeat' (first | with_reducible refine br_split (fun _ => ?_) (fun _ => ?_) | simp only [*, push_cast, Array.reduceGetElem?, Nat.reduceBEq, Nat.reduceLT, Nat.reduceAdd, Nat.reduceSub, Nat.reduceLeDiff, Nat.reduceMul, Nat.reduceEqDiff, reduceCtorEq, Int.reduceAdd, Int.reduceLT, Int.reduceLE, Int.reduceToNat, Int.reduceNeg, Int.reduceSub, Int.reduceBEq, Int.reduceBNe, Int.reduceGT, Int.reduceGE, Nat.reduceGT] | (rw [drawC_ok]; rotate_left; decide +kernel; exact cfg_mixed))
attribute [push_cast] bs_appE size_nil
@[push_cast] theorem ml1 : decide (1 ≤ maxLen) = true := by decide
@[push_cast] theorem ml2 : decide (2 ≤ maxLen) = true := by decide
@[push_cast] theorem by_one (b : UInt8) : [T.i .u8 (b.toNat : Nat)] = byC b := rfl
@[push_cast] theorem byC_len (b : UInt8) : (byC b).length = 1 := rfl
theorem strOf_by (l : List UInt8) (x : UInt8) : strOf (byC x :: l.map byC) = some (bs (x :: l)) := strOf_map (x :: l)
@[push_cast] theorem strOf_by1 (x : UInt8) : strOf [byC x] = some (bs [x]) := strOf_map [x]
@[push_cast] theorem strOf_by2 (x y : UInt8) : strOf [byC x, byC y] = some (bs [x, y]) := strOf_map [x, y]
theorem ev_sPutValue (k n : Int) (s : ByteArray) : evF cfg 77 [] [.agg [.d (.i .i64 k), .d (.i .i64 n), .d (.s s)]] = some (.d (.s (bs (pvL ⟨k, n, s⟩))), []) := by
  cases hv : valueOk ⟨k, n, s⟩ with
  | false =>
    have hr : pvL ⟨k, n, s⟩ = [] := by simp [pvL, hv]
    have he := strEmpty
    rw [hr, ← he]
    clear he hr
    (refine (evF_code (C := cfg) (g := 77) (fn := Tryz.f77) rfl Tryz.func77 rfl (by rw [Tryz.ntmps77]; simp) (by kernel_rfl) (by first | decide | simp [keysOf])).trans ?_; rw [Tryz.results77, Tryz.ntmps77])
    repeat' (first | with_reducible refine br_split (fun _ => ?_) (fun _ => ?_) | simp only [*, push_cast, Array.reduceGetElem?, Nat.reduceBEq, Nat.reduceLT, Nat.reduceAdd, Nat.reduceSub, Nat.reduceLeDiff, Nat.reduceMul, Nat.reduceEqDiff, reduceCtorEq, Int.reduceAdd, Int.reduceLT, Int.reduceLE, Int.reduceToNat, Int.reduceNeg, Int.reduceSub, Int.reduceBEq, Int.reduceBNe, Int.reduceGT, Int.reduceGE, Nat.reduceGT] | (rw [drawC_ok]; rotate_left; decide +kernel; exact cfg_mixed))
  | true =>
    have hu := u8_kb k
    by_cases h1 : k = 1
    · subst h1
      have hs0 : s = ⟨#[]⟩ := by
        simp [valueOk] at hv
        exact hv
      have hn := u64_wrap n
      have hr : pvL ⟨1, n, s⟩ = beB (u64 1) 1 ++ beB (u64 n) 8 := by simp [pvL, hv]
      rw [hr, beB1]
      subst hs0
      clear hr
      have hl := u64_lt n
      (refine (evF_code (C := cfg) (g := 77) (fn := Tryz.f77) rfl Tryz.func77 rfl (by rw [Tryz.ntmps77]; simp) (by kernel_rfl) (by first | decide | simp [keysOf])).trans ?_; rw [Tryz.results77, Tryz.ntmps77])
      repeat' (first | with_reducible refine br_split (fun _ => ?_) (fun _ => ?_) | simp only [*, push_cast, Array.reduceGetElem?, Nat.reduceBEq, Nat.reduceLT, Nat.reduceAdd, Nat.reduceSub, Nat.reduceLeDiff, Nat.reduceMul, Nat.reduceEqDiff, reduceCtorEq, Int.reduceAdd, Int.reduceLT, Int.reduceLE, Int.reduceToNat, Int.reduceNeg, Int.reduceSub, Int.reduceBEq, Int.reduceBNe, Int.reduceGT, Int.reduceGE, Nat.reduceGT] | (rw [drawC_ok]; rotate_left; decide +kernel; exact cfg_mixed))
      rw [wv_zeroI, arrK_zero 1 n]
      rw [evM_for0 8 (fun i j => { t := [(1, .ptr 50 0), (3, .own 51), (4, .d (.i .u64 (u64 n : Nat))), (5, .d (.i .u64 (wv i : Nat))), (6, .d (.i .i64 j))], o := [(50, .box [.d (.i .i64 1), .d (.i .i64 n), .d (.s ⟨#[]⟩)]), (51, .arr (.u8 5) 1 (arrK 1 n i))], ks := [50, 51], n := 0, sz := 57, u := noU })
        (fun i => some (.exit 1, { t := [(1, .ptr 50 0), (3, .own 51)], o := [(50, .box [.d (.i .i64 1), .d (.i .i64 n), .d (.s ⟨#[]⟩)]), (51, .arr (.u8 5) 1 ((kb 1 :: beB (u64 n) 8).map byC))], ks := [50, 51], n := 0, sz := 57, u := noU })) ?step ?last]
      case step =>
        intro i hi ih
        have hd : decide ((i : Int) < 8) = true := decide_eq_true (by omega)
        have hw := wrap_succ (i := i) (by omega)
        have hp := wv_pos hi
        have hle := wv_le i
        have hne : decide (((wv i : Nat) : Int) ≠ 0) = true := decide_eq_true (by omega)
        have hq : IntKind.u64.wrap (((u64 n : Nat) : Int).tdiv (wv i : Nat)) = ((u64 n / wv i : Nat) : Int) := by
          rw [u64_wrap, Int.tdiv_eq_ediv_of_nonneg (by omega)]
          have h1 : ((u64 n : Nat) : Int) / ((wv i : Nat) : Int) = ((u64 n / wv i : Nat) : Int) := by simp
          have h2 : u64 n / wv i ≤ u64 n := Nat.div_le_self ..
          rw [h1, u64_nn (by omega)]
        have hne2 : decide ((256 : Int) ≠ 0) = true := rfl
        have hq2 : IntKind.u64.wrap (((wv i : Nat) : Int).tdiv 256) = ((wv (i + 1) : Nat) : Int) := by
          rw [u64_wrap, Int.tdiv_eq_ediv_of_nonneg (by omega), wv_succ]
          have h1 : ((wv i : Nat) : Int) / 256 = ((wv i / 256 : Nat) : Int) := by omega
          rw [h1, u64_nn (by omega)]
        have ha := arrK_succ 1 n hi
        have hal := arrK_len 1 n (i := i) (by omega)
        have hc := len_ok (n := i + 1 + 1) 1 (by omega) (by omega)
        obtain ⟨q, hqq⟩ : ∃ q, q = u64 n / wv i := ⟨_, rfl⟩
        rw [← hqq] at hq ha
        have hm : ((q : Nat) : Int).tmod 256 = (q : Int) % 256 := Int.tmod_eq_emod_of_nonneg (by omega)
        have h8 := u8_nat q
        clear hqq hp hle
        repeat' (first | with_reducible refine br_split (fun _ => ?_) (fun _ => ?_) | simp only [*, push_cast, Array.reduceGetElem?, Nat.reduceBEq, Nat.reduceLT, Nat.reduceAdd, Nat.reduceSub, Nat.reduceLeDiff, Nat.reduceMul, Nat.reduceEqDiff, reduceCtorEq, Int.reduceAdd, Int.reduceLT, Int.reduceLE, Int.reduceToNat, Int.reduceNeg, Int.reduceSub, Int.reduceBEq, Int.reduceBNe, Int.reduceGT, Int.reduceGE, Nat.reduceGT] | (rw [drawC_ok]; rotate_left; decide +kernel; exact cfg_mixed))
      case last =>
        have hf := arrK_full 1 n
        have hd : decide ((8 : Int) < 8) = false := rfl
        repeat' (first | with_reducible refine br_split (fun _ => ?_) (fun _ => ?_) | simp only [*, push_cast, Array.reduceGetElem?, Nat.reduceBEq, Nat.reduceLT, Nat.reduceAdd, Nat.reduceSub, Nat.reduceLeDiff, Nat.reduceMul, Nat.reduceEqDiff, reduceCtorEq, Int.reduceAdd, Int.reduceLT, Int.reduceLE, Int.reduceToNat, Int.reduceNeg, Int.reduceSub, Int.reduceBEq, Int.reduceBNe, Int.reduceGT, Int.reduceGE, Nat.reduceGT] | (rw [drawC_ok]; rotate_left; decide +kernel; exact cfg_mixed))
      · have hs := strOf_by (beB (u64 n) 8) (kb 1)
        repeat' (first | with_reducible refine br_split (fun _ => ?_) (fun _ => ?_) | simp only [*, push_cast, Array.reduceGetElem?, Nat.reduceBEq, Nat.reduceLT, Nat.reduceAdd, Nat.reduceSub, Nat.reduceLeDiff, Nat.reduceMul, Nat.reduceEqDiff, reduceCtorEq, Int.reduceAdd, Int.reduceLT, Int.reduceLE, Int.reduceToNat, Int.reduceNeg, Int.reduceSub, Int.reduceBEq, Int.reduceBNe, Int.reduceGT, Int.reduceGE, Nat.reduceGT] | (rw [drawC_ok]; rotate_left; decide +kernel; exact cfg_mixed))
    have e1 : (k == 1) = false := by simpa using h1
    by_cases h2 : k = 2
    · subst h2
      have hs0 : s = ⟨#[]⟩ := by
        simp [valueOk] at hv
        exact hv.2
      have hr : pvL ⟨2, n, s⟩ = [kb 2, kb n] := by simp [pvL, hv, beB1]
      have hn := u8_kb n
      rw [hr]
      subst hs0
      clear hr h1
      (refine (evF_code (C := cfg) (g := 77) (fn := Tryz.f77) rfl Tryz.func77 rfl (by rw [Tryz.ntmps77]; simp) (by kernel_rfl) (by first | decide | simp [keysOf])).trans ?_; rw [Tryz.results77, Tryz.ntmps77])
      repeat' (first | with_reducible refine br_split (fun _ => ?_) (fun _ => ?_) | simp only [*, push_cast, Array.reduceGetElem?, Nat.reduceBEq, Nat.reduceLT, Nat.reduceAdd, Nat.reduceSub, Nat.reduceLeDiff, Nat.reduceMul, Nat.reduceEqDiff, reduceCtorEq, Int.reduceAdd, Int.reduceLT, Int.reduceLE, Int.reduceToNat, Int.reduceNeg, Int.reduceSub, Int.reduceBEq, Int.reduceBNe, Int.reduceGT, Int.reduceGE, Nat.reduceGT] | (rw [drawC_ok]; rotate_left; decide +kernel; exact cfg_mixed))
    have e2 : (k == 2) = false := by simpa using h2
    by_cases h3 : k = 3
    · subst h3
      have hsz := valueOk_size hv rfl
      simp only [] at hsz
      have hr : pvL ⟨3, n, s⟩ = [kb 3, kb (s.size : Int)] ++ bl s := by
        simp [pvL, hv, beB1]
        have := beB1 (s.size : Int)
        rw [u64_nn (by omega)] at this
        rw [this]
        rfl
      have hn := u8_kb (s.size : Int)
      have hx := bs_appX [kb 3, kb (s.size : Int)] s
      have hd2 : decide (2 + s.size ≤ 1099511627776) = true := decide_eq_true (by omega)
      rw [hr, ← hx]
      clear hr h1 h2 hx hsz
      (refine (evF_code (C := cfg) (g := 77) (fn := Tryz.f77) rfl Tryz.func77 rfl (by rw [Tryz.ntmps77]; simp) (by kernel_rfl) (by first | decide | simp [keysOf])).trans ?_; rw [Tryz.results77, Tryz.ntmps77])
      repeat' (first | with_reducible refine br_split (fun _ => ?_) (fun _ => ?_) | simp only [*, push_cast, Array.reduceGetElem?, Nat.reduceBEq, Nat.reduceLT, Nat.reduceAdd, Nat.reduceSub, Nat.reduceLeDiff, Nat.reduceMul, Nat.reduceEqDiff, reduceCtorEq, Int.reduceAdd, Int.reduceLT, Int.reduceLE, Int.reduceToNat, Int.reduceNeg, Int.reduceSub, Int.reduceBEq, Int.reduceBNe, Int.reduceGT, Int.reduceGE, Nat.reduceGT] | (rw [drawC_ok]; rotate_left; decide +kernel; exact cfg_mixed))
    · have e3 : (k == 3) = false := by simpa using h3
      have hs0 : s = ⟨#[]⟩ := by
        by_cases h0 : k = 0
        · subst h0
          simp [valueOk] at hv
          exact hv.2
        · exfalso
          simp [valueOk, h0, h1, h2, h3] at hv
      have hr : pvL ⟨k, n, s⟩ = [kb k] := by simp [pvL, hv, h1, h2, h3, beB1]
      rw [hr]
      subst hs0
      clear hr h1 h2 h3
      (refine (evF_code (C := cfg) (g := 77) (fn := Tryz.f77) rfl Tryz.func77 rfl (by rw [Tryz.ntmps77]; simp) (by kernel_rfl) (by first | decide | simp [keysOf])).trans ?_; rw [Tryz.results77, Tryz.ntmps77])
      repeat' (first | with_reducible refine br_split (fun _ => ?_) (fun _ => ?_) | simp only [*, push_cast, Array.reduceGetElem?, Nat.reduceBEq, Nat.reduceLT, Nat.reduceAdd, Nat.reduceSub, Nat.reduceLeDiff, Nat.reduceMul, Nat.reduceEqDiff, reduceCtorEq, Int.reduceAdd, Int.reduceLT, Int.reduceLE, Int.reduceToNat, Int.reduceNeg, Int.reduceSub, Int.reduceBEq, Int.reduceBNe, Int.reduceGT, Int.reduceGE, Nat.reduceGT] | (rw [drawC_ok]; rotate_left; decide +kernel; exact cfg_mixed))
end Go.Av
end
