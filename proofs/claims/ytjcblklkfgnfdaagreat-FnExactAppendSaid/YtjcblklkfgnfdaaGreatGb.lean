/- What functions of this seat give. -/
import Derived.Test.YtjcblklkfgnfdaaGreatGa
set_option linter.all false
set_option linter.unusedVariables false
set_option linter.unusedSimpArgs false

section
namespace Go.Av
open Go.Proofs
set_option linter.unusedSimpArgs false

def valueOk (v : V) : Bool :=
  if v.k = 0 then decide (v.n = 0) && decide (v.s = ⟨#[]⟩)
  else if v.k = 1 then decide (v.s = ⟨#[]⟩)
  else if v.k = 2 then (decide (0 ≤ v.n) && decide (v.n ≤ 1)) && decide (v.s = ⟨#[]⟩)
  else if v.k = 3 then decide (v.n = 0) && decide ((v.s.size : Int) ≤ 100)
  else false
@[push_cast] theorem ev_l01In (x a b : Int) : evF cfg 75 [] [.d (.i .i64 x), .d (.i .i64 a), .d (.i .i64 b)] = some (.d (.b (decide (a ≤ x) && decide (x ≤ b))), []) := by
  (refine (evF_code (C := cfg) (g := 75) (fn := Tryz.f75) rfl Tryz.func75 rfl (by rw [Tryz.ntmps75]; simp) (by kernel_rfl) (by first | decide | simp [keysOf])).trans ?_; rw [Tryz.results75, Tryz.ntmps75])
  repeat' (first | with_reducible refine br_split (fun _ => ?_) (fun _ => ?_) | simp only [*, push_cast, Array.reduceGetElem?, Nat.reduceBEq, Nat.reduceLT, Nat.reduceAdd, Nat.reduceSub, Nat.reduceLeDiff, Nat.reduceMul, Nat.reduceEqDiff, reduceCtorEq, Int.reduceAdd, Int.reduceLT, Int.reduceLE, Int.reduceToNat, Int.reduceNeg, Int.reduceSub, Int.reduceBEq, Int.reduceBNe, Int.reduceGT, Int.reduceGE, Nat.reduceGT] | (rw [drawC_ok]; rotate_left; decide +kernel; exact cfg_mixed))
@[push_cast] theorem ev_within (x a b : Int) : evF cfg 66 [] [.d (.i .i64 x), .d (.i .i64 a), .d (.i .i64 b)] = some (.d (.b (decide (a ≤ x) && decide (x ≤ b))), []) := by
  (refine (evF_code (C := cfg) (g := 66) (fn := Tryz.f66) rfl Tryz.func66 rfl (by rw [Tryz.ntmps66]; simp) (by kernel_rfl) (by first | decide | simp [keysOf])).trans ?_; rw [Tryz.results66, Tryz.ntmps66])
  repeat' (first | with_reducible refine br_split (fun _ => ?_) (fun _ => ?_) | simp only [*, push_cast, Array.reduceGetElem?, Nat.reduceBEq, Nat.reduceLT, Nat.reduceAdd, Nat.reduceSub, Nat.reduceLeDiff, Nat.reduceMul, Nat.reduceEqDiff, reduceCtorEq, Int.reduceAdd, Int.reduceLT, Int.reduceLE, Int.reduceToNat, Int.reduceNeg, Int.reduceSub, Int.reduceBEq, Int.reduceBNe, Int.reduceGT, Int.reduceGE, Nat.reduceGT] | (rw [drawC_ok]; rotate_left; decide +kernel; exact cfg_mixed))
@[push_cast] theorem ev_sValueOk (k n : Int) (s : ByteArray) : evF cfg 110 [] [.agg [.d (.i .i64 k), .d (.i .i64 n), .d (.s s)]] = some (.d (.b (valueOk ⟨k, n, s⟩)), []) := by
  (refine (evF_code (C := cfg) (g := 110) (fn := Tryz.f110) rfl Tryz.func110 rfl (by rw [Tryz.ntmps110]; simp) (by kernel_rfl) (by first | decide | simp [keysOf])).trans ?_; rw [Tryz.results110, Tryz.ntmps110])
  repeat' (first | with_reducible refine br_split (fun _ => ?_) (fun _ => ?_) | simp only [*, push_cast, Array.reduceGetElem?, Nat.reduceBEq, Nat.reduceLT, Nat.reduceAdd, Nat.reduceSub, Nat.reduceLeDiff, Nat.reduceMul, Nat.reduceEqDiff, reduceCtorEq, Int.reduceAdd, Int.reduceLT, Int.reduceLE, Int.reduceToNat, Int.reduceNeg, Int.reduceSub, Int.reduceBEq, Int.reduceBNe, Int.reduceGT, Int.reduceGE, Nat.reduceGT] | (rw [drawC_ok]; rotate_left; decide +kernel; exact cfg_mixed))
  all_goals simp_all [valueOk]
  all_goals omega
@[push_cast] theorem ev_ValueOk (k n : Int) (s : ByteArray) : evF cfg 113 [] [.agg [.d (.i .i64 k), .d (.i .i64 n), .d (.s s)]] = some (.d (.b (valueOk ⟨k, n, s⟩)), []) := by
  (refine (evF_code (C := cfg) (g := 113) (fn := Tryz.f113) rfl Tryz.func113 rfl (by rw [Tryz.ntmps113]; simp) (by kernel_rfl) (by first | decide | simp [keysOf])).trans ?_; rw [Tryz.results113, Tryz.ntmps113])
  repeat' (first | with_reducible refine br_split (fun _ => ?_) (fun _ => ?_) | simp only [*, push_cast, Array.reduceGetElem?, Nat.reduceBEq, Nat.reduceLT, Nat.reduceAdd, Nat.reduceSub, Nat.reduceLeDiff, Nat.reduceMul, Nat.reduceEqDiff, reduceCtorEq, Int.reduceAdd, Int.reduceLT, Int.reduceLE, Int.reduceToNat, Int.reduceNeg, Int.reduceSub, Int.reduceBEq, Int.reduceBNe, Int.reduceGT, Int.reduceGE, Nat.reduceGT] | (rw [drawC_ok]; rotate_left; decide +kernel; exact cfg_mixed))
  all_goals simp_all [valueOk]
  all_goals omega

def cmpI (a b : Int) : Int := if a < b then -1 else if a > b then 1 else 0
def cmpS (a b : ByteArray) : Int := Go.Lib.compareBytes a.data.toList b.data.toList
def cmpV (a b : V) : Int := if cmpI a.k b.k ≠ 0 then cmpI a.k b.k else if cmpI a.n b.n ≠ 0 then cmpI a.n b.n else cmpS a.s b.s
theorem cb_spec : ∀ (x y : List UInt8), Go.Lib.compareBytes x y = if Op.bytesLess x y then -1 else if x = y then 0 else 1
  | [], [] => by simp [Go.Lib.compareBytes, Op.bytesLess]
  | [], _ :: _ => by simp [Go.Lib.compareBytes, Op.bytesLess]
  | _ :: _, [] => by simp [Go.Lib.compareBytes, Op.bytesLess]
  | a :: x, b :: y => by
    have ih := cb_spec x y
    unfold Go.Lib.compareBytes Op.bytesLess
    by_cases h : a < b
    · simp [h]
    · by_cases h2 : b < a
      · have : a ≠ b := fun e => by subst e; exact h h2
        simp [h, h2, this]
      · have : a = b := UInt8.le_antisymm (UInt8.not_lt.1 h2) (UInt8.not_lt.1 h)
        subst this
        simp [h, ih]
theorem cmpS_spec (x y : ByteArray) : cmpS x y = if Op.bytesLess x.toList y.toList then -1 else if x = y then 0 else 1 := by
  rw [cmpS, cb_spec, ba_toList, ba_toList]
  have : (x.data.toList = y.data.toList) = (x = y) := propext ⟨fun e => ByteArray.ext (Array.toList_inj.1 e), fun e => by rw [e]⟩
  simp only [this]

@[push_cast] theorem ev_isNaNI (a : Int) : evF cfg 166 [] [.d (.i .i64 a)] = some (.d (.b false), []) := by
  (refine (evF_code (C := cfg) (g := 166) (fn := Tryz.f166) rfl Tryz.func166 rfl (by rw [Tryz.ntmps166]; simp) (by kernel_rfl) (by first | decide | simp [keysOf])).trans ?_; rw [Tryz.results166, Tryz.ntmps166])
  repeat' (first | with_reducible refine br_split (fun _ => ?_) (fun _ => ?_) | simp only [*, push_cast, Array.reduceGetElem?, Nat.reduceBEq, Nat.reduceLT, Nat.reduceAdd, Nat.reduceSub, Nat.reduceLeDiff, Nat.reduceMul, Nat.reduceEqDiff, reduceCtorEq, Int.reduceAdd, Int.reduceLT, Int.reduceLE, Int.reduceToNat, Int.reduceNeg, Int.reduceSub, Int.reduceBEq, Int.reduceBNe, Int.reduceGT, Int.reduceGE, Nat.reduceGT] | (rw [drawC_ok]; rotate_left; decide +kernel; exact cfg_mixed))
@[push_cast] theorem ev_cmpI (a b : Int) : evF cfg 148 [] [.d (.i .i64 a), .d (.i .i64 b)] = some (.d (.i .i64 (cmpI a b)), []) := by
  (refine (evF_code (C := cfg) (g := 148) (fn := Tryz.f148) rfl Tryz.func148 rfl (by rw [Tryz.ntmps148]; simp) (by kernel_rfl) (by first | decide | simp [keysOf])).trans ?_; rw [Tryz.results148, Tryz.ntmps148])
  repeat' (first | with_reducible refine br_split (fun _ => ?_) (fun _ => ?_) | simp only [*, push_cast, Array.reduceGetElem?, Nat.reduceBEq, Nat.reduceLT, Nat.reduceAdd, Nat.reduceSub, Nat.reduceLeDiff, Nat.reduceMul, Nat.reduceEqDiff, reduceCtorEq, Int.reduceAdd, Int.reduceLT, Int.reduceLE, Int.reduceToNat, Int.reduceNeg, Int.reduceSub, Int.reduceBEq, Int.reduceBNe, Int.reduceGT, Int.reduceGE, Nat.reduceGT] | (rw [drawC_ok]; rotate_left; decide +kernel; exact cfg_mixed))
  · simp_all [cmpI]
  · simp_all [cmpI]
  · simp_all [cmpI]
    have h1 : ¬ a < b := by omega
    have h2 : ¬ b < a := by omega
    simp [h1, h2]
@[push_cast] theorem ev_cmpStr (a b : ByteArray) : evF cfg 167 [] [.d (.s a), .d (.s b)] = some (.d (.i .i64 (cmpS a b)), []) := by
  (refine (evF_code (C := cfg) (g := 167) (fn := Tryz.f167) rfl Tryz.func167 rfl (by rw [Tryz.ntmps167]; simp) (by kernel_rfl) (by first | decide | simp [keysOf])).trans ?_; rw [Tryz.results167, Tryz.ntmps167])
  repeat' (first | with_reducible refine br_split (fun _ => ?_) (fun _ => ?_) | simp only [*, cmpE, push_cast, Array.reduceGetElem?, Nat.reduceBEq, Nat.reduceLT, Nat.reduceAdd, Nat.reduceSub, Nat.reduceLeDiff, Nat.reduceMul, Nat.reduceEqDiff, reduceCtorEq, Int.reduceAdd, Int.reduceLT, Int.reduceLE, Int.reduceToNat, Int.reduceNeg, Int.reduceSub, Int.reduceBEq, Int.reduceBNe, Int.reduceGT, Int.reduceGE, Nat.reduceGT] | (rw [drawC_ok]; rotate_left; decide +kernel; exact cfg_mixed))
  rfl
@[push_cast] theorem ev_stringsCompare (a b : ByteArray) : evF cfg 149 [] [.d (.s a), .d (.s b)] = some (.d (.i .i64 (cmpS a b)), []) := by
  (refine (evF_code (C := cfg) (g := 149) (fn := Tryz.f149) rfl Tryz.func149 rfl (by rw [Tryz.ntmps149]; simp) (by kernel_rfl) (by first | decide | simp [keysOf])).trans ?_; rw [Tryz.results149, Tryz.ntmps149])
  repeat' (first | with_reducible refine br_split (fun _ => ?_) (fun _ => ?_) | simp only [*, push_cast, Array.reduceGetElem?, Nat.reduceBEq, Nat.reduceLT, Nat.reduceAdd, Nat.reduceSub, Nat.reduceLeDiff, Nat.reduceMul, Nat.reduceEqDiff, reduceCtorEq, Int.reduceAdd, Int.reduceLT, Int.reduceLE, Int.reduceToNat, Int.reduceNeg, Int.reduceSub, Int.reduceBEq, Int.reduceBNe, Int.reduceGT, Int.reduceGE, Nat.reduceGT] | (rw [drawC_ok]; rotate_left; decide +kernel; exact cfg_mixed))
theorem ev_cmpOr3 (a b c : Int) : evF cfg 147 [] [.d (.sl .any [[.i .i64 a], [.i .i64 b], [.i .i64 c]])] = some (.d (.i .i64 (if a ≠ 0 then a else if b ≠ 0 then b else c)), []) := by
  (refine (evF_code (C := cfg) (g := 147) (fn := Tryz.f147) rfl Tryz.func147 rfl (by rw [Tryz.ntmps147]; simp) (by kernel_rfl) (by first | decide | simp [keysOf])).trans ?_; rw [Tryz.results147, Tryz.ntmps147])
  repeat' (first | with_reducible refine br_split (fun _ => ?_) (fun _ => ?_) | simp only [*, push_cast, Array.reduceGetElem?, Nat.reduceBEq, Nat.reduceLT, Nat.reduceAdd, Nat.reduceSub, Nat.reduceLeDiff, Nat.reduceMul, Nat.reduceEqDiff, reduceCtorEq, Int.reduceAdd, Int.reduceLT, Int.reduceLE, Int.reduceToNat, Int.reduceNeg, Int.reduceSub, Int.reduceBEq, Int.reduceBNe, Int.reduceGT, Int.reduceGE, Nat.reduceGT] | (rw [drawC_ok]; rotate_left; decide +kernel; exact cfg_mixed))
  rw [evM_eq]
  repeat' (first | with_reducible refine br_split (fun _ => ?_) (fun _ => ?_) | simp only [*, push_cast, Array.reduceGetElem?, Nat.reduceBEq, Nat.reduceLT, Nat.reduceAdd, Nat.reduceSub, Nat.reduceLeDiff, Nat.reduceMul, Nat.reduceEqDiff, reduceCtorEq, Int.reduceAdd, Int.reduceLT, Int.reduceLE, Int.reduceToNat, Int.reduceNeg, Int.reduceSub, Int.reduceBEq, Int.reduceBNe, Int.reduceGT, Int.reduceGE, Nat.reduceGT] | (rw [drawC_ok]; rotate_left; decide +kernel; exact cfg_mixed))
  · simp_all
  rw [evM_eq]
  repeat' (first | with_reducible refine br_split (fun _ => ?_) (fun _ => ?_) | simp only [*, push_cast, Array.reduceGetElem?, Nat.reduceBEq, Nat.reduceLT, Nat.reduceAdd, Nat.reduceSub, Nat.reduceLeDiff, Nat.reduceMul, Nat.reduceEqDiff, reduceCtorEq, Int.reduceAdd, Int.reduceLT, Int.reduceLE, Int.reduceToNat, Int.reduceNeg, Int.reduceSub, Int.reduceBEq, Int.reduceBNe, Int.reduceGT, Int.reduceGE, Nat.reduceGT] | (rw [drawC_ok]; rotate_left; decide +kernel; exact cfg_mixed))
  · simp_all
  rw [evM_eq]
  repeat' (first | with_reducible refine br_split (fun _ => ?_) (fun _ => ?_) | simp only [*, push_cast, Array.reduceGetElem?, Nat.reduceBEq, Nat.reduceLT, Nat.reduceAdd, Nat.reduceSub, Nat.reduceLeDiff, Nat.reduceMul, Nat.reduceEqDiff, reduceCtorEq, Int.reduceAdd, Int.reduceLT, Int.reduceLE, Int.reduceToNat, Int.reduceNeg, Int.reduceSub, Int.reduceBEq, Int.reduceBNe, Int.reduceGT, Int.reduceGE, Nat.reduceGT] | (rw [drawC_ok]; rotate_left; decide +kernel; exact cfg_mixed))
  · simp_all
  rw [evM_eq]
  repeat' (first | with_reducible refine br_split (fun _ => ?_) (fun _ => ?_) | simp only [*, push_cast, Array.reduceGetElem?, Nat.reduceBEq, Nat.reduceLT, Nat.reduceAdd, Nat.reduceSub, Nat.reduceLeDiff, Nat.reduceMul, Nat.reduceEqDiff, reduceCtorEq, Int.reduceAdd, Int.reduceLT, Int.reduceLE, Int.reduceToNat, Int.reduceNeg, Int.reduceSub, Int.reduceBEq, Int.reduceBNe, Int.reduceGT, Int.reduceGE, Nat.reduceGT] | (rw [drawC_ok]; rotate_left; decide +kernel; exact cfg_mixed))
  · simp_all
theorem ev_CompareValue (k n k' n' : Int) (s s' : ByteArray) : evF cfg 132 [] [.agg [.d (.i .i64 k), .d (.i .i64 n), .d (.s s)], .agg [.d (.i .i64 k'), .d (.i .i64 n'), .d (.s s')]] = some (.d (.i .i64 (cmpV ⟨k, n, s⟩ ⟨k', n', s'⟩)), []) := by
  have ho := ev_cmpOr3
  (refine (evF_code (C := cfg) (g := 132) (fn := Tryz.f132) rfl Tryz.func132 rfl (by rw [Tryz.ntmps132]; simp) (by kernel_rfl) (by first | decide | simp [keysOf])).trans ?_; rw [Tryz.results132, Tryz.ntmps132])
  repeat' (first | with_reducible refine br_split (fun _ => ?_) (fun _ => ?_) | simp only [*, push_cast, Array.reduceGetElem?, Nat.reduceBEq, Nat.reduceLT, Nat.reduceAdd, Nat.reduceSub, Nat.reduceLeDiff, Nat.reduceMul, Nat.reduceEqDiff, reduceCtorEq, Int.reduceAdd, Int.reduceLT, Int.reduceLE, Int.reduceToNat, Int.reduceNeg, Int.reduceSub, Int.reduceBEq, Int.reduceBNe, Int.reduceGT, Int.reduceGE, Nat.reduceGT] | (rw [drawC_ok]; rotate_left; decide +kernel; exact cfg_mixed))
  rfl
theorem ev_sCompareValue (k n k' n' : Int) (s s' : ByteArray) : evF cfg 133 [] [.agg [.d (.i .i64 k), .d (.i .i64 n), .d (.s s)], .agg [.d (.i .i64 k'), .d (.i .i64 n'), .d (.s s')]] = some (.d (.i .i64 (cmpV ⟨k, n, s⟩ ⟨k', n', s'⟩)), []) := by
  (refine (evF_code (C := cfg) (g := 133) (fn := Tryz.f133) rfl Tryz.func133 rfl (by rw [Tryz.ntmps133]; simp) (by kernel_rfl) (by first | decide | simp [keysOf])).trans ?_; rw [Tryz.results133, Tryz.ntmps133])
  repeat' (first | with_reducible refine br_split (fun _ => ?_) (fun _ => ?_) | simp only [*, push_cast, Array.reduceGetElem?, Nat.reduceBEq, Nat.reduceLT, Nat.reduceAdd, Nat.reduceSub, Nat.reduceLeDiff, Nat.reduceMul, Nat.reduceEqDiff, reduceCtorEq, Int.reduceAdd, Int.reduceLT, Int.reduceLE, Int.reduceToNat, Int.reduceNeg, Int.reduceSub, Int.reduceBEq, Int.reduceBNe, Int.reduceGT, Int.reduceGE, Nat.reduceGT] | (rw [drawC_ok]; rotate_left; decide +kernel; exact cfg_mixed))
  all_goals simp_all [cmpV, cmpI, cmpS_spec]
  all_goals (repeat' split)
  all_goals first
    | omega
    | simp_all
    | (intros; omega)
  all_goals first | omega | (intros; omega)
end Go.Av
end

section
namespace Go.Av
open Go.Proofs
set_option linter.unusedSimpArgs false

def cmpRow : List V → List V → Int
  | [], [] => 0
  | [], _ :: _ => -1
  | _ :: _, [] => 1
  | a :: x, b :: y => if cmpV a b ≠ 0 then cmpV a b else cmpRow x y
/-- What the loop of CompareFunc finds. -/
def cmpL1 : List V → List V → Int
  | [], _ => 0
  | _ :: _, [] => 1
  | a :: x, b :: y => if cmpV a b ≠ 0 then cmpV a b else cmpL1 x y
def cmpL2 : List V → List V → Int
  | [], _ => 0
  | _ :: _, [] => 0
  | a :: x, b :: y => if cmpV a b ≠ 0 then cmpV a b else cmpL2 x y
theorem cmpRow_1 : ∀ a b : List V, cmpRow a b = if cmpL1 a b ≠ 0 then cmpL1 a b else if a.length < b.length then -1 else 0
  | [], [] => rfl
  | [], _ :: _ => by simp [cmpRow, cmpL1]
  | _ :: _, [] => by simp [cmpRow, cmpL1]
  | a :: x, b :: y => by
    have := cmpRow_1 x y
    simp only [cmpRow, cmpL1, List.length_cons]
    by_cases h : cmpV a b ≠ 0
    · simp [h]
    · simp only [h, if_false]
      rw [this]
      simp
theorem cmpRow_2 : ∀ a b : List V, cmpRow a b = if cmpL2 a b ≠ 0 then cmpL2 a b else if a.length < b.length then -1 else if b.length < a.length then 1 else 0
  | [], [] => rfl
  | [], _ :: _ => by simp [cmpRow, cmpL2]
  | _ :: _, [] => by simp [cmpRow, cmpL2]
  | a :: x, b :: y => by
    have := cmpRow_2 x y
    simp only [cmpRow, cmpL2, List.length_cons]
    by_cases h : cmpV a b ≠ 0
    · simp [h]
    · simp only [h, if_false]
      rw [this]
      simp
attribute [push_cast] ev_CompareValue ev_sCompareValue

theorem ev_CompareFunc (a b : List V) (hl : a.length ≤ 1099511627776) : evF cfg 131 []
    [.d (.sl .any (a.map vC)), .d (.sl .any (b.map vC)), .clo 132 []] = some (.d (.i .i64 (cmpRow a b)), []) := by
  (refine (evF_code (C := cfg) (g := 131) (fn := Tryz.f131) rfl Tryz.func131 rfl (by rw [Tryz.ntmps131]; simp) (by kernel_rfl) (by first | decide | simp [keysOf])).trans ?_; rw [Tryz.results131, Tryz.ntmps131])
  repeat' (first | with_reducible refine br_split (fun _ => ?_) (fun _ => ?_) | simp only [*, push_cast, Array.reduceGetElem?, Nat.reduceBEq, Nat.reduceLT, Nat.reduceAdd, Nat.reduceSub, Nat.reduceLeDiff, Nat.reduceMul, Nat.reduceEqDiff, reduceCtorEq, Int.reduceAdd, Int.reduceLT, Int.reduceLE, Int.reduceToNat, Int.reduceNeg, Int.reduceSub, Int.reduceBEq, Int.reduceBNe, Int.reduceGT, Int.reduceGE, Nat.reduceGT] | (rw [drawC_ok]; rotate_left; decide +kernel; exact cfg_mixed))
  rw [evM_for0 a.length (fun i j => { t := [(0, .d (.sl .any (a.map vC))), (1, .d (.sl .any (b.map vC))), (2, .clo 132 []), (11, .d (.sl .any (a.map vC))), (12, .d (.i .i64 a.length)), (13, .d (.i .i64 j))], o := [], ks := [], n := 0, sz := 39, u := noU })
    (fun i => br (cmpL1 (a.drop i) (b.drop i) != 0) (some (.ret, { t := [(6, .d (.i .i64 (cmpL1 (a.drop i) (b.drop i))))], o := [], ks := [], n := 0, sz := 39, u := noU })) (some (.exit 0, { t := [(0, .d (.sl .any (a.map vC))), (1, .d (.sl .any (b.map vC)))], o := [], ks := [], n := 0, sz := 39, u := noU })) ⟨⟩) ?step ?last]
  case step =>
    intro i hi ih
    have hc : (a.map vC)[i]? = some [.i .i64 a[i].k, .i .i64 a[i].n, .s a[i].s] := get_map vC a i hi
    have hd := dec_lt hi
    have hw := wrap_succ (i := i) (by omega)
    rw [List.drop_eq_getElem_cons hi]
    by_cases hb : i < b.length
    · have hc2 : (b.map vC)[i]? = some [.i .i64 b[i].k, .i .i64 b[i].n, .s b[i].s] := get_map vC b i hb
      have hg : decide ((i : Int) ≥ (b.length : Int)) = false := decide_eq_false (by omega)
      rw [List.drop_eq_getElem_cons hb, cmpL1]
      by_cases he : cmpV a[i] b[i] ≠ 0
      · have h1 : (cmpV a[i] b[i] != 0) = true := by simpa using he
        rw [if_pos he]
        clear he
        repeat' (first | with_reducible refine br_split (fun _ => ?_) (fun _ => ?_) | simp only [*, push_cast, Array.reduceGetElem?, Nat.reduceBEq, Nat.reduceLT, Nat.reduceAdd, Nat.reduceSub, Nat.reduceLeDiff, Nat.reduceMul, Nat.reduceEqDiff, reduceCtorEq, Int.reduceAdd, Int.reduceLT, Int.reduceLE, Int.reduceToNat, Int.reduceNeg, Int.reduceSub, Int.reduceBEq, Int.reduceBNe, Int.reduceGT, Int.reduceGE, Nat.reduceGT] | (rw [drawC_ok]; rotate_left; decide +kernel; exact cfg_mixed))
      · have h1 : (cmpV a[i] b[i] != 0) = false := by simpa using he
        rw [if_neg he]
        clear he
        repeat' (first | with_reducible refine br_split (fun _ => ?_) (fun _ => ?_) | simp only [*, push_cast, Array.reduceGetElem?, Nat.reduceBEq, Nat.reduceLT, Nat.reduceAdd, Nat.reduceSub, Nat.reduceLeDiff, Nat.reduceMul, Nat.reduceEqDiff, reduceCtorEq, Int.reduceAdd, Int.reduceLT, Int.reduceLE, Int.reduceToNat, Int.reduceNeg, Int.reduceSub, Int.reduceBEq, Int.reduceBNe, Int.reduceGT, Int.reduceGE, Nat.reduceGT] | (rw [drawC_ok]; rotate_left; decide +kernel; exact cfg_mixed))
    · have hg : decide ((i : Int) ≥ (b.length : Int)) = true := decide_eq_true (by omega)
      rw [List.drop_eq_nil_of_le (by omega : b.length ≤ i), cmpL1]
      have h1 : ((1 : Int) != 0) = true := rfl
      repeat' (first | with_reducible refine br_split (fun _ => ?_) (fun _ => ?_) | simp only [*, push_cast, Array.reduceGetElem?, Nat.reduceBEq, Nat.reduceLT, Nat.reduceAdd, Nat.reduceSub, Nat.reduceLeDiff, Nat.reduceMul, Nat.reduceEqDiff, reduceCtorEq, Int.reduceAdd, Int.reduceLT, Int.reduceLE, Int.reduceToNat, Int.reduceNeg, Int.reduceSub, Int.reduceBEq, Int.reduceBNe, Int.reduceGT, Int.reduceGE, Nat.reduceGT] | (rw [drawC_ok]; rotate_left; decide +kernel; exact cfg_mixed))
  case last =>
    rw [List.drop_length, cmpL1]
    have h1 : ((0 : Int) != 0) = false := rfl
    repeat' (first | with_reducible refine br_split (fun _ => ?_) (fun _ => ?_) | simp only [*, push_cast, Array.reduceGetElem?, Nat.reduceBEq, Nat.reduceLT, Nat.reduceAdd, Nat.reduceSub, Nat.reduceLeDiff, Nat.reduceMul, Nat.reduceEqDiff, reduceCtorEq, Int.reduceAdd, Int.reduceLT, Int.reduceLE, Int.reduceToNat, Int.reduceNeg, Int.reduceSub, Int.reduceBEq, Int.reduceBNe, Int.reduceGT, Int.reduceGE, Nat.reduceGT] | (rw [drawC_ok]; rotate_left; decide +kernel; exact cfg_mixed))
  · rw [List.drop_zero, List.drop_zero, cmpRow_1]
    by_cases he : cmpL1 a b ≠ 0
    · have h1 : (cmpL1 a b != 0) = true := by simpa using he
      rw [if_pos he]
      clear he
      repeat' (first | with_reducible refine br_split (fun _ => ?_) (fun _ => ?_) | simp only [*, push_cast, Array.reduceGetElem?, Nat.reduceBEq, Nat.reduceLT, Nat.reduceAdd, Nat.reduceSub, Nat.reduceLeDiff, Nat.reduceMul, Nat.reduceEqDiff, reduceCtorEq, Int.reduceAdd, Int.reduceLT, Int.reduceLE, Int.reduceToNat, Int.reduceNeg, Int.reduceSub, Int.reduceBEq, Int.reduceBNe, Int.reduceGT, Int.reduceGE, Nat.reduceGT] | (rw [drawC_ok]; rotate_left; decide +kernel; exact cfg_mixed))
    · have h1 : (cmpL1 a b != 0) = false := by simpa using he
      rw [if_neg he]
      clear he
      by_cases hx : a.length < b.length
      · rw [if_pos hx]
        have := dec_lt hx
        repeat' (first | with_reducible refine br_split (fun _ => ?_) (fun _ => ?_) | simp only [*, push_cast, Array.reduceGetElem?, Nat.reduceBEq, Nat.reduceLT, Nat.reduceAdd, Nat.reduceSub, Nat.reduceLeDiff, Nat.reduceMul, Nat.reduceEqDiff, reduceCtorEq, Int.reduceAdd, Int.reduceLT, Int.reduceLE, Int.reduceToNat, Int.reduceNeg, Int.reduceSub, Int.reduceBEq, Int.reduceBNe, Int.reduceGT, Int.reduceGE, Nat.reduceGT] | (rw [drawC_ok]; rotate_left; decide +kernel; exact cfg_mixed))
      · rw [if_neg hx]
        have : decide ((a.length : Int) < (b.length : Int)) = false := decide_eq_false (by omega)
        repeat' (first | with_reducible refine br_split (fun _ => ?_) (fun _ => ?_) | simp only [*, push_cast, Array.reduceGetElem?, Nat.reduceBEq, Nat.reduceLT, Nat.reduceAdd, Nat.reduceSub, Nat.reduceLeDiff, Nat.reduceMul, Nat.reduceEqDiff, reduceCtorEq, Int.reduceAdd, Int.reduceLT, Int.reduceLE, Int.reduceToNat, Int.reduceNeg, Int.reduceSub, Int.reduceBEq, Int.reduceBNe, Int.reduceGT, Int.reduceGE, Nat.reduceGT] | (rw [drawC_ok]; rotate_left; decide +kernel; exact cfg_mixed))
theorem ev_CompareRow (a b : List V) (hl : a.length ≤ 1099511627776) : evF cfg 105 [] [.d (.sl .any (a.map vC)), .d (.sl .any (b.map vC))] = some (.d (.i .i64 (cmpRow a b)), []) := by
  have := ev_CompareFunc a b hl
  (refine (evF_code (C := cfg) (g := 105) (fn := Tryz.f105) rfl Tryz.func105 rfl (by rw [Tryz.ntmps105]; simp) (by kernel_rfl) (by first | decide | simp [keysOf])).trans ?_; rw [Tryz.results105, Tryz.ntmps105])
  repeat' (first | with_reducible refine br_split (fun _ => ?_) (fun _ => ?_) | simp only [*, push_cast, Array.reduceGetElem?, Nat.reduceBEq, Nat.reduceLT, Nat.reduceAdd, Nat.reduceSub, Nat.reduceLeDiff, Nat.reduceMul, Nat.reduceEqDiff, reduceCtorEq, Int.reduceAdd, Int.reduceLT, Int.reduceLE, Int.reduceToNat, Int.reduceNeg, Int.reduceSub, Int.reduceBEq, Int.reduceBNe, Int.reduceGT, Int.reduceGE, Nat.reduceGT] | (rw [drawC_ok]; rotate_left; decide +kernel; exact cfg_mixed))
theorem ev_sCompareRow (a b : List V) (hl : a.length ≤ 1099511627776) : evF cfg 108 [] [.d (.sl .any (a.map vC)), .d (.sl .any (b.map vC))] = some (.d (.i .i64 (cmpRow a b)), []) := by
  (refine (evF_code (C := cfg) (g := 108) (fn := Tryz.f108) rfl Tryz.func108 rfl (by rw [Tryz.ntmps108]; simp) (by kernel_rfl) (by first | decide | simp [keysOf])).trans ?_; rw [Tryz.results108, Tryz.ntmps108])
  repeat' (first | with_reducible refine br_split (fun _ => ?_) (fun _ => ?_) | simp only [*, push_cast, Array.reduceGetElem?, Nat.reduceBEq, Nat.reduceLT, Nat.reduceAdd, Nat.reduceSub, Nat.reduceLeDiff, Nat.reduceMul, Nat.reduceEqDiff, reduceCtorEq, Int.reduceAdd, Int.reduceLT, Int.reduceLE, Int.reduceToNat, Int.reduceNeg, Int.reduceSub, Int.reduceBEq, Int.reduceBNe, Int.reduceGT, Int.reduceGE, Nat.reduceGT] | (rw [drawC_ok]; rotate_left; decide +kernel; exact cfg_mixed))
  rw [evM_for0 a.length (fun i j => { t := [(0, .d (.sl .any (a.map vC))), (1, .d (.sl .any (b.map vC))), (5, .d (.i .i64 j))], o := [], ks := [], n := 0, sz := 43, u := noU })
    (fun i => br (cmpL2 (a.drop i) (b.drop i) != 0) (some (.ret, { t := [(4, .d (.i .i64 (cmpL2 (a.drop i) (b.drop i))))], o := [], ks := [], n := 0, sz := 43, u := noU })) (some (.exit 0, { t := [(0, .d (.sl .any (a.map vC))), (1, .d (.sl .any (b.map vC)))], o := [], ks := [], n := 0, sz := 43, u := noU })) ⟨⟩) ?step ?last]
  case step =>
    intro i hi ih
    have hc : (a.map vC)[i]? = some [.i .i64 a[i].k, .i .i64 a[i].n, .s a[i].s] := get_map vC a i hi
    have hd := dec_lt hi
    have hw := wrap_succ (i := i) (by omega)
    rw [List.drop_eq_getElem_cons hi]
    by_cases hb : i < b.length
    · have hc2 : (b.map vC)[i]? = some [.i .i64 b[i].k, .i .i64 b[i].n, .s b[i].s] := get_map vC b i hb
      have hg := dec_lt hb
      rw [List.drop_eq_getElem_cons hb, cmpL2]
      by_cases he : cmpV a[i] b[i] ≠ 0
      · have h1 : (cmpV a[i] b[i] != 0) = true := by simpa using he
        rw [if_pos he]
        clear he
        repeat' (first | with_reducible refine br_split (fun _ => ?_) (fun _ => ?_) | simp only [*, push_cast, Array.reduceGetElem?, Nat.reduceBEq, Nat.reduceLT, Nat.reduceAdd, Nat.reduceSub, Nat.reduceLeDiff, Nat.reduceMul, Nat.reduceEqDiff, reduceCtorEq, Int.reduceAdd, Int.reduceLT, Int.reduceLE, Int.reduceToNat, Int.reduceNeg, Int.reduceSub, Int.reduceBEq, Int.reduceBNe, Int.reduceGT, Int.reduceGE, Nat.reduceGT] | (rw [drawC_ok]; rotate_left; decide +kernel; exact cfg_mixed))
      · have h1 : (cmpV a[i] b[i] != 0) = false := by simpa using he
        rw [if_neg he]
        clear he
        repeat' (first | with_reducible refine br_split (fun _ => ?_) (fun _ => ?_) | simp only [*, push_cast, Array.reduceGetElem?, Nat.reduceBEq, Nat.reduceLT, Nat.reduceAdd, Nat.reduceSub, Nat.reduceLeDiff, Nat.reduceMul, Nat.reduceEqDiff, reduceCtorEq, Int.reduceAdd, Int.reduceLT, Int.reduceLE, Int.reduceToNat, Int.reduceNeg, Int.reduceSub, Int.reduceBEq, Int.reduceBNe, Int.reduceGT, Int.reduceGE, Nat.reduceGT] | (rw [drawC_ok]; rotate_left; decide +kernel; exact cfg_mixed))
    · have hg : decide ((i : Int) < (b.length : Int)) = false := decide_eq_false (by omega)
      rw [List.drop_eq_nil_of_le (by omega : b.length ≤ i), cmpL2]
      have h1 : ((0 : Int) != 0) = false := rfl
      repeat' (first | with_reducible refine br_split (fun _ => ?_) (fun _ => ?_) | simp only [*, push_cast, Array.reduceGetElem?, Nat.reduceBEq, Nat.reduceLT, Nat.reduceAdd, Nat.reduceSub, Nat.reduceLeDiff, Nat.reduceMul, Nat.reduceEqDiff, reduceCtorEq, Int.reduceAdd, Int.reduceLT, Int.reduceLE, Int.reduceToNat, Int.reduceNeg, Int.reduceSub, Int.reduceBEq, Int.reduceBNe, Int.reduceGT, Int.reduceGE, Nat.reduceGT] | (rw [drawC_ok]; rotate_left; decide +kernel; exact cfg_mixed))
  case last =>
    rw [List.drop_length, cmpL2]
    have h1 : ((0 : Int) != 0) = false := rfl
    repeat' (first | with_reducible refine br_split (fun _ => ?_) (fun _ => ?_) | simp only [*, push_cast, Array.reduceGetElem?, Nat.reduceBEq, Nat.reduceLT, Nat.reduceAdd, Nat.reduceSub, Nat.reduceLeDiff, Nat.reduceMul, Nat.reduceEqDiff, reduceCtorEq, Int.reduceAdd, Int.reduceLT, Int.reduceLE, Int.reduceToNat, Int.reduceNeg, Int.reduceSub, Int.reduceBEq, Int.reduceBNe, Int.reduceGT, Int.reduceGE, Nat.reduceGT] | (rw [drawC_ok]; rotate_left; decide +kernel; exact cfg_mixed))
  · rw [List.drop_zero, List.drop_zero, cmpRow_2]
    by_cases he : cmpL2 a b ≠ 0
    · have h1 : (cmpL2 a b != 0) = true := by simpa using he
      rw [if_pos he]
      clear he
      repeat' (first | with_reducible refine br_split (fun _ => ?_) (fun _ => ?_) | simp only [*, push_cast, Array.reduceGetElem?, Nat.reduceBEq, Nat.reduceLT, Nat.reduceAdd, Nat.reduceSub, Nat.reduceLeDiff, Nat.reduceMul, Nat.reduceEqDiff, reduceCtorEq, Int.reduceAdd, Int.reduceLT, Int.reduceLE, Int.reduceToNat, Int.reduceNeg, Int.reduceSub, Int.reduceBEq, Int.reduceBNe, Int.reduceGT, Int.reduceGE, Nat.reduceGT] | (rw [drawC_ok]; rotate_left; decide +kernel; exact cfg_mixed))
    · have h1 : (cmpL2 a b != 0) = false := by simpa using he
      rw [if_neg he]
      clear he
      by_cases hx : a.length < b.length
      · rw [if_pos hx]
        have := dec_lt hx
        repeat' (first | with_reducible refine br_split (fun _ => ?_) (fun _ => ?_) | simp only [*, push_cast, Array.reduceGetElem?, Nat.reduceBEq, Nat.reduceLT, Nat.reduceAdd, Nat.reduceSub, Nat.reduceLeDiff, Nat.reduceMul, Nat.reduceEqDiff, reduceCtorEq, Int.reduceAdd, Int.reduceLT, Int.reduceLE, Int.reduceToNat, Int.reduceNeg, Int.reduceSub, Int.reduceBEq, Int.reduceBNe, Int.reduceGT, Int.reduceGE, Nat.reduceGT] | (rw [drawC_ok]; rotate_left; decide +kernel; exact cfg_mixed))
      · rw [if_neg hx]
        have : decide ((a.length : Int) < (b.length : Int)) = false := decide_eq_false (by omega)
        by_cases hy : b.length < a.length
        · rw [if_pos hy]
          have : decide ((a.length : Int) > (b.length : Int)) = true := decide_eq_true (by omega)
          repeat' (first | with_reducible refine br_split (fun _ => ?_) (fun _ => ?_) | simp only [*, push_cast, Array.reduceGetElem?, Nat.reduceBEq, Nat.reduceLT, Nat.reduceAdd, Nat.reduceSub, Nat.reduceLeDiff, Nat.reduceMul, Nat.reduceEqDiff, reduceCtorEq, Int.reduceAdd, Int.reduceLT, Int.reduceLE, Int.reduceToNat, Int.reduceNeg, Int.reduceSub, Int.reduceBEq, Int.reduceBNe, Int.reduceGT, Int.reduceGE, Nat.reduceGT] | (rw [drawC_ok]; rotate_left; decide +kernel; exact cfg_mixed))
        · rw [if_neg hy]
          have : decide ((a.length : Int) > (b.length : Int)) = false := decide_eq_false (by omega)
          repeat' (first | with_reducible refine br_split (fun _ => ?_) (fun _ => ?_) | simp only [*, push_cast, Array.reduceGetElem?, Nat.reduceBEq, Nat.reduceLT, Nat.reduceAdd, Nat.reduceSub, Nat.reduceLeDiff, Nat.reduceMul, Nat.reduceEqDiff, reduceCtorEq, Int.reduceAdd, Int.reduceLT, Int.reduceLE, Int.reduceToNat, Int.reduceNeg, Int.reduceSub, Int.reduceBEq, Int.reduceBNe, Int.reduceGT, Int.reduceGE, Nat.reduceGT] | (rw [drawC_ok]; rotate_left; decide +kernel; exact cfg_mixed))
theorem ev_l02Row (l : List V) (w : Int) (hl : l.length ≤ 1099511627776) : evF cfg 107 [] [.d (.sl .any (l.map vC)), .d (.i .i64 w)] = some (.d (.b (((l.length : Int) == w) && l.all valueOk)), []) := by
  (refine (evF_code (C := cfg) (g := 107) (fn := Tryz.f107) rfl Tryz.func107 rfl (by rw [Tryz.ntmps107]; simp) (by kernel_rfl) (by first | decide | simp [keysOf])).trans ?_; rw [Tryz.results107, Tryz.ntmps107])
  repeat' (first | with_reducible refine br_split (fun _ => ?_) (fun _ => ?_) | simp only [*, push_cast, Array.reduceGetElem?, Nat.reduceBEq, Nat.reduceLT, Nat.reduceAdd, Nat.reduceSub, Nat.reduceLeDiff, Nat.reduceMul, Nat.reduceEqDiff, reduceCtorEq, Int.reduceAdd, Int.reduceLT, Int.reduceLE, Int.reduceToNat, Int.reduceNeg, Int.reduceSub, Int.reduceBEq, Int.reduceBNe, Int.reduceGT, Int.reduceGE, Nat.reduceGT] | (rw [drawC_ok]; rotate_left; decide +kernel; exact cfg_mixed))
  rw [evM_for0 l.length (fun i j => { t := [(0, .d (.sl .any (l.map vC))), (1, .d (.i .i64 w)), (5, .d (.i .i64 j))], o := [], ks := [], n := 0, sz := 22, u := noU })
    (fun i => br ((l.drop i).all valueOk) (some (.exit 0, { t := [(0, .d (.sl .any (l.map vC))), (1, .d (.i .i64 w))], o := [], ks := [], n := 0, sz := 22, u := noU })) (some (.ret, { t := [(4, .d (.b false))], o := [], ks := [], n := 0, sz := 22, u := noU })) ⟨⟩) ?step ?last]
  case step =>
    intro i hi ih
    have hc : (l.map vC)[i]? = some [.i .i64 l[i].k, .i .i64 l[i].n, .s l[i].s] := get_map vC l i hi
    have hd := dec_lt hi
    have hw := wrap_succ (i := i) (by omega)
    rw [List.drop_eq_getElem_cons hi, List.all_cons]
    repeat' (first | with_reducible refine br_split (fun _ => ?_) (fun _ => ?_) | simp only [*, push_cast, Array.reduceGetElem?, Nat.reduceBEq, Nat.reduceLT, Nat.reduceAdd, Nat.reduceSub, Nat.reduceLeDiff, Nat.reduceMul, Nat.reduceEqDiff, reduceCtorEq, Int.reduceAdd, Int.reduceLT, Int.reduceLE, Int.reduceToNat, Int.reduceNeg, Int.reduceSub, Int.reduceBEq, Int.reduceBNe, Int.reduceGT, Int.reduceGE, Nat.reduceGT] | (rw [drawC_ok]; rotate_left; decide +kernel; exact cfg_mixed))
  case last =>
    rw [List.drop_length, List.all_nil]
    repeat' (first | with_reducible refine br_split (fun _ => ?_) (fun _ => ?_) | simp only [*, push_cast, Array.reduceGetElem?, Nat.reduceBEq, Nat.reduceLT, Nat.reduceAdd, Nat.reduceSub, Nat.reduceLeDiff, Nat.reduceMul, Nat.reduceEqDiff, reduceCtorEq, Int.reduceAdd, Int.reduceLT, Int.reduceLE, Int.reduceToNat, Int.reduceNeg, Int.reduceSub, Int.reduceBEq, Int.reduceBNe, Int.reduceGT, Int.reduceGE, Nat.reduceGT] | (rw [drawC_ok]; rotate_left; decide +kernel; exact cfg_mixed))
  · rw [List.drop_zero]
    cases h : l.all valueOk <;> repeat' (first | with_reducible refine br_split (fun _ => ?_) (fun _ => ?_) | simp only [*, push_cast, Array.reduceGetElem?, Nat.reduceBEq, Nat.reduceLT, Nat.reduceAdd, Nat.reduceSub, Nat.reduceLeDiff, Nat.reduceMul, Nat.reduceEqDiff, reduceCtorEq, Int.reduceAdd, Int.reduceLT, Int.reduceLE, Int.reduceToNat, Int.reduceNeg, Int.reduceSub, Int.reduceBEq, Int.reduceBNe, Int.reduceGT, Int.reduceGE, Nat.reduceGT] | (rw [drawC_ok]; rotate_left; decide +kernel; exact cfg_mixed))
theorem ev_isRow (l : List V) (w : Int) (hl : l.length ≤ 1099511627776) : evF cfg 104 [] [.d (.sl .any (l.map vC)), .d (.i .i64 w)] = some (.d (.b (((l.length : Int) == w) && l.all valueOk)), []) := by
  have ha := ev_areAllValue_0 (h := 113) (p := valueOk) l hl rfl rfl (fun x _ => ev_ValueOk _ _ _)
  (refine (evF_code (C := cfg) (g := 104) (fn := Tryz.f104) rfl Tryz.func104 rfl (by rw [Tryz.ntmps104]; simp) (by kernel_rfl) (by first | decide | simp [keysOf])).trans ?_; rw [Tryz.results104, Tryz.ntmps104])
  repeat' (first | with_reducible refine br_split (fun _ => ?_) (fun _ => ?_) | simp only [*, push_cast, Array.reduceGetElem?, Nat.reduceBEq, Nat.reduceLT, Nat.reduceAdd, Nat.reduceSub, Nat.reduceLeDiff, Nat.reduceMul, Nat.reduceEqDiff, reduceCtorEq, Int.reduceAdd, Int.reduceLT, Int.reduceLE, Int.reduceToNat, Int.reduceNeg, Int.reduceSub, Int.reduceBEq, Int.reduceBNe, Int.reduceGT, Int.reduceGE, Nat.reduceGT] | (rw [drawC_ok]; rotate_left; decide +kernel; exact cfg_mixed))
end Go.Av
end

section
namespace Go.Av
open Go.Proofs
set_option linter.unusedSimpArgs false

/-- What BagOk asks of a row and of the one ahead of it. -/
def okC (w : Int) (c : C) : Bool := ((((c.row.length : Int) == w) && c.row.all valueOk) && !(c.n == 0)) && (decide (-1000000000 ≤ c.n) && decide (c.n ≤ 1000000000))
def okPrev (c : C) : Option C → Bool
  | none => true
  | some d => !(decide (cmpRow d.row c.row ≥ 0))
def okRest (w : Int) (prev : Option C) : List C → Bool
  | [] => true
  | c :: l => (okC w c && okPrev c prev) && okRest w (some c) l
def okRows (w : Int) (l : List C) : Bool := okRest w none l
def bagOk (b : B) : Bool := (decide (0 ≤ b.w) && decide (b.w ≤ 12)) && (!(decide ((b.rows.length : Int) > 400)) && okRows b.w b.rows)
def prevAt (l : List C) : Nat → Option C
  | 0 => none
  | i + 1 => l[i]?
theorem okRest_at {w : Int} {l : List C} {i : Nat} (h : i < l.length) : okRest w (prevAt l i) (l.drop i) = ((okC w l[i] && okPrev l[i] (prevAt l i)) && okRest w (prevAt l (i + 1)) (l.drop (i + 1))) := by
  rw [List.drop_eq_getElem_cons h, okRest]
  simp [prevAt, h]

theorem lim_row {w : Int} {rows : List C} (h : (T.sl .any (rows.map cC)).lim) : rows.length ≤ 140737488355328 ∧ ∀ c ∈ rows, c.row.length ≤ 140737488355328 := by
  simp only [T.lim, List.length_map, limEs_map] at h
  refine ⟨h.1, fun c hc => ?_⟩
  have := h.2 c hc
  simp only [cC, limCs, T.lim, List.length_map] at this
  exact this.1.1

theorem ev_BagOk (w : Int) (rows : List C) (hl : rows.length ≤ 140737488355328) (hr : ∀ c ∈ rows, c.row.length ≤ 1099511627776) : evF cfg 71 [] [.agg [.d (.i .i64 w), .d (.sl .any (rows.map cC))]] = some (.d (.b (bagOk ⟨w, rows⟩)), []) := by
  cases hw0 : (decide (0 ≤ w) && decide (w ≤ 12)) with
  | false =>
    (refine (evF_code (C := cfg) (g := 71) (fn := Tryz.f71) rfl Tryz.func71 rfl (by rw [Tryz.ntmps71]; simp) (by kernel_rfl) (by first | decide | simp [keysOf])).trans ?_; rw [Tryz.results71, Tryz.ntmps71])
    repeat' (first | with_reducible refine br_split (fun _ => ?_) (fun _ => ?_) | simp only [*, push_cast, Array.reduceGetElem?, Nat.reduceBEq, Nat.reduceLT, Nat.reduceAdd, Nat.reduceSub, Nat.reduceLeDiff, Nat.reduceMul, Nat.reduceEqDiff, reduceCtorEq, Int.reduceAdd, Int.reduceLT, Int.reduceLE, Int.reduceToNat, Int.reduceNeg, Int.reduceSub, Int.reduceBEq, Int.reduceBNe, Int.reduceGT, Int.reduceGE, Nat.reduceGT] | (rw [drawC_ok]; rotate_left; decide +kernel; exact cfg_mixed))
    simp [bagOk, hw0]
  | true =>
  cases hl0 : decide ((rows.length : Int) > 400) with
  | true =>
    (refine (evF_code (C := cfg) (g := 71) (fn := Tryz.f71) rfl Tryz.func71 rfl (by rw [Tryz.ntmps71]; simp) (by kernel_rfl) (by first | decide | simp [keysOf])).trans ?_; rw [Tryz.results71, Tryz.ntmps71])
    repeat' (first | with_reducible refine br_split (fun _ => ?_) (fun _ => ?_) | simp only [*, push_cast, Array.reduceGetElem?, Nat.reduceBEq, Nat.reduceLT, Nat.reduceAdd, Nat.reduceSub, Nat.reduceLeDiff, Nat.reduceMul, Nat.reduceEqDiff, reduceCtorEq, Int.reduceAdd, Int.reduceLT, Int.reduceLE, Int.reduceToNat, Int.reduceNeg, Int.reduceSub, Int.reduceBEq, Int.reduceBNe, Int.reduceGT, Int.reduceGE, Nat.reduceGT] | (rw [drawC_ok]; rotate_left; decide +kernel; exact cfg_mixed))
    simp only [bagOk, hw0, hl0]
    rfl
  | false =>
  (refine (evF_code (C := cfg) (g := 71) (fn := Tryz.f71) rfl Tryz.func71 rfl (by rw [Tryz.ntmps71]; simp) (by kernel_rfl) (by first | decide | simp [keysOf])).trans ?_; rw [Tryz.results71, Tryz.ntmps71])
  repeat' (first | with_reducible refine br_split (fun _ => ?_) (fun _ => ?_) | simp only [*, push_cast, Array.reduceGetElem?, Nat.reduceBEq, Nat.reduceLT, Nat.reduceAdd, Nat.reduceSub, Nat.reduceLeDiff, Nat.reduceMul, Nat.reduceEqDiff, reduceCtorEq, Int.reduceAdd, Int.reduceLT, Int.reduceLE, Int.reduceToNat, Int.reduceNeg, Int.reduceSub, Int.reduceBEq, Int.reduceBNe, Int.reduceGT, Int.reduceGE, Nat.reduceGT] | (rw [drawC_ok]; rotate_left; decide +kernel; exact cfg_mixed))
  rw [evM_for0 rows.length (fun i j => { t := [(1, .ptr 50 0), (16, .d (.sl .any (rows.map cC))), (17, .d (.i .i64 rows.length)), (18, .d (.i .i64 j))], o := [(50, .box [.d (.i .i64 w), .d (.sl .any (rows.map cC))])], ks := [50], n := 0, sz := 58, u := noU })
    (fun i => br (okRest w (prevAt rows i) (rows.drop i)) (some (.exit 0, { t := [], o := [], ks := [], n := 0, sz := 58, u := noU })) (some (.ret, { t := [(2, .d (.b false))], o := [], ks := [], n := 0, sz := 58, u := noU })) ⟨⟩) ?step ?last]
  case step =>
    intro i hi ih
    have hc : (rows.map cC)[i]? = some [.sl .any (rows[i].row.map vC), .i .i64 rows[i].n] := get_map cC rows i hi
    have hd := dec_lt hi
    have hw : IntKind.i64.wrap ((i : Int) + 1) = (i : Int) + 1 := i64_in (by omega) (by omega)
    have h1 := ev_isRow rows[i].row w (hr _ (List.getElem_mem hi))
    rw [okRest_at hi, okC]
    by_cases h0 : i = 0
    · have hp : decide ((i : Int) > 0) = false := decide_eq_false (by omega)
      have h3 : okPrev rows[i] (prevAt rows i) = true := by subst h0; rfl
      rw [h3]
      clear h3 h0
      repeat' (first | with_reducible refine br_split (fun _ => ?_) (fun _ => ?_) | simp only [*, push_cast, Array.reduceGetElem?, Nat.reduceBEq, Nat.reduceLT, Nat.reduceAdd, Nat.reduceSub, Nat.reduceLeDiff, Nat.reduceMul, Nat.reduceEqDiff, reduceCtorEq, Int.reduceAdd, Int.reduceLT, Int.reduceLE, Int.reduceToNat, Int.reduceNeg, Int.reduceSub, Int.reduceBEq, Int.reduceBNe, Int.reduceGT, Int.reduceGE, Nat.reduceGT] | (rw [drawC_ok]; rotate_left; decide +kernel; exact cfg_mixed))
    · obtain ⟨k, hk⟩ : ∃ k, i = k + 1 := ⟨i - 1, by omega⟩
      have hkl : k < rows.length := by omega
      have hc2 : (rows.map cC)[k]? = some [.sl .any (rows[k].row.map vC), .i .i64 rows[k].n] := get_map cC rows k hkl
      have hp : decide ((i : Int) > 0) = true := decide_eq_true (by omega)
      have hw2 : IntKind.i64.wrap ((i : Int) - 1) = (k : Int) := by rw [i64_in (by omega) (by omega)]; omega
      have h2 := ev_CompareRow rows[k].row rows[i].row (hr _ (List.getElem_mem hkl))
      have h3 : okPrev rows[i] (prevAt rows i) = !(decide (cmpRow rows[k].row rows[i].row ≥ 0)) := by subst hk; simp [prevAt, hkl, okPrev]
      rw [h3]
      clear h3 hk h0
      repeat' (first | with_reducible refine br_split (fun _ => ?_) (fun _ => ?_) | simp only [*, push_cast, Array.reduceGetElem?, Nat.reduceBEq, Nat.reduceLT, Nat.reduceAdd, Nat.reduceSub, Nat.reduceLeDiff, Nat.reduceMul, Nat.reduceEqDiff, reduceCtorEq, Int.reduceAdd, Int.reduceLT, Int.reduceLE, Int.reduceToNat, Int.reduceNeg, Int.reduceSub, Int.reduceBEq, Int.reduceBNe, Int.reduceGT, Int.reduceGE, Nat.reduceGT] | (rw [drawC_ok]; rotate_left; decide +kernel; exact cfg_mixed))
  case last =>
    rw [List.drop_length, okRest]
    repeat' (first | with_reducible refine br_split (fun _ => ?_) (fun _ => ?_) | simp only [*, push_cast, Array.reduceGetElem?, Nat.reduceBEq, Nat.reduceLT, Nat.reduceAdd, Nat.reduceSub, Nat.reduceLeDiff, Nat.reduceMul, Nat.reduceEqDiff, reduceCtorEq, Int.reduceAdd, Int.reduceLT, Int.reduceLE, Int.reduceToNat, Int.reduceNeg, Int.reduceSub, Int.reduceBEq, Int.reduceBNe, Int.reduceGT, Int.reduceGE, Nat.reduceGT] | (rw [drawC_ok]; rotate_left; decide +kernel; exact cfg_mixed))
  · rw [List.drop_zero]
    have : prevAt rows 0 = none := rfl
    rw [this]
    have hb : bagOk ⟨w, rows⟩ = okRest w none rows := by simp only [bagOk, hw0, hl0, okRows, Bool.not_false, Bool.true_and]
    rw [hb]
    cases h : okRest w none rows <;> repeat' (first | with_reducible refine br_split (fun _ => ?_) (fun _ => ?_) | simp only [*, push_cast, Array.reduceGetElem?, Nat.reduceBEq, Nat.reduceLT, Nat.reduceAdd, Nat.reduceSub, Nat.reduceLeDiff, Nat.reduceMul, Nat.reduceEqDiff, reduceCtorEq, Int.reduceAdd, Int.reduceLT, Int.reduceLE, Int.reduceToNat, Int.reduceNeg, Int.reduceSub, Int.reduceBEq, Int.reduceBNe, Int.reduceGT, Int.reduceGE, Nat.reduceGT] | (rw [drawC_ok]; rotate_left; decide +kernel; exact cfg_mixed))

theorem ev_sBagOk (w : Int) (rows : List C) (hl : rows.length ≤ 140737488355328) (hr : ∀ c ∈ rows, c.row.length ≤ 1099511627776) : evF cfg 74 [] [.agg [.d (.i .i64 w), .d (.sl .any (rows.map cC))]] = some (.d (.b (bagOk ⟨w, rows⟩)), []) := by
  (refine (evF_code (C := cfg) (g := 74) (fn := Tryz.f74) rfl Tryz.func74 rfl (by rw [Tryz.ntmps74]; simp) (by kernel_rfl) (by first | decide | simp [keysOf])).trans ?_; rw [Tryz.results74, Tryz.ntmps74])
  repeat' (first | with_reducible refine br_split (fun _ => ?_) (fun _ => ?_) | simp only [*, push_cast, Array.reduceGetElem?, Nat.reduceBEq, Nat.reduceLT, Nat.reduceAdd, Nat.reduceSub, Nat.reduceLeDiff, Nat.reduceMul, Nat.reduceEqDiff, reduceCtorEq, Int.reduceAdd, Int.reduceLT, Int.reduceLE, Int.reduceToNat, Int.reduceNeg, Int.reduceSub, Int.reduceBEq, Int.reduceBNe, Int.reduceGT, Int.reduceGE, Nat.reduceGT] | (rw [drawC_ok]; rotate_left; decide +kernel; exact cfg_mixed))
  rw [evM_for0 rows.length (fun i j => { t := [(1, .ptr 50 0), (3, .d (.i .i64 j))], o := [(50, .box [.d (.i .i64 w), .d (.sl .any (rows.map cC))])], ks := [50], n := 0, sz := 60, u := noU })
    (fun i => br (okRest w (prevAt rows i) (rows.drop i)) (some (.exit 0, { t := [(1, .ptr 50 0)], o := [(50, .box [.d (.i .i64 w), .d (.sl .any (rows.map cC))])], ks := [50], n := 0, sz := 60, u := noU })) (some (.ret, { t := [(2, .d (.b false))], o := [], ks := [], n := 0, sz := 60, u := noU })) ⟨⟩) ?step ?last]
  case step =>
    intro i hi ih
    have hc : (rows.map cC)[i]? = some [.sl .any (rows[i].row.map vC), .i .i64 rows[i].n] := get_map cC rows i hi
    have hd := dec_lt hi
    have hw : IntKind.i64.wrap ((i : Int) + 1) = (i : Int) + 1 := i64_in (by omega) (by omega)
    have h1 := ev_l02Row rows[i].row w (hr _ (List.getElem_mem hi))
    rw [okRest_at hi, okC]
    by_cases h0 : i = 0
    · have hp : decide ((i : Int) > 0) = false := decide_eq_false (by omega)
      have h3 : okPrev rows[i] (prevAt rows i) = true := by subst h0; rfl
      rw [h3]
      clear h3 h0
      repeat' (first | with_reducible refine br_split (fun _ => ?_) (fun _ => ?_) | simp only [*, push_cast, Array.reduceGetElem?, Nat.reduceBEq, Nat.reduceLT, Nat.reduceAdd, Nat.reduceSub, Nat.reduceLeDiff, Nat.reduceMul, Nat.reduceEqDiff, reduceCtorEq, Int.reduceAdd, Int.reduceLT, Int.reduceLE, Int.reduceToNat, Int.reduceNeg, Int.reduceSub, Int.reduceBEq, Int.reduceBNe, Int.reduceGT, Int.reduceGE, Nat.reduceGT] | (rw [drawC_ok]; rotate_left; decide +kernel; exact cfg_mixed))
    · obtain ⟨k, hk⟩ : ∃ k, i = k + 1 := ⟨i - 1, by omega⟩
      have hkl : k < rows.length := by omega
      have hc2 : (rows.map cC)[k]? = some [.sl .any (rows[k].row.map vC), .i .i64 rows[k].n] := get_map cC rows k hkl
      have hp : decide ((i : Int) > 0) = true := decide_eq_true (by omega)
      have hw2 : IntKind.i64.wrap ((i : Int) - 1) = (k : Int) := by rw [i64_in (by omega) (by omega)]; omega
      have h2 := ev_sCompareRow rows[k].row rows[i].row (hr _ (List.getElem_mem hkl))
      have h3 : okPrev rows[i] (prevAt rows i) = !(decide (cmpRow rows[k].row rows[i].row ≥ 0)) := by subst hk; simp [prevAt, hkl, okPrev]
      rw [h3]
      clear h3 hk h0
      repeat' (first | with_reducible refine br_split (fun _ => ?_) (fun _ => ?_) | simp only [*, push_cast, Array.reduceGetElem?, Nat.reduceBEq, Nat.reduceLT, Nat.reduceAdd, Nat.reduceSub, Nat.reduceLeDiff, Nat.reduceMul, Nat.reduceEqDiff, reduceCtorEq, Int.reduceAdd, Int.reduceLT, Int.reduceLE, Int.reduceToNat, Int.reduceNeg, Int.reduceSub, Int.reduceBEq, Int.reduceBNe, Int.reduceGT, Int.reduceGE, Nat.reduceGT] | (rw [drawC_ok]; rotate_left; decide +kernel; exact cfg_mixed))
  case last =>
    rw [List.drop_length, okRest]
    repeat' (first | with_reducible refine br_split (fun _ => ?_) (fun _ => ?_) | simp only [*, push_cast, Array.reduceGetElem?, Nat.reduceBEq, Nat.reduceLT, Nat.reduceAdd, Nat.reduceSub, Nat.reduceLeDiff, Nat.reduceMul, Nat.reduceEqDiff, reduceCtorEq, Int.reduceAdd, Int.reduceLT, Int.reduceLE, Int.reduceToNat, Int.reduceNeg, Int.reduceSub, Int.reduceBEq, Int.reduceBNe, Int.reduceGT, Int.reduceGE, Nat.reduceGT] | (rw [drawC_ok]; rotate_left; decide +kernel; exact cfg_mixed))
  · rw [List.drop_zero]
    have : prevAt rows 0 = none := rfl
    rw [this]
    cases h : okRest w none rows with
    | false =>
      have hb : bagOk ⟨w, rows⟩ = false := by simp [bagOk, okRows, h]
      repeat' (first | with_reducible refine br_split (fun _ => ?_) (fun _ => ?_) | simp only [*, push_cast, Array.reduceGetElem?, Nat.reduceBEq, Nat.reduceLT, Nat.reduceAdd, Nat.reduceSub, Nat.reduceLeDiff, Nat.reduceMul, Nat.reduceEqDiff, reduceCtorEq, Int.reduceAdd, Int.reduceLT, Int.reduceLE, Int.reduceToNat, Int.reduceNeg, Int.reduceSub, Int.reduceBEq, Int.reduceBNe, Int.reduceGT, Int.reduceGE, Nat.reduceGT] | (rw [drawC_ok]; rotate_left; decide +kernel; exact cfg_mixed))
    | true =>
      have hb : bagOk ⟨w, rows⟩ = ((decide (0 ≤ w) && decide (w ≤ 12)) && decide ((rows.length : Int) ≤ 400)) := by simp only [bagOk, okRows, h, Bool.and_true]; congr 1; by_cases hx : (rows.length : Int) > 400 <;> simp [hx] <;> omega
      rw [hb]
      cases hw0 : (decide (0 ≤ w) && decide (w ≤ 12)) <;> repeat' (first | with_reducible refine br_split (fun _ => ?_) (fun _ => ?_) | simp only [*, push_cast, Array.reduceGetElem?, Nat.reduceBEq, Nat.reduceLT, Nat.reduceAdd, Nat.reduceSub, Nat.reduceLeDiff, Nat.reduceMul, Nat.reduceEqDiff, reduceCtorEq, Int.reduceAdd, Int.reduceLT, Int.reduceLE, Int.reduceToNat, Int.reduceNeg, Int.reduceSub, Int.reduceBEq, Int.reduceBNe, Int.reduceGT, Int.reduceGE, Nat.reduceGT] | (rw [drawC_ok]; rotate_left; decide +kernel; exact cfg_mixed))

end Go.Av
end
