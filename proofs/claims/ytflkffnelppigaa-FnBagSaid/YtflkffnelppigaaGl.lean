/- What functions of this seat give. -/
import Derived.Test.YtflkffnelppigaaGk
import Derived.Test.YtflkffnelppigaaAvCfg
set_option linter.all false
set_option linter.unusedVariables false
set_option linter.unusedSimpArgs false

section
namespace Go.Av
open Go.Proofs
set_option linter.unusedSimpArgs false
theorem ev_gathCmp (a b : C) (h : a.row.length ≤ 1099511627776) : evF cfg 97 [] [.agg [.d (.sl .any (a.row.map vC)), .d (.i .i64 a.n)], .agg [.d (.sl .any (b.row.map vC)), .d (.i .i64 b.n)]] = some (.d (.i .i64 (cmpRow a.row b.row)), []) := by
  have h1 := ev_CompareRow a.row b.row h
  (refine (evF_code (C := cfg) (g := 97) (fn := Try.f97) rfl Try.func97 rfl (by rw [Try.ntmps97]; simp) (by kernel_rfl) (by first | decide | simp [keysOf])).trans ?_; rw [Try.results97, Try.ntmps97])
  repeat' (first | with_reducible refine br_split (fun _ => ?_) (fun _ => ?_) | simp only [*, push_cast, Array.reduceGetElem?, Nat.reduceBEq, Nat.reduceLT, Nat.reduceAdd, Nat.reduceSub, Nat.reduceLeDiff, Nat.reduceMul, Nat.reduceEqDiff, reduceCtorEq, Int.reduceAdd, Int.reduceLT, Int.reduceLE, Int.reduceToNat, Int.reduceNeg, Int.reduceSub, Int.reduceBEq, Int.reduceBNe, Int.reduceNe, Int.reduceGT, Int.reduceGE, Nat.reduceGT] | (rw [drawC_ok]; rotate_left; decide +kernel; exact cfg_mixed))
/-- Two blocks of one length change places. -/
theorem ev_swapRange (P X Z Y Q : List C) (a b n : Nat) (ha : a = P.length) (hb : b = P.length + X.length + Z.length) (hn : n = X.length) (hxy : X.length = Y.length) (hl : P.length + X.length + Z.length + Y.length + Q.length ≤ 1048576) :
    evF cfg 129 [(0, .arr .any 2 ((P ++ (X ++ (Z ++ (Y ++ Q)))).map cC))] [.own 0, .d (.i .i64 a), .d (.i .i64 b), .d (.i .i64 n), .clo 97 []] =
      some (.tup [], [(0, .arr .any 2 ((P ++ (Y ++ (Z ++ (X ++ Q)))).map cC))]) := by
  rw [← swL_zero P X Z Y Q, ← swL_all hxy, ← hn]
  have H : Hd (a = P.length ∧ b = P.length + X.length + Z.length ∧ n = X.length ∧ X.length = Y.length) := ⟨⟨ha, hb, hn, hxy⟩⟩
  clear ha hb hn hxy
  (refine (evF_code (C := cfg) (g := 129) (fn := Try.f129) rfl Try.func129 rfl (by rw [Try.ntmps129]; simp) (by kernel_rfl) (by first | decide | simp [keysOf])).trans ?_; rw [Try.results129, Try.ntmps129])
  repeat' (first | with_reducible refine br_split (fun _ => ?_) (fun _ => ?_) | simp only [*, push_cast, Array.reduceGetElem?, Nat.reduceBEq, Nat.reduceLT, Nat.reduceAdd, Nat.reduceSub, Nat.reduceLeDiff, Nat.reduceMul, Nat.reduceEqDiff, reduceCtorEq, Int.reduceAdd, Int.reduceLT, Int.reduceLE, Int.reduceToNat, Int.reduceNeg, Int.reduceSub, Int.reduceBEq, Int.reduceBNe, Int.reduceNe, Int.reduceGT, Int.reduceGE, Nat.reduceGT] | (rw [drawC_ok]; rotate_left; decide +kernel; exact cfg_mixed))
  rw [evM_for0 n (fun i j => { t := [(0, .own 0), (1, .d (.i .i64 a)), (2, .d (.i .i64 b)), (3, .d (.i .i64 n)), (10, .d (.i .i64 j))], o := [(0, .arr .any 2 ((swL P X Z Y Q i).map cC))], ks := [0], n := 0, sz := 38, u := noU })
    (fun i => some (.exit 0, { t := [], o := [(0, .arr .any 2 ((swL P X Z Y Q n).map cC))], ks := [0], n := 0, sz := 38, u := noU })) ?step ?last]
  case step =>
    intro i hi ih
    obtain ⟨ha, hb, hn, hxy⟩ := H.out
    have hix : i < X.length := by omega
    have hiy : i < Y.length := by omega
    have hd := dec_lt hi
    have hw := wrap_succ (i := i) (by omega)
    have e := swL_at (P := P) (Z := Z) (Q := Q) hix hiy
    have e2 := swL_next (P := P) (Z := Z) (Q := Q) hix hiy
    have hz := swL_len (P := P) (X := X) (Z := Z) (Y := Y) (Q := Q) (i := i) hxy
    have hia : a + i = (P ++ Y.take i).length := by simp; omega
    have hib : b + i = (P ++ Y.take i).length + 1 + (X.drop (i + 1) ++ Z ++ X.take i).length := by simp; omega
    have g1 : (swL P X Z Y Q i)[a + i]? = some X[i] := by rw [e]; exact sw_get1 hia
    have g2 : (swL P X Z Y Q i)[b + i]? = some Y[i] := by rw [e]; exact sw_get2 hib
    have k1 := cC_get g1
    have k2 := cC_get g2
    have l1 := dec_ltN (lt_of_get g1)
    have l2 := dec_ltN (lt_of_get g2)
    have hs1 := cC_set (swL P X Z Y Q i) (a + i) Y[i]
    have hs2 := cC_set ((swL P X Z Y Q i).set (a + i) Y[i]) (b + i) X[i]
    rw [e, sw_both hia hib, ← e2] at hs2
    rw [← e] at hs2
    have w1 : IntKind.i64.wrap ((a : Int) + (i : Int)) = (a : Int) + (i : Int) := i64_in (by omega) (by omega)
    have w2 : IntKind.i64.wrap ((b : Int) + (i : Int)) = (b : Int) + (i : Int) := i64_in (by omega) (by omega)
    have t1 : ((a : Int) + (i : Int)).toNat = a + i := by omega
    have t2 : ((b : Int) + (i : Int)).toNat = b + i := by omega
    have p1 : decide (0 ≤ (a : Int) + (i : Int)) = true := decide_eq_true (by omega)
    have p2 : decide (0 ≤ (b : Int) + (i : Int)) = true := decide_eq_true (by omega)
    have k3 : (((swL P X Z Y Q i).set (a + i) Y[i]).map cC)[b + i]? = some [.sl .any (Y[i].row.map vC), .i .i64 Y[i].n] := by
      rw [e, sw_set1 hia]; exact cC_get (sw_get2 hib)
    clear g1 g2 e e2 hia hib hz ha hb hn hxy
    repeat' (first | with_reducible refine br_split (fun _ => ?_) (fun _ => ?_) | simp only [*, List.length_set, push_cast, Array.reduceGetElem?, Nat.reduceBEq, Nat.reduceLT, Nat.reduceAdd, Nat.reduceSub, Nat.reduceLeDiff, Nat.reduceMul, Nat.reduceEqDiff, reduceCtorEq, Int.reduceAdd, Int.reduceLT, Int.reduceLE, Int.reduceToNat, Int.reduceNeg, Int.reduceSub, Int.reduceBEq, Int.reduceBNe, Int.reduceNe, Int.reduceGT, Int.reduceGE, Nat.reduceGT] | (rw [drawC_ok]; rotate_left; decide +kernel; exact cfg_mixed))
  case last =>
    repeat' (first | with_reducible refine br_split (fun _ => ?_) (fun _ => ?_) | simp only [*, push_cast, Array.reduceGetElem?, Nat.reduceBEq, Nat.reduceLT, Nat.reduceAdd, Nat.reduceSub, Nat.reduceLeDiff, Nat.reduceMul, Nat.reduceEqDiff, reduceCtorEq, Int.reduceAdd, Int.reduceLT, Int.reduceLE, Int.reduceToNat, Int.reduceNeg, Int.reduceSub, Int.reduceBEq, Int.reduceBNe, Int.reduceNe, Int.reduceGT, Int.reduceGE, Nat.reduceGT] | (rw [drawC_ok]; rotate_left; decide +kernel; exact cfg_mixed))
  · repeat' (first | with_reducible refine br_split (fun _ => ?_) (fun _ => ?_) | simp only [*, push_cast, Array.reduceGetElem?, Nat.reduceBEq, Nat.reduceLT, Nat.reduceAdd, Nat.reduceSub, Nat.reduceLeDiff, Nat.reduceMul, Nat.reduceEqDiff, reduceCtorEq, Int.reduceAdd, Int.reduceLT, Int.reduceLE, Int.reduceToNat, Int.reduceNeg, Int.reduceSub, Int.reduceBEq, Int.reduceBNe, Int.reduceNe, Int.reduceGT, Int.reduceGE, Nat.reduceGT] | (rw [drawC_ok]; rotate_left; decide +kernel; exact cfg_mixed))
/-- Two neighbouring blocks change places. -/
theorem ev_rotate (P X Y Q : List C) (a m b : Nat) (ha : a = P.length) (hm : m = P.length + X.length) (hb : b = m + Y.length) (hx : 1 ≤ X.length) (hy : 1 ≤ Y.length) (hl : P.length + X.length + Y.length + Q.length ≤ 1048576) :
    evF cfg 128 [(0, .arr .any 2 ((P ++ (X ++ (Y ++ Q))).map cC))] [.own 0, .d (.i .i64 a), .d (.i .i64 m), .d (.i .i64 b), .clo 97 []] =
      some (.tup [], [(0, .arr .any 2 ((P ++ (Y ++ (X ++ Q))).map cC))]) := by
  have w1 : IntKind.i64.wrap ((m : Int) - (a : Int)) = (X.length : Int) := by rw [i64_in (by omega) (by omega)]; omega
  have w2 : IntKind.i64.wrap ((b : Int) - (m : Int)) = (Y.length : Int) := by rw [i64_in (by omega) (by omega)]; omega
  have H : Hd (m = P.length + X.length) := ⟨hm⟩
  clear ha hm hb
  (refine (evF_code (C := cfg) (g := 128) (fn := Try.f128) rfl Try.func128 rfl (by rw [Try.ntmps128]; simp) (by kernel_rfl) (by first | decide | simp [keysOf])).trans ?_; rw [Try.results128, Try.ntmps128])
  repeat' (first | with_reducible refine br_split (fun _ => ?_) (fun _ => ?_) | simp only [*, push_cast, Array.reduceGetElem?, Nat.reduceBEq, Nat.reduceLT, Nat.reduceAdd, Nat.reduceSub, Nat.reduceLeDiff, Nat.reduceMul, Nat.reduceEqDiff, reduceCtorEq, Int.reduceAdd, Int.reduceLT, Int.reduceLE, Int.reduceToNat, Int.reduceNeg, Int.reduceSub, Int.reduceBEq, Int.reduceBNe, Int.reduceNe, Int.reduceGT, Int.reduceGE, Nat.reduceGT] | (rw [drawC_ok]; rotate_left; decide +kernel; exact cfg_mixed))
  generalize hE : evM cfg _ _ _ _ _ = R
  have key : ∃ r, R = some r ∧ ∃ P' X' Y' Q', r = (.exit 0, { t := [(0, .own 0), (2, .d (.i .i64 m)), (4, .clo 97 []), (10, .d (.i .i64 (X'.length : Nat)))], o := [(0, .arr .any 2 ((P' ++ (X' ++ (Y' ++ Q'))).map cC))], ks := [0], n := 0, sz := 58, u := noU }) ∧ m = P'.length + X'.length ∧ X'.length = Y'.length ∧
      P'.length + X'.length + Y'.length + Q'.length = P.length + X.length + Y.length + Q.length ∧ P' ++ (Y' ++ (X' ++ Q')) = P ++ (Y ++ (X ++ Q)) := by
    rw [← hE]
    refine evM_ex (α := List C × List C × List C × List C) (fun z => { t := [(0, .own 0), (2, .d (.i .i64 m)), (4, .clo 97 []), (10, .d (.i .i64 (z.2.1.length : Nat))), (11, .d (.i .i64 (z.2.2.1.length : Nat)))], o := [(0, .arr .any 2 ((z.1 ++ (z.2.1 ++ (z.2.2.1 ++ z.2.2.2))).map cC))], ks := [0], n := 0, sz := 58, u := noU })
      (fun z r => ∃ P' X' Y' Q', r = (.exit 0, { t := [(0, .own 0), (2, .d (.i .i64 m)), (4, .clo 97 []), (10, .d (.i .i64 (X'.length : Nat)))], o := [(0, .arr .any 2 ((P' ++ (X' ++ (Y' ++ Q'))).map cC))], ks := [0], n := 0, sz := 58, u := noU }) ∧ m = P'.length + X'.length ∧ X'.length = Y'.length ∧
        P'.length + X'.length + Y'.length + Q'.length = z.1.length + z.2.1.length + z.2.2.1.length + z.2.2.2.length ∧ P' ++ (Y' ++ (X' ++ Q')) = z.1 ++ (z.2.2.1 ++ (z.2.1 ++ z.2.2.2)))
      (fun z => m = z.1.length + z.2.1.length ∧ 1 ≤ z.2.1.length ∧ 1 ≤ z.2.2.1.length ∧ z.1.length + z.2.1.length + z.2.2.1.length + z.2.2.2.length ≤ 1048576) (fun z => z.2.1.length + z.2.2.1.length) ?_ (P, X, Y, Q) ⟨H.out, hx, hy, hl⟩
    rintro ⟨P, X, Y, Q⟩ ⟨hm, hx, hy, hl⟩ ih
    simp only at hm hx hy hl ih ⊢
    clear w1 w2 hE
    rcases Nat.lt_trichotomy X.length Y.length with h | h | h
    · -- the second one is longer
      obtain ⟨Y1, Y2, rfl, hY⟩ : ∃ Y1 Y2, Y = Y1 ++ Y2 ∧ Y2.length = X.length := ⟨Y.take (Y.length - X.length), Y.drop (Y.length - X.length), (List.take_append_drop _ _).symm, by simp; omega⟩
      rw [List.length_append] at hl h
      have hs := ev_swapRange P X Y1 Y2 Q (m - X.length) (m + Y1.length) X.length (by omega) (by omega) rfl hY.symm (by omega)
      obtain ⟨r, hr, hq⟩ := ih (P, Y2, Y1, X ++ Q) ⟨by show m = P.length + Y2.length; omega, by show 1 ≤ Y2.length; omega, by show 1 ≤ Y1.length; omega, by simp only [List.length_append]; omega⟩ (by simp only [List.length_append]; omega)
      have H2 : Hd (Y2.length = X.length) := ⟨hY⟩
      refine ⟨r, ?_, ?_⟩
      · have c1 : ((X.length : Int) != ((Y1.length + Y2.length : Nat) : Int)) = true := by rw [bne_iff_ne]; omega
        have c2 : decide ((X.length : Int) > ((Y1.length + Y2.length : Nat) : Int)) = false := decide_eq_false (by omega)
        have v1 : IntKind.i64.wrap ((m : Int) - (X.length : Int)) = ((m - X.length : Nat) : Int) := by rw [i64_in (by omega) (by omega)]; omega
        have v2 : IntKind.i64.wrap ((m : Int) + ((Y1.length + Y2.length : Nat) : Int)) = (m : Int) + ((Y1.length + Y2.length : Nat) : Int) := i64_in (by omega) (by omega)
        have v3 : IntKind.i64.wrap ((m : Int) + ((Y1.length + Y2.length : Nat) : Int) - (X.length : Int)) = (m : Int) + (Y1.length : Int) := by rw [i64_in (by omega) (by omega)]; omega
        have v4 : IntKind.i64.wrap (((Y1.length + Y2.length : Nat) : Int) - (X.length : Int)) = (Y1.length : Int) := by rw [i64_in (by omega) (by omega)]; omega
        push_cast at c1 c2 v2 v3 v4 hs
        simp only [hY] at hr
        clear hq hY hm
        repeat' (first | with_reducible refine br_split (fun _ => ?_) (fun _ => ?_) | simp only [*, push_cast, Array.reduceGetElem?, Nat.reduceBEq, Nat.reduceLT, Nat.reduceAdd, Nat.reduceSub, Nat.reduceLeDiff, Nat.reduceMul, Nat.reduceEqDiff, reduceCtorEq, Int.reduceAdd, Int.reduceLT, Int.reduceLE, Int.reduceToNat, Int.reduceNeg, Int.reduceSub, Int.reduceBEq, Int.reduceBNe, Int.reduceNe, Int.reduceGT, Int.reduceGE, Nat.reduceGT] | (rw [drawC_ok]; rotate_left; decide +kernel; exact cfg_mixed))
      · obtain ⟨P', X', Y', Q', g1, g2, g3, g4, g5⟩ := hq
        exact ⟨P', X', Y', Q', g1, g2, g3, by rw [g4]; simp only [List.length_append]; omega, by rw [g5]; simp⟩
    · -- both as long
      refine ⟨_, ?_, P, X, Y, Q, rfl, hm, h, rfl, rfl⟩
      have c1 : ((X.length : Int) != (Y.length : Int)) = false := by rw [h]; simp
      clear ih h hm
      repeat' (first | with_reducible refine br_split (fun _ => ?_) (fun _ => ?_) | simp only [*, push_cast, Array.reduceGetElem?, Nat.reduceBEq, Nat.reduceLT, Nat.reduceAdd, Nat.reduceSub, Nat.reduceLeDiff, Nat.reduceMul, Nat.reduceEqDiff, reduceCtorEq, Int.reduceAdd, Int.reduceLT, Int.reduceLE, Int.reduceToNat, Int.reduceNeg, Int.reduceSub, Int.reduceBEq, Int.reduceBNe, Int.reduceNe, Int.reduceGT, Int.reduceGE, Nat.reduceGT] | (rw [drawC_ok]; rotate_left; decide +kernel; exact cfg_mixed))
    · obtain ⟨X1, X2, rfl, hX⟩ : ∃ X1 X2, X = X1 ++ X2 ∧ X1.length = Y.length := ⟨X.take Y.length, X.drop Y.length, (List.take_append_drop _ _).symm, by simp; omega⟩
      rw [List.length_append] at hl h hm
      have hs := ev_swapRange P X1 X2 Y Q (m - (X1.length + X2.length)) m Y.length (by omega) (by omega) hX.symm hX (by omega)
      obtain ⟨r, hr, hq⟩ := ih (P ++ Y, X2, X1, Q) ⟨by simp only [List.length_append]; omega, by show 1 ≤ X2.length; omega, by show 1 ≤ X1.length; omega, by simp only [List.length_append]; omega⟩ (by simp only [List.length_append]; omega)
      refine ⟨r, ?_, ?_⟩
      · have c1 : (((X1.length + X2.length : Nat) : Int) != (Y.length : Int)) = true := by rw [bne_iff_ne]; omega
        have c2 : decide (((X1.length + X2.length : Nat) : Int) > (Y.length : Int)) = true := decide_eq_true (by omega)
        have v1 : IntKind.i64.wrap ((m : Int) - ((X1.length + X2.length : Nat) : Int)) = ((m - (X1.length + X2.length) : Nat) : Int) := by rw [i64_in (by omega) (by omega)]; omega
        have v4 : IntKind.i64.wrap (((X1.length + X2.length : Nat) : Int) - (Y.length : Int)) = (X2.length : Int) := by rw [i64_in (by omega) (by omega)]; omega
        push_cast at c1 c2 v1 v4 hs
        simp only [hX, List.append_assoc] at hr
        clear hq hX hm
        repeat' (first | with_reducible refine br_split (fun _ => ?_) (fun _ => ?_) | simp only [*, push_cast, Array.reduceGetElem?, Nat.reduceBEq, Nat.reduceLT, Nat.reduceAdd, Nat.reduceSub, Nat.reduceLeDiff, Nat.reduceMul, Nat.reduceEqDiff, reduceCtorEq, Int.reduceAdd, Int.reduceLT, Int.reduceLE, Int.reduceToNat, Int.reduceNeg, Int.reduceSub, Int.reduceBEq, Int.reduceBNe, Int.reduceNe, Int.reduceGT, Int.reduceGE, Nat.reduceGT] | (rw [drawC_ok]; rotate_left; decide +kernel; exact cfg_mixed))
      · obtain ⟨P', X', Y', Q', g1, g2, g3, g4, g5⟩ := hq
        exact ⟨P', X', Y', Q', g1, g2, g3, by rw [g4]; simp only [List.length_append]; omega, by rw [g5]; simp⟩
  obtain ⟨r, rfl, P', X', Y', Q', rfl, g2, g3, g4, g5⟩ := key
  have hs := ev_swapRange P' X' [] Y' Q' (m - X'.length) m X'.length (by omega) (by simp; omega) rfl g3 (by simp; omega)
  rw [List.nil_append, List.nil_append, g5] at hs
  have v1 : IntKind.i64.wrap ((m : Int) - (X'.length : Int)) = ((m - X'.length : Nat) : Int) := by rw [i64_in (by omega) (by omega)]; omega
  clear hE g2 g3 g4 g5
  repeat' (first | with_reducible refine br_split (fun _ => ?_) (fun _ => ?_) | simp only [*, push_cast, Array.reduceGetElem?, Nat.reduceBEq, Nat.reduceLT, Nat.reduceAdd, Nat.reduceSub, Nat.reduceLeDiff, Nat.reduceMul, Nat.reduceEqDiff, reduceCtorEq, Int.reduceAdd, Int.reduceLT, Int.reduceLE, Int.reduceToNat, Int.reduceNeg, Int.reduceSub, Int.reduceBEq, Int.reduceBNe, Int.reduceNe, Int.reduceGT, Int.reduceGE, Nat.reduceGT] | (rw [drawC_ok]; rotate_left; decide +kernel; exact cfg_mixed))
end Go.Av
end

section
namespace Go.Av
open Go.Proofs
set_option linter.unusedSimpArgs false
/-- Rows short enough to be compared. -/
def Short (l : List C) : Prop := ∀ c ∈ l, c.row.length ≤ 1048576
theorem cmp_lt (x y : C) : decide (cmpRow x.row y.row < 0) = ltC x y := rfl
theorem ev_insertion (P M Q : List C) (a b : Nat) (ha : a = P.length) (hb : b = a + M.length) (hl : P.length + M.length + Q.length ≤ 1048576) (hs : Short M) :
    evF cfg 124 [(0, .arr .any 2 ((P ++ (M ++ Q)).map cC))] [.own 0, .d (.i .i64 a), .d (.i .i64 b), .clo 97 []] =
      some (.tup [], [(0, .arr .any 2 ((P ++ (isort ltC M ++ Q)).map cC))]) := by
  have w1 : IntKind.i64.wrap ((a : Int) + 1) = (a : Int) + 1 := wrap_succ (by omega)
  have H : Hd (a = P.length ∧ b = a + M.length) := ⟨⟨ha, hb⟩⟩
  clear ha hb
  have e1 : P ++ (M ++ Q) = P ++ (isort ltC (M.take 1) ++ (M.drop 1 ++ Q)) := by
    cases M with
    | nil => rfl
    | cons x M => rfl
  rw [e1]
  (refine (evF_code (C := cfg) (g := 124) (fn := Try.f124) rfl Try.func124 rfl (by rw [Try.ntmps124]; simp) (by kernel_rfl) (by first | decide | simp [keysOf])).trans ?_; rw [Try.results124, Try.ntmps124])
  repeat' (first | with_reducible refine br_split (fun _ => ?_) (fun _ => ?_) | simp only [*, push_cast, Array.reduceGetElem?, Nat.reduceBEq, Nat.reduceLT, Nat.reduceAdd, Nat.reduceSub, Nat.reduceLeDiff, Nat.reduceMul, Nat.reduceEqDiff, reduceCtorEq, Int.reduceAdd, Int.reduceLT, Int.reduceLE, Int.reduceToNat, Int.reduceNeg, Int.reduceSub, Int.reduceBEq, Int.reduceBNe, Int.reduceNe, Int.reduceGT, Int.reduceGE, Nat.reduceGT] | (rw [drawC_ok]; rotate_left; decide +kernel; exact cfg_mixed))
  generalize hE : evM cfg _ _ _ _ _ = R
  have key : ∃ r, R = some r ∧ r = (Exit.exit 0, { t := [], o := [(0, .arr .any 2 ((P ++ (isort ltC M ++ Q)).map cC))], ks := [0], n := 0, sz := 53, u := noU }) := by
    rw [← hE]
    refine evM_ex (α := Nat) (fun k => { t := [(0, .own 0), (1, .d (.i .i64 a)), (2, .d (.i .i64 b)), (3, .clo 97 []), (8, .d (.i .i64 ((a : Int) + (k : Nat))))], o := [(0, .arr .any 2 ((P ++ (isort ltC (M.take k) ++ (M.drop k ++ Q))).map cC))], ks := [0], n := 0, sz := 53, u := noU })
      (fun _ r => r = (.exit 0, { t := [], o := [(0, .arr .any 2 ((P ++ (isort ltC M ++ Q)).map cC))], ks := [0], n := 0, sz := 53, u := noU })) (fun k => 1 ≤ k) (fun k => M.length - k) ?_ 1 (Nat.le_refl _)
    clear hE R e1 w1
    intro k hk ih
    obtain ⟨ha, hb⟩ := H.out
    by_cases hkm : k < M.length
    · obtain ⟨r, hr, rfl⟩ := ih (k + 1) (by omega) (by omega)
      refine ⟨_, ?_, rfl⟩
      have c1 : decide ((a : Int) + (k : Int) < (b : Int)) = true := decide_eq_true (by omega)
      have w2 : IntKind.i64.wrap ((a : Int) + (k : Int) + 1) = (a : Int) + (k : Int) + 1 := i64_in (by omega) (by omega)
      have w3 : (a : Int) + ((k : Int) + 1) = (a : Int) + (k : Int) + 1 := by omega
      have hx := hs _ (List.getElem_mem hkm)
      have hS : ∀ c ∈ isort ltC (M.take k), c.row.length ≤ 1048576 := fun c hc => hs c (List.mem_of_mem_take ((isort_perm _).mem_iff.1 hc))
      have e3 : isort ltC (M.take (k + 1)) = ins ltC (isort ltC (M.take k)) M[k] := by unfold isort; rw [List.take_succ_eq_append_getElem hkm, List.foldl_append]; rfl
      have hlen : (isort ltC (M.take k)).length = k := by rw [isort_len]; simp; omega
      rw [List.drop_eq_getElem_cons hkm, List.cons_append]
      rw [e3] at hr
      have hT : k + 1 + (M.drop (k + 1) ++ Q).length ≤ 1048576 - P.length := by simp; omega
      generalize M[k] = x at *
      generalize M.drop (k + 1) ++ Q = T0 at *
      generalize isort ltC (M.take k) = S at *
      clear e3
      subst hlen
      have H3 : Hd (a = P.length) := ⟨ha⟩
      clear ha hb
      rw [show ((S.length + 1 : Nat) : Int) = (S.length : Int) + 1 from rfl, w3] at hr
      repeat' (first | with_reducible refine br_split (fun _ => ?_) (fun _ => ?_) | simp only [*, push_cast, Array.reduceGetElem?, Nat.reduceBEq, Nat.reduceLT, Nat.reduceAdd, Nat.reduceSub, Nat.reduceLeDiff, Nat.reduceMul, Nat.reduceEqDiff, reduceCtorEq, Int.reduceAdd, Int.reduceLT, Int.reduceLE, Int.reduceToNat, Int.reduceNeg, Int.reduceSub, Int.reduceBEq, Int.reduceBNe, Int.reduceNe, Int.reduceGT, Int.reduceGE, Nat.reduceGT] | (rw [drawC_ok]; rotate_left; decide +kernel; exact cfg_mixed))
      generalize hE2 : evM cfg _ _ _ _ _ = R2
      have key2 : ∃ r, R2 = some r ∧ r = (Exit.exit 2, { t := [(0, .own 0), (1, .d (.i .i64 a)), (2, .d (.i .i64 b)), (3, .clo 97 []), (8, .d (.i .i64 ((a : Int) + (S.length : Nat))))], o := [(0, .arr .any 2 ((P ++ (ins ltC S x ++ T0)).map cC))], ks := [0], n := 0, sz := 53, u := noU }) := by
        rw [← hE2]
        refine evM_ex (α := List C × List C) (fun z => { t := [(0, .own 0), (1, .d (.i .i64 a)), (2, .d (.i .i64 b)), (3, .clo 97 []), (8, .d (.i .i64 ((a : Int) + (S.length : Nat)))), (9, .d (.i .i64 ((a : Int) + (z.1.length : Nat))))], o := [(0, .arr .any 2 ((P ++ (z.1 ++ x :: z.2)).map cC))], ks := [0], n := 0, sz := 53, u := noU })
          (fun z r => r = (Exit.exit 2, { t := [(0, .own 0), (1, .d (.i .i64 a)), (2, .d (.i .i64 b)), (3, .clo 97 []), (8, .d (.i .i64 ((a : Int) + (S.length : Nat))))], o := [(0, .arr .any 2 ((P ++ (ins ltC z.1 x ++ z.2)).map cC))], ks := [0], n := 0, sz := 53, u := noU }))
          (fun z => Short z.1 ∧ z.1.length + 1 + z.2.length ≤ 1048576 - P.length) (fun z => z.1.length) ?_ (S, T0) ⟨hS, hT⟩
        clear hE2 R2 hS hT hr c1 w2 w3 hl
        generalize (a : Int) + (S.length : Nat) = k0
        rintro ⟨S, T⟩ ⟨hS, hT⟩ ih
        have ha := H3.out
        simp only at hS hT ih ⊢
        rcases List.eq_nil_or_concat S with rfl | ⟨S', y, rfl⟩
        · refine ⟨_, ?_, rfl⟩
          have c1 : decide ((a : Int) + ((([] : List C).length : Nat) : Int) > (a : Int)) = false := decide_eq_false (by simp)
          rw [ins_nil, List.nil_append]
          clear ih ha
          generalize (a : Int) + ((([] : List C).length : Nat) : Int) = j at *
          repeat' (first | with_reducible refine br_split (fun _ => ?_) (fun _ => ?_) | simp only [*, push_cast, Array.reduceGetElem?, Nat.reduceBEq, Nat.reduceLT, Nat.reduceAdd, Nat.reduceSub, Nat.reduceLeDiff, Nat.reduceMul, Nat.reduceEqDiff, reduceCtorEq, Int.reduceAdd, Int.reduceLT, Int.reduceLE, Int.reduceToNat, Int.reduceNeg, Int.reduceSub, Int.reduceBEq, Int.reduceBNe, Int.reduceNe, Int.reduceGT, Int.reduceGE, Nat.reduceGT] | (rw [drawC_ok]; rotate_left; decide +kernel; exact cfg_mixed))
        · rw [List.concat_eq_append] at *
          simp only [List.length_append, List.length_singleton] at hT ⊢
          have hyl : y.row.length ≤ 1048576 := hS y (by simp)
          have j0 : decide ((a : Int) + ((S'.length + 1 : Nat) : Int) > (a : Int)) = true := decide_eq_true (by omega)
          have j1 : ((a : Int) + ((S'.length + 1 : Nat) : Int)).toNat = (P ++ S').length + 1 := by rw [List.length_append]; omega
          have j2 : decide (0 ≤ (a : Int) + ((S'.length + 1 : Nat) : Int)) = true := decide_eq_true (by omega)
          have j3 : IntKind.i64.wrap ((a : Int) + ((S'.length + 1 : Nat) : Int) - 1) = (a : Int) + (S'.length : Int) := by rw [i64_in (by omega) (by omega)]; omega
          have j4 : ((a : Int) + (S'.length : Int)).toNat = (P ++ S').length := by rw [List.length_append]; omega
          have j5 : decide (0 ≤ (a : Int) + (S'.length : Int)) = true := decide_eq_true (by omega)
          have e : P ++ (S' ++ [y] ++ x :: T) = (P ++ S') ++ y :: ([] ++ x :: T) := by simp
          have g1 : (P ++ (S' ++ [y] ++ x :: T))[(P ++ S').length + 1]? = some x := by rw [e]; exact sw_get2 (by simp)
          have g2 : (P ++ (S' ++ [y] ++ x :: T))[(P ++ S').length]? = some y := by rw [e]; exact sw_get1 rfl
          have k1 := cC_get g1
          have k2 := cC_get g2
          have l1 := dec_ltN (lt_of_get g1)
          have l2 := dec_ltN (lt_of_get g2)
          have hs1 := cC_set (P ++ (S' ++ [y] ++ x :: T)) ((P ++ S').length + 1) y
          have hs2 := cC_set ((P ++ (S' ++ [y] ++ x :: T)).set ((P ++ S').length + 1) y) (P ++ S').length x
          have k3 : (((P ++ (S' ++ [y] ++ x :: T)).set ((P ++ S').length + 1) y).map cC)[(P ++ S').length]? = some [.sl .any (y.row.map vC), .i .i64 y.n] := by
            rw [e, sw_set2 (by simp)]; exact cC_get (sw_get1 rfl)
          have e2 : (((P ++ (S' ++ [y] ++ x :: T)).set ((P ++ S').length + 1) y).set (P ++ S').length x) = P ++ (S' ++ x :: y :: T) := by
            rw [e, sw_both' rfl (by simp)]; simp
          rw [e2] at hs2
          have hcm := ev_gathCmp x y (by omega)
          clear g1 g2 e e2
          generalize hL0 : P ++ (S' ++ [y] ++ x :: T) = L0 at *
          generalize (P ++ S').length = q at *
          rw [ins_snoc]
          cases hb : ltC x y with
          | true =>
            obtain ⟨r, hr, rfl⟩ := ih (S', y :: T) ⟨fun c hc => hS c (by simp [hc]), by simp only [List.length_cons]; omega⟩ (by simp)
            refine ⟨_, ?_, rfl⟩
            have hlt : decide (cmpRow x.row y.row < 0) = true := (cmp_lt x y).trans hb
            rw [cond_true, List.append_assoc, List.singleton_append]
            clear ih ha hS hT hb hL0
            generalize (a : Int) + ((S'.length + 1 : Nat) : Int) = j at *
            generalize (a : Int) + (S'.length : Int) = jm at *
            repeat' (first | with_reducible refine br_split (fun _ => ?_) (fun _ => ?_) | simp only [*, List.length_set, push_cast, Array.reduceGetElem?, Nat.reduceBEq, Nat.reduceLT, Nat.reduceAdd, Nat.reduceSub, Nat.reduceLeDiff, Nat.reduceMul, Nat.reduceEqDiff, reduceCtorEq, Int.reduceAdd, Int.reduceLT, Int.reduceLE, Int.reduceToNat, Int.reduceNeg, Int.reduceSub, Int.reduceBEq, Int.reduceBNe, Int.reduceNe, Int.reduceGT, Int.reduceGE, Nat.reduceGT] | (rw [drawC_ok]; rotate_left; decide +kernel; exact cfg_mixed))
          | false =>
            refine ⟨_, ?_, rfl⟩
            have hlt : decide (cmpRow x.row y.row < 0) = false := (cmp_lt x y).trans hb
            rw [cond_false]
            have hL1 : P ++ (S' ++ [y] ++ [x] ++ T) = L0 := by rw [← hL0]; simp
            rw [hL1]
            clear ih ha hS hT hb hL0 hL1
            generalize (a : Int) + ((S'.length + 1 : Nat) : Int) = j at *
            generalize (a : Int) + (S'.length : Int) = jm at *
            repeat' (first | with_reducible refine br_split (fun _ => ?_) (fun _ => ?_) | simp only [*, List.length_set, push_cast, Array.reduceGetElem?, Nat.reduceBEq, Nat.reduceLT, Nat.reduceAdd, Nat.reduceSub, Nat.reduceLeDiff, Nat.reduceMul, Nat.reduceEqDiff, reduceCtorEq, Int.reduceAdd, Int.reduceLT, Int.reduceLE, Int.reduceToNat, Int.reduceNeg, Int.reduceSub, Int.reduceBEq, Int.reduceBNe, Int.reduceNe, Int.reduceGT, Int.reduceGE, Nat.reduceGT] | (rw [drawC_ok]; rotate_left; decide +kernel; exact cfg_mixed))
      obtain ⟨_, rfl, rfl⟩ := key2
      clear hE2
      repeat' (first | with_reducible refine br_split (fun _ => ?_) (fun _ => ?_) | simp only [*, push_cast, Array.reduceGetElem?, Nat.reduceBEq, Nat.reduceLT, Nat.reduceAdd, Nat.reduceSub, Nat.reduceLeDiff, Nat.reduceMul, Nat.reduceEqDiff, reduceCtorEq, Int.reduceAdd, Int.reduceLT, Int.reduceLE, Int.reduceToNat, Int.reduceNeg, Int.reduceSub, Int.reduceBEq, Int.reduceBNe, Int.reduceNe, Int.reduceGT, Int.reduceGE, Nat.reduceGT] | (rw [drawC_ok]; rotate_left; decide +kernel; exact cfg_mixed))
    · refine ⟨_, ?_, rfl⟩
      have c1 : decide ((a : Int) + (k : Int) < (b : Int)) = false := decide_eq_false (by omega)
      have e2 : M.take k = M := List.take_of_length_le (by omega)
      have e3 : M.drop k = [] := List.drop_eq_nil_of_le (by omega)
      clear ha hb
      repeat' (first | with_reducible refine br_split (fun _ => ?_) (fun _ => ?_) | simp only [*, push_cast, Array.reduceGetElem?, Nat.reduceBEq, Nat.reduceLT, Nat.reduceAdd, Nat.reduceSub, Nat.reduceLeDiff, Nat.reduceMul, Nat.reduceEqDiff, reduceCtorEq, Int.reduceAdd, Int.reduceLT, Int.reduceLE, Int.reduceToNat, Int.reduceNeg, Int.reduceSub, Int.reduceBEq, Int.reduceBNe, Int.reduceNe, Int.reduceGT, Int.reduceGE, Nat.reduceGT] | (rw [drawC_ok]; rotate_left; decide +kernel; exact cfg_mixed))
  obtain ⟨_, rfl, rfl⟩ := key
  clear hE e1
  repeat' (first | with_reducible refine br_split (fun _ => ?_) (fun _ => ?_) | simp only [*, push_cast, Array.reduceGetElem?, Nat.reduceBEq, Nat.reduceLT, Nat.reduceAdd, Nat.reduceSub, Nat.reduceLeDiff, Nat.reduceMul, Nat.reduceEqDiff, reduceCtorEq, Int.reduceAdd, Int.reduceLT, Int.reduceLE, Int.reduceToNat, Int.reduceNeg, Int.reduceSub, Int.reduceBEq, Int.reduceBNe, Int.reduceNe, Int.reduceGT, Int.reduceGE, Nat.reduceGT] | (rw [drawC_ok]; rotate_left; decide +kernel; exact cfg_mixed))
end Go.Av
end

section
namespace Go.Av
open Go.Proofs
set_option linter.unusedSimpArgs false
theorem u64_in {n : Int} (h1 : 0 ≤ n) (h2 : n < 18446744073709551616) : IntKind.u64.wrap n = n := by
  have a : ((2 : Int) ^ IntKind.u64.bits) = 18446744073709551616 := by decide
  have c : IntKind.u64.signed = false := rfl
  simp only [IntKind.wrap, a, c, Bool.false_and]
  rw [if_neg (by simp)]
  omega
theorem half_eq {x : Int} (h0 : 0 ≤ x) (h1 : x < 9223372036854775808) : IntKind.i64.wrap ((IntKind.u64.wrap x).fdiv (2 ^ min 1 IntKind.u64.bits)) = x / 2 := by
  have e : ((2 : Int) ^ min 1 IntKind.u64.bits) = 2 := by decide
  rw [u64_in h0 (by omega), e, Int.fdiv_eq_ediv_of_nonneg _ (by omega)]
  exact i64_in (by omega) (by omega)
set_option maxHeartbeats 1000000 in
/-- An element ahead of a sorted row, brought to its place. -/
theorem ev_sym1 (P B Q : List C) (x : C) (a m b : Nat) (ha : a = P.length) (hm : m = a + 1) (hb : b = m + B.length) (hB : 1 ≤ B.length) (hl : P.length + 1 + B.length + Q.length ≤ 1048576) (hx : x.row.length ≤ 1048576) (hs : Short B) (hsB : Srt ltC B) :
    ∃ M, Srt ltC M ∧ M.Perm (x :: B) ∧ evF cfg 125 [(0, .arr .any 2 ((P ++ x :: (B ++ Q)).map cC))] [.own 0, .d (.i .i64 a), .d (.i .i64 m), .d (.i .i64 b), .clo 97 []] =
      some (.tup [], [(0, .arr .any 2 ((P ++ (M ++ Q)).map cC))]) := by
  -- where it goes
  obtain ⟨p, hp⟩ : ∃ p : Nat → Bool, ∀ h (hh : h - m < B.length), p h = ltC B[h - m] x := ⟨fun h => match B[h - m]? with | some y => ltC y x | none => false, fun h hh => by simp [hh]⟩
  obtain ⟨s1, s2⟩ := bs2_le p m b (by omega)
  have s3 := bs2_lo p m m b (by omega) (.inl rfl)
  have s4 := bs2_hi p b m b (by omega) (.inl rfl)
  generalize hsv : bs2 p m b = s at *
  have hsl : s - m ≤ B.length := by omega
  refine ⟨B.take (s - m) ++ x :: B.drop (s - m), ?_, ?_, ?_⟩
  · have hB0 := hsB
    rw [← List.take_append_drop (s - m) B, srt_append] at hB0
    obtain ⟨k1, k2, k3⟩ := hB0
    rw [srt_append]
    refine ⟨k1, List.pairwise_cons.2 ⟨fun y hy => ?_, k2⟩, fun y hy z hz => ?_⟩
    · -- behind it
      rcases s4 with e | e
      · have : B.drop (s - m) = [] := List.drop_eq_nil_of_le (by omega)
        rw [this] at hy; cases hy
      · by_cases hlt : s - m < B.length
        · rw [hp s hlt] at e
          rw [List.drop_eq_getElem_cons hlt] at hy k2
          exact srt_first ltC_wo k2 e y hy
        · have : B.drop (s - m) = [] := List.drop_eq_nil_of_le (by omega)
          rw [this] at hy; cases hy
    · have hlast : ∀ y ∈ B.take (s - m), ltC x y = false := by
        intro y hy
        rcases s3 with e | e
        · rw [show s - m = 0 by omega, List.take_zero] at hy; cases hy
        · by_cases h0 : s - m = 0
          · rw [h0, List.take_zero] at hy; cases hy
          · have hlt : s - 1 - m < B.length := by omega
            rw [hp (s - 1) hlt] at e
            have e2 : B.take (s - m) = B.take (s - 1 - m) ++ [B[s - 1 - m]] := by rw [show s - m = s - 1 - m + 1 by omega, List.take_succ_eq_append_getElem hlt]
            rw [e2] at hy k1
            exact srt_last ltC_wo k1 (ltC_wo.asym _ _ e) y hy
      rcases List.mem_cons.1 hz with rfl | hz
      · exact hlast y hy
      · exact k3 y hy z hz
  · refine List.perm_middle.trans ?_
    rw [List.take_append_drop]
  have H : Hd (a = P.length ∧ m = a + 1 ∧ b = m + B.length ∧ m ≤ s ∧ s ≤ b) := ⟨⟨ha, hm, hb, s1, s2⟩⟩
  have c0 : (IntKind.i64.wrap ((m : Int) - (a : Int)) == 1) = true := by rw [i64_in (by omega) (by omega), beq_iff_eq]; omega
  clear ha hm hb s1 s2 s3 s4
  (refine (evF_code (C := cfg) (g := 125) (fn := Try.f125) rfl Try.func125 rfl (by rw [Try.ntmps125]; simp) (by kernel_rfl) (by first | decide | simp [keysOf])).trans ?_; rw [Try.results125, Try.ntmps125])
  repeat' (first | with_reducible refine br_split (fun _ => ?_) (fun _ => ?_) | simp only [*, push_cast, Array.reduceGetElem?, Nat.reduceBEq, Nat.reduceLT, Nat.reduceAdd, Nat.reduceSub, Nat.reduceLeDiff, Nat.reduceMul, Nat.reduceEqDiff, reduceCtorEq, Int.reduceAdd, Int.reduceLT, Int.reduceLE, Int.reduceToNat, Int.reduceNeg, Int.reduceSub, Int.reduceBEq, Int.reduceBNe, Int.reduceNe, Int.reduceGT, Int.reduceGE, Nat.reduceGT] | (rw [drawC_ok]; rotate_left; decide +kernel; exact cfg_mixed))
  obtain ⟨ha, hm, hb, s1, s2⟩ := H.out
  have hsB' : Hd (Short B) := ⟨hs⟩
  clear hs hsB
  rw [evM_bsl p m b (fun i j => { t := [(0, .own 0), (1, .d (.i .i64 a)), (4, .clo 97 []), (10, .d (.i .i64 i)), (11, .d (.i .i64 j))], o := [(0, .arr .any 2 ((P ++ x :: (B ++ Q)).map cC))], ks := [0], n := 0, sz := 220, u := noU })
    (fun i => some (.exit 0, { t := [(0, .own 0), (1, .d (.i .i64 a)), (10, .d (.i .i64 (i : Nat)))], o := [(0, .arr .any 2 ((P ++ x :: (B ++ Q)).map cC))], ks := [0], n := 0, sz := 220, u := noU })) ?step ?last m b (Nat.le_refl _) (by omega) (Nat.le_refl _), hsv]
  case step =>
    intro i j h hil hij hj hh h1 h2
    have hb2 : h - m < B.length := by omega
    have hd := dec_lt hij
    have q1 : IntKind.i64.wrap ((i : Int) + (j : Int)) = (i : Int) + (j : Int) := i64_in (by omega) (by omega)
    have q2 : IntKind.i64.wrap ((IntKind.u64.wrap ((i : Int) + (j : Int))).fdiv (2 ^ min 1 IntKind.u64.bits)) = (h : Int) := by rw [half_eq (by omega) (by omega)]; omega
    have q3 : IntKind.i64.wrap ((h : Int) + 1) = (h : Int) + 1 := wrap_succ (by omega)
    have g1 : (P ++ x :: (B ++ Q))[h]? = some B[h - m] := by
      rw [List.getElem?_append_right (by omega), show h - P.length = (h - m) + 1 by omega, List.getElem?_cons_succ, List.getElem?_append_left hb2, List.getElem?_eq_getElem hb2]
    have g2 : (P ++ x :: (B ++ Q))[a]? = some x := by rw [ha, List.getElem?_append_right (Nat.le_refl _), Nat.sub_self]; rfl
    have k1 := cC_get g1
    have k2 := cC_get g2
    have l1 := dec_ltN (lt_of_get g1)
    have l2 := dec_ltN (lt_of_get g2)
    have hcm := ev_gathCmp B[h - m] x (by have := hsB'.out _ (List.getElem_mem hb2); omega)
    have hph := hp h hb2
    clear g1 g2 ha hm hb s1 s2 hsv
    generalize P ++ x :: (B ++ Q) = L0 at *
    cases hb : p h with
    | true =>
      have h3 := h1 hb
      have hlt : decide (cmpRow B[h - m].row x.row < 0) = true := (cmp_lt _ _).trans (hph.symm.trans hb)
      clear h1 h2 hh hph hp
      repeat' (first | with_reducible refine br_split (fun _ => ?_) (fun _ => ?_) | simp only [*, push_cast, Array.reduceGetElem?, Nat.reduceBEq, Nat.reduceLT, Nat.reduceAdd, Nat.reduceSub, Nat.reduceLeDiff, Nat.reduceMul, Nat.reduceEqDiff, reduceCtorEq, Int.reduceAdd, Int.reduceLT, Int.reduceLE, Int.reduceToNat, Int.reduceNeg, Int.reduceSub, Int.reduceBEq, Int.reduceBNe, Int.reduceNe, Int.reduceGT, Int.reduceGE, Nat.reduceGT] | (rw [drawC_ok]; rotate_left; decide +kernel; exact cfg_mixed))
    | false =>
      have h3 := h2 hb
      have hlt : decide (cmpRow B[h - m].row x.row < 0) = false := (cmp_lt _ _).trans (hph.symm.trans hb)
      clear h1 h2 hh hph hp
      repeat' (first | with_reducible refine br_split (fun _ => ?_) (fun _ => ?_) | simp only [*, push_cast, Array.reduceGetElem?, Nat.reduceBEq, Nat.reduceLT, Nat.reduceAdd, Nat.reduceSub, Nat.reduceLeDiff, Nat.reduceMul, Nat.reduceEqDiff, reduceCtorEq, Int.reduceAdd, Int.reduceLT, Int.reduceLE, Int.reduceToNat, Int.reduceNeg, Int.reduceSub, Int.reduceBEq, Int.reduceBNe, Int.reduceNe, Int.reduceGT, Int.reduceGE, Nat.reduceGT] | (rw [drawC_ok]; rotate_left; decide +kernel; exact cfg_mixed))
  case last =>
    intro i hi1 hi2
    clear ha hm hb s1 s2
    repeat' (first | with_reducible refine br_split (fun _ => ?_) (fun _ => ?_) | simp only [*, push_cast, Array.reduceGetElem?, Nat.reduceBEq, Nat.reduceLT, Nat.reduceAdd, Nat.reduceSub, Nat.reduceLeDiff, Nat.reduceMul, Nat.reduceEqDiff, reduceCtorEq, Int.reduceAdd, Int.reduceLT, Int.reduceLE, Int.reduceToNat, Int.reduceNeg, Int.reduceSub, Int.reduceBEq, Int.reduceBNe, Int.reduceNe, Int.reduceGT, Int.reduceGE, Nat.reduceGT] | (rw [drawC_ok]; rotate_left; decide +kernel; exact cfg_mixed))
  have v1 : IntKind.i64.wrap ((s : Int) - 1) = (s : Int) - 1 := i64_in (by omega) (by omega)
  have e0 : P ++ x :: (B ++ Q) = P ++ (B.take 0 ++ x :: (B.drop 0 ++ Q)) := by simp
  rw [e0]
  clear ha hm hb s1 s2 hsv e0
  repeat' (first | with_reducible refine br_split (fun _ => ?_) (fun _ => ?_) | simp only [*, push_cast, Array.reduceGetElem?, Nat.reduceBEq, Nat.reduceLT, Nat.reduceAdd, Nat.reduceSub, Nat.reduceLeDiff, Nat.reduceMul, Nat.reduceEqDiff, reduceCtorEq, Int.reduceAdd, Int.reduceLT, Int.reduceLE, Int.reduceToNat, Int.reduceNeg, Int.reduceSub, Int.reduceBEq, Int.reduceBNe, Int.reduceNe, Int.reduceGT, Int.reduceGE, Nat.reduceGT] | (rw [drawC_ok]; rotate_left; decide +kernel; exact cfg_mixed))
  generalize hE : evM cfg _ _ _ _ _ = R
  have key : ∃ r, R = some r ∧ r = (Exit.exit 2, { t := [], o := [(0, .arr .any 2 ((P ++ (B.take (s - m) ++ x :: (B.drop (s - m) ++ Q))).map cC))], ks := [0], n := 0, sz := 220, u := noU }) := by
    rw [← hE]
    refine evM_ex (α := Nat) (fun k => { t := [(0, .own 0), (10, .d (.i .i64 s)), (13, .d (.i .i64 ((a + k : Nat) : Int)))], o := [(0, .arr .any 2 ((P ++ (B.take k ++ x :: (B.drop k ++ Q))).map cC))], ks := [0], n := 0, sz := 220, u := noU })
      (fun _ r => r = (Exit.exit 2, { t := [], o := [(0, .arr .any 2 ((P ++ (B.take (s - m) ++ x :: (B.drop (s - m) ++ Q))).map cC))], ks := [0], n := 0, sz := 220, u := noU })) (fun k => k ≤ s - m) (fun k => s - m - k) ?_ 0 (Nat.zero_le _)
    clear hE R
    intro k hk ih
    obtain ⟨ha, hm, hb, s1, s2⟩ := H.out
    by_cases hlt : k < s - m
    · obtain ⟨r, hr, rfl⟩ := ih (k + 1) (by omega) (by omega)
      refine ⟨_, ?_, rfl⟩
      have hkB : k < B.length := by omega
      have c1 : decide ((a : Int) + (k : Int) < (s : Int) - 1) = true := decide_eq_true (by omega)
      have v2 : IntKind.i64.wrap ((a : Int) + (k : Int) + 1) = (a : Int) + (k : Int) + 1 := i64_in (by omega) (by omega)
      have t1 : ((a : Int) + (k : Int)).toNat = P.length + k := by omega
      have t2 : ((a : Int) + (k : Int) + 1).toNat = P.length + k + 1 := by omega
      have p1 : decide (0 ≤ (a : Int) + (k : Int)) = true := decide_eq_true (by omega)
      have p2 : decide (0 ≤ (a : Int) + (k : Int) + 1) = true := decide_eq_true (by omega)
      rw [show ((a + (k + 1) : Nat) : Int) = (a : Int) + (k : Int) + 1 by omega] at hr
      rw [show ((a + k : Nat) : Int) = (a : Int) + (k : Int) from rfl]
      have hA : P.length + k = (P ++ B.take k).length := by simp; omega
      have hB2 : P.length + k + 1 = (P ++ B.take k).length + 1 + ([] : List C).length := by rw [hA]; simp
      have e : P ++ (B.take k ++ x :: (B.drop k ++ Q)) = (P ++ B.take k) ++ x :: ([] ++ B[k] :: (B.drop (k + 1) ++ Q)) := by
        rw [List.drop_eq_getElem_cons hkB]; simp only [List.append_assoc, List.cons_append, List.nil_append]
      have e2 : P ++ (B.take (k + 1) ++ x :: (B.drop (k + 1) ++ Q)) = (P ++ B.take k) ++ B[k] :: ([] ++ x :: (B.drop (k + 1) ++ Q)) := by
        rw [List.take_succ_eq_append_getElem hkB]; simp only [List.append_assoc, List.cons_append, List.nil_append]
      have k1 := cC_get (show (P ++ (B.take k ++ x :: (B.drop k ++ Q)))[P.length + k]? = some x by rw [e]; exact sw_get1 hA)
      have k2 := cC_get (show (P ++ (B.take k ++ x :: (B.drop k ++ Q)))[P.length + k + 1]? = some B[k] by rw [e]; exact sw_get2 hB2)
      have l1 : decide (P.length + k < (P ++ (B.take k ++ x :: (B.drop k ++ Q))).length) = true := dec_ltN (lt_of_get (show (P ++ (B.take k ++ x :: (B.drop k ++ Q)))[P.length + k]? = some x by rw [e]; exact sw_get1 hA))
      have l2 : decide (P.length + k + 1 < (P ++ (B.take k ++ x :: (B.drop k ++ Q))).length) = true := dec_ltN (lt_of_get (show (P ++ (B.take k ++ x :: (B.drop k ++ Q)))[P.length + k + 1]? = some B[k] by rw [e]; exact sw_get2 hB2))
      have hs1 := cC_set (P ++ (B.take k ++ x :: (B.drop k ++ Q))) (P.length + k) B[k]
      have k3 : (((P ++ (B.take k ++ x :: (B.drop k ++ Q))).set (P.length + k) B[k]).map cC)[P.length + k + 1]? = some [.sl .any (B[k].row.map vC), .i .i64 B[k].n] := by
        rw [e, sw_set1 hA]; exact cC_get (sw_get2 hB2)
      have hs2 := cC_set ((P ++ (B.take k ++ x :: (B.drop k ++ Q))).set (P.length + k) B[k]) (P.length + k + 1) x
      have hs3 : ((P ++ (B.take k ++ x :: (B.drop k ++ Q))).set (P.length + k) B[k]).set (P.length + k + 1) x = P ++ (B.take (k + 1) ++ x :: (B.drop (k + 1) ++ Q)) := by
        rw [e, sw_both hA hB2, e2]
      rw [hs3] at hs2
      generalize P ++ (B.take (k + 1) ++ x :: (B.drop (k + 1) ++ Q)) = L1 at *
      generalize P ++ (B.take k ++ x :: (B.drop k ++ Q)) = L0 at *
      generalize (a : Int) + (k : Int) = j at *
      generalize P.length + k = q at *
      clear ha hm hb s1 s2 hA hB2 e e2 hs3 ih hlt
      repeat' (first | with_reducible refine br_split (fun _ => ?_) (fun _ => ?_) | simp only [*, List.length_set, push_cast, Array.reduceGetElem?, Nat.reduceBEq, Nat.reduceLT, Nat.reduceAdd, Nat.reduceSub, Nat.reduceLeDiff, Nat.reduceMul, Nat.reduceEqDiff, reduceCtorEq, Int.reduceAdd, Int.reduceLT, Int.reduceLE, Int.reduceToNat, Int.reduceNeg, Int.reduceSub, Int.reduceBEq, Int.reduceBNe, Int.reduceNe, Int.reduceGT, Int.reduceGE, Nat.reduceGT] | (rw [drawC_ok]; rotate_left; decide +kernel; exact cfg_mixed))
    · refine ⟨_, ?_, rfl⟩
      have e1 : k = s - m := by omega
      have c1 : decide ((a : Int) + (k : Int) < (s : Int) - 1) = false := decide_eq_false (by omega)
      rw [← e1]
      rw [show ((a + k : Nat) : Int) = (a : Int) + (k : Int) from rfl]
      clear ih hlt ha hm hb s1 s2 e1
      repeat' (first | with_reducible refine br_split (fun _ => ?_) (fun _ => ?_) | simp only [*, push_cast, Array.reduceGetElem?, Nat.reduceBEq, Nat.reduceLT, Nat.reduceAdd, Nat.reduceSub, Nat.reduceLeDiff, Nat.reduceMul, Nat.reduceEqDiff, reduceCtorEq, Int.reduceAdd, Int.reduceLT, Int.reduceLE, Int.reduceToNat, Int.reduceNeg, Int.reduceSub, Int.reduceBEq, Int.reduceBNe, Int.reduceNe, Int.reduceGT, Int.reduceGE, Nat.reduceGT] | (rw [drawC_ok]; rotate_left; decide +kernel; exact cfg_mixed))
  obtain ⟨_, rfl, rfl⟩ := key
  clear hE
  repeat' (first | with_reducible refine br_split (fun _ => ?_) (fun _ => ?_) | simp only [*, push_cast, Array.reduceGetElem?, Nat.reduceBEq, Nat.reduceLT, Nat.reduceAdd, Nat.reduceSub, Nat.reduceLeDiff, Nat.reduceMul, Nat.reduceEqDiff, reduceCtorEq, Int.reduceAdd, Int.reduceLT, Int.reduceLE, Int.reduceToNat, Int.reduceNeg, Int.reduceSub, Int.reduceBEq, Int.reduceBNe, Int.reduceNe, Int.reduceGT, Int.reduceGE, Nat.reduceGT] | (rw [drawC_ok]; rotate_left; decide +kernel; exact cfg_mixed))
end Go.Av
end

section
namespace Go.Av
open Go.Proofs
set_option linter.unusedSimpArgs false
set_option maxHeartbeats 1000000 in
/-- An element behind a sorted row, brought to its place. -/
theorem ev_sym2 (P A Q : List C) (x : C) (a m b : Nat) (ha : a = P.length) (hm : m = a + A.length) (hb : b = m + 1) (hA : 2 ≤ A.length) (hl : P.length + 1 + A.length + Q.length ≤ 1048576) (hx : x.row.length ≤ 1048576) (hs : Short A) (hsA : Srt ltC A) :
    ∃ M, Srt ltC M ∧ M.Perm (A ++ [x]) ∧ evF cfg 125 [(0, .arr .any 2 ((P ++ (A ++ x :: Q)).map cC))] [.own 0, .d (.i .i64 a), .d (.i .i64 m), .d (.i .i64 b), .clo 97 []] =
      some (.tup [], [(0, .arr .any 2 ((P ++ (M ++ Q)).map cC))]) := by
  obtain ⟨p, hp⟩ : ∃ p : Nat → Bool, ∀ h (hh : h - a < A.length), p h = !ltC x A[h - a] := ⟨fun h => match A[h - a]? with | some y => !ltC x y | none => false, fun h hh => by simp [hh]⟩
  obtain ⟨s1, s2⟩ := bs2_le p a m (by omega)
  have s3 := bs2_lo p a a m (by omega) (.inl rfl)
  have s4 := bs2_hi p m a m (by omega) (.inl rfl)
  generalize hsv : bs2 p a m = s at *
  have hsl : s - a ≤ A.length := by omega
  refine ⟨A.take (s - a) ++ x :: A.drop (s - a), ?_, ?_, ?_⟩
  · have hA0 := hsA
    rw [← List.take_append_drop (s - a) A, srt_append] at hA0
    obtain ⟨k1, k2, k3⟩ := hA0
    rw [srt_append]
    refine ⟨k1, List.pairwise_cons.2 ⟨fun y hy => ?_, k2⟩, fun y hy z hz => ?_⟩
    · rcases s4 with e | e
      · have : A.drop (s - a) = [] := List.drop_eq_nil_of_le (by omega)
        rw [this] at hy; cases hy
      · by_cases hlt : s - a < A.length
        · rw [hp s hlt, Bool.not_eq_false'] at e
          rw [List.drop_eq_getElem_cons hlt] at hy k2
          exact srt_first ltC_wo k2 (ltC_wo.asym _ _ e) y hy
        · have : A.drop (s - a) = [] := List.drop_eq_nil_of_le (by omega)
          rw [this] at hy; cases hy
    · have hlast : ∀ y ∈ A.take (s - a), ltC x y = false := by
        intro y hy
        rcases s3 with e | e
        · rw [show s - a = 0 by omega, List.take_zero] at hy; cases hy
        · by_cases h0 : s - a = 0
          · rw [h0, List.take_zero] at hy; cases hy
          · have hlt : s - 1 - a < A.length := by omega
            rw [hp (s - 1) hlt, Bool.not_eq_true'] at e
            have e2 : A.take (s - a) = A.take (s - 1 - a) ++ [A[s - 1 - a]] := by rw [show s - a = s - 1 - a + 1 by omega, List.take_succ_eq_append_getElem hlt]
            rw [e2] at hy k1
            exact srt_last ltC_wo k1 e y hy
      rcases List.mem_cons.1 hz with rfl | hz
      · exact hlast y hy
      · exact k3 y hy z hz
  · refine (List.perm_middle.trans ?_).trans (List.perm_append_singleton x A).symm
    rw [List.take_append_drop]
  have H : Hd (a = P.length ∧ m = a + A.length ∧ b = m + 1 ∧ a ≤ s ∧ s ≤ m) := ⟨⟨ha, hm, hb, s1, s2⟩⟩
  have c0 : (IntKind.i64.wrap ((m : Int) - (a : Int)) == 1) = false := by rw [i64_in (by omega) (by omega), beq_eq_false_iff_ne]; omega
  have c00 : (IntKind.i64.wrap ((b : Int) - (m : Int)) == 1) = true := by rw [i64_in (by omega) (by omega), beq_iff_eq]; omega
  clear ha hm hb s1 s2 s3 s4
  (refine (evF_code (C := cfg) (g := 125) (fn := Try.f125) rfl Try.func125 rfl (by rw [Try.ntmps125]; simp) (by kernel_rfl) (by first | decide | simp [keysOf])).trans ?_; rw [Try.results125, Try.ntmps125])
  repeat' (first | with_reducible refine br_split (fun _ => ?_) (fun _ => ?_) | simp only [*, push_cast, Array.reduceGetElem?, Nat.reduceBEq, Nat.reduceLT, Nat.reduceAdd, Nat.reduceSub, Nat.reduceLeDiff, Nat.reduceMul, Nat.reduceEqDiff, reduceCtorEq, Int.reduceAdd, Int.reduceLT, Int.reduceLE, Int.reduceToNat, Int.reduceNeg, Int.reduceSub, Int.reduceBEq, Int.reduceBNe, Int.reduceNe, Int.reduceGT, Int.reduceGE, Nat.reduceGT] | (rw [drawC_ok]; rotate_left; decide +kernel; exact cfg_mixed))
  obtain ⟨ha, hm, hb, s1, s2⟩ := H.out
  have hsB' : Hd (Short A) := ⟨hs⟩
  clear hs hsA
  rw [evM_bsl p a m (fun i j => { t := [(0, .own 0), (2, .d (.i .i64 m)), (4, .clo 97 []), (14, .d (.i .i64 i)), (15, .d (.i .i64 j))], o := [(0, .arr .any 2 ((P ++ (A ++ x :: Q)).map cC))], ks := [0], n := 0, sz := 220, u := noU })
    (fun i => some (.exit 4, { t := [(0, .own 0), (2, .d (.i .i64 m)), (14, .d (.i .i64 (i : Nat)))], o := [(0, .arr .any 2 ((P ++ (A ++ x :: Q)).map cC))], ks := [0], n := 0, sz := 220, u := noU })) ?step ?last a m (Nat.le_refl _) (by omega) (Nat.le_refl _), hsv]
  case step =>
    intro i j h hil hij hj hh h1 h2
    have hb2 : h - a < A.length := by omega
    have hd := dec_lt hij
    have q1 : IntKind.i64.wrap ((i : Int) + (j : Int)) = (i : Int) + (j : Int) := i64_in (by omega) (by omega)
    have q2 : IntKind.i64.wrap ((IntKind.u64.wrap ((i : Int) + (j : Int))).fdiv (2 ^ min 1 IntKind.u64.bits)) = (h : Int) := by rw [half_eq (by omega) (by omega)]; omega
    have q3 : IntKind.i64.wrap ((h : Int) + 1) = (h : Int) + 1 := wrap_succ (by omega)
    have g1 : (P ++ (A ++ x :: Q))[h]? = some A[h - a] := by
      rw [List.getElem?_append_right (by omega), show h - P.length = h - a by omega, List.getElem?_append_left hb2, List.getElem?_eq_getElem hb2]
    have g2 : (P ++ (A ++ x :: Q))[m]? = some x := by rw [List.getElem?_append_right (by omega), List.getElem?_append_right (by omega), show m - P.length - A.length = 0 by omega]; rfl
    have k1 := cC_get g1
    have k2 := cC_get g2
    have l1 := dec_ltN (lt_of_get g1)
    have l2 := dec_ltN (lt_of_get g2)
    have hcm := ev_gathCmp x A[h - a] (by omega)
    have hph := hp h hb2
    clear g1 g2 ha hm hb s1 s2 hsv
    generalize P ++ (A ++ x :: Q) = L0 at *
    cases hb : p h with
    | true =>
      have h3 := h1 hb
      rw [hb] at hph
      have hlt : decide (cmpRow x.row A[h - a].row < 0) = false := (cmp_lt _ _).trans (by rw [← Bool.not_eq_true']; exact hph.symm)
      clear h1 h2 hh hph hp hb
      repeat' (first | with_reducible refine br_split (fun _ => ?_) (fun _ => ?_) | simp only [*, push_cast, Array.reduceGetElem?, Nat.reduceBEq, Nat.reduceLT, Nat.reduceAdd, Nat.reduceSub, Nat.reduceLeDiff, Nat.reduceMul, Nat.reduceEqDiff, reduceCtorEq, Int.reduceAdd, Int.reduceLT, Int.reduceLE, Int.reduceToNat, Int.reduceNeg, Int.reduceSub, Int.reduceBEq, Int.reduceBNe, Int.reduceNe, Int.reduceGT, Int.reduceGE, Nat.reduceGT] | (rw [drawC_ok]; rotate_left; decide +kernel; exact cfg_mixed))
    | false =>
      have h3 := h2 hb
      rw [hb] at hph
      have hlt : decide (cmpRow x.row A[h - a].row < 0) = true := (cmp_lt _ _).trans (by rw [← Bool.not_eq_false']; exact hph.symm)
      clear h1 h2 hh hph hp hb
      repeat' (first | with_reducible refine br_split (fun _ => ?_) (fun _ => ?_) | simp only [*, push_cast, Array.reduceGetElem?, Nat.reduceBEq, Nat.reduceLT, Nat.reduceAdd, Nat.reduceSub, Nat.reduceLeDiff, Nat.reduceMul, Nat.reduceEqDiff, reduceCtorEq, Int.reduceAdd, Int.reduceLT, Int.reduceLE, Int.reduceToNat, Int.reduceNeg, Int.reduceSub, Int.reduceBEq, Int.reduceBNe, Int.reduceNe, Int.reduceGT, Int.reduceGE, Nat.reduceGT] | (rw [drawC_ok]; rotate_left; decide +kernel; exact cfg_mixed))
  case last =>
    intro i hi1 hi2
    clear ha hm hb s1 s2
    repeat' (first | with_reducible refine br_split (fun _ => ?_) (fun _ => ?_) | simp only [*, push_cast, Array.reduceGetElem?, Nat.reduceBEq, Nat.reduceLT, Nat.reduceAdd, Nat.reduceSub, Nat.reduceLeDiff, Nat.reduceMul, Nat.reduceEqDiff, reduceCtorEq, Int.reduceAdd, Int.reduceLT, Int.reduceLE, Int.reduceToNat, Int.reduceNeg, Int.reduceSub, Int.reduceBEq, Int.reduceBNe, Int.reduceNe, Int.reduceGT, Int.reduceGE, Nat.reduceGT] | (rw [drawC_ok]; rotate_left; decide +kernel; exact cfg_mixed))
  have e0 : P ++ (A ++ x :: Q) = P ++ (A.take A.length ++ x :: (A.drop A.length ++ Q)) := by simp
  have he0 : Hd (P ++ (A ++ x :: Q) = P ++ (A.take A.length ++ x :: (A.drop A.length ++ Q))) := ⟨e0⟩
  clear ha hb s1 s2 hsv e0 hm
  repeat' (first | with_reducible refine br_split (fun _ => ?_) (fun _ => ?_) | simp only [*, push_cast, Array.reduceGetElem?, Nat.reduceBEq, Nat.reduceLT, Nat.reduceAdd, Nat.reduceSub, Nat.reduceLeDiff, Nat.reduceMul, Nat.reduceEqDiff, reduceCtorEq, Int.reduceAdd, Int.reduceLT, Int.reduceLE, Int.reduceToNat, Int.reduceNeg, Int.reduceSub, Int.reduceBEq, Int.reduceBNe, Int.reduceNe, Int.reduceGT, Int.reduceGE, Nat.reduceGT] | (rw [drawC_ok]; rotate_left; decide +kernel; exact cfg_mixed))
  rw [show (m : Int) = ((a + A.length : Nat) : Int) from congrArg _ H.out.2.1]
  generalize hE : evM cfg _ _ _ _ _ = R
  have key : ∃ r, R = some r ∧ r = (Exit.exit 6, { t := [], o := [(0, .arr .any 2 ((P ++ (A.take (s - a) ++ x :: (A.drop (s - a) ++ Q))).map cC))], ks := [0], n := 0, sz := 220, u := noU }) := by
    rw [← hE, he0.out]
    refine evM_ex (α := Nat) (fun k => { t := [(0, .own 0), (14, .d (.i .i64 s)), (17, .d (.i .i64 ((a + k : Nat) : Int)))], o := [(0, .arr .any 2 ((P ++ (A.take k ++ x :: (A.drop k ++ Q))).map cC))], ks := [0], n := 0, sz := 220, u := noU })
      (fun _ r => r = (Exit.exit 6, { t := [], o := [(0, .arr .any 2 ((P ++ (A.take (s - a) ++ x :: (A.drop (s - a) ++ Q))).map cC))], ks := [0], n := 0, sz := 220, u := noU })) (fun k => s - a ≤ k ∧ k ≤ A.length) (fun k => k) ?_ A.length ⟨hsl, Nat.le_refl _⟩
    clear hE R
    rintro k ⟨hk, hk2⟩ ih
    obtain ⟨ha, hm, hb, s1, s2⟩ := H.out
    by_cases hlt : s - a < k
    · obtain ⟨k, rfl⟩ : ∃ j, k = j + 1 := ⟨k - 1, by omega⟩
      obtain ⟨r, hr, rfl⟩ := ih k ⟨by omega, by omega⟩ (by omega)
      refine ⟨_, ?_, rfl⟩
      have hkB : k < A.length := by omega
      have c1 : decide (((a + (k + 1) : Nat) : Int) > (s : Int)) = true := decide_eq_true (by omega)
      have v2 : IntKind.i64.wrap (((a + (k + 1) : Nat) : Int) - 1) = ((a + k : Nat) : Int) := by rw [i64_in (by omega) (by omega)]; omega
      have t1 : ((a + k : Nat) : Int).toNat = P.length + k := by omega
      have t2 : ((a + (k + 1) : Nat) : Int).toNat = P.length + k + 1 := by omega
      have p1 : decide (0 ≤ ((a + k : Nat) : Int)) = true := decide_eq_true (by omega)
      have p2 : decide (0 ≤ ((a + (k + 1) : Nat) : Int)) = true := decide_eq_true (by omega)
      have hA' : P.length + k = (P ++ A.take k).length := by simp; omega
      have hB2 : P.length + k + 1 = (P ++ A.take k).length + 1 + ([] : List C).length := by rw [hA']; simp
      have e : P ++ (A.take (k + 1) ++ x :: (A.drop (k + 1) ++ Q)) = (P ++ A.take k) ++ A[k] :: ([] ++ x :: (A.drop (k + 1) ++ Q)) := by
        rw [List.take_succ_eq_append_getElem hkB]; simp only [List.append_assoc, List.cons_append, List.nil_append]
      have e2 : P ++ (A.take k ++ x :: (A.drop k ++ Q)) = (P ++ A.take k) ++ x :: ([] ++ A[k] :: (A.drop (k + 1) ++ Q)) := by
        rw [List.drop_eq_getElem_cons hkB]; simp only [List.append_assoc, List.cons_append, List.nil_append]
      have g1 : (P ++ (A.take (k + 1) ++ x :: (A.drop (k + 1) ++ Q)))[P.length + k]? = some A[k] := by rw [e]; exact sw_get1 hA'
      have g2 : (P ++ (A.take (k + 1) ++ x :: (A.drop (k + 1) ++ Q)))[P.length + k + 1]? = some x := by rw [e]; exact sw_get2 hB2
      have k1 := cC_get g1
      have k2 := cC_get g2
      have l1 := dec_ltN (lt_of_get g1)
      have l2 := dec_ltN (lt_of_get g2)
      have hs1 := cC_set (P ++ (A.take (k + 1) ++ x :: (A.drop (k + 1) ++ Q))) (P.length + k + 1) A[k]
      have k3 : (((P ++ (A.take (k + 1) ++ x :: (A.drop (k + 1) ++ Q))).set (P.length + k + 1) A[k]).map cC)[P.length + k]? = some [.sl .any (A[k].row.map vC), .i .i64 A[k].n] := by
        rw [e, sw_set2 hB2]; exact cC_get (sw_get1 hA')
      have hs2 := cC_set ((P ++ (A.take (k + 1) ++ x :: (A.drop (k + 1) ++ Q))).set (P.length + k + 1) A[k]) (P.length + k) x
      have hs3 : ((P ++ (A.take (k + 1) ++ x :: (A.drop (k + 1) ++ Q))).set (P.length + k + 1) A[k]).set (P.length + k) x = P ++ (A.take k ++ x :: (A.drop k ++ Q)) := by
        rw [e, sw_both' hA' hB2, e2]
      rw [hs3] at hs2
      clear g1 g2 e e2 hs3
      generalize P ++ (A.take (k + 1) ++ x :: (A.drop (k + 1) ++ Q)) = L1 at *
      generalize P ++ (A.take k ++ x :: (A.drop k ++ Q)) = L0 at *
      generalize ((a + (k + 1) : Nat) : Int) = j at *
      generalize ((a + k : Nat) : Int) = jm at *
      generalize P.length + k = q at *
      clear ha hm hb s1 s2 hA' hB2 ih hlt
      repeat' (first | with_reducible refine br_split (fun _ => ?_) (fun _ => ?_) | simp only [*, List.length_set, push_cast, Array.reduceGetElem?, Nat.reduceBEq, Nat.reduceLT, Nat.reduceAdd, Nat.reduceSub, Nat.reduceLeDiff, Nat.reduceMul, Nat.reduceEqDiff, reduceCtorEq, Int.reduceAdd, Int.reduceLT, Int.reduceLE, Int.reduceToNat, Int.reduceNeg, Int.reduceSub, Int.reduceBEq, Int.reduceBNe, Int.reduceNe, Int.reduceGT, Int.reduceGE, Nat.reduceGT] | (rw [drawC_ok]; rotate_left; decide +kernel; exact cfg_mixed))
    · refine ⟨_, ?_, rfl⟩
      have e1 : k = s - a := by omega
      have c1 : decide (((a + k : Nat) : Int) > (s : Int)) = false := decide_eq_false (by omega)
      rw [← e1]
      generalize ((a + k : Nat) : Int) = j at *
      clear ih hlt ha hm hb s1 s2 e1
      repeat' (first | with_reducible refine br_split (fun _ => ?_) (fun _ => ?_) | simp only [*, push_cast, Array.reduceGetElem?, Nat.reduceBEq, Nat.reduceLT, Nat.reduceAdd, Nat.reduceSub, Nat.reduceLeDiff, Nat.reduceMul, Nat.reduceEqDiff, reduceCtorEq, Int.reduceAdd, Int.reduceLT, Int.reduceLE, Int.reduceToNat, Int.reduceNeg, Int.reduceSub, Int.reduceBEq, Int.reduceBNe, Int.reduceNe, Int.reduceGT, Int.reduceGE, Nat.reduceGT] | (rw [drawC_ok]; rotate_left; decide +kernel; exact cfg_mixed))
  obtain ⟨_, rfl, rfl⟩ := key
  clear hE
  repeat' (first | with_reducible refine br_split (fun _ => ?_) (fun _ => ?_) | simp only [*, push_cast, Array.reduceGetElem?, Nat.reduceBEq, Nat.reduceLT, Nat.reduceAdd, Nat.reduceSub, Nat.reduceLeDiff, Nat.reduceMul, Nat.reduceEqDiff, reduceCtorEq, Int.reduceAdd, Int.reduceLT, Int.reduceLE, Int.reduceToNat, Int.reduceNeg, Int.reduceSub, Int.reduceBEq, Int.reduceBNe, Int.reduceNe, Int.reduceGT, Int.reduceGE, Nat.reduceGT] | (rw [drawC_ok]; rotate_left; decide +kernel; exact cfg_mixed))
end Go.Av
end
