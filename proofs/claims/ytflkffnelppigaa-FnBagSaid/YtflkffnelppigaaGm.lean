/- What functions of this seat give. -/
import Derived.Test.YtflkffnelppigaaGl
set_option linter.all false
set_option linter.unusedVariables false
set_option linter.unusedSimpArgs false

section
namespace Go.Av
open Go.Proofs
set_option linter.unusedSimpArgs false
set_option maxHeartbeats 4000000 in
/-- The step that halves: from where the search has found its place. -/
theorem ev_sym3 (L1 L2 L3 L4 A B : List C) (a m b mid nn st0 r0 s e : Nat) (q : Nat → Bool) (hl : L1.length ≤ 1048576) (hA : 2 ≤ m - a) (hB : 2 ≤ b - m) (ham : a ≤ m) (hmb : m ≤ b) (hbl : b ≤ 1048576)
    (hmid : mid = (a + b) / 2) (hnn : nn = mid + m) (hst : (mid < m ∧ st0 + b = nn ∧ r0 = mid) ∨ (m ≤ mid ∧ st0 = a ∧ r0 = m))
    (hq : ∀ c, st0 ≤ c → c < r0 → ∃ x y : C, L1[nn - 1 - c]? = some y ∧ L1[c]? = some x ∧ q c = (!ltC y x) ∧ y.row.length ≤ 1048576)
    (hs : bs2 q st0 r0 = s) (he : s + e = nn)
    (hrot : s < m → m < e → evF cfg 128 [(0, .arr .any 2 (L1.map cC))] [.own 0, .d (.i .i64 s), .d (.i .i64 m), .d (.i .i64 e), .clo 97 []] = some (.tup [], [(0, .arr .any 2 (L2.map cC))]))
    (hrot' : ¬ (s < m ∧ m < e) → L1 = L2)
    (hr1 : a < s → m < e → evF cfg 125 [(0, .arr .any 2 (L2.map cC))] [.own 0, .d (.i .i64 a), .d (.i .i64 s), .d (.i .i64 mid), .clo 97 []] = some (.tup [], [(0, .arr .any 2 (L3.map cC))]))
    (hr1' : ¬ (a < s ∧ m < e) → L2 = L3)
    (hr2 : s < m → e < b → evF cfg 125 [(0, .arr .any 2 (L3.map cC))] [.own 0, .d (.i .i64 mid), .d (.i .i64 e), .d (.i .i64 b), .clo 97 []] = some (.tup [], [(0, .arr .any 2 (L4.map cC))]))
    (hr2' : ¬ (s < m ∧ e < b) → L3 = L4) :
    evF cfg 125 [(0, .arr .any 2 (L1.map cC))] [.own 0, .d (.i .i64 a), .d (.i .i64 m), .d (.i .i64 b), .clo 97 []] = some (.tup [], [(0, .arr .any 2 (L4.map cC))]) := by
  have c0 : (IntKind.i64.wrap ((m : Int) - (a : Int)) == 1) = false := by rw [i64_in (by omega) (by omega), beq_eq_false_iff_ne]; omega
  have c00 : (IntKind.i64.wrap ((b : Int) - (m : Int)) == 1) = false := by rw [i64_in (by omega) (by omega), beq_eq_false_iff_ne]; omega
  have v1 : IntKind.i64.wrap ((a : Int) + (b : Int)) = (a : Int) + (b : Int) := i64_in (by omega) (by omega)
  have v2 : IntKind.i64.wrap ((IntKind.u64.wrap ((a : Int) + (b : Int))).fdiv (2 ^ min 1 IntKind.u64.bits)) = (mid : Int) := by rw [half_eq (by omega) (by omega)]; omega
  have v3 : IntKind.i64.wrap ((mid : Int) + (m : Int)) = (nn : Int) := by rw [i64_in (by omega) (by omega)]; omega
  have v5 : IntKind.i64.wrap ((nn : Int) - 1) = ((nn - 1 : Nat) : Int) := by rw [i64_in (by omega) (by omega)]; omega
  have v6 : IntKind.i64.wrap ((nn : Int) - (s : Int)) = (e : Int) := by rw [i64_in (by omega) (by omega)]; omega
  obtain ⟨s1, s2⟩ := bs2_le q st0 r0 (by omega)
  rw [hs] at s1 s2
  generalize hpp : nn - 1 = pp at *
  have K : Hd (a ≤ b ∧ m ≤ b ∧ mid = (a + b) / 2 ∧ nn = mid + m ∧ ((mid < m ∧ st0 + b = nn ∧ r0 = mid) ∨ (m ≤ mid ∧ st0 = a ∧ r0 = m)) ∧ s + e = nn ∧ st0 ≤ s ∧ s ≤ r0 ∧ 2 ≤ m - a ∧ 2 ≤ b - m ∧ nn - 1 = pp ∧ a ≤ m) := ⟨⟨by omega, hmb, hmid, hnn, hst, he, s1, s2, hA, hB, hpp, ham⟩⟩
  have Hq : Hd (∀ c, st0 ≤ c → c < r0 → ∃ x y : C, L1[pp - c]? = some y ∧ L1[c]? = some x ∧ q c = (!ltC y x) ∧ y.row.length ≤ 1048576) := ⟨hq⟩
  clear hq hpp
  have v4 : Hd ((mid < m → IntKind.i64.wrap ((nn : Int) - (b : Int)) = (st0 : Int))) := ⟨fun h => by rw [i64_in (by omega) (by omega)]; omega⟩
  have hrd : st0 ≤ r0 := by omega
  clear ham hmb hmid hnn he s1 s2 hA hB
  have Hr : Hd ((s < m → m < e → evF cfg 128 [(0, .arr .any 2 (L1.map cC))] [.own 0, .d (.i .i64 s), .d (.i .i64 m), .d (.i .i64 e), .clo 97 []] = some (.tup [], [(0, .arr .any 2 (L2.map cC))]))
    ∧ (a < s → m < e → evF cfg 125 [(0, .arr .any 2 (L2.map cC))] [.own 0, .d (.i .i64 a), .d (.i .i64 s), .d (.i .i64 mid), .clo 97 []] = some (.tup [], [(0, .arr .any 2 (L3.map cC))]))
    ∧ (s < m → e < b → evF cfg 125 [(0, .arr .any 2 (L3.map cC))] [.own 0, .d (.i .i64 mid), .d (.i .i64 e), .d (.i .i64 b), .clo 97 []] = some (.tup [], [(0, .arr .any 2 (L4.map cC))]))) := ⟨⟨hrot, hr1, hr2⟩⟩
  clear hrot hr1 hr2
  (refine (evF_code (C := cfg) (g := 125) (fn := Try.f125) rfl Try.func125 rfl (by rw [Try.ntmps125]; simp) (by kernel_rfl) (by first | decide | simp [keysOf])).trans ?_; rw [Try.results125, Try.ntmps125])
  rcases hst with ⟨hm, hx, hy⟩ | ⟨hm, hx, hy⟩
  · subst r0
    have c1 : decide ((m : Int) > (mid : Int)) = true := decide_eq_true (by omega)
    have v4 := v4.out hm
    clear hm hx
    repeat' (first | with_reducible refine br_split (fun _ => ?_) (fun _ => ?_) | simp only [*, push_cast, Array.reduceGetElem?, Nat.reduceBEq, Nat.reduceLT, Nat.reduceAdd, Nat.reduceSub, Nat.reduceLeDiff, Nat.reduceMul, Nat.reduceEqDiff, reduceCtorEq, Int.reduceAdd, Int.reduceLT, Int.reduceLE, Int.reduceToNat, Int.reduceNeg, Int.reduceSub, Int.reduceBEq, Int.reduceBNe, Int.reduceNe, Int.reduceGT, Int.reduceGE, Nat.reduceGT] | (rw [drawC_ok]; rotate_left; decide +kernel; exact cfg_mixed))
    rw [evM_bsl q st0 mid (fun i j => { t := [(0, .own 0), (1, .d (.i .i64 a)), (2, .d (.i .i64 m)), (3, .d (.i .i64 b)), (4, .clo 97 []), (18, .d (.i .i64 mid)), (19, .d (.i .i64 nn)), (20, .d (.i .i64 i)), (21, .d (.i .i64 j)), (22, .d (.i .i64 pp))], o := [(0, .arr .any 2 (L1.map cC))], ks := [0], n := 0, sz := 220, u := noU })
      (fun i => some (.exit 8, { t := [(0, .own 0), (1, .d (.i .i64 a)), (2, .d (.i .i64 m)), (3, .d (.i .i64 b)), (4, .clo 97 []), (18, .d (.i .i64 mid)), (19, .d (.i .i64 nn)), (20, .d (.i .i64 (i : Nat)))], o := [(0, .arr .any 2 (L1.map cC))], ks := [0], n := 0, sz := 220, u := noU })) ?step ?last st0 mid (Nat.le_refl _) hrd (Nat.le_refl _), hs]
    case step =>
      intro i j h hil hij hj hh h1 h2
      obtain ⟨g0, g1, g2, g3, g4, g5, g6, g7, g8, g9, g10, g11⟩ := K.out
      obtain ⟨x, y, e1, e2, e3, e4⟩ := Hq.out h (by omega) (by omega)
      have hd := dec_lt hij
      have u1 : IntKind.i64.wrap ((i : Int) + (j : Int)) = (i : Int) + (j : Int) := i64_in (by omega) (by omega)
      have u2 : IntKind.i64.wrap ((IntKind.u64.wrap ((i : Int) + (j : Int))).fdiv (2 ^ min 1 IntKind.u64.bits)) = (h : Int) := by rw [half_eq (by omega) (by omega)]; omega
      have u3 : IntKind.i64.wrap ((h : Int) + 1) = (h : Int) + 1 := wrap_succ (by omega)
      have u4 : IntKind.i64.wrap ((pp : Int) - (h : Int)) = ((pp - h : Nat) : Int) := by rw [i64_in (by omega) (by omega)]; omega
      have k1 := cC_get e1
      have k2 := cC_get e2
      have l1 := dec_ltN (lt_of_get e1)
      have l2 := dec_ltN (lt_of_get e2)
      have hcm := ev_gathCmp y x (by omega)
      clear g0 g1 g2 g3 g4 g5 g6 g7 g8 g9 g10 g11 hrd hs
      generalize pp - h = ph at *
      cases hb : q h with
      | true =>
        have h3 := h1 hb
        rw [hb] at e3
        have hlt : decide (cmpRow y.row x.row < 0) = false := (cmp_lt _ _).trans (by rw [← Bool.not_eq_true']; exact e3.symm)
        clear h1 h2 hh e1 e2 e3 hb
        repeat' (first | with_reducible refine br_split (fun _ => ?_) (fun _ => ?_) | simp only [*, push_cast, Array.reduceGetElem?, Nat.reduceBEq, Nat.reduceLT, Nat.reduceAdd, Nat.reduceSub, Nat.reduceLeDiff, Nat.reduceMul, Nat.reduceEqDiff, reduceCtorEq, Int.reduceAdd, Int.reduceLT, Int.reduceLE, Int.reduceToNat, Int.reduceNeg, Int.reduceSub, Int.reduceBEq, Int.reduceBNe, Int.reduceNe, Int.reduceGT, Int.reduceGE, Nat.reduceGT] | (rw [drawC_ok]; rotate_left; decide +kernel; exact cfg_mixed))
      | false =>
        have h3 := h2 hb
        rw [hb] at e3
        have hlt : decide (cmpRow y.row x.row < 0) = true := (cmp_lt _ _).trans (by rw [← Bool.not_eq_false']; exact e3.symm)
        clear h1 h2 hh e1 e2 e3 hb
        repeat' (first | with_reducible refine br_split (fun _ => ?_) (fun _ => ?_) | simp only [*, push_cast, Array.reduceGetElem?, Nat.reduceBEq, Nat.reduceLT, Nat.reduceAdd, Nat.reduceSub, Nat.reduceLeDiff, Nat.reduceMul, Nat.reduceEqDiff, reduceCtorEq, Int.reduceAdd, Int.reduceLT, Int.reduceLE, Int.reduceToNat, Int.reduceNeg, Int.reduceSub, Int.reduceBEq, Int.reduceBNe, Int.reduceNe, Int.reduceGT, Int.reduceGE, Nat.reduceGT] | (rw [drawC_ok]; rotate_left; decide +kernel; exact cfg_mixed))
    case last =>
      intro i hi1 hi2
      clear hrd hs
      repeat' (first | with_reducible refine br_split (fun _ => ?_) (fun _ => ?_) | simp only [*, push_cast, Array.reduceGetElem?, Nat.reduceBEq, Nat.reduceLT, Nat.reduceAdd, Nat.reduceSub, Nat.reduceLeDiff, Nat.reduceMul, Nat.reduceEqDiff, reduceCtorEq, Int.reduceAdd, Int.reduceLT, Int.reduceLE, Int.reduceToNat, Int.reduceNeg, Int.reduceSub, Int.reduceBEq, Int.reduceBNe, Int.reduceNe, Int.reduceGT, Int.reduceGE, Nat.reduceGT] | (rw [drawC_ok]; rotate_left; decide +kernel; exact cfg_mixed))
    clear c1 hrd hs
    have d5 : decide ((s : Int) < (mid : Int)) = decide ((m : Int) < (e : Int)) := by
      obtain ⟨g0, g1, g2, g3, g4, g5, g6, g7, g8, g9, g10, g11⟩ := K.out
      rw [decide_eq_decide]; omega
    have d6 : decide ((mid : Int) < (e : Int)) = decide ((s : Int) < (m : Int)) := by
      obtain ⟨g0, g1, g2, g3, g4, g5, g6, g7, g8, g9, g10, g11⟩ := K.out
      rw [decide_eq_decide]; omega
    obtain ⟨hrot, hr1, hr2⟩ := Hr.out
    cases d1 : decide ((s : Int) < (m : Int)) with
    | false =>
      have b1 : ¬ s < m := by have := of_decide_eq_false d1; omega
      have q1 := hrot' (fun h => b1 h.1)
      have q3 := hr2' (fun h => b1 h.1)
      clear hrot hr2
      subst q1 q3
      rw [d1] at d6
      cases d3 : decide ((a : Int) < (s : Int)) with
      | false =>
        have b3 : ¬ a < s := by have := of_decide_eq_false d3; omega
        have q2 := hr1' (fun h => b3 h.1)
        subst q2
        clear hr1 hrot' hr1' hr2' b1 b3
        repeat' (first | with_reducible refine br_split (fun _ => ?_) (fun _ => ?_) | simp only [*, push_cast, Array.reduceGetElem?, Nat.reduceBEq, Nat.reduceLT, Nat.reduceAdd, Nat.reduceSub, Nat.reduceLeDiff, Nat.reduceMul, Nat.reduceEqDiff, reduceCtorEq, Int.reduceAdd, Int.reduceLT, Int.reduceLE, Int.reduceToNat, Int.reduceNeg, Int.reduceSub, Int.reduceBEq, Int.reduceBNe, Int.reduceNe, Int.reduceGT, Int.reduceGE, Nat.reduceGT] | (rw [drawC_ok]; rotate_left; decide +kernel; exact cfg_mixed))
      | true =>
        have b3 : a < s := by have := of_decide_eq_true d3; omega
        cases d2 : decide ((m : Int) < (e : Int)) with
        | false =>
          have b2 : ¬ m < e := by have := of_decide_eq_false d2; omega
          have q2 := hr1' (fun h => b2 h.2)
          subst q2
          rw [d2] at d5
          clear hr1 hrot' hr1' hr2' b1 b2 b3
          repeat' (first | with_reducible refine br_split (fun _ => ?_) (fun _ => ?_) | simp only [*, push_cast, Array.reduceGetElem?, Nat.reduceBEq, Nat.reduceLT, Nat.reduceAdd, Nat.reduceSub, Nat.reduceLeDiff, Nat.reduceMul, Nat.reduceEqDiff, reduceCtorEq, Int.reduceAdd, Int.reduceLT, Int.reduceLE, Int.reduceToNat, Int.reduceNeg, Int.reduceSub, Int.reduceBEq, Int.reduceBNe, Int.reduceNe, Int.reduceGT, Int.reduceGE, Nat.reduceGT] | (rw [drawC_ok]; rotate_left; decide +kernel; exact cfg_mixed))
        | true =>
          have b2 : m < e := by have := of_decide_eq_true d2; omega
          have q2 := hr1 b3 b2
          rw [d2] at d5
          clear hr1 hrot' hr1' hr2' b1 b2 b3
          repeat' (first | with_reducible refine br_split (fun _ => ?_) (fun _ => ?_) | simp only [*, push_cast, Array.reduceGetElem?, Nat.reduceBEq, Nat.reduceLT, Nat.reduceAdd, Nat.reduceSub, Nat.reduceLeDiff, Nat.reduceMul, Nat.reduceEqDiff, reduceCtorEq, Int.reduceAdd, Int.reduceLT, Int.reduceLE, Int.reduceToNat, Int.reduceNeg, Int.reduceSub, Int.reduceBEq, Int.reduceBNe, Int.reduceNe, Int.reduceGT, Int.reduceGE, Nat.reduceGT] | (rw [drawC_ok]; rotate_left; decide +kernel; exact cfg_mixed))
    | true =>
      have b1 : s < m := by have := of_decide_eq_true d1; omega
      rw [d1] at d6
      cases d2 : decide ((m : Int) < (e : Int)) with
      | false =>
        have b2 : ¬ m < e := by have := of_decide_eq_false d2; omega
        have q1 := hrot' (fun h => b2 h.2)
        have q2 := hr1' (fun h => b2 h.2)
        subst q1 q2
        rw [d2] at d5
        clear hrot hr1 hrot' hr1' b2
        cases d4 : decide ((e : Int) < (b : Int)) with
        | false =>
          have b4 : ¬ e < b := by have := of_decide_eq_false d4; omega
          have q3 := hr2' (fun h => b4 h.2)
          subst q3
          clear hr2 hr2' b1 b4
          cases d3 : decide ((a : Int) < (s : Int)) with
          | false => repeat' (first | with_reducible refine br_split (fun _ => ?_) (fun _ => ?_) | simp only [*, push_cast, Array.reduceGetElem?, Nat.reduceBEq, Nat.reduceLT, Nat.reduceAdd, Nat.reduceSub, Nat.reduceLeDiff, Nat.reduceMul, Nat.reduceEqDiff, reduceCtorEq, Int.reduceAdd, Int.reduceLT, Int.reduceLE, Int.reduceToNat, Int.reduceNeg, Int.reduceSub, Int.reduceBEq, Int.reduceBNe, Int.reduceNe, Int.reduceGT, Int.reduceGE, Nat.reduceGT] | (rw [drawC_ok]; rotate_left; decide +kernel; exact cfg_mixed))
          | true => repeat' (first | with_reducible refine br_split (fun _ => ?_) (fun _ => ?_) | simp only [*, push_cast, Array.reduceGetElem?, Nat.reduceBEq, Nat.reduceLT, Nat.reduceAdd, Nat.reduceSub, Nat.reduceLeDiff, Nat.reduceMul, Nat.reduceEqDiff, reduceCtorEq, Int.reduceAdd, Int.reduceLT, Int.reduceLE, Int.reduceToNat, Int.reduceNeg, Int.reduceSub, Int.reduceBEq, Int.reduceBNe, Int.reduceNe, Int.reduceGT, Int.reduceGE, Nat.reduceGT] | (rw [drawC_ok]; rotate_left; decide +kernel; exact cfg_mixed))
        | true =>
          have b4 : e < b := by have := of_decide_eq_true d4; omega
          have q3 := hr2 b1 b4
          clear hr2 hr2' b1 b4
          cases d3 : decide ((a : Int) < (s : Int)) with
          | false => repeat' (first | with_reducible refine br_split (fun _ => ?_) (fun _ => ?_) | simp only [*, push_cast, Array.reduceGetElem?, Nat.reduceBEq, Nat.reduceLT, Nat.reduceAdd, Nat.reduceSub, Nat.reduceLeDiff, Nat.reduceMul, Nat.reduceEqDiff, reduceCtorEq, Int.reduceAdd, Int.reduceLT, Int.reduceLE, Int.reduceToNat, Int.reduceNeg, Int.reduceSub, Int.reduceBEq, Int.reduceBNe, Int.reduceNe, Int.reduceGT, Int.reduceGE, Nat.reduceGT] | (rw [drawC_ok]; rotate_left; decide +kernel; exact cfg_mixed))
          | true => repeat' (first | with_reducible refine br_split (fun _ => ?_) (fun _ => ?_) | simp only [*, push_cast, Array.reduceGetElem?, Nat.reduceBEq, Nat.reduceLT, Nat.reduceAdd, Nat.reduceSub, Nat.reduceLeDiff, Nat.reduceMul, Nat.reduceEqDiff, reduceCtorEq, Int.reduceAdd, Int.reduceLT, Int.reduceLE, Int.reduceToNat, Int.reduceNeg, Int.reduceSub, Int.reduceBEq, Int.reduceBNe, Int.reduceNe, Int.reduceGT, Int.reduceGE, Nat.reduceGT] | (rw [drawC_ok]; rotate_left; decide +kernel; exact cfg_mixed))
      | true =>
        have b2 : m < e := by have := of_decide_eq_true d2; omega
        have q1 := hrot b1 b2
        rw [d2] at d5
        clear hrot hrot'
        cases d3 : decide ((a : Int) < (s : Int)) with
        | false =>
          have b3 : ¬ a < s := by have := of_decide_eq_false d3; omega
          have q2 := hr1' (fun h => b3 h.1)
          subst q2
          clear hr1 hr1' b3
          cases d4 : decide ((e : Int) < (b : Int)) with
          | false =>
            have b4 : ¬ e < b := by have := of_decide_eq_false d4; omega
            have q3 := hr2' (fun h => b4 h.2)
            subst q3
            clear hr2 hr2' b1 b2 b4
            repeat' (first | with_reducible refine br_split (fun _ => ?_) (fun _ => ?_) | simp only [*, push_cast, Array.reduceGetElem?, Nat.reduceBEq, Nat.reduceLT, Nat.reduceAdd, Nat.reduceSub, Nat.reduceLeDiff, Nat.reduceMul, Nat.reduceEqDiff, reduceCtorEq, Int.reduceAdd, Int.reduceLT, Int.reduceLE, Int.reduceToNat, Int.reduceNeg, Int.reduceSub, Int.reduceBEq, Int.reduceBNe, Int.reduceNe, Int.reduceGT, Int.reduceGE, Nat.reduceGT] | (rw [drawC_ok]; rotate_left; decide +kernel; exact cfg_mixed))
          | true =>
            have b4 : e < b := by have := of_decide_eq_true d4; omega
            have q3 := hr2 b1 b4
            clear hr2 hr2' b1 b2 b4
            repeat' (first | with_reducible refine br_split (fun _ => ?_) (fun _ => ?_) | simp only [*, push_cast, Array.reduceGetElem?, Nat.reduceBEq, Nat.reduceLT, Nat.reduceAdd, Nat.reduceSub, Nat.reduceLeDiff, Nat.reduceMul, Nat.reduceEqDiff, reduceCtorEq, Int.reduceAdd, Int.reduceLT, Int.reduceLE, Int.reduceToNat, Int.reduceNeg, Int.reduceSub, Int.reduceBEq, Int.reduceBNe, Int.reduceNe, Int.reduceGT, Int.reduceGE, Nat.reduceGT] | (rw [drawC_ok]; rotate_left; decide +kernel; exact cfg_mixed))
        | true =>
          have b3 : a < s := by have := of_decide_eq_true d3; omega
          have q2 := hr1 b3 b2
          clear hr1 hr1' b3
          cases d4 : decide ((e : Int) < (b : Int)) with
          | false =>
            have b4 : ¬ e < b := by have := of_decide_eq_false d4; omega
            have q3 := hr2' (fun h => b4 h.2)
            subst q3
            clear hr2 hr2' b1 b2 b4
            repeat' (first | with_reducible refine br_split (fun _ => ?_) (fun _ => ?_) | simp only [*, push_cast, Array.reduceGetElem?, Nat.reduceBEq, Nat.reduceLT, Nat.reduceAdd, Nat.reduceSub, Nat.reduceLeDiff, Nat.reduceMul, Nat.reduceEqDiff, reduceCtorEq, Int.reduceAdd, Int.reduceLT, Int.reduceLE, Int.reduceToNat, Int.reduceNeg, Int.reduceSub, Int.reduceBEq, Int.reduceBNe, Int.reduceNe, Int.reduceGT, Int.reduceGE, Nat.reduceGT] | (rw [drawC_ok]; rotate_left; decide +kernel; exact cfg_mixed))
          | true =>
            have b4 : e < b := by have := of_decide_eq_true d4; omega
            have q3 := hr2 b1 b4
            clear hr2 hr2' b1 b2 b4
            repeat' (first | with_reducible refine br_split (fun _ => ?_) (fun _ => ?_) | simp only [*, push_cast, Array.reduceGetElem?, Nat.reduceBEq, Nat.reduceLT, Nat.reduceAdd, Nat.reduceSub, Nat.reduceLeDiff, Nat.reduceMul, Nat.reduceEqDiff, reduceCtorEq, Int.reduceAdd, Int.reduceLT, Int.reduceLE, Int.reduceToNat, Int.reduceNeg, Int.reduceSub, Int.reduceBEq, Int.reduceBNe, Int.reduceNe, Int.reduceGT, Int.reduceGE, Nat.reduceGT] | (rw [drawC_ok]; rotate_left; decide +kernel; exact cfg_mixed))
  · subst st0 r0
    have c1 : decide ((m : Int) > (mid : Int)) = false := decide_eq_false (by omega)
    clear hm v4
    repeat' (first | with_reducible refine br_split (fun _ => ?_) (fun _ => ?_) | simp only [*, push_cast, Array.reduceGetElem?, Nat.reduceBEq, Nat.reduceLT, Nat.reduceAdd, Nat.reduceSub, Nat.reduceLeDiff, Nat.reduceMul, Nat.reduceEqDiff, reduceCtorEq, Int.reduceAdd, Int.reduceLT, Int.reduceLE, Int.reduceToNat, Int.reduceNeg, Int.reduceSub, Int.reduceBEq, Int.reduceBNe, Int.reduceNe, Int.reduceGT, Int.reduceGE, Nat.reduceGT] | (rw [drawC_ok]; rotate_left; decide +kernel; exact cfg_mixed))
    rw [evM_bsl q a m (fun i j => { t := [(0, .own 0), (1, .d (.i .i64 a)), (2, .d (.i .i64 m)), (3, .d (.i .i64 b)), (4, .clo 97 []), (18, .d (.i .i64 mid)), (19, .d (.i .i64 nn)), (20, .d (.i .i64 i)), (21, .d (.i .i64 j)), (22, .d (.i .i64 pp))], o := [(0, .arr .any 2 (L1.map cC))], ks := [0], n := 0, sz := 220, u := noU })
      (fun i => some (.exit 8, { t := [(0, .own 0), (1, .d (.i .i64 a)), (2, .d (.i .i64 m)), (3, .d (.i .i64 b)), (4, .clo 97 []), (18, .d (.i .i64 mid)), (19, .d (.i .i64 nn)), (20, .d (.i .i64 (i : Nat)))], o := [(0, .arr .any 2 (L1.map cC))], ks := [0], n := 0, sz := 220, u := noU })) ?stepb ?lastb a m (Nat.le_refl _) hrd (Nat.le_refl _), hs]
    case stepb =>
      intro i j h hil hij hj hh h1 h2
      obtain ⟨g0, g1, g2, g3, g4, g5, g6, g7, g8, g9, g10, g11⟩ := K.out
      obtain ⟨x, y, e1, e2, e3, e4⟩ := Hq.out h (by omega) (by omega)
      have hd := dec_lt hij
      have u1 : IntKind.i64.wrap ((i : Int) + (j : Int)) = (i : Int) + (j : Int) := i64_in (by omega) (by omega)
      have u2 : IntKind.i64.wrap ((IntKind.u64.wrap ((i : Int) + (j : Int))).fdiv (2 ^ min 1 IntKind.u64.bits)) = (h : Int) := by rw [half_eq (by omega) (by omega)]; omega
      have u3 : IntKind.i64.wrap ((h : Int) + 1) = (h : Int) + 1 := wrap_succ (by omega)
      have u4 : IntKind.i64.wrap ((pp : Int) - (h : Int)) = ((pp - h : Nat) : Int) := by rw [i64_in (by omega) (by omega)]; omega
      have k1 := cC_get e1
      have k2 := cC_get e2
      have l1 := dec_ltN (lt_of_get e1)
      have l2 := dec_ltN (lt_of_get e2)
      have hcm := ev_gathCmp y x (by omega)
      clear g0 g1 g2 g3 g4 g5 g6 g7 g8 g9 g10 g11 hrd hs
      generalize pp - h = ph at *
      cases hb : q h with
      | true =>
        have h3 := h1 hb
        rw [hb] at e3
        have hlt : decide (cmpRow y.row x.row < 0) = false := (cmp_lt _ _).trans (by rw [← Bool.not_eq_true']; exact e3.symm)
        clear h1 h2 hh e1 e2 e3 hb
        repeat' (first | with_reducible refine br_split (fun _ => ?_) (fun _ => ?_) | simp only [*, push_cast, Array.reduceGetElem?, Nat.reduceBEq, Nat.reduceLT, Nat.reduceAdd, Nat.reduceSub, Nat.reduceLeDiff, Nat.reduceMul, Nat.reduceEqDiff, reduceCtorEq, Int.reduceAdd, Int.reduceLT, Int.reduceLE, Int.reduceToNat, Int.reduceNeg, Int.reduceSub, Int.reduceBEq, Int.reduceBNe, Int.reduceNe, Int.reduceGT, Int.reduceGE, Nat.reduceGT] | (rw [drawC_ok]; rotate_left; decide +kernel; exact cfg_mixed))
      | false =>
        have h3 := h2 hb
        rw [hb] at e3
        have hlt : decide (cmpRow y.row x.row < 0) = true := (cmp_lt _ _).trans (by rw [← Bool.not_eq_false']; exact e3.symm)
        clear h1 h2 hh e1 e2 e3 hb
        repeat' (first | with_reducible refine br_split (fun _ => ?_) (fun _ => ?_) | simp only [*, push_cast, Array.reduceGetElem?, Nat.reduceBEq, Nat.reduceLT, Nat.reduceAdd, Nat.reduceSub, Nat.reduceLeDiff, Nat.reduceMul, Nat.reduceEqDiff, reduceCtorEq, Int.reduceAdd, Int.reduceLT, Int.reduceLE, Int.reduceToNat, Int.reduceNeg, Int.reduceSub, Int.reduceBEq, Int.reduceBNe, Int.reduceNe, Int.reduceGT, Int.reduceGE, Nat.reduceGT] | (rw [drawC_ok]; rotate_left; decide +kernel; exact cfg_mixed))
    case lastb =>
      intro i hi1 hi2
      clear hrd hs
      repeat' (first | with_reducible refine br_split (fun _ => ?_) (fun _ => ?_) | simp only [*, push_cast, Array.reduceGetElem?, Nat.reduceBEq, Nat.reduceLT, Nat.reduceAdd, Nat.reduceSub, Nat.reduceLeDiff, Nat.reduceMul, Nat.reduceEqDiff, reduceCtorEq, Int.reduceAdd, Int.reduceLT, Int.reduceLE, Int.reduceToNat, Int.reduceNeg, Int.reduceSub, Int.reduceBEq, Int.reduceBNe, Int.reduceNe, Int.reduceGT, Int.reduceGE, Nat.reduceGT] | (rw [drawC_ok]; rotate_left; decide +kernel; exact cfg_mixed))
    clear c1 hrd hs
    have d5 : decide ((s : Int) < (mid : Int)) = decide ((m : Int) < (e : Int)) := by
      obtain ⟨g0, g1, g2, g3, g4, g5, g6, g7, g8, g9, g10, g11⟩ := K.out
      rw [decide_eq_decide]; omega
    have d6 : decide ((mid : Int) < (e : Int)) = decide ((s : Int) < (m : Int)) := by
      obtain ⟨g0, g1, g2, g3, g4, g5, g6, g7, g8, g9, g10, g11⟩ := K.out
      rw [decide_eq_decide]; omega
    obtain ⟨hrot, hr1, hr2⟩ := Hr.out
    cases d1 : decide ((s : Int) < (m : Int)) with
    | false =>
      have b1 : ¬ s < m := by have := of_decide_eq_false d1; omega
      have q1 := hrot' (fun h => b1 h.1)
      have q3 := hr2' (fun h => b1 h.1)
      clear hrot hr2
      subst q1 q3
      rw [d1] at d6
      cases d3 : decide ((a : Int) < (s : Int)) with
      | false =>
        have b3 : ¬ a < s := by have := of_decide_eq_false d3; omega
        have q2 := hr1' (fun h => b3 h.1)
        subst q2
        clear hr1 hrot' hr1' hr2' b1 b3
        repeat' (first | with_reducible refine br_split (fun _ => ?_) (fun _ => ?_) | simp only [*, push_cast, Array.reduceGetElem?, Nat.reduceBEq, Nat.reduceLT, Nat.reduceAdd, Nat.reduceSub, Nat.reduceLeDiff, Nat.reduceMul, Nat.reduceEqDiff, reduceCtorEq, Int.reduceAdd, Int.reduceLT, Int.reduceLE, Int.reduceToNat, Int.reduceNeg, Int.reduceSub, Int.reduceBEq, Int.reduceBNe, Int.reduceNe, Int.reduceGT, Int.reduceGE, Nat.reduceGT] | (rw [drawC_ok]; rotate_left; decide +kernel; exact cfg_mixed))
      | true =>
        have b3 : a < s := by have := of_decide_eq_true d3; omega
        cases d2 : decide ((m : Int) < (e : Int)) with
        | false =>
          have b2 : ¬ m < e := by have := of_decide_eq_false d2; omega
          have q2 := hr1' (fun h => b2 h.2)
          subst q2
          rw [d2] at d5
          clear hr1 hrot' hr1' hr2' b1 b2 b3
          repeat' (first | with_reducible refine br_split (fun _ => ?_) (fun _ => ?_) | simp only [*, push_cast, Array.reduceGetElem?, Nat.reduceBEq, Nat.reduceLT, Nat.reduceAdd, Nat.reduceSub, Nat.reduceLeDiff, Nat.reduceMul, Nat.reduceEqDiff, reduceCtorEq, Int.reduceAdd, Int.reduceLT, Int.reduceLE, Int.reduceToNat, Int.reduceNeg, Int.reduceSub, Int.reduceBEq, Int.reduceBNe, Int.reduceNe, Int.reduceGT, Int.reduceGE, Nat.reduceGT] | (rw [drawC_ok]; rotate_left; decide +kernel; exact cfg_mixed))
        | true =>
          have b2 : m < e := by have := of_decide_eq_true d2; omega
          have q2 := hr1 b3 b2
          rw [d2] at d5
          clear hr1 hrot' hr1' hr2' b1 b2 b3
          repeat' (first | with_reducible refine br_split (fun _ => ?_) (fun _ => ?_) | simp only [*, push_cast, Array.reduceGetElem?, Nat.reduceBEq, Nat.reduceLT, Nat.reduceAdd, Nat.reduceSub, Nat.reduceLeDiff, Nat.reduceMul, Nat.reduceEqDiff, reduceCtorEq, Int.reduceAdd, Int.reduceLT, Int.reduceLE, Int.reduceToNat, Int.reduceNeg, Int.reduceSub, Int.reduceBEq, Int.reduceBNe, Int.reduceNe, Int.reduceGT, Int.reduceGE, Nat.reduceGT] | (rw [drawC_ok]; rotate_left; decide +kernel; exact cfg_mixed))
    | true =>
      have b1 : s < m := by have := of_decide_eq_true d1; omega
      rw [d1] at d6
      cases d2 : decide ((m : Int) < (e : Int)) with
      | false =>
        have b2 : ¬ m < e := by have := of_decide_eq_false d2; omega
        have q1 := hrot' (fun h => b2 h.2)
        have q2 := hr1' (fun h => b2 h.2)
        subst q1 q2
        rw [d2] at d5
        clear hrot hr1 hrot' hr1' b2
        cases d4 : decide ((e : Int) < (b : Int)) with
        | false =>
          have b4 : ¬ e < b := by have := of_decide_eq_false d4; omega
          have q3 := hr2' (fun h => b4 h.2)
          subst q3
          clear hr2 hr2' b1 b4
          cases d3 : decide ((a : Int) < (s : Int)) with
          | false => repeat' (first | with_reducible refine br_split (fun _ => ?_) (fun _ => ?_) | simp only [*, push_cast, Array.reduceGetElem?, Nat.reduceBEq, Nat.reduceLT, Nat.reduceAdd, Nat.reduceSub, Nat.reduceLeDiff, Nat.reduceMul, Nat.reduceEqDiff, reduceCtorEq, Int.reduceAdd, Int.reduceLT, Int.reduceLE, Int.reduceToNat, Int.reduceNeg, Int.reduceSub, Int.reduceBEq, Int.reduceBNe, Int.reduceNe, Int.reduceGT, Int.reduceGE, Nat.reduceGT] | (rw [drawC_ok]; rotate_left; decide +kernel; exact cfg_mixed))
          | true => repeat' (first | with_reducible refine br_split (fun _ => ?_) (fun _ => ?_) | simp only [*, push_cast, Array.reduceGetElem?, Nat.reduceBEq, Nat.reduceLT, Nat.reduceAdd, Nat.reduceSub, Nat.reduceLeDiff, Nat.reduceMul, Nat.reduceEqDiff, reduceCtorEq, Int.reduceAdd, Int.reduceLT, Int.reduceLE, Int.reduceToNat, Int.reduceNeg, Int.reduceSub, Int.reduceBEq, Int.reduceBNe, Int.reduceNe, Int.reduceGT, Int.reduceGE, Nat.reduceGT] | (rw [drawC_ok]; rotate_left; decide +kernel; exact cfg_mixed))
        | true =>
          have b4 : e < b := by have := of_decide_eq_true d4; omega
          have q3 := hr2 b1 b4
          clear hr2 hr2' b1 b4
          cases d3 : decide ((a : Int) < (s : Int)) with
          | false => repeat' (first | with_reducible refine br_split (fun _ => ?_) (fun _ => ?_) | simp only [*, push_cast, Array.reduceGetElem?, Nat.reduceBEq, Nat.reduceLT, Nat.reduceAdd, Nat.reduceSub, Nat.reduceLeDiff, Nat.reduceMul, Nat.reduceEqDiff, reduceCtorEq, Int.reduceAdd, Int.reduceLT, Int.reduceLE, Int.reduceToNat, Int.reduceNeg, Int.reduceSub, Int.reduceBEq, Int.reduceBNe, Int.reduceNe, Int.reduceGT, Int.reduceGE, Nat.reduceGT] | (rw [drawC_ok]; rotate_left; decide +kernel; exact cfg_mixed))
          | true => repeat' (first | with_reducible refine br_split (fun _ => ?_) (fun _ => ?_) | simp only [*, push_cast, Array.reduceGetElem?, Nat.reduceBEq, Nat.reduceLT, Nat.reduceAdd, Nat.reduceSub, Nat.reduceLeDiff, Nat.reduceMul, Nat.reduceEqDiff, reduceCtorEq, Int.reduceAdd, Int.reduceLT, Int.reduceLE, Int.reduceToNat, Int.reduceNeg, Int.reduceSub, Int.reduceBEq, Int.reduceBNe, Int.reduceNe, Int.reduceGT, Int.reduceGE, Nat.reduceGT] | (rw [drawC_ok]; rotate_left; decide +kernel; exact cfg_mixed))
      | true =>
        have b2 : m < e := by have := of_decide_eq_true d2; omega
        have q1 := hrot b1 b2
        rw [d2] at d5
        clear hrot hrot'
        cases d3 : decide ((a : Int) < (s : Int)) with
        | false =>
          have b3 : ¬ a < s := by have := of_decide_eq_false d3; omega
          have q2 := hr1' (fun h => b3 h.1)
          subst q2
          clear hr1 hr1' b3
          cases d4 : decide ((e : Int) < (b : Int)) with
          | false =>
            have b4 : ¬ e < b := by have := of_decide_eq_false d4; omega
            have q3 := hr2' (fun h => b4 h.2)
            subst q3
            clear hr2 hr2' b1 b2 b4
            repeat' (first | with_reducible refine br_split (fun _ => ?_) (fun _ => ?_) | simp only [*, push_cast, Array.reduceGetElem?, Nat.reduceBEq, Nat.reduceLT, Nat.reduceAdd, Nat.reduceSub, Nat.reduceLeDiff, Nat.reduceMul, Nat.reduceEqDiff, reduceCtorEq, Int.reduceAdd, Int.reduceLT, Int.reduceLE, Int.reduceToNat, Int.reduceNeg, Int.reduceSub, Int.reduceBEq, Int.reduceBNe, Int.reduceNe, Int.reduceGT, Int.reduceGE, Nat.reduceGT] | (rw [drawC_ok]; rotate_left; decide +kernel; exact cfg_mixed))
          | true =>
            have b4 : e < b := by have := of_decide_eq_true d4; omega
            have q3 := hr2 b1 b4
            clear hr2 hr2' b1 b2 b4
            repeat' (first | with_reducible refine br_split (fun _ => ?_) (fun _ => ?_) | simp only [*, push_cast, Array.reduceGetElem?, Nat.reduceBEq, Nat.reduceLT, Nat.reduceAdd, Nat.reduceSub, Nat.reduceLeDiff, Nat.reduceMul, Nat.reduceEqDiff, reduceCtorEq, Int.reduceAdd, Int.reduceLT, Int.reduceLE, Int.reduceToNat, Int.reduceNeg, Int.reduceSub, Int.reduceBEq, Int.reduceBNe, Int.reduceNe, Int.reduceGT, Int.reduceGE, Nat.reduceGT] | (rw [drawC_ok]; rotate_left; decide +kernel; exact cfg_mixed))
        | true =>
          have b3 : a < s := by have := of_decide_eq_true d3; omega
          have q2 := hr1 b3 b2
          clear hr1 hr1' b3
          cases d4 : decide ((e : Int) < (b : Int)) with
          | false =>
            have b4 : ¬ e < b := by have := of_decide_eq_false d4; omega
            have q3 := hr2' (fun h => b4 h.2)
            subst q3
            clear hr2 hr2' b1 b2 b4
            repeat' (first | with_reducible refine br_split (fun _ => ?_) (fun _ => ?_) | simp only [*, push_cast, Array.reduceGetElem?, Nat.reduceBEq, Nat.reduceLT, Nat.reduceAdd, Nat.reduceSub, Nat.reduceLeDiff, Nat.reduceMul, Nat.reduceEqDiff, reduceCtorEq, Int.reduceAdd, Int.reduceLT, Int.reduceLE, Int.reduceToNat, Int.reduceNeg, Int.reduceSub, Int.reduceBEq, Int.reduceBNe, Int.reduceNe, Int.reduceGT, Int.reduceGE, Nat.reduceGT] | (rw [drawC_ok]; rotate_left; decide +kernel; exact cfg_mixed))
          | true =>
            have b4 : e < b := by have := of_decide_eq_true d4; omega
            have q3 := hr2 b1 b4
            clear hr2 hr2' b1 b2 b4
            repeat' (first | with_reducible refine br_split (fun _ => ?_) (fun _ => ?_) | simp only [*, push_cast, Array.reduceGetElem?, Nat.reduceBEq, Nat.reduceLT, Nat.reduceAdd, Nat.reduceSub, Nat.reduceLeDiff, Nat.reduceMul, Nat.reduceEqDiff, reduceCtorEq, Int.reduceAdd, Int.reduceLT, Int.reduceLE, Int.reduceToNat, Int.reduceNeg, Int.reduceSub, Int.reduceBEq, Int.reduceBNe, Int.reduceNe, Int.reduceGT, Int.reduceGE, Nat.reduceGT] | (rw [drawC_ok]; rotate_left; decide +kernel; exact cfg_mixed))
end Go.Av
end
