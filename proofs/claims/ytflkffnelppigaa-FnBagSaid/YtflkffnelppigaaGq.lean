/- What functions of this seat give. -/
import Derived.Test.YtflkffnelppigaaGp
set_option linter.all false
set_option linter.unusedVariables false
set_option linter.unusedSimpArgs false

section
namespace Go.Av
open Go.Proofs
set_option linter.unusedSimpArgs false
theorem putC_n {l : List C} {x d : C} (h : d ∈ putC l x) : d ∈ l ∨ d = x ∨ ∃ c ∈ l, d = ⟨x.row, w64 (x.n + c.n)⟩ := by
  induction l with
  | nil =>
    simp only [putC] at h
    split at h
    · cases h
    · exact .inr (.inl (List.mem_singleton.1 h))
  | cons c l ih =>
    simp only [putC] at h
    split at h
    · rcases List.mem_cons.1 h with rfl | h
      · exact .inl (List.mem_cons_self ..)
      · rcases ih h with h | h | ⟨e, he, h⟩
        · exact .inl (List.mem_cons_of_mem _ h)
        · exact .inr (.inl h)
        · exact .inr (.inr ⟨e, List.mem_cons_of_mem _ he, h⟩)
    · split at h
      · split at h
        · exact .inl (List.mem_cons_of_mem _ h)
        · rcases List.mem_cons.1 h with rfl | h
          · exact .inr (.inr ⟨c, List.mem_cons_self .., rfl⟩)
          · exact .inl (List.mem_cons_of_mem _ h)
      · split at h
        · exact .inl h
        · rcases List.mem_cons.1 h with rfl | h
          · exact .inr (.inl rfl)
          · exact .inl h
structure BagP (w : Int) (rows : List C) (k : Nat) : Prop where
  can : Canon rows
  len : rows.length ≤ k
  row : ∀ c ∈ rows, RowOk w c.row
  num : ∀ c ∈ rows, -(3 * (k : Int)) ≤ c.n ∧ c.n ≤ 3 * (k : Int)
theorem BagP.put {w : Int} {rows : List C} {k : Nat} (h : BagP w rows k) (hk : k ≤ 5) {r : List V} (hr : RowOk w r) {n : Int} (h1 : -3 ≤ n) (h2 : n ≤ 3) : BagP w (putC rows ⟨r, n⟩) (k + 1) := by
  refine ⟨putC_canon h.can (i64_in (by simp only; omega) (by simp only; omega)), ?_, fun c hc => ?_, fun c hc => ?_⟩
  · have := putC_len rows ⟨r, n⟩
    have := h.len
    omega
  · rcases putC_n hc with hc | rfl | ⟨d, hd, rfl⟩
    · exact h.row c hc
    · exact hr
    · exact hr
  · rcases putC_n hc with hc | rfl | ⟨d, hd, rfl⟩
    · have := h.num c hc
      omega
    · simp only; omega
    · have := h.num d hd
      have e : w64 (n + d.n) = n + d.n := i64_in (by omega) (by omega)
      simp only [e]
      omega
structure BS where
  j : Nat
  rows : List C
  i : Nat
  h : Int
theorem ev_l02Bag (l : List Int) (hl : l.length ≤ 1048576) (i : Nat) (hi : i ≤ l.length) (h : Int) (w : Int) (hw : w ≤ 1000) : ∃ r, evF cfg 92 [(0, .box [.d (.sl .any (l.map cuC)), .d (.i .i64 (i : Nat)), .d (.i .i64 h)])] [.ptr 0 0, .d (.i .i64 w), .d (.b true)] = some r ∧
    ∃ (rows : List C) (i' : Nat) (h' : Int), BagP w rows 5 ∧ i' ≤ l.length ∧ r = (.agg [.d (.i .i64 w), .own 40], [(0, .box [.d (.sl .any (l.map cuC)), .d (.i .i64 (i' : Nat)), .d (.i .i64 h')]), (40, .arr .any 2 (rows.map cC))]) := by
  refine exQ fun Q hQ => ?_
  have HQ := Hd.mk hQ; clear hQ
  obtain ⟨_, e0, N, i1, h1, hN, hi1, rfl⟩ := ev_l01Below l hl i hi h 6 6 rfl (by omega) (by omega)
  obtain ⟨_, e1, R, i2, h2, p1, p2, hi2, rfl⟩ := ev_l02Rows l hl i1 hi1 h1 w hw N N rfl (by omega)
  have H := Hd.mk (And.intro hl (And.intro hi2 (And.intro hw (And.intro hN (And.intro p1 p2)))))
  clear hl hi hi1 hi2 hw hN p1 p2
  (refine Eq.mpr (congrArg Q (evF_code (C := cfg) (g := 92) (fn := Try.f92) rfl Try.func92 rfl (by rw [Try.ntmps92]; simp) (by kernel_rfl) (by first | decide | simp [keysOf]))) ?_; rw [Try.results92, Try.ntmps92])
  repeat' (first | with_reducible refine br_split (fun _ => ?_) (fun _ => ?_) | simp only [*, push_cast, Array.reduceGetElem?, Nat.reduceBEq, Nat.reduceLT, Nat.reduceAdd, Nat.reduceSub, Nat.reduceLeDiff, Nat.reduceMul, Nat.reduceEqDiff, reduceCtorEq, Int.reduceAdd, Int.reduceLT, Int.reduceLE, Int.reduceToNat, Int.reduceNeg, Int.reduceSub, Int.reduceBEq, Int.reduceBNe, Int.reduceNe, Int.reduceGT, Int.reduceGE, Nat.reduceGT] | (rw [drawC_ok]; rotate_left; decide +kernel; exact cfg_mixed))
  rw [show ([] : List (List T)) = ([] : List C).map cC from rfl]
  generalize hE : evM cfg _ _ _ _ _ = RR
  have key : ∃ r, RR = some r ∧ ∃ (rows : List C) (i' : Nat) (h' : Int), BagP w rows 5 ∧ i' ≤ l.length ∧ r = (Exit.exit 0, { t := [(6, .ptr 50 0), (7, .ptr 51 0)], o := [(0, .box [.d (.sl .any (l.map cuC)), .d (.i .i64 (i' : Nat)), .d (.i .i64 h')]), (50, .box [.d (.i .i64 0), .nl]), (51, .box [.d (.i .i64 w), .own 52]), (52, .arr .any 2 (rows.map cC))], ks := [0, 50, 51, 52], n := 0, sz := 42, u := noU }) := by
    rw [← hE]
    refine evM_ex (α := BS) (fun z => { t := [(0, .ptr 0 0), (2, .d (.b true)), (6, .ptr 50 0), (7, .ptr 51 0), (8, .own 52), (9, .d (.i .i64 (z.j : Nat)))], o := [(0, .box [.d (.sl .any (l.map cuC)), .d (.i .i64 (z.i : Nat)), .d (.i .i64 z.h)]), (50, .box [.d (.i .i64 0), .nl]), (51, .box [.d (.i .i64 w), .own 53]), (52, .arr .any 1 (R.map roC)), (53, .arr .any 2 (z.rows.map cC))], ks := [0, 50, 51, 52, 53], n := 0, sz := 42, u := noU })
      (fun _ r => ∃ (rows : List C) (i' : Nat) (h' : Int), BagP w rows 5 ∧ i' ≤ l.length ∧ r = (Exit.exit 0, { t := [(6, .ptr 50 0), (7, .ptr 51 0)], o := [(0, .box [.d (.sl .any (l.map cuC)), .d (.i .i64 (i' : Nat)), .d (.i .i64 h')]), (50, .box [.d (.i .i64 0), .nl]), (51, .box [.d (.i .i64 w), .own 52]), (52, .arr .any 2 (rows.map cC))], ks := [0, 50, 51, 52], n := 0, sz := 42, u := noU }))
      (fun z => z.j ≤ N ∧ BagP w z.rows z.j ∧ z.i ≤ l.length) (fun z => N - z.j) ?_ ⟨0, [], i2, h2⟩ ⟨Nat.zero_le _, ⟨canon_nil, Nat.le_refl _, fun _ h => (nomatch h), fun _ h => (nomatch h)⟩, H.out.2.1⟩
    clear hE RR e0 e1
    rintro ⟨j, rows, i, h⟩ ⟨hj, hB, hi⟩ ih
    simp only at hj hB hi ih ⊢
    obtain ⟨hl, -, hw, hN, hR1, hR2⟩ := H.out
    by_cases hc : j < R.length
    · have c1 : decide ((j : Int) < (R.length : Int)) = true := dec_lt hc
      have c2 := dec_ltN hc
      have w1 : IntKind.i64.wrap ((j : Int) + 1) = (j : Int) + 1 := wrap_succ (by omega)
      have g1 : (R.map roC)[j]? = some [.sl .any (R[j].map vC)] := get_map roC R j hc
      obtain ⟨_, e0, x, i1, h1, hx, hi1, rfl⟩ := ev_l01Below l hl i hi h 3 3 rfl (by omega) (by omega)
      obtain ⟨_, e1, b, i2, h2, hi2, rfl⟩ := ev_l01Once l hl i1 hi1 h1 3 3 rfl (by omega) (by omega)
      have w2 : IntKind.i64.wrap (1 + (x : Int)) = 1 + (x : Int) := i64_in (by omega) (by omega)
      have w3 : IntKind.i64.wrap (0 - (1 + (x : Int))) = -(1 + (x : Int)) := by rw [i64_in (by omega) (by omega)]; omega
      have hrj := hR2 _ (List.getElem_mem hc)
      have hrl : R[j].length ≤ 1048576 := by have := hrj.1; omega
      have hrows : ∀ c ∈ rows, c.row.length ≤ 1048576 := fun c hc => by have := (hB.row c hc).1; omega
      have hjk : j ≤ 5 := by omega
      have hlen : rows.length ≤ 1048576 := by have := hB.len; omega
      cases b with
      | false =>
        obtain ⟨r, hr, hq⟩ := ih ⟨j + 1, putC rows ⟨R[j], 1 + (x : Int)⟩, i2, h2⟩ ⟨by simp only; omega, hB.put hjk hrj (by omega) (by omega), hi2⟩ (by simp only; omega)
        simp only at hr
        rw [show ((j + 1 : Nat) : Int) = (j : Int) + 1 from rfl] at hr
        refine ⟨r, ?_, hq⟩
        rcases ev_l02Put w (1 + (x : Int)) rows R[j] hlen hrows hrl hB.can.1 with hput | hput
        · clear ih hl hi hj hB hw hN hR1 hR2 hq hx hi1 hi2 hrj hrl hrows hlen hjk w3
          repeat' (first | with_reducible refine br_split (fun _ => ?_) (fun _ => ?_) | simp only [*, push_cast, Array.reduceGetElem?, Nat.reduceBEq, Nat.reduceLT, Nat.reduceAdd, Nat.reduceSub, Nat.reduceLeDiff, Nat.reduceMul, Nat.reduceEqDiff, reduceCtorEq, Int.reduceAdd, Int.reduceLT, Int.reduceLE, Int.reduceToNat, Int.reduceNeg, Int.reduceSub, Int.reduceBEq, Int.reduceBNe, Int.reduceNe, Int.reduceGT, Int.reduceGE, Nat.reduceGT] | (rw [drawC_ok]; rotate_left; decide +kernel; exact cfg_mixed))
        · clear ih hl hi hj hB hw hN hR1 hR2 hq hx hi1 hi2 hrj hrl hrows hlen hjk w3
          repeat' (first | with_reducible refine br_split (fun _ => ?_) (fun _ => ?_) | simp only [*, push_cast, Array.reduceGetElem?, Nat.reduceBEq, Nat.reduceLT, Nat.reduceAdd, Nat.reduceSub, Nat.reduceLeDiff, Nat.reduceMul, Nat.reduceEqDiff, reduceCtorEq, Int.reduceAdd, Int.reduceLT, Int.reduceLE, Int.reduceToNat, Int.reduceNeg, Int.reduceSub, Int.reduceBEq, Int.reduceBNe, Int.reduceNe, Int.reduceGT, Int.reduceGE, Nat.reduceGT] | (rw [drawC_ok]; rotate_left; decide +kernel; exact cfg_mixed))
      | true =>
        obtain ⟨r, hr, hq⟩ := ih ⟨j + 1, putC rows ⟨R[j], -(1 + (x : Int))⟩, i2, h2⟩ ⟨by simp only; omega, hB.put hjk hrj (by omega) (by omega), hi2⟩ (by simp only; omega)
        simp only at hr
        rw [show ((j + 1 : Nat) : Int) = (j : Int) + 1 from rfl] at hr
        refine ⟨r, ?_, hq⟩
        rcases ev_l02Put w (-(1 + (x : Int))) rows R[j] hlen hrows hrl hB.can.1 with hput | hput
        · clear ih hl hi hj hB hw hN hR1 hR2 hq hx hi1 hi2 hrj hrl hrows hlen hjk
          repeat' (first | with_reducible refine br_split (fun _ => ?_) (fun _ => ?_) | simp only [*, push_cast, Array.reduceGetElem?, Nat.reduceBEq, Nat.reduceLT, Nat.reduceAdd, Nat.reduceSub, Nat.reduceLeDiff, Nat.reduceMul, Nat.reduceEqDiff, reduceCtorEq, Int.reduceAdd, Int.reduceLT, Int.reduceLE, Int.reduceToNat, Int.reduceNeg, Int.reduceSub, Int.reduceBEq, Int.reduceBNe, Int.reduceNe, Int.reduceGT, Int.reduceGE, Nat.reduceGT] | (rw [drawC_ok]; rotate_left; decide +kernel; exact cfg_mixed))
        · clear ih hl hi hj hB hw hN hR1 hR2 hq hx hi1 hi2 hrj hrl hrows hlen hjk
          repeat' (first | with_reducible refine br_split (fun _ => ?_) (fun _ => ?_) | simp only [*, push_cast, Array.reduceGetElem?, Nat.reduceBEq, Nat.reduceLT, Nat.reduceAdd, Nat.reduceSub, Nat.reduceLeDiff, Nat.reduceMul, Nat.reduceEqDiff, reduceCtorEq, Int.reduceAdd, Int.reduceLT, Int.reduceLE, Int.reduceToNat, Int.reduceNeg, Int.reduceSub, Int.reduceBEq, Int.reduceBNe, Int.reduceNe, Int.reduceGT, Int.reduceGE, Nat.reduceGT] | (rw [drawC_ok]; rotate_left; decide +kernel; exact cfg_mixed))
    · have c1 : decide ((j : Int) < (R.length : Int)) = false := decide_eq_false (by omega)
      refine ⟨_, ?_, rows, i, h, ⟨hB.can, by have := hB.len; omega, hB.row, fun c hc => by have := hB.num c hc; omega⟩, hi, rfl⟩
      clear ih hl hi hj hB hw hN hR1 hR2 hc
      repeat' (first | with_reducible refine br_split (fun _ => ?_) (fun _ => ?_) | simp only [*, push_cast, Array.reduceGetElem?, Nat.reduceBEq, Nat.reduceLT, Nat.reduceAdd, Nat.reduceSub, Nat.reduceLeDiff, Nat.reduceMul, Nat.reduceEqDiff, reduceCtorEq, Int.reduceAdd, Int.reduceLT, Int.reduceLE, Int.reduceToNat, Int.reduceNeg, Int.reduceSub, Int.reduceBEq, Int.reduceBNe, Int.reduceNe, Int.reduceGT, Int.reduceGE, Nat.reduceGT] | (rw [drawC_ok]; rotate_left; decide +kernel; exact cfg_mixed))
  obtain ⟨_, rfl, rows, i', h', q1, q2, rfl⟩ := key
  have H2 := Hd.mk (And.intro q1 q2)
  clear hE q1 q2
  repeat' (first | with_reducible refine br_split (fun _ => ?_) (fun _ => ?_) | simp only [*, push_cast, Array.reduceGetElem?, Nat.reduceBEq, Nat.reduceLT, Nat.reduceAdd, Nat.reduceSub, Nat.reduceLeDiff, Nat.reduceMul, Nat.reduceEqDiff, reduceCtorEq, Int.reduceAdd, Int.reduceLT, Int.reduceLE, Int.reduceToNat, Int.reduceNeg, Int.reduceSub, Int.reduceBEq, Int.reduceBNe, Int.reduceNe, Int.reduceGT, Int.reduceGE, Nat.reduceGT] | (rw [drawC_ok]; rotate_left; decide +kernel; exact cfg_mixed))
  exact HQ.out _ ⟨rows, i', h', H2.out.1, H2.out.2, rfl⟩
end Go.Av
end

section
namespace Go.Av
open Go.Proofs
set_option linter.unusedSimpArgs false
structure AnyP (w : Int) (rows : List C) : Prop where
  wid : w ≤ 13
  len : rows.length ≤ 6
  row : ∀ c ∈ rows, c.row.length ≤ 13 ∧ ∀ v ∈ c.row, v.s.size ≤ 5
  num : (∀ c ∈ rows, -15 ≤ c.n ∧ c.n ≤ 15) ∨ ∃ c l, rows = c :: l ∧ (c.n = 1000000000 ∨ c.n = 1000000001 ∨ c.n = -1000000000) ∧ ∀ d ∈ l, -15 ≤ d.n ∧ d.n ≤ 15
theorem BagP.any {w : Int} {rows : List C} (h : BagP w rows 5) (hw : w ≤ 3) {w' : Int} (hw' : w' ≤ 13) : AnyP w' rows :=
  ⟨hw', Nat.le_trans h.len (by omega), fun c hc => ⟨by have := (h.row c hc).1; omega, (h.row c hc).2⟩, .inl fun c hc => by have := h.num c hc; omega⟩
theorem ev_l02Any (l : List Int) (hl : l.length ≤ 1048576) (i : Nat) (hi : i ≤ l.length) (h : Int) : ∃ r, evF cfg 64 [(0, .box [.d (.sl .any (l.map cuC)), .d (.i .i64 (i : Nat)), .d (.i .i64 h)])] [.ptr 0 0] = some r ∧
    ∃ (w : Int) (rows : List C) (i' : Nat) (h' : Int), AnyP w rows ∧ i' ≤ l.length ∧ r = (.agg [.d (.i .i64 w), .d (.sl .any (rows.map cC))], [(0, .box [.d (.sl .any (l.map cuC)), .d (.i .i64 (i' : Nat)), .d (.i .i64 h')])]) := by
  refine exQ fun Q hQ => ?_
  have HQ := Hd.mk hQ; clear hQ
  obtain ⟨_, e0, w, i1, h1, hw, hi1, rfl⟩ := ev_l01Below l hl i hi h 4 4 rfl (by omega) (by omega)
  obtain ⟨_, e1, rows, i2, h2, hB, hi2, rfl⟩ := ev_l02Bag l hl i1 hi1 h1 w (by omega)
  obtain ⟨_, e2, x, i3, h3, hx, hi3, rfl⟩ := ev_l01Below l hl i2 hi2 h2 16 16 rfl (by omega) (by omega)
  have hw3 : (w : Int) ≤ 3 := by omega
  by_cases k0 : x = 0
  · obtain ⟨_, e3, y, i4, h4, hy, hi4, rfl⟩ := ev_l01PickInt l hl i3 hi3 h3 [-1, 13, (w : Int) + 1] (by simp) (by simp)
    have w1 : IntKind.i64.wrap ((w : Int) + 1) = (w : Int) + 1 := i64_in (by omega) (by omega)
    have hy13 : y ≤ 13 := by
      simp only [List.mem_cons, List.not_mem_nil, or_false] at hy
      omega
    have H := Hd.mk (And.intro hi4 (hB.any hw3 hy13))
    simp only [List.map_cons, List.map_nil, inC] at e3
    have k1 : ((x : Int) == 0) = true := by rw [k0]; rfl
    clear hl hi hi1 hi2 hi3 hi4 hw hB hx hw3 hy hy13 k0
    (refine Eq.mpr (congrArg Q (evF_code (C := cfg) (g := 64) (fn := Try.f64) rfl Try.func64 rfl (by rw [Try.ntmps64]; simp) (by kernel_rfl) (by first | decide | simp [keysOf]))) ?_; rw [Try.results64, Try.ntmps64])
    repeat' (first | with_reducible refine br_split (fun _ => ?_) (fun _ => ?_) | simp only [*, push_cast, Array.reduceGetElem?, Nat.reduceBEq, Nat.reduceLT, Nat.reduceAdd, Nat.reduceSub, Nat.reduceLeDiff, Nat.reduceMul, Nat.reduceEqDiff, reduceCtorEq, Int.reduceAdd, Int.reduceLT, Int.reduceLE, Int.reduceToNat, Int.reduceNeg, Int.reduceSub, Int.reduceBEq, Int.reduceBNe, Int.reduceNe, Int.reduceGT, Int.reduceGE, Nat.reduceGT] | (rw [drawC_ok]; rotate_left; decide +kernel; exact cfg_mixed))
    exact HQ.out _ ⟨y, rows, i4, h4, H.out.2, H.out.1, rfl⟩
  by_cases k1 : x = 1
  · obtain ⟨_, e3, R, i4, h4, hR1, hR2, hi4, rfl⟩ := ev_l02Rows l hl i3 hi3 h3 w (by omega) 1 1 rfl (by omega)
    obtain ⟨_, e4, y, i5, h5, hy, hi5, rfl⟩ := ev_l01Below l hl i4 hi4 h4 3 3 rfl (by omega) (by omega)
    obtain ⟨r0, rfl⟩ := List.length_eq_one_iff.1 hR1
    have hr0 := hR2 r0 (List.mem_singleton.2 rfl)
    have h3' : rows.map cC ++ [[.sl .any (r0.map vC), .i .i64 (y : Int)]] = (rows ++ [(⟨r0, (y : Int)⟩ : C)]).map cC := by rw [List.map_append]; rfl
    have hA : AnyP w (rows ++ [⟨r0, (y : Int)⟩]) := by
      refine ⟨by omega, by simp only [List.length_append, List.length_singleton]; have := hB.len; omega, fun c hc => ?_, .inl fun c hc => ?_⟩
      · rcases List.mem_append.1 hc with hc | hc
        · exact ⟨by have := (hB.row c hc).1; omega, (hB.row c hc).2⟩
        · rw [List.mem_singleton.1 hc]
          exact ⟨by have := hr0.1; simp only; omega, hr0.2⟩
      · rcases List.mem_append.1 hc with hc | hc
        · have := hB.num c hc; omega
        · rw [List.mem_singleton.1 hc]; simp only; omega
    have hlen := len_ok (n := rows.length + 1) 32 (by have := hB.len; omega) (by omega)
    have H := Hd.mk (And.intro hi5 hA)
    simp only [List.map_cons, List.map_nil, roC] at e3
    have q0 : ((x : Int) == 0) = false := by rw [k1]; rfl
    have q1 : ((x : Int) == 1) = true := by rw [k1]; rfl
    clear hl hi hi1 hi2 hi3 hi4 hi5 hw hB hx hw3 hy hR1 hR2 hr0 hA k0 k1
    (refine Eq.mpr (congrArg Q (evF_code (C := cfg) (g := 64) (fn := Try.f64) rfl Try.func64 rfl (by rw [Try.ntmps64]; simp) (by kernel_rfl) (by first | decide | simp [keysOf]))) ?_; rw [Try.results64, Try.ntmps64])
    repeat' (first | with_reducible refine br_split (fun _ => ?_) (fun _ => ?_) | simp only [*, push_cast, Array.reduceGetElem?, Nat.reduceBEq, Nat.reduceLT, Nat.reduceAdd, Nat.reduceSub, Nat.reduceLeDiff, Nat.reduceMul, Nat.reduceEqDiff, reduceCtorEq, Int.reduceAdd, Int.reduceLT, Int.reduceLE, Int.reduceToNat, Int.reduceNeg, Int.reduceSub, Int.reduceBEq, Int.reduceBNe, Int.reduceNe, Int.reduceGT, Int.reduceGE, Nat.reduceGT] | (rw [drawC_ok]; rotate_left; decide +kernel; exact cfg_mixed))
    exact HQ.out _ ⟨w, rows ++ [⟨r0, (y : Int)⟩], i5, h5, H.out.2, H.out.1, rfl⟩
  have q0 : ((x : Int) == 0) = false := by rw [beq_eq_false_iff_ne]; omega
  have q1 : ((x : Int) == 1) = false := by rw [beq_eq_false_iff_ne]; omega
  by_cases k2 : x = 2
  · have q2 : ((x : Int) == 2) = true := by rw [k2]; rfl
    cases rows with
    | nil =>
      have H := Hd.mk (And.intro hi3 (hB.any hw3 (w' := w) (by omega)))
      simp only [List.map_nil] at e1
      have g0 : decide ((0 : Int) > 0) = false := rfl
      clear hl hi hi1 hi2 hi3 hw hB hx hw3 k0 k1 k2
      (refine Eq.mpr (congrArg Q (evF_code (C := cfg) (g := 64) (fn := Try.f64) rfl Try.func64 rfl (by rw [Try.ntmps64]; simp) (by kernel_rfl) (by first | decide | simp [keysOf]))) ?_; rw [Try.results64, Try.ntmps64])
      repeat' (first | with_reducible refine br_split (fun _ => ?_) (fun _ => ?_) | simp only [*, push_cast, Array.reduceGetElem?, Nat.reduceBEq, Nat.reduceLT, Nat.reduceAdd, Nat.reduceSub, Nat.reduceLeDiff, Nat.reduceMul, Nat.reduceEqDiff, reduceCtorEq, Int.reduceAdd, Int.reduceLT, Int.reduceLE, Int.reduceToNat, Int.reduceNeg, Int.reduceSub, Int.reduceBEq, Int.reduceBNe, Int.reduceNe, Int.reduceGT, Int.reduceGE, Nat.reduceGT] | (rw [drawC_ok]; rotate_left; decide +kernel; exact cfg_mixed))
      exact HQ.out _ ⟨w, [], i3, h3, H.out.2, H.out.1, rfl⟩
    | cons c rest =>
      obtain ⟨_, e3, y, i4, h4, hy, hi4, rfl⟩ := ev_l01PickInt l hl i3 hi3 h3 [0, 1000000000, 1000000001, -1000000000] (by simp) (by simp)
      have hA : AnyP w (⟨c.row, y⟩ :: rest) := by
        have hP := hB.any hw3 (w' := w) (by omega)
        refine ⟨by omega, hP.len, fun d hd => ?_, ?_⟩
        · rcases List.mem_cons.1 hd with rfl | hd
          · exact hP.row c (List.mem_cons_self ..)
          · exact hP.row d (List.mem_cons_of_mem _ hd)
        · have hrest : ∀ d ∈ rest, -15 ≤ d.n ∧ d.n ≤ 15 := fun d hd => by have := hB.num d (List.mem_cons_of_mem _ hd); omega
          simp only [List.mem_cons, List.not_mem_nil, or_false] at hy
          rcases hy with rfl | hy
          · left
            intro d hd
            rcases List.mem_cons.1 hd with rfl | hd
            · simp
            · exact hrest d hd
          · exact .inr ⟨_, _, rfl, hy, hrest⟩
      have H := Hd.mk (And.intro hi4 hA)
      have g0 : decide (((rest.length : Int) + 1) > 0) = true := decide_eq_true (by omega)
      have g1 : decide ((0 : Int) < (rest.length : Int) + 1) = true := decide_eq_true (by omega)
      have g2 : decide (0 < rest.length + 1) = true := decide_eq_true (by omega)
      simp only [List.map_cons, List.map_nil, inC] at e3 e1
      rw [show cC c = [.sl .any (c.row.map vC), .i .i64 c.n] from rfl] at e1
      clear hl hi hi1 hi2 hi3 hi4 hw hB hx hw3 hy hA k0 k1 k2
      (refine Eq.mpr (congrArg Q (evF_code (C := cfg) (g := 64) (fn := Try.f64) rfl Try.func64 rfl (by rw [Try.ntmps64]; simp) (by kernel_rfl) (by first | decide | simp [keysOf]))) ?_; rw [Try.results64, Try.ntmps64])
      repeat' (first | with_reducible refine br_split (fun _ => ?_) (fun _ => ?_) | simp only [*, push_cast, Array.reduceGetElem?, Nat.reduceBEq, Nat.reduceLT, Nat.reduceAdd, Nat.reduceSub, Nat.reduceLeDiff, Nat.reduceMul, Nat.reduceEqDiff, reduceCtorEq, Int.reduceAdd, Int.reduceLT, Int.reduceLE, Int.reduceToNat, Int.reduceNeg, Int.reduceSub, Int.reduceBEq, Int.reduceBNe, Int.reduceNe, Int.reduceGT, Int.reduceGE, Nat.reduceGT] | (rw [drawC_ok]; rotate_left; decide +kernel; exact cfg_mixed))
      exact HQ.out _ ⟨w, ⟨c.row, y⟩ :: rest, i4, h4, H.out.2, H.out.1, rfl⟩
  have q2 : ((x : Int) == 2) = false := by rw [beq_eq_false_iff_ne]; omega
  have H := Hd.mk (And.intro hi3 (hB.any hw3 (w' := w) (by omega)))
  clear hl hi hi1 hi2 hi3 hw hB hx hw3 k0 k1 k2
  (refine Eq.mpr (congrArg Q (evF_code (C := cfg) (g := 64) (fn := Try.f64) rfl Try.func64 rfl (by rw [Try.ntmps64]; simp) (by kernel_rfl) (by first | decide | simp [keysOf]))) ?_; rw [Try.results64, Try.ntmps64])
  repeat' (first | with_reducible refine br_split (fun _ => ?_) (fun _ => ?_) | simp only [*, push_cast, Array.reduceGetElem?, Nat.reduceBEq, Nat.reduceLT, Nat.reduceAdd, Nat.reduceSub, Nat.reduceLeDiff, Nat.reduceMul, Nat.reduceEqDiff, reduceCtorEq, Int.reduceAdd, Int.reduceLT, Int.reduceLE, Int.reduceToNat, Int.reduceNeg, Int.reduceSub, Int.reduceBEq, Int.reduceBNe, Int.reduceNe, Int.reduceGT, Int.reduceGE, Nat.reduceGT] | (rw [drawC_ok]; rotate_left; decide +kernel; exact cfg_mixed))
  exact HQ.out _ ⟨w, rows, i3, h3, H.out.2, H.out.1, rfl⟩
theorem ev_l02Two (l : List Int) (hl : l.length ≤ 1048576) (i : Nat) (hi : i ≤ l.length) (h : Int) : ∃ r, evF cfg 62 [(0, .box [.d (.sl .any (l.map cuC)), .d (.i .i64 (i : Nat)), .d (.i .i64 h)])] [.ptr 0 0] = some r ∧
    ∃ (w wb : Int) (ra rb : List C) (i' : Nat) (h' : Int), (w ≤ 3 ∧ BagP w ra 5) ∧ AnyP wb rb ∧ r = (.tup [.agg [.d (.i .i64 w), .d (.sl .any (ra.map cC))], .agg [.d (.i .i64 wb), .d (.sl .any (rb.map cC))]], [(0, .box [.d (.sl .any (l.map cuC)), .d (.i .i64 (i' : Nat)), .d (.i .i64 h')])]) := by
  refine exQ fun Q hQ => ?_
  have HQ := Hd.mk hQ; clear hQ
  obtain ⟨_, e0, w, i1, h1, hw, hi1, rfl⟩ := ev_l01Below l hl i hi h 3 3 rfl (by omega) (by omega)
  obtain ⟨_, e1, ra, i2, h2, hB, hi2, rfl⟩ := ev_l02Bag l hl i1 hi1 h1 w (by omega)
  obtain ⟨_, e2, b, i3, h3, hi3, rfl⟩ := ev_l01Once l hl i2 hi2 h2 8 8 rfl (by omega) (by omega)
  have hw3 : (w : Int) ≤ 3 := by omega
  cases b with
  | true =>
    obtain ⟨_, e3, wb, rb, i4, h4, hA, hi4, rfl⟩ := ev_l02Any l hl i3 hi3 h3
    have H := Hd.mk (And.intro (And.intro hw3 hB) hA)
    clear hl hi hi1 hi2 hi3 hi4 hw hB hA hw3
    (refine Eq.mpr (congrArg Q (evF_code (C := cfg) (g := 62) (fn := Try.f62) rfl Try.func62 rfl (by rw [Try.ntmps62]; simp) (by kernel_rfl) (by first | decide | simp [keysOf]))) ?_; rw [Try.results62, Try.ntmps62])
    repeat' (first | with_reducible refine br_split (fun _ => ?_) (fun _ => ?_) | simp only [*, push_cast, Array.reduceGetElem?, Nat.reduceBEq, Nat.reduceLT, Nat.reduceAdd, Nat.reduceSub, Nat.reduceLeDiff, Nat.reduceMul, Nat.reduceEqDiff, reduceCtorEq, Int.reduceAdd, Int.reduceLT, Int.reduceLE, Int.reduceToNat, Int.reduceNeg, Int.reduceSub, Int.reduceBEq, Int.reduceBNe, Int.reduceNe, Int.reduceGT, Int.reduceGE, Nat.reduceGT] | (rw [drawC_ok]; rotate_left; decide +kernel; exact cfg_mixed))
    exact HQ.out _ ⟨w, wb, ra, rb, i4, h4, H.out.1, H.out.2, rfl⟩
  | false =>
    obtain ⟨_, e3, rb, i4, h4, hB2, hi4, rfl⟩ := ev_l02Bag l hl i3 hi3 h3 w (by omega)
    have H := Hd.mk (And.intro (And.intro hw3 hB) (hB2.any hw3 (w' := w) (by omega)))
    clear hl hi hi1 hi2 hi3 hi4 hw hB hB2 hw3
    (refine Eq.mpr (congrArg Q (evF_code (C := cfg) (g := 62) (fn := Try.f62) rfl Try.func62 rfl (by rw [Try.ntmps62]; simp) (by kernel_rfl) (by first | decide | simp [keysOf]))) ?_; rw [Try.results62, Try.ntmps62])
    repeat' (first | with_reducible refine br_split (fun _ => ?_) (fun _ => ?_) | simp only [*, push_cast, Array.reduceGetElem?, Nat.reduceBEq, Nat.reduceLT, Nat.reduceAdd, Nat.reduceSub, Nat.reduceLeDiff, Nat.reduceMul, Nat.reduceEqDiff, reduceCtorEq, Int.reduceAdd, Int.reduceLT, Int.reduceLE, Int.reduceToNat, Int.reduceNeg, Int.reduceSub, Int.reduceBEq, Int.reduceBNe, Int.reduceNe, Int.reduceGT, Int.reduceGE, Nat.reduceGT] | (rw [drawC_ok]; rotate_left; decide +kernel; exact cfg_mixed))
    exact HQ.out _ ⟨w, w, ra, rb, i4, h4, H.out.1, H.out.2, rfl⟩
theorem ev_DrawAddBag (l : List Int) (hl : l.length ≤ 1048576) : ∃ r, evF cfg 25 [] [.d (.sl .any (l.map cuC))] = some r ∧
    ∃ (w wb : Int) (ra rb : List C), (w ≤ 3 ∧ BagP w ra 5) ∧ AnyP wb rb ∧ r = (.tup [.agg [.d (.i .i64 w), .d (.sl .any (ra.map cC))], .agg [.d (.i .i64 wb), .d (.sl .any (rb.map cC))]], []) := by
  refine exQ fun Q hQ => ?_
  have HQ := Hd.mk hQ; clear hQ
  obtain ⟨_, e0, h, rfl⟩ := ev_l01New l hl
  obtain ⟨_, e1, w, wb, ra, rb, i', h', p1, p2, rfl⟩ := ev_l02Two l hl 0 (Nat.zero_le _) h
  rw [show ((0 : Nat) : Int) = 0 from rfl] at e1
  have H := Hd.mk (And.intro p1 p2)
  clear hl p1 p2
  (refine Eq.mpr (congrArg Q (evF_code (C := cfg) (g := 25) (fn := Try.f25) rfl Try.func25 rfl (by rw [Try.ntmps25]; simp) (by kernel_rfl) (by first | decide | simp [keysOf]))) ?_; rw [Try.results25, Try.ntmps25])
  repeat' (first | with_reducible refine br_split (fun _ => ?_) (fun _ => ?_) | simp only [*, push_cast, Array.reduceGetElem?, Nat.reduceBEq, Nat.reduceLT, Nat.reduceAdd, Nat.reduceSub, Nat.reduceLeDiff, Nat.reduceMul, Nat.reduceEqDiff, reduceCtorEq, Int.reduceAdd, Int.reduceLT, Int.reduceLE, Int.reduceToNat, Int.reduceNeg, Int.reduceSub, Int.reduceBEq, Int.reduceBNe, Int.reduceNe, Int.reduceGT, Int.reduceGE, Nat.reduceGT] | (rw [drawC_ok]; rotate_left; decide +kernel; exact cfg_mixed))
  exact HQ.out _ ⟨w, wb, ra, rb, H.out.1, H.out.2, rfl⟩
end Go.Av
end

section
namespace Go.Av
open Go.Proofs
set_option linter.unusedSimpArgs false
theorem ev_big (l : List Int) : evF cfg 24 [] [.d (.sl .any (l.map cuC))] = some (.d (.b (decide ((l.length : Int) > 1048576))), []) := by
  (refine (evF_code (C := cfg) (g := 24) (fn := Try.f24) rfl Try.func24 rfl (by rw [Try.ntmps24]; simp) (by kernel_rfl) (by first | decide | simp [keysOf])).trans ?_; rw [Try.results24, Try.ntmps24])
  repeat' (first | with_reducible refine br_split (fun _ => ?_) (fun _ => ?_) | simp only [*, push_cast, Array.reduceGetElem?, Nat.reduceBEq, Nat.reduceLT, Nat.reduceAdd, Nat.reduceSub, Nat.reduceLeDiff, Nat.reduceMul, Nat.reduceEqDiff, reduceCtorEq, Int.reduceAdd, Int.reduceLT, Int.reduceLE, Int.reduceToNat, Int.reduceNeg, Int.reduceSub, Int.reduceBEq, Int.reduceBNe, Int.reduceNe, Int.reduceGT, Int.reduceGE, Nat.reduceGT] | (rw [drawC_ok]; rotate_left; decide +kernel; exact cfg_mixed))
theorem ev_DrawCountOf (l : List Int) (hl : l.length ≤ 1048576) : ∃ r, evF cfg 26 [] [.d (.sl .any (l.map cuC))] = some r ∧
    ∃ (w : Int) (rows : List C) (row : List V), AnyP w rows ∧ row.length ≤ 13 ∧ r = (.tup [.agg [.d (.i .i64 w), .d (.sl .any (rows.map cC))], .d (.sl .any (row.map vC))], []) := by
  refine exQ fun Q hQ => ?_
  have HQ := Hd.mk hQ; clear hQ
  obtain ⟨_, e0, h, rfl⟩ := ev_l01New l hl
  obtain ⟨_, e1, w, rows, i1, h1, hA, hi1, rfl⟩ := ev_l02Any l hl 0 (Nat.zero_le _) h
  rw [show ((0 : Nat) : Int) = 0 from rfl] at e1
  have hw13 := hA.wid
  by_cases hz : rows.length = 0
  · obtain rfl := List.eq_nil_of_length_eq_zero hz
    obtain ⟨_, e3, R, i3, h3, hR1, hR2, hi3, rfl⟩ := ev_l02Rows l hl i1 hi1 h1 w (by omega) 1 1 rfl (by omega)
    obtain ⟨r0, rfl⟩ := List.length_eq_one_iff.1 hR1
    have hr0 := hR2 r0 (List.mem_singleton.2 rfl)
    have H := Hd.mk (And.intro hA (show r0.length ≤ 13 by have := hr0.1; omega))
    simp only [List.map_nil] at e1
    simp only [List.map_cons, List.map_nil, roC] at e3
    have g0 : decide ((0 : Int) > 0) = false := rfl
    clear hl hi1 hi3 hA hw13 hz hR1 hR2 hr0
    (refine Eq.mpr (congrArg Q (evF_code (C := cfg) (g := 26) (fn := Try.f26) rfl Try.func26 rfl (by rw [Try.ntmps26]; simp) (by kernel_rfl) (by first | decide | simp [keysOf]))) ?_; rw [Try.results26, Try.ntmps26])
    repeat' (first | with_reducible refine br_split (fun _ => ?_) (fun _ => ?_) | simp only [*, push_cast, Array.reduceGetElem?, Nat.reduceBEq, Nat.reduceLT, Nat.reduceAdd, Nat.reduceSub, Nat.reduceLeDiff, Nat.reduceMul, Nat.reduceEqDiff, reduceCtorEq, Int.reduceAdd, Int.reduceLT, Int.reduceLE, Int.reduceToNat, Int.reduceNeg, Int.reduceSub, Int.reduceBEq, Int.reduceBNe, Int.reduceNe, Int.reduceGT, Int.reduceGE, Nat.reduceGT] | (rw [drawC_ok]; rotate_left; decide +kernel; exact cfg_mixed))
    exact HQ.out _ ⟨w, [], r0, H.out.1, H.out.2, rfl⟩
  · obtain ⟨_, e2, b, i2, h2, hi2, rfl⟩ := ev_l01Once l hl i1 hi1 h1 2 2 rfl (by omega) (by omega)
    have g0 : decide (((rows.length : Nat) : Int) > 0) = true := decide_eq_true (by omega)
    cases b with
    | true =>
      obtain ⟨_, e3, x, i3, h3, hx, hi3, rfl⟩ := ev_l01Below l hl i2 hi2 h2 rows.length rows.length rfl (by omega) (by have := hA.len; omega)
      have c1 := dec_lt hx
      have c2 := dec_ltN hx
      have g1 : (rows.map cC)[x]? = some [.sl .any (rows[x].row.map vC), .i .i64 rows[x].n] := get_map cC rows x hx
      have hrow := (hA.row _ (List.getElem_mem hx)).1
      have e4 := ev_l02CopyRow rows[x].row (by omega)
      have H := Hd.mk (And.intro hA hrow)
      clear hl hi1 hi2 hi3 hA hw13 hz hrow
      (refine Eq.mpr (congrArg Q (evF_code (C := cfg) (g := 26) (fn := Try.f26) rfl Try.func26 rfl (by rw [Try.ntmps26]; simp) (by kernel_rfl) (by first | decide | simp [keysOf]))) ?_; rw [Try.results26, Try.ntmps26])
      repeat' (first | with_reducible refine br_split (fun _ => ?_) (fun _ => ?_) | simp only [*, push_cast, Array.reduceGetElem?, Nat.reduceBEq, Nat.reduceLT, Nat.reduceAdd, Nat.reduceSub, Nat.reduceLeDiff, Nat.reduceMul, Nat.reduceEqDiff, reduceCtorEq, Int.reduceAdd, Int.reduceLT, Int.reduceLE, Int.reduceToNat, Int.reduceNeg, Int.reduceSub, Int.reduceBEq, Int.reduceBNe, Int.reduceNe, Int.reduceGT, Int.reduceGE, Nat.reduceGT] | (rw [drawC_ok]; rotate_left; decide +kernel; exact cfg_mixed))
      exact HQ.out _ ⟨w, rows, rows[x].row, H.out.1, H.out.2, rfl⟩
    | false =>
      obtain ⟨_, e3, R, i3, h3, hR1, hR2, hi3, rfl⟩ := ev_l02Rows l hl i2 hi2 h2 w (by omega) 1 1 rfl (by omega)
      obtain ⟨r0, rfl⟩ := List.length_eq_one_iff.1 hR1
      have hr0 := hR2 r0 (List.mem_singleton.2 rfl)
      have H := Hd.mk (And.intro hA (show r0.length ≤ 13 by have := hr0.1; omega))
      simp only [List.map_cons, List.map_nil, roC] at e3
      clear hl hi1 hi2 hi3 hA hw13 hz hR1 hR2 hr0
      (refine Eq.mpr (congrArg Q (evF_code (C := cfg) (g := 26) (fn := Try.f26) rfl Try.func26 rfl (by rw [Try.ntmps26]; simp) (by kernel_rfl) (by first | decide | simp [keysOf]))) ?_; rw [Try.results26, Try.ntmps26])
      repeat' (first | with_reducible refine br_split (fun _ => ?_) (fun _ => ?_) | simp only [*, push_cast, Array.reduceGetElem?, Nat.reduceBEq, Nat.reduceLT, Nat.reduceAdd, Nat.reduceSub, Nat.reduceLeDiff, Nat.reduceMul, Nat.reduceEqDiff, reduceCtorEq, Int.reduceAdd, Int.reduceLT, Int.reduceLE, Int.reduceToNat, Int.reduceNeg, Int.reduceSub, Int.reduceBEq, Int.reduceBNe, Int.reduceNe, Int.reduceGT, Int.reduceGE, Nat.reduceGT] | (rw [drawC_ok]; rotate_left; decide +kernel; exact cfg_mixed))
      exact HQ.out _ ⟨w, rows, r0, H.out.1, H.out.2, rfl⟩
theorem ev_DrawBagOf (l : List Int) (hl : l.length ≤ 1048576) : ∃ r, evF cfg 27 [] [.d (.sl .any (l.map cuC))] = some r ∧
    ∃ (w : Int) (rows : List (List V)), rows.length ≤ 7 ∧ (∀ r ∈ rows, r.length ≤ 13) ∧ r = (.tup [.d (.i .i64 w), .d (.sl .any (rows.map roC))], []) := by
  refine exQ fun Q hQ => ?_
  have HQ := Hd.mk hQ; clear hQ
  obtain ⟨_, e0, h, rfl⟩ := ev_l01New l hl
  obtain ⟨_, e1, w, i1, h1, hw, hi1, rfl⟩ := ev_l01Below l hl 0 (Nat.zero_le _) h 3 3 rfl (by omega) (by omega)
  rw [show ((0 : Nat) : Int) = 0 from rfl] at e1
  obtain ⟨_, e2, N, i2, h2, hN, hi2, rfl⟩ := ev_l01Below l hl i1 hi1 h1 7 7 rfl (by omega) (by omega)
  obtain ⟨_, e3, R, i3, h3, hR1, hR2, hi3, rfl⟩ := ev_l02Rows l hl i2 hi2 h2 w (by omega) N N rfl (by omega)
  obtain ⟨_, e4, b, i4, h4, hi4, rfl⟩ := ev_l01Once l hl i3 hi3 h3 12 12 rfl (by omega) (by omega)
  have hRl : ∀ r ∈ R, r.length ≤ 13 := fun r hr => by have := (hR2 r hr).1; omega
  cases b with
  | true =>
    obtain ⟨_, e5, ⟨vk, vn, vs⟩, i5, h5, hv, hi5, rfl⟩ := ev_l01Any l hl i4 hi4 h4
    obtain ⟨_, e6, b, i6, h6, hi6, rfl⟩ := ev_l01Once l hl i5 hi5 h5 30 30 rfl (by omega) (by omega)
    have h3' : R.map roC ++ [[.sl .any [[.i .i64 vk, .i .i64 vn, .s vs]]]] = (R ++ [[(⟨vk, vn, vs⟩ : V)]]).map roC := by rw [List.map_append]; rfl
    have hlen := len_ok (n := R.length + 1) 24 (by omega) (by omega)
    have hp1 : (R ++ [[(⟨vk, vn, vs⟩ : V)]]).length ≤ 7 := by simp only [List.length_append, List.length_singleton]; omega
    have hp2 : ∀ r ∈ R ++ [[(⟨vk, vn, vs⟩ : V)]], r.length ≤ 13 := fun r hr => by
      rcases List.mem_append.1 hr with hr | hr
      · exact hRl r hr
      · rw [List.mem_singleton.1 hr]; simp
    have H := Hd.mk (And.intro hp1 hp2)
    cases b with
    | true =>
      obtain ⟨_, e7, y, i7, h7, hy, hi7, rfl⟩ := ev_l01PickInt l hl i6 hi6 h6 [-1, 13] (by simp) (by simp)
      simp only [List.map_cons, List.map_nil, inC] at e7
      clear hl hi1 hi2 hi3 hi4 hi5 hi6 hi7 hw hN hR1 hR2 hRl hv hp1 hp2 hy
      (refine Eq.mpr (congrArg Q (evF_code (C := cfg) (g := 27) (fn := Try.f27) rfl Try.func27 rfl (by rw [Try.ntmps27]; simp) (by kernel_rfl) (by first | decide | simp [keysOf]))) ?_; rw [Try.results27, Try.ntmps27])
      repeat' (first | with_reducible refine br_split (fun _ => ?_) (fun _ => ?_) | simp only [*, push_cast, Array.reduceGetElem?, Nat.reduceBEq, Nat.reduceLT, Nat.reduceAdd, Nat.reduceSub, Nat.reduceLeDiff, Nat.reduceMul, Nat.reduceEqDiff, reduceCtorEq, Int.reduceAdd, Int.reduceLT, Int.reduceLE, Int.reduceToNat, Int.reduceNeg, Int.reduceSub, Int.reduceBEq, Int.reduceBNe, Int.reduceNe, Int.reduceGT, Int.reduceGE, Nat.reduceGT] | (rw [drawC_ok]; rotate_left; decide +kernel; exact cfg_mixed))
      exact HQ.out _ ⟨y, R ++ [[(⟨vk, vn, vs⟩ : V)]], H.out.1, H.out.2, rfl⟩
    | false =>
      clear hl hi1 hi2 hi3 hi4 hi5 hi6 hw hN hR1 hR2 hRl hv hp1 hp2
      (refine Eq.mpr (congrArg Q (evF_code (C := cfg) (g := 27) (fn := Try.f27) rfl Try.func27 rfl (by rw [Try.ntmps27]; simp) (by kernel_rfl) (by first | decide | simp [keysOf]))) ?_; rw [Try.results27, Try.ntmps27])
      repeat' (first | with_reducible refine br_split (fun _ => ?_) (fun _ => ?_) | simp only [*, push_cast, Array.reduceGetElem?, Nat.reduceBEq, Nat.reduceLT, Nat.reduceAdd, Nat.reduceSub, Nat.reduceLeDiff, Nat.reduceMul, Nat.reduceEqDiff, reduceCtorEq, Int.reduceAdd, Int.reduceLT, Int.reduceLE, Int.reduceToNat, Int.reduceNeg, Int.reduceSub, Int.reduceBEq, Int.reduceBNe, Int.reduceNe, Int.reduceGT, Int.reduceGE, Nat.reduceGT] | (rw [drawC_ok]; rotate_left; decide +kernel; exact cfg_mixed))
      exact HQ.out _ ⟨w, R ++ [[(⟨vk, vn, vs⟩ : V)]], H.out.1, H.out.2, rfl⟩
  | false =>
    obtain ⟨_, e6, b, i6, h6, hi6, rfl⟩ := ev_l01Once l hl i4 hi4 h4 30 30 rfl (by omega) (by omega)
    have H := Hd.mk (And.intro (show R.length ≤ 7 by omega) hRl)
    cases b with
    | true =>
      obtain ⟨_, e7, y, i7, h7, hy, hi7, rfl⟩ := ev_l01PickInt l hl i6 hi6 h6 [-1, 13] (by simp) (by simp)
      simp only [List.map_cons, List.map_nil, inC] at e7
      clear hl hi1 hi2 hi3 hi4 hi6 hi7 hw hN hR1 hR2 hRl hy
      (refine Eq.mpr (congrArg Q (evF_code (C := cfg) (g := 27) (fn := Try.f27) rfl Try.func27 rfl (by rw [Try.ntmps27]; simp) (by kernel_rfl) (by first | decide | simp [keysOf]))) ?_; rw [Try.results27, Try.ntmps27])
      repeat' (first | with_reducible refine br_split (fun _ => ?_) (fun _ => ?_) | simp only [*, push_cast, Array.reduceGetElem?, Nat.reduceBEq, Nat.reduceLT, Nat.reduceAdd, Nat.reduceSub, Nat.reduceLeDiff, Nat.reduceMul, Nat.reduceEqDiff, reduceCtorEq, Int.reduceAdd, Int.reduceLT, Int.reduceLE, Int.reduceToNat, Int.reduceNeg, Int.reduceSub, Int.reduceBEq, Int.reduceBNe, Int.reduceNe, Int.reduceGT, Int.reduceGE, Nat.reduceGT] | (rw [drawC_ok]; rotate_left; decide +kernel; exact cfg_mixed))
      exact HQ.out _ ⟨y, R, H.out.1, H.out.2, rfl⟩
    | false =>
      clear hl hi1 hi2 hi3 hi4 hi6 hw hN hR1 hR2 hRl
      (refine Eq.mpr (congrArg Q (evF_code (C := cfg) (g := 27) (fn := Try.f27) rfl Try.func27 rfl (by rw [Try.ntmps27]; simp) (by kernel_rfl) (by first | decide | simp [keysOf]))) ?_; rw [Try.results27, Try.ntmps27])
      repeat' (first | with_reducible refine br_split (fun _ => ?_) (fun _ => ?_) | simp only [*, push_cast, Array.reduceGetElem?, Nat.reduceBEq, Nat.reduceLT, Nat.reduceAdd, Nat.reduceSub, Nat.reduceLeDiff, Nat.reduceMul, Nat.reduceEqDiff, reduceCtorEq, Int.reduceAdd, Int.reduceLT, Int.reduceLE, Int.reduceToNat, Int.reduceNeg, Int.reduceSub, Int.reduceBEq, Int.reduceBNe, Int.reduceNe, Int.reduceGT, Int.reduceGE, Nat.reduceGT] | (rw [drawC_ok]; rotate_left; decide +kernel; exact cfg_mixed))
      exact HQ.out _ ⟨w, R, H.out.1, H.out.2, rfl⟩
theorem ev_DrawTimesBag (l : List Int) (hl : l.length ≤ 1048576) : ∃ r, evF cfg 29 [] [.d (.sl .any (l.map cuC))] = some r ∧
    ∃ (w : Int) (rows : List C) (n : Int), AnyP w rows ∧ r = (.tup [.agg [.d (.i .i64 w), .d (.sl .any (rows.map cC))], .d (.i .i64 n)], []) := by
  refine exQ fun Q hQ => ?_
  have HQ := Hd.mk hQ; clear hQ
  obtain ⟨_, e0, h, rfl⟩ := ev_l01New l hl
  obtain ⟨_, e1, w, rows, i1, h1, hA, hi1, rfl⟩ := ev_l02Any l hl 0 (Nat.zero_le _) h
  rw [show ((0 : Nat) : Int) = 0 from rfl] at e1
  obtain ⟨_, e2, y, i2, h2, hy, hi2, rfl⟩ := ev_l01PickInt l hl i1 hi1 h1 [1, -1, 2, 0, 1000000000, 1000000001, -9223372036854775808] (by simp) (by simp)
  simp only [List.map_cons, List.map_nil, inC] at e2
  have H := Hd.mk hA
  clear hl hi1 hi2 hA hy
  (refine Eq.mpr (congrArg Q (evF_code (C := cfg) (g := 29) (fn := Try.f29) rfl Try.func29 rfl (by rw [Try.ntmps29]; simp) (by kernel_rfl) (by first | decide | simp [keysOf]))) ?_; rw [Try.results29, Try.ntmps29])
  repeat' (first | with_reducible refine br_split (fun _ => ?_) (fun _ => ?_) | simp only [*, push_cast, Array.reduceGetElem?, Nat.reduceBEq, Nat.reduceLT, Nat.reduceAdd, Nat.reduceSub, Nat.reduceLeDiff, Nat.reduceMul, Nat.reduceEqDiff, reduceCtorEq, Int.reduceAdd, Int.reduceLT, Int.reduceLE, Int.reduceToNat, Int.reduceNeg, Int.reduceSub, Int.reduceBEq, Int.reduceBNe, Int.reduceNe, Int.reduceGT, Int.reduceGE, Nat.reduceGT] | (rw [drawC_ok]; rotate_left; decide +kernel; exact cfg_mixed))
  exact HQ.out _ ⟨w, rows, y, H.out, rfl⟩
theorem ev_DrawCompareRow (l : List Int) (hl : l.length ≤ 1048576) : ∃ r, evF cfg 30 [] [.d (.sl .any (l.map cuC))] = some r ∧
    ∃ (p q : List V), p.length ≤ 13 ∧ q.length ≤ 13 ∧ r = (.tup [.d (.sl .any (p.map vC)), .d (.sl .any (q.map vC))], []) := by
  refine exQ fun Q hQ => ?_
  have HQ := Hd.mk hQ; clear hQ
  obtain ⟨_, e0, h, rfl⟩ := ev_l01New l hl
  obtain ⟨_, e1, w, i1, h1, hw, hi1, rfl⟩ := ev_l01Below l hl 0 (Nat.zero_le _) h 3 3 rfl (by omega) (by omega)
  rw [show ((0 : Nat) : Int) = 0 from rfl] at e1
  obtain ⟨_, e2, R, i2, h2, hR1, hR2, hi2, rfl⟩ := ev_l02Rows l hl i1 hi1 h1 w (by omega) 1 1 rfl (by omega)
  obtain ⟨p, rfl⟩ := List.length_eq_one_iff.1 hR1
  have hp := (hR2 p (List.mem_singleton.2 rfl)).1
  simp only [List.map_cons, List.map_nil, roC] at e2
  obtain ⟨_, e3, b, i3, h3, hi3, rfl⟩ := ev_l01Once l hl i2 hi2 h2 4 4 rfl (by omega) (by omega)
  have hp13 : p.length ≤ 13 := by omega
  cases b with
  | true =>
    have e4 := ev_l02CopyRow p (by omega)
    have H := Hd.mk hp13
    clear hl hi1 hi2 hi3 hw hR1 hR2 hp hp13
    (refine Eq.mpr (congrArg Q (evF_code (C := cfg) (g := 30) (fn := Try.f30) rfl Try.func30 rfl (by rw [Try.ntmps30]; simp) (by kernel_rfl) (by first | decide | simp [keysOf]))) ?_; rw [Try.results30, Try.ntmps30])
    repeat' (first | with_reducible refine br_split (fun _ => ?_) (fun _ => ?_) | simp only [*, push_cast, Array.reduceGetElem?, Nat.reduceBEq, Nat.reduceLT, Nat.reduceAdd, Nat.reduceSub, Nat.reduceLeDiff, Nat.reduceMul, Nat.reduceEqDiff, reduceCtorEq, Int.reduceAdd, Int.reduceLT, Int.reduceLE, Int.reduceToNat, Int.reduceNeg, Int.reduceSub, Int.reduceBEq, Int.reduceBNe, Int.reduceNe, Int.reduceGT, Int.reduceGE, Nat.reduceGT] | (rw [drawC_ok]; rotate_left; decide +kernel; exact cfg_mixed))
    exact HQ.out _ ⟨p, p, H.out, H.out, rfl⟩
  | false =>
    obtain ⟨_, e4, w2, i4, h4, hw2, hi4, rfl⟩ := ev_l01Below l hl i3 hi3 h3 3 3 rfl (by omega) (by omega)
    obtain ⟨_, e5, R, i5, h5, hQ1, hQ2, hi5, rfl⟩ := ev_l02Rows l hl i4 hi4 h4 w2 (by omega) 1 1 rfl (by omega)
    obtain ⟨q, rfl⟩ := List.length_eq_one_iff.1 hQ1
    have hq := (hQ2 q (List.mem_singleton.2 rfl)).1
    simp only [List.map_cons, List.map_nil, roC] at e5
    have H := Hd.mk (And.intro hp13 (show q.length ≤ 13 by omega))
    clear hl hi1 hi2 hi3 hi4 hi5 hw hw2 hR1 hR2 hQ1 hQ2 hp hp13 hq
    (refine Eq.mpr (congrArg Q (evF_code (C := cfg) (g := 30) (fn := Try.f30) rfl Try.func30 rfl (by rw [Try.ntmps30]; simp) (by kernel_rfl) (by first | decide | simp [keysOf]))) ?_; rw [Try.results30, Try.ntmps30])
    repeat' (first | with_reducible refine br_split (fun _ => ?_) (fun _ => ?_) | simp only [*, push_cast, Array.reduceGetElem?, Nat.reduceBEq, Nat.reduceLT, Nat.reduceAdd, Nat.reduceSub, Nat.reduceLeDiff, Nat.reduceMul, Nat.reduceEqDiff, reduceCtorEq, Int.reduceAdd, Int.reduceLT, Int.reduceLE, Int.reduceToNat, Int.reduceNeg, Int.reduceSub, Int.reduceBEq, Int.reduceBNe, Int.reduceNe, Int.reduceGT, Int.reduceGE, Nat.reduceGT] | (rw [drawC_ok]; rotate_left; decide +kernel; exact cfg_mixed))
    exact HQ.out _ ⟨p, q, H.out.1, H.out.2, rfl⟩
end Go.Av
end
