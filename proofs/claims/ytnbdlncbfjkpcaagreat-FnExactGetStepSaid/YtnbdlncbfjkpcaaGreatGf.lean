/- What functions of this seat give. -/
import Derived.Test.YtnbdlncbfjkpcaaGreatGe
set_option linter.all false
set_option linter.unusedVariables false
set_option linter.unusedSimpArgs false

section
namespace Go.Av
open Go.Proofs
set_option linter.unusedSimpArgs false
attribute [push_cast] tyV106
@[push_cast] theorem tyC5 : Tryz.prog.cellsOf 5 = 1 := by kernel_rfl
@[push_cast] theorem dec20 : decide ((2 : Nat) ≠ 0) = true := rfl
@[push_cast] theorem tt_eq : (true == true) = true := rfl
@[push_cast] theorem ft_eq : (false == true) = false := rfl
@[push_cast] theorem noesc_eq (k o : Nat) : noescE [.ptr k o] = some (.ptr k o) := rfl
/-- A builder that was never written. -/
@[push_cast] theorem ev_copyCheck0 : evF cfg 110 [(0, .box [.d (.raw (.pointer none)), .nl] (some 106))] [.ptr 0 0] = some (.tup [], [(0, .box [.ptr 0 0, .nl] (some 106))]) := by
  (refine (evF_code (C := cfg) (g := 110) (fn := Tryz.f110) rfl Tryz.func110 rfl (by rw [Tryz.ntmps110]; simp) (by kernel_rfl) (by first | decide | simp [keysOf])).trans ?_; rw [Tryz.results110, Tryz.ntmps110])
  repeat' (first | with_reducible refine br_split (fun _ => ?_) (fun _ => ?_) | simp only [*, push_cast, Array.reduceGetElem?, Nat.reduceBEq, Nat.reduceLT, Nat.reduceAdd, Nat.reduceSub, Nat.reduceLeDiff, Nat.reduceMul, Nat.reduceEqDiff, reduceCtorEq, Int.reduceAdd, Int.reduceLT, Int.reduceLE, Int.reduceToNat, Int.reduceNeg, Int.reduceSub, Int.reduceBEq, Int.reduceBNe, Int.reduceNe, Int.reduceGT, Int.reduceGE, Nat.reduceGT] | (rw [drawC_ok]; rotate_left; decide +kernel; exact cfg_mixed))
@[push_cast] theorem ev_copyCheck1 (es : List (List T)) : evF cfg 110 [(0, .box [.ptr 0 0, .own 1] (some 106)), (1, .arr (.u8 5) 1 es)] [.ptr 0 0] = some (.tup [], [(0, .box [.ptr 0 0, .own 1] (some 106)), (1, .arr (.u8 5) 1 es)]) := by
  (refine (evF_code (C := cfg) (g := 110) (fn := Tryz.f110) rfl Tryz.func110 rfl (by rw [Tryz.ntmps110]; simp) (by kernel_rfl) (by first | decide | simp [keysOf])).trans ?_; rw [Tryz.results110, Tryz.ntmps110])
  repeat' (first | with_reducible refine br_split (fun _ => ?_) (fun _ => ?_) | simp only [*, push_cast, Array.reduceGetElem?, Nat.reduceBEq, Nat.reduceLT, Nat.reduceAdd, Nat.reduceSub, Nat.reduceLeDiff, Nat.reduceMul, Nat.reduceEqDiff, reduceCtorEq, Int.reduceAdd, Int.reduceLT, Int.reduceLE, Int.reduceToNat, Int.reduceNeg, Int.reduceSub, Int.reduceBEq, Int.reduceBNe, Int.reduceNe, Int.reduceGT, Int.reduceGE, Nat.reduceGT] | (rw [drawC_ok]; rotate_left; decide +kernel; exact cfg_mixed))
end Go.Av
end

section
namespace Go.Av
open Go.Proofs
set_option linter.unusedSimpArgs false
end Go.Av
end

section
namespace Go.Av
open Go.Proofs
set_option linter.unusedSimpArgs false
@[push_cast] theorem byC_get0 (b : UInt8) : (byC b)[0]? = some (.i .u8 b.toNat) := rfl
/-- A text behind so many bytes of its length. -/
def txB (s : ByteArray) (m : Nat) : List UInt8 := beB s.size m ++ bl s
theorem txB_len (s : ByteArray) (m : Nat) : (txB s m).length = m + s.size := by rw [txB, List.length_append, beB_len, bl_size]
theorem ev_l10Text2 (s : ByteArray) (hs : s.size ≤ 1099511627000) : evF cfg 52 [] [.d (.s s), .d (.i .i64 2)] = some (.d (.s (bs (txB s 2))), []) := ev_l10Text s 2 (by omega) hs
theorem ev_l10Text4 (s : ByteArray) (hs : s.size ≤ 1099511627000) : evF cfg 52 [] [.d (.s s), .d (.i .i64 4)] = some (.d (.s (bs (txB s 4))), []) := ev_l10Text s 4 (by omega) hs
theorem ev_l10Size1 (x : Nat) (hx : x ≤ 9223372036854775807) : evF cfg 51 [] [.d (.i .i64 x), .d (.i .i64 1)] = some (.d (.s (bs (beB x 1))), []) := ev_l10Size x 1 (by omega) hx
def col2 (s : ByteArray) : List UInt8 := txB s 2
def relB (r : R) : List UInt8 := txB r.name 2 ++ txB (bs (pbL r.bag)) 4
def psH (x : Sp) : List UInt8 := beB (u64 x.kind) 1 ++ (txB x.name 2 ++ beB x.cols.length 1)
def psC (x : Sp) (i : Nat) : List UInt8 := psH x ++ (x.cols.take i).flatMap col2
def psQ (x : Sp) : List UInt8 := psC x x.cols.length ++ (txB x.query 2 ++ beB x.change.length 1)
def psR (x : Sp) (i : Nat) : List UInt8 := psQ x ++ (x.change.take i).flatMap relB
/-- The bytes of a step. -/
def psL (x : Sp) : List UInt8 := if stepOk x = true then psR x x.change.length else []
theorem psC_zero (x : Sp) : psH x = psC x 0 := by simp [psC]
theorem psC_succ (x : Sp) {i : Nat} (h : i < x.cols.length) : psC x i ++ txB x.cols[i] 2 = psC x (i + 1) := by
  simp only [psC]
  rw [List.take_succ_eq_append_getElem h, List.flatMap_append]
  simp [col2]
theorem psR_zero (x : Sp) : psQ x = psR x 0 := by simp [psR]
theorem psR_succ (x : Sp) {i : Nat} (h : i < x.change.length) : psR x i ++ (txB x.change[i].name 2 ++ txB (bs (pbL x.change[i].bag)) 4) = psR x (i + 1) := by
  simp only [psR]
  rw [List.take_succ_eq_append_getElem h, List.flatMap_append]
  simp [relB]
theorem cols_len : ∀ l : List ByteArray, (l.flatMap col2).length ≤ 3 * szSs l
  | [] => by simp [szSs]
  | a :: l => by
    have h1 := cols_len l
    rw [List.flatMap_cons, List.length_append, col2, txB_len]
    simp only [szSs, List.length_cons, List.map_cons, List.sum_cons] at h1 ⊢
    omega
theorem rels_len : ∀ l : List R, (∀ r ∈ l, r.name.size ≤ 1048576 ∧ (pbL r.bag).length ≤ 50000000000) → (l.flatMap relB).length ≤ l.length * 50001048582
  | [], _ => by simp
  | a :: l, h => by
    have h1 := rels_len l fun r hr => h r (List.mem_cons_of_mem _ hr)
    obtain ⟨h2, h3⟩ := h a (List.mem_cons_self ..)
    rw [List.flatMap_cons, List.length_append, relB, List.length_append, txB_len, txB_len, bs_size, List.length_cons, Nat.succ_mul]
    omega
structure SpB (x : Sp) : Prop where
  name : x.name.size ≤ 1048576
  cols : szSs x.cols ≤ 1048576
  col : ∀ c ∈ x.cols, c.size ≤ 1048576
  query : x.query.size ≤ 1048576
  nrel : x.change.length ≤ 20
  rel : ∀ r ∈ x.change, r.name.size ≤ 1048576 ∧ r.bag.rows.length ≤ 1048576 ∧ ∀ c ∈ r.bag.rows, c.row.length ≤ 1048576
  kind : ∃ k : Nat, x.kind = k ∧ k ≤ 3
theorem spB {x : Sp} (h : szSp x ≤ 1048576) (ho : stepOk x = true) : SpB x := by
  simp only [szSp] at h
  obtain ⟨c1, c2⟩ := szSs_mem (l := x.cols) (n := 1048576) (by omega)
  obtain ⟨d1, d2⟩ := szRs_mem (l := x.change) (n := 1048576) (by omega)
  refine ⟨by omega, by omega, c2, by omega, ?_, ?_, ?_⟩
  · simp only [stepOk, Bool.and_eq_true, Bool.not_eq_true', stepBad, stepRest, Bool.or_eq_false_iff] at ho
    obtain ⟨⟨_, h3⟩, h4⟩ := ho
    by_cases k3 : x.kind = 3
    · simp [k3] at h4
      omega
    · simp [k3] at h3
      rw [h3]; simp
  · intro r hr
    have := d2 r hr
    simp only [szR, Go.Av.szB] at this
    obtain ⟨e1, e2⟩ := szCs_mem (l := r.bag.rows) (n := 1048576) (by omega)
    refine ⟨by omega, e1, fun c hc => ?_⟩
    have := e2 c hc
    simp only [szC] at this
    exact (szVs_mem (l := c.row) (n := 1048576) (by omega)).1
  · simp only [stepOk, Bool.and_eq_true, stepRest] at ho
    obtain ⟨_, h4⟩ := ho
    by_cases k0 : x.kind = 0
    · exact ⟨0, k0, by omega⟩
    by_cases k1 : x.kind = 1
    · exact ⟨1, k1, by omega⟩
    by_cases k2 : x.kind = 2
    · exact ⟨2, k2, by omega⟩
    by_cases k3 : x.kind = 3
    · exact ⟨3, k3, by omega⟩
    · simp [k0, k1, k2, k3] at h4
theorem psH_len {x : Sp} (b : SpB x) : (psH x).length ≤ 1048580 := by
  have := b.name
  rw [psH, List.length_append, List.length_append, beB_len, beB_len, txB_len]
  omega
theorem psC_len {x : Sp} (b : SpB x) (i : Nat) : (psC x i).length ≤ 4200000 := by
  have h1 := psH_len b
  have h2 := cols_len (x.cols.take i)
  have h3 : szSs (x.cols.take i) ≤ szSs x.cols := by
    conv => rhs; rw [← List.take_append_drop i x.cols]
    simp only [szSs, List.length_append, List.map_append, List.sum_append]
    omega
  have := b.cols
  rw [psC, List.length_append]
  omega
theorem psQ_len {x : Sp} (b : SpB x) : (psQ x).length ≤ 5300000 := by
  have h1 := psC_len b x.cols.length
  have := b.query
  rw [psQ, List.length_append, List.length_append, beB_len, txB_len]
  omega
theorem psR_len {x : Sp} (b : SpB x) (i : Nat) : (psR x i).length ≤ 1000100000000 := by
  have h1 := psQ_len b
  have h2 := rels_len (x.change.take i) fun r hr => by
    have := b.rel r (List.mem_of_mem_take hr)
    exact ⟨this.1, pbL_len this.2.2⟩
  have h3 : (x.change.take i).length ≤ 20 := by have := b.nrel; rw [List.length_take]; omega
  have h4 : (x.change.take i).length * 50001048582 ≤ 20 * 50001048582 := Nat.mul_le_mul_right _ h3
  rw [psR, List.length_append]
  omega
theorem dec40 {n : Nat} (h : n ≤ 1099511627776) : decide (n ≤ 1099511627776) = true := decide_eq_true h
theorem dec39 {n : Nat} (h : n ≤ 1099511627775) : decide (n ≤ 1099511627775) = true := decide_eq_true h
theorem psL_bad {x : Sp} (h : stepOk x = false) : psL x = [] := by simp [psL, h]
theorem psL_ok {x : Sp} (h : stepOk x = true) : psL x = psR x x.change.length := by simp [psL, h]
/-- What a step's bytes are behind each part. -/
structure SB (kind : Int) (name : ByteArray) (cols : List ByteArray) (query : ByteArray) (change : List R) (pC pR : Nat → List UInt8) : Prop where
  hH : beB (u64 kind) 1 ++ (txB name 2 ++ beB cols.length 1) = pC 0
  hQ : pC cols.length ++ (txB query 2 ++ beB change.length 1) = pR 0
  sC : ∀ (i : Nat) (hi : i < cols.length), pC i ++ txB cols[i] 2 = pC (i + 1)
  sR : ∀ (i : Nat) (hi : i < change.length), pR i ++ (txB change[i].name 2 ++ txB (bs (pbL change[i].bag)) 4) = pR (i + 1)
  lC : ∀ i, (pC i).length ≤ 4200000
  lR : ∀ i, (pR i).length ≤ 1000100000000
  name : name.size ≤ 1048576
  ncol : cols.length ≤ 1048576
  col : ∀ c ∈ cols, c.size ≤ 1048576
  query : query.size ≤ 1048576
  nrel : change.length ≤ 20
  rel : ∀ r ∈ change, r.name.size ≤ 1048576 ∧ r.bag.rows.length ≤ 1048576 ∧ (pbL r.bag).length ≤ 50000000000 ∧ ∀ c ∈ r.bag.rows, c.row.length ≤ 1048576
  kind : ∃ k : Nat, kind = k ∧ k ≤ 3
theorem sb_of {x : Sp} (h : szSp x ≤ 1048576) (hv : stepOk x = true) : SB x.kind x.name x.cols x.query x.change (psC x) (psR x) :=
  have b := spB h hv
  ⟨psC_zero x, psR_zero x, fun _ hi => psC_succ x hi, fun _ hi => psR_succ x hi, psC_len b, psR_len b, b.name, (szSs_mem b.cols).1, b.col, b.query, b.nrel, fun r hr => ⟨(b.rel r hr).1, (b.rel r hr).2.1, pbL_len (b.rel r hr).2.2, (b.rel r hr).2.2⟩, b.kind⟩
set_option maxHeartbeats 2000000 in
theorem ev_sPutStep1 {kind : Int} {name : ByteArray} {cols : List ByteArray} {query : ByteArray} {change : List R} {pC pR : Nat → List UInt8} (b : SB kind name cols query change pC pR)
    (hso : evF cfg 28 [] [.agg [.d (.i .i64 kind), .d (.s name), .d (.sl .any (cols.map sC)), .d (.s query), .d (.sl .any (change.map rC))]] = some (.d (.b true), [])) :
    evF cfg 23 [] [.agg [.d (.i .i64 kind), .d (.s name), .d (.sl .any (cols.map sC)), .d (.s query), .d (.sl .any (change.map rC))]] = some (.d (.s (bs (pR change.length))), []) := by
  obtain ⟨hH, hQ, hsC, hsR, lC, lR, bn, bcl, bc, bq, bnl, br, k, rfl, hk⟩ := b
  have z1 := ev_l10Text2 name (by omega)
  have z2 := ev_l10Text2 query (by omega)
  have s1 := ev_l10Size1 k (by omega)
  have s2 := ev_l10Size1 cols.length (by omega)
  have s3 := ev_l10Size1 change.length (by omega)
  have n0 := u64_nn (n := k) (by omega)
  rw [n0] at hH
  have t1 := txB_len name 2
  have t2 := txB_len query 2
  have d1 := dec40 (n := 1 + (2 + name.size)) (by omega)
  have d2 := dec39 (n := 1 + (2 + name.size)) (by omega)
  have d3 := dec40 (n := (pC cols.length).length + (2 + query.size)) (by have := lC cols.length; omega)
  have d4 := dec39 (n := (pC cols.length).length + (2 + query.size)) (by have := lC cols.length; omega)
  clear n0 hk
  (refine (evF_code (C := cfg) (g := 23) (fn := Tryz.f23) rfl Tryz.func23 rfl (by rw [Tryz.ntmps23]; simp) (by kernel_rfl) (by first | decide | simp [keysOf])).trans ?_; rw [Tryz.results23, Tryz.ntmps23])
  repeat' (first | with_reducible refine br_split (fun _ => ?_) (fun _ => ?_) | simp only [*, push_cast, Array.reduceGetElem?, Nat.reduceBEq, Nat.reduceLT, Nat.reduceAdd, Nat.reduceSub, Nat.reduceLeDiff, Nat.reduceMul, Nat.reduceEqDiff, reduceCtorEq, Int.reduceAdd, Int.reduceLT, Int.reduceLE, Int.reduceToNat, Int.reduceNeg, Int.reduceSub, Int.reduceBEq, Int.reduceBNe, Int.reduceNe, Int.reduceGT, Int.reduceGE, Nat.reduceGT] | (rw [drawC_ok]; rotate_left; decide +kernel; exact cfg_mixed))
  rw [evM_for0 cols.length (fun i j => { t := [(1, .ptr 50 0), (3, .d (.s (bs (pC i)))), (4, .d (.i .i64 j))], o := [(50, .box [.d (.i .i64 k), .d (.s name), .d (.sl .any (cols.map sC)), .d (.s query), .d (.sl .any (change.map rC))])], ks := [50], n := 0, sz := 72, u := noU })
    (fun i => some (.exit 0, { t := [(1, .ptr 50 0), (3, .d (.s (bs (pC cols.length))))], o := [(50, .box [.d (.i .i64 k), .d (.s name), .d (.sl .any (cols.map sC)), .d (.s query), .d (.sl .any (change.map rC))])], ks := [50], n := 0, sz := 72, u := noU })) ?step ?last]
  case step =>
    intro i hi ih
    have hd := dec_lt hi
    have hw := wrap_succ (i := i) (by omega)
    have hg : (cols.map sC)[i]? = some [.s cols[i]] := get_map sC cols i hi
    have hs1 := bc _ (List.getElem_mem hi)
    have hz := ev_l10Text2 cols[i] (by omega)
    have hs := hsC i hi
    have ht := txB_len cols[i] 2
    have hd4 := dec40 (n := (pC i).length + (2 + cols[i].size)) (by have := lC i; omega)
    clear hs1 hH hQ hsC hsR
    repeat' (first | with_reducible refine br_split (fun _ => ?_) (fun _ => ?_) | simp only [*, push_cast, Array.reduceGetElem?, Nat.reduceBEq, Nat.reduceLT, Nat.reduceAdd, Nat.reduceSub, Nat.reduceLeDiff, Nat.reduceMul, Nat.reduceEqDiff, reduceCtorEq, Int.reduceAdd, Int.reduceLT, Int.reduceLE, Int.reduceToNat, Int.reduceNeg, Int.reduceSub, Int.reduceBEq, Int.reduceBNe, Int.reduceNe, Int.reduceGT, Int.reduceGE, Nat.reduceGT] | (rw [drawC_ok]; rotate_left; decide +kernel; exact cfg_mixed))
  case last =>
    repeat' (first | with_reducible refine br_split (fun _ => ?_) (fun _ => ?_) | simp only [*, push_cast, Array.reduceGetElem?, Nat.reduceBEq, Nat.reduceLT, Nat.reduceAdd, Nat.reduceSub, Nat.reduceLeDiff, Nat.reduceMul, Nat.reduceEqDiff, reduceCtorEq, Int.reduceAdd, Int.reduceLT, Int.reduceLE, Int.reduceToNat, Int.reduceNeg, Int.reduceSub, Int.reduceBEq, Int.reduceBNe, Int.reduceNe, Int.reduceGT, Int.reduceGE, Nat.reduceGT] | (rw [drawC_ok]; rotate_left; decide +kernel; exact cfg_mixed))
  · repeat' (first | with_reducible refine br_split (fun _ => ?_) (fun _ => ?_) | simp only [*, push_cast, Array.reduceGetElem?, Nat.reduceBEq, Nat.reduceLT, Nat.reduceAdd, Nat.reduceSub, Nat.reduceLeDiff, Nat.reduceMul, Nat.reduceEqDiff, reduceCtorEq, Int.reduceAdd, Int.reduceLT, Int.reduceLE, Int.reduceToNat, Int.reduceNeg, Int.reduceSub, Int.reduceBEq, Int.reduceBNe, Int.reduceNe, Int.reduceGT, Int.reduceGE, Nat.reduceGT] | (rw [drawC_ok]; rotate_left; decide +kernel; exact cfg_mixed))
    rw [evM_for0 change.length (fun i j => { t := [(1, .ptr 50 0), (3, .d (.s (bs (pR i)))), (5, .d (.i .i64 j))], o := [(50, .box [.d (.i .i64 k), .d (.s name), .d (.sl .any (cols.map sC)), .d (.s query), .d (.sl .any (change.map rC))])], ks := [50], n := 0, sz := 72, u := noU })
      (fun i => some (.exit 2, { t := [(3, .d (.s (bs (pR change.length))))], o := [], ks := [], n := 0, sz := 72, u := noU })) ?step2 ?last2]
    case step2 =>
      intro i hi ih
      have hd := dec_lt hi
      have hw := wrap_succ (i := i) (by omega)
      have hg : (change.map rC)[i]? = some [.s change[i].name, .i .i64 change[i].bag.w, .sl .any (change[i].bag.rows.map cC)] := get_map rC change i hi
      obtain ⟨r1, r2, r3, r4⟩ := br _ (List.getElem_mem hi)
      have hp := ev_sPutBag change[i].bag.w change[i].bag.rows r2 r4
      have hz := ev_l10Text2 change[i].name (by omega)
      have hz2 := ev_l10Text4 (bs (pbL change[i].bag)) (by rw [bs_size]; omega)
      have hs := hsR i hi
      have ht := txB_len change[i].name 2
      have ht2 := txB_len (bs (pbL change[i].bag)) 4
      rw [bs_size] at ht2
      have hd4 := dec40 (n := (pR i).length + (2 + change[i].name.size)) (by have := lR i; omega)
      have hd5 := dec40 (n := (pR i).length + (2 + change[i].name.size) + (4 + (pbL change[i].bag).length)) (by have := lR i; omega)
      have hbb : (⟨change[i].bag.w, change[i].bag.rows⟩ : B) = change[i].bag := rfl
      rw [hbb] at hp
      clear hH hQ hsC hsR r1 r2 r3 r4 hbb d1 d2 d3 d4
      repeat' (first | with_reducible refine br_split (fun _ => ?_) (fun _ => ?_) | simp only [*, push_cast, Array.reduceGetElem?, Nat.reduceBEq, Nat.reduceLT, Nat.reduceAdd, Nat.reduceSub, Nat.reduceLeDiff, Nat.reduceMul, Nat.reduceEqDiff, reduceCtorEq, Int.reduceAdd, Int.reduceLT, Int.reduceLE, Int.reduceToNat, Int.reduceNeg, Int.reduceSub, Int.reduceBEq, Int.reduceBNe, Int.reduceNe, Int.reduceGT, Int.reduceGE, Nat.reduceGT] | (rw [drawC_ok]; rotate_left; decide +kernel; exact cfg_mixed))
    case last2 =>
      repeat' (first | with_reducible refine br_split (fun _ => ?_) (fun _ => ?_) | simp only [*, push_cast, Array.reduceGetElem?, Nat.reduceBEq, Nat.reduceLT, Nat.reduceAdd, Nat.reduceSub, Nat.reduceLeDiff, Nat.reduceMul, Nat.reduceEqDiff, reduceCtorEq, Int.reduceAdd, Int.reduceLT, Int.reduceLE, Int.reduceToNat, Int.reduceNeg, Int.reduceSub, Int.reduceBEq, Int.reduceBNe, Int.reduceNe, Int.reduceGT, Int.reduceGE, Nat.reduceGT] | (rw [drawC_ok]; rotate_left; decide +kernel; exact cfg_mixed))
    · repeat' (first | with_reducible refine br_split (fun _ => ?_) (fun _ => ?_) | simp only [*, push_cast, Array.reduceGetElem?, Nat.reduceBEq, Nat.reduceLT, Nat.reduceAdd, Nat.reduceSub, Nat.reduceLeDiff, Nat.reduceMul, Nat.reduceEqDiff, reduceCtorEq, Int.reduceAdd, Int.reduceLT, Int.reduceLE, Int.reduceToNat, Int.reduceNeg, Int.reduceSub, Int.reduceBEq, Int.reduceBNe, Int.reduceNe, Int.reduceGT, Int.reduceGE, Nat.reduceGT] | (rw [drawC_ok]; rotate_left; decide +kernel; exact cfg_mixed))
end Go.Av
end

section
namespace Go.Av
open Go.Proofs
set_option linter.unusedSimpArgs false
theorem ev_sPutStep (kind : Int) (name : ByteArray) (cols : List ByteArray) (query : ByteArray) (change : List R) (h : szSp ⟨kind, name, cols, query, change⟩ ≤ 1048576) :
    evF cfg 23 [] [.agg [.d (.i .i64 kind), .d (.s name), .d (.sl .any (cols.map sC)), .d (.s query), .d (.sl .any (change.map rC))]] = some (.d (.s (bs (psL ⟨kind, name, cols, query, change⟩))), []) := by
  have hso := ev_sStepOk kind name cols query change h
  cases hv : stepOk ⟨kind, name, cols, query, change⟩ with
  | false =>
    rw [psL_bad hv, ← strEmpty]
    clear h
    (refine (evF_code (C := cfg) (g := 23) (fn := Tryz.f23) rfl Tryz.func23 rfl (by rw [Tryz.ntmps23]; simp) (by kernel_rfl) (by first | decide | simp [keysOf])).trans ?_; rw [Tryz.results23, Tryz.ntmps23])
    repeat' (first | with_reducible refine br_split (fun _ => ?_) (fun _ => ?_) | simp only [*, push_cast, Array.reduceGetElem?, Nat.reduceBEq, Nat.reduceLT, Nat.reduceAdd, Nat.reduceSub, Nat.reduceLeDiff, Nat.reduceMul, Nat.reduceEqDiff, reduceCtorEq, Int.reduceAdd, Int.reduceLT, Int.reduceLE, Int.reduceToNat, Int.reduceNeg, Int.reduceSub, Int.reduceBEq, Int.reduceBNe, Int.reduceNe, Int.reduceGT, Int.reduceGE, Nat.reduceGT] | (rw [drawC_ok]; rotate_left; decide +kernel; exact cfg_mixed))
  | true =>
    rw [psL_ok hv]
    rw [hv] at hso
    exact ev_sPutStep1 (sb_of h hv) hso
end Go.Av
end
