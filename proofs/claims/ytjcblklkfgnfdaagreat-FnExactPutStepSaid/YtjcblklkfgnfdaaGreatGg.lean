/- What functions of this seat give. -/
import Derived.Test.YtjcblklkfgnfdaaGreatGf
set_option linter.all false
set_option linter.unusedVariables false
set_option linter.unusedSimpArgs false

section
namespace Go.Av
open Go.Proofs
set_option linter.unusedSimpArgs false
@[push_cast] theorem byC_get0 (b : UInt8) : (byC b)[0]? = some (.i .u8 b.toNat) := rfl
/-- A sum of bytes. -/
def sumS (x : Int) (b : UInt8) : Int := IntKind.u32.wrap (bitsI .xor .u32 x (IntKind.u32.wrap (b.toNat : Nat)) * 16777619)
def sumT (l : List UInt8) (i : Nat) : Int := (l.take i).foldl sumS 2166136261
def sumI (l : List UInt8) : Int := l.foldl sumS 2166136261
theorem sumT_zero (l : List UInt8) : (2166136261 : Int) = sumT l 0 := rfl
theorem sumT_succ {l : List UInt8} {i : Nat} (h : i < l.length) : IntKind.u32.wrap (bitsI .xor .u32 (sumT l i) (IntKind.u32.wrap (l[i].toNat : Nat)) * 16777619) = sumT l (i + 1) := by
  unfold sumT
  rw [List.take_succ_eq_append_getElem h, List.foldl_append]
  rfl
theorem sumT_full (l : List UInt8) : sumT l l.length = sumI l := by simp [sumT, sumI]
theorem sumI_le (l : List UInt8) : 0 ≤ sumI l ∧ sumI l ≤ 4294967295 := by
  have hw : ∀ x : Int, 0 ≤ IntKind.u32.wrap x ∧ IntKind.u32.wrap x ≤ 4294967295 := fun x => by
    have a : ((2 : Int) ^ IntKind.u32.bits) = 4294967296 := by decide
    have c : IntKind.u32.signed = false := rfl
    simp only [IntKind.wrap, a, c, Bool.false_and]
    show 0 ≤ x % 4294967296 ∧ x % 4294967296 ≤ 4294967295
    omega
  have key : ∀ (l : List UInt8) (x : Int), 0 ≤ x ∧ x ≤ 4294967295 → 0 ≤ l.foldl sumS x ∧ l.foldl sumS x ≤ 4294967295 := by
    intro l
    induction l with
    | nil => exact fun x h => h
    | cons b l ih => exact fun x _ => ih _ (hw _)
  exact key l _ (by omega)
theorem ev_Sum (l : List UInt8) (hl : l.length ≤ 1099511627776) : evF cfg 29 [] [.d (.s (bs l))] = some (.d (.i .u32 (sumI l)), []) := by
  (refine (evF_code (C := cfg) (g := 29) (fn := Tryz.f29) rfl Tryz.func29 rfl (by rw [Tryz.ntmps29]; simp) (by kernel_rfl) (by first | decide | simp [keysOf])).trans ?_; rw [Tryz.results29, Tryz.ntmps29])
  repeat' (first | with_reducible refine br_split (fun _ => ?_) (fun _ => ?_) | simp only [*, push_cast, Array.reduceGetElem?, Nat.reduceBEq, Nat.reduceLT, Nat.reduceAdd, Nat.reduceSub, Nat.reduceLeDiff, Nat.reduceMul, Nat.reduceEqDiff, reduceCtorEq, Int.reduceAdd, Int.reduceLT, Int.reduceLE, Int.reduceToNat, Int.reduceNeg, Int.reduceSub, Int.reduceBEq, Int.reduceBNe, Int.reduceGT, Int.reduceGE, Nat.reduceGT] | (rw [drawC_ok]; rotate_left; decide +kernel; exact cfg_mixed))
  rw [sumT_zero l]
  rw [evM_for0 l.length (fun i j => { t := [(3, .d (.i .u32 (sumT l i))), (7, .d (.sl .any (l.map byC))), (8, .d (.i .i64 l.length)), (9, .d (.i .i64 j))], o := [], ks := [], n := 0, sz := 20, u := noU })
    (fun i => some (.exit 0, { t := [(3, .d (.i .u32 (sumI l)))], o := [], ks := [], n := 0, sz := 20, u := noU })) ?step ?last]
  case step =>
    intro i hi ih
    have hd := dec_lt hi
    have hw := wrap_succ (i := i) (by omega)
    have hg : (l.map byC)[i]? = some [.i .u8 l[i].toNat] := get_map byC l i hi
    have hs := sumT_succ hi
    repeat' (first | with_reducible refine br_split (fun _ => ?_) (fun _ => ?_) | simp only [*, push_cast, Array.reduceGetElem?, Nat.reduceBEq, Nat.reduceLT, Nat.reduceAdd, Nat.reduceSub, Nat.reduceLeDiff, Nat.reduceMul, Nat.reduceEqDiff, reduceCtorEq, Int.reduceAdd, Int.reduceLT, Int.reduceLE, Int.reduceToNat, Int.reduceNeg, Int.reduceSub, Int.reduceBEq, Int.reduceBNe, Int.reduceGT, Int.reduceGE, Nat.reduceGT] | (rw [drawC_ok]; rotate_left; decide +kernel; exact cfg_mixed))
  case last =>
    have hf := sumT_full l
    repeat' (first | with_reducible refine br_split (fun _ => ?_) (fun _ => ?_) | simp only [*, push_cast, Array.reduceGetElem?, Nat.reduceBEq, Nat.reduceLT, Nat.reduceAdd, Nat.reduceSub, Nat.reduceLeDiff, Nat.reduceMul, Nat.reduceEqDiff, reduceCtorEq, Int.reduceAdd, Int.reduceLT, Int.reduceLE, Int.reduceToNat, Int.reduceNeg, Int.reduceSub, Int.reduceBEq, Int.reduceBNe, Int.reduceGT, Int.reduceGE, Nat.reduceGT] | (rw [drawC_ok]; rotate_left; decide +kernel; exact cfg_mixed))
  · repeat' (first | with_reducible refine br_split (fun _ => ?_) (fun _ => ?_) | simp only [*, push_cast, Array.reduceGetElem?, Nat.reduceBEq, Nat.reduceLT, Nat.reduceAdd, Nat.reduceSub, Nat.reduceLeDiff, Nat.reduceMul, Nat.reduceEqDiff, reduceCtorEq, Int.reduceAdd, Int.reduceLT, Int.reduceLE, Int.reduceToNat, Int.reduceNeg, Int.reduceSub, Int.reduceBEq, Int.reduceBNe, Int.reduceGT, Int.reduceGE, Nat.reduceGT] | (rw [drawC_ok]; rotate_left; decide +kernel; exact cfg_mixed))
theorem ev_sSum (l : List UInt8) (hl : l.length ≤ 1099511627776) : evF cfg 30 [] [.d (.s (bs l))] = some (.d (.i .u32 (sumI l)), []) := by
  have hg0 := ba_get (bs l)
  have hbl : (bs l).data.toList = l := by simp [bs]
  rw [hbl] at hg0
  clear hbl
  (refine (evF_code (C := cfg) (g := 30) (fn := Tryz.f30) rfl Tryz.func30 rfl (by rw [Tryz.ntmps30]; simp) (by kernel_rfl) (by first | decide | simp [keysOf])).trans ?_; rw [Tryz.results30, Tryz.ntmps30])
  repeat' (first | with_reducible refine br_split (fun _ => ?_) (fun _ => ?_) | simp only [*, push_cast, Array.reduceGetElem?, Nat.reduceBEq, Nat.reduceLT, Nat.reduceAdd, Nat.reduceSub, Nat.reduceLeDiff, Nat.reduceMul, Nat.reduceEqDiff, reduceCtorEq, Int.reduceAdd, Int.reduceLT, Int.reduceLE, Int.reduceToNat, Int.reduceNeg, Int.reduceSub, Int.reduceBEq, Int.reduceBNe, Int.reduceGT, Int.reduceGE, Nat.reduceGT] | (rw [drawC_ok]; rotate_left; decide +kernel; exact cfg_mixed))
  rw [sumT_zero l]
  rw [evM_for0 l.length (fun i j => { t := [(0, .d (.s (bs l))), (3, .d (.i .u32 (sumT l i))), (4, .d (.i .i64 j))], o := [], ks := [], n := 0, sz := 19, u := noU })
    (fun i => some (.exit 0, { t := [(3, .d (.i .u32 (sumI l)))], o := [], ks := [], n := 0, sz := 19, u := noU })) ?step ?last]
  case step =>
    intro i hi ih
    have hd := dec_lt hi
    have hw := wrap_succ (i := i) (by omega)
    have hg : (bs l)[i]? = some l[i] := by rw [hg0, List.getElem?_eq_getElem (by omega)]
    have hs := sumT_succ hi
    clear hg0
    repeat' (first | with_reducible refine br_split (fun _ => ?_) (fun _ => ?_) | simp only [*, push_cast, Array.reduceGetElem?, Nat.reduceBEq, Nat.reduceLT, Nat.reduceAdd, Nat.reduceSub, Nat.reduceLeDiff, Nat.reduceMul, Nat.reduceEqDiff, reduceCtorEq, Int.reduceAdd, Int.reduceLT, Int.reduceLE, Int.reduceToNat, Int.reduceNeg, Int.reduceSub, Int.reduceBEq, Int.reduceBNe, Int.reduceGT, Int.reduceGE, Nat.reduceGT] | (rw [drawC_ok]; rotate_left; decide +kernel; exact cfg_mixed))
  case last =>
    have hf := sumT_full l
    clear hg0
    repeat' (first | with_reducible refine br_split (fun _ => ?_) (fun _ => ?_) | simp only [*, push_cast, Array.reduceGetElem?, Nat.reduceBEq, Nat.reduceLT, Nat.reduceAdd, Nat.reduceSub, Nat.reduceLeDiff, Nat.reduceMul, Nat.reduceEqDiff, reduceCtorEq, Int.reduceAdd, Int.reduceLT, Int.reduceLE, Int.reduceToNat, Int.reduceNeg, Int.reduceSub, Int.reduceBEq, Int.reduceBNe, Int.reduceGT, Int.reduceGE, Nat.reduceGT] | (rw [drawC_ok]; rotate_left; decide +kernel; exact cfg_mixed))
  · clear hg0
    repeat' (first | with_reducible refine br_split (fun _ => ?_) (fun _ => ?_) | simp only [*, push_cast, Array.reduceGetElem?, Nat.reduceBEq, Nat.reduceLT, Nat.reduceAdd, Nat.reduceSub, Nat.reduceLeDiff, Nat.reduceMul, Nat.reduceEqDiff, reduceCtorEq, Int.reduceAdd, Int.reduceLT, Int.reduceLE, Int.reduceToNat, Int.reduceNeg, Int.reduceSub, Int.reduceBEq, Int.reduceBNe, Int.reduceGT, Int.reduceGE, Nat.reduceGT] | (rw [drawC_ok]; rotate_left; decide +kernel; exact cfg_mixed))
/-- A text behind so many bytes of its length. -/
def txB (s : ByteArray) (m : Nat) : List UInt8 := beB s.size m ++ bl s
theorem txB_len (s : ByteArray) (m : Nat) : (txB s m).length = m + s.size := by rw [txB, List.length_append, beB_len, bl_size]
theorem ev_sized' (s : ByteArray) (m : Nat) (hm : m ≤ 8) (hs : s.size ≤ 1099511627000) : evF cfg 42 [] [.d (.s s), .d (.i .i64 m)] = some (.d (.s (bs (txB s m))), []) := ev_sized s m hm hs
theorem ev_l10Text' (s : ByteArray) (m : Nat) (hm : m ≤ 8) (hs : s.size ≤ 1099511627000) : evF cfg 37 [] [.d (.s s), .d (.i .i64 m)] = some (.d (.s (bs (txB s m))), []) := ev_l10Text s m hm hs
theorem ev_sized2 (s : ByteArray) (hs : s.size ≤ 1099511627000) : evF cfg 42 [] [.d (.s s), .d (.i .i64 2)] = some (.d (.s (bs (txB s 2))), []) := ev_sized s 2 (by omega) hs
theorem ev_sized4 (s : ByteArray) (hs : s.size ≤ 1099511627000) : evF cfg 42 [] [.d (.s s), .d (.i .i64 4)] = some (.d (.s (bs (txB s 4))), []) := ev_sized s 4 (by omega) hs
theorem ev_l10Text2 (s : ByteArray) (hs : s.size ≤ 1099511627000) : evF cfg 37 [] [.d (.s s), .d (.i .i64 2)] = some (.d (.s (bs (txB s 2))), []) := ev_l10Text s 2 (by omega) hs
theorem ev_l10Text4 (s : ByteArray) (hs : s.size ≤ 1099511627000) : evF cfg 37 [] [.d (.s s), .d (.i .i64 4)] = some (.d (.s (bs (txB s 4))), []) := ev_l10Text s 4 (by omega) hs
theorem ev_l10Size1 (x : Nat) (hx : x ≤ 9223372036854775807) : evF cfg 36 [] [.d (.i .i64 x), .d (.i .i64 1)] = some (.d (.s (bs (beB x 1))), []) := ev_l10Size x 1 (by omega) hx
theorem ev_l10Size4 (x : Nat) (hx : x ≤ 9223372036854775807) : evF cfg 36 [] [.d (.i .i64 x), .d (.i .i64 4)] = some (.d (.s (bs (beB x 4))), []) := ev_l10Size x 4 (by omega) hx
def col2 (s : ByteArray) : List UInt8 := txB s 2
def relB (r : R) : List UInt8 := txB r.name 2 ++ txB (bs (pbL r.bag)) 4
def psH (x : Sp) : List UInt8 := beB (u64 x.kind) 1 ++ (txB x.name 2 ++ beB x.cols.length 1)
def psC (x : Sp) (i : Nat) : List UInt8 := psH x ++ (x.cols.take i).flatMap col2
def psQ (x : Sp) : List UInt8 := psC x x.cols.length ++ (txB x.query 2 ++ beB x.change.length 1)
def psR (x : Sp) (i : Nat) : List UInt8 := psQ x ++ (x.change.take i).flatMap relB
/-- The bytes of a step. -/
def psL (x : Sp) : List UInt8 := if stepOk x = true then psR x x.change.length else []
theorem psC_zero (x : Sp) : psH x = psC x 0 := by simp [psC]
theorem psC_succ (x : Sp) {i : Nat} (h : i < x.cols.length) : psC x i ++ txB x.cols[i] 2 = psC x (i + 1) := by
  simp only [psC]
  rw [List.take_succ_eq_append_getElem h, List.flatMap_append]
  simp [col2]
theorem psR_zero (x : Sp) : psQ x = psR x 0 := by simp [psR]
theorem psR_succ (x : Sp) {i : Nat} (h : i < x.change.length) : psR x i ++ (txB x.change[i].name 2 ++ txB (bs (pbL x.change[i].bag)) 4) = psR x (i + 1) := by
  simp only [psR]
  rw [List.take_succ_eq_append_getElem h, List.flatMap_append]
  simp [relB]
theorem cols_len : ∀ l : List ByteArray, (l.flatMap col2).length ≤ 3 * szSs l
  | [] => by simp [szSs]
  | a :: l => by
    have h1 := cols_len l
    rw [List.flatMap_cons, List.length_append, col2, txB_len]
    simp only [szSs, List.length_cons, List.map_cons, List.sum_cons] at h1 ⊢
    omega
theorem rels_len : ∀ l : List R, (∀ r ∈ l, r.name.size ≤ 1048576 ∧ (pbL r.bag).length ≤ 50000000000) → (l.flatMap relB).length ≤ l.length * 50001048582
  | [], _ => by simp
  | a :: l, h => by
    have h1 := rels_len l fun r hr => h r (List.mem_cons_of_mem _ hr)
    obtain ⟨h2, h3⟩ := h a (List.mem_cons_self ..)
    rw [List.flatMap_cons, List.length_append, relB, List.length_append, txB_len, txB_len, bs_size, List.length_cons, Nat.succ_mul]
    omega
structure SpB (x : Sp) : Prop where
  name : x.name.size ≤ 1048576
  cols : szSs x.cols ≤ 1048576
  col : ∀ c ∈ x.cols, c.size ≤ 1048576
  query : x.query.size ≤ 1048576
  nrel : x.change.length ≤ 20
  rel : ∀ r ∈ x.change, r.name.size ≤ 1048576 ∧ r.bag.rows.length ≤ 1048576 ∧ ∀ c ∈ r.bag.rows, c.row.length ≤ 1048576
  kind : ∃ k : Nat, x.kind = k ∧ k ≤ 3
theorem spB {x : Sp} (h : szSp x ≤ 1048576) (ho : stepOk x = true) : SpB x := by
  simp only [szSp] at h
  obtain ⟨c1, c2⟩ := szSs_mem (l := x.cols) (n := 1048576) (by omega)
  obtain ⟨d1, d2⟩ := szRs_mem (l := x.change) (n := 1048576) (by omega)
  refine ⟨by omega, by omega, c2, by omega, ?_, ?_, ?_⟩
  · simp only [stepOk, Bool.and_eq_true, Bool.not_eq_true', stepBad, stepRest, Bool.or_eq_false_iff] at ho
    obtain ⟨⟨_, h3⟩, h4⟩ := ho
    by_cases k3 : x.kind = 3
    · simp [k3] at h4
      omega
    · simp [k3] at h3
      rw [h3]; simp
  · intro r hr
    have := d2 r hr
    simp only [szR, Go.Av.szB] at this
    obtain ⟨e1, e2⟩ := szCs_mem (l := r.bag.rows) (n := 1048576) (by omega)
    refine ⟨by omega, e1, fun c hc => ?_⟩
    have := e2 c hc
    simp only [szC] at this
    exact (szVs_mem (l := c.row) (n := 1048576) (by omega)).1
  · simp only [stepOk, Bool.and_eq_true, stepRest] at ho
    obtain ⟨_, h4⟩ := ho
    by_cases k0 : x.kind = 0
    · exact ⟨0, k0, by omega⟩
    by_cases k1 : x.kind = 1
    · exact ⟨1, k1, by omega⟩
    by_cases k2 : x.kind = 2
    · exact ⟨2, k2, by omega⟩
    by_cases k3 : x.kind = 3
    · exact ⟨3, k3, by omega⟩
    · simp [k0, k1, k2, k3] at h4
theorem psH_len {x : Sp} (b : SpB x) : (psH x).length ≤ 1048580 := by
  have := b.name
  rw [psH, List.length_append, List.length_append, beB_len, beB_len, txB_len]
  omega
theorem psC_len {x : Sp} (b : SpB x) (i : Nat) : (psC x i).length ≤ 4200000 := by
  have h1 := psH_len b
  have h2 := cols_len (x.cols.take i)
  have h3 : szSs (x.cols.take i) ≤ szSs x.cols := by
    conv => rhs; rw [← List.take_append_drop i x.cols]
    simp only [szSs, List.length_append, List.map_append, List.sum_append]
    omega
  have := b.cols
  rw [psC, List.length_append]
  omega
theorem psQ_len {x : Sp} (b : SpB x) : (psQ x).length ≤ 5300000 := by
  have h1 := psC_len b x.cols.length
  have := b.query
  rw [psQ, List.length_append, List.length_append, beB_len, txB_len]
  omega
theorem psR_len {x : Sp} (b : SpB x) (i : Nat) : (psR x i).length ≤ 1000100000000 := by
  have h1 := psQ_len b
  have h2 := rels_len (x.change.take i) fun r hr => by
    have := b.rel r (List.mem_of_mem_take hr)
    exact ⟨this.1, pbL_len this.2.2⟩
  have h3 : (x.change.take i).length ≤ 20 := by have := b.nrel; rw [List.length_take]; omega
  have h4 : (x.change.take i).length * 50001048582 ≤ 20 * 50001048582 := Nat.mul_le_mul_right _ h3
  rw [psR, List.length_append]
  omega
theorem dec40 {n : Nat} (h : n ≤ 1099511627776) : decide (n ≤ 1099511627776) = true := decide_eq_true h
theorem dec39 {n : Nat} (h : n ≤ 1099511627775) : decide (n ≤ 1099511627775) = true := decide_eq_true h
theorem psL_bad {x : Sp} (h : stepOk x = false) : psL x = [] := by simp [psL, h]
theorem psL_ok {x : Sp} (h : stepOk x = true) : psL x = psR x x.change.length := by simp [psL, h]
/-- What a step's bytes are behind each part. -/
structure SB (kind : Int) (name : ByteArray) (cols : List ByteArray) (query : ByteArray) (change : List R) (pC pR : Nat → List UInt8) : Prop where
  hH : beB (u64 kind) 1 ++ (txB name 2 ++ beB cols.length 1) = pC 0
  hQ : pC cols.length ++ (txB query 2 ++ beB change.length 1) = pR 0
  sC : ∀ (i : Nat) (hi : i < cols.length), pC i ++ txB cols[i] 2 = pC (i + 1)
  sR : ∀ (i : Nat) (hi : i < change.length), pR i ++ (txB change[i].name 2 ++ txB (bs (pbL change[i].bag)) 4) = pR (i + 1)
  lC : ∀ i, (pC i).length ≤ 4200000
  lR : ∀ i, (pR i).length ≤ 1000100000000
  name : name.size ≤ 1048576
  ncol : cols.length ≤ 1048576
  col : ∀ c ∈ cols, c.size ≤ 1048576
  query : query.size ≤ 1048576
  nrel : change.length ≤ 20
  rel : ∀ r ∈ change, r.name.size ≤ 1048576 ∧ r.bag.rows.length ≤ 1048576 ∧ (pbL r.bag).length ≤ 50000000000 ∧ ∀ c ∈ r.bag.rows, c.row.length ≤ 1048576
  kind : ∃ k : Nat, kind = k ∧ k ≤ 3
theorem sb_of {x : Sp} (h : szSp x ≤ 1048576) (hv : stepOk x = true) : SB x.kind x.name x.cols x.query x.change (psC x) (psR x) :=
  have b := spB h hv
  ⟨psC_zero x, psR_zero x, fun _ hi => psC_succ x hi, fun _ hi => psR_succ x hi, psC_len b, psR_len b, b.name, (szSs_mem b.cols).1, b.col, b.query, b.nrel, fun r hr => ⟨(b.rel r hr).1, (b.rel r hr).2.1, pbL_len (b.rel r hr).2.2, (b.rel r hr).2.2⟩, b.kind⟩
set_option maxHeartbeats 2000000 in
theorem ev_PutStep1 {kind : Int} {name : ByteArray} {cols : List ByteArray} {query : ByteArray} {change : List R} {pC pR : Nat → List UInt8} (b : SB kind name cols query change pC pR)
    (hso : evF cfg 31 [] [.agg [.d (.i .i64 kind), .d (.s name), .d (.sl .any (cols.map sC)), .d (.s query), .d (.sl .any (change.map rC))]] = some (.d (.b true), [])) :
    evF cfg 11 [] [.agg [.d (.i .i64 kind), .d (.s name), .d (.sl .any (cols.map sC)), .d (.s query), .d (.sl .any (change.map rC))]] = some (.d (.s (bs (pR change.length))), []) := by
  obtain ⟨hH, hQ, hsC, hsR, lC, lR, bn, bcl, bc, bq, bnl, br, -⟩ := b
  have z1 := ev_sized2 name (by omega)
  have z2 := ev_sized2 query (by omega)
  have n1 := u64_nn (n := cols.length) (by omega)
  have n2 := u64_nn (n := change.length) (by omega)
  have t1 := txB_len name 2
  have t2 := txB_len query 2
  have d1 := dec40 (n := 1 + (2 + name.size)) (by omega)
  have d2 := dec39 (n := 1 + (2 + name.size)) (by omega)
  have d3 := dec39 (n := 2 + query.size) (by omega)
  have d4 := dec40 (n := (pC cols.length).length + (2 + query.size + 1)) (by have := lC cols.length; omega)
  (refine (evF_code (C := cfg) (g := 11) (fn := Tryz.f11) rfl Tryz.func11 rfl (by rw [Tryz.ntmps11]; simp) (by kernel_rfl) (by first | decide | simp [keysOf])).trans ?_; rw [Tryz.results11, Tryz.ntmps11])
  repeat' (first | with_reducible refine br_split (fun _ => ?_) (fun _ => ?_) | simp only [*, push_cast, Array.reduceGetElem?, Nat.reduceBEq, Nat.reduceLT, Nat.reduceAdd, Nat.reduceSub, Nat.reduceLeDiff, Nat.reduceMul, Nat.reduceEqDiff, reduceCtorEq, Int.reduceAdd, Int.reduceLT, Int.reduceLE, Int.reduceToNat, Int.reduceNeg, Int.reduceSub, Int.reduceBEq, Int.reduceBNe, Int.reduceGT, Int.reduceGE, Nat.reduceGT] | (rw [drawC_ok]; rotate_left; decide +kernel; exact cfg_mixed))
  rw [evM_for0 cols.length (fun i j => { t := [(1, .ptr 50 0), (3, .d (.s (bs (pC i)))), (24, .d (.sl .any (cols.map sC))), (25, .d (.i .i64 cols.length)), (26, .d (.i .i64 j))], o := [(50, .box [.d (.i .i64 kind), .d (.s name), .d (.sl .any (cols.map sC)), .d (.s query), .d (.sl .any (change.map rC))])], ks := [50], n := 0, sz := 64, u := noU })
    (fun i => some (.exit 0, { t := [(1, .ptr 50 0), (3, .d (.s (bs (pC cols.length))))], o := [(50, .box [.d (.i .i64 kind), .d (.s name), .d (.sl .any (cols.map sC)), .d (.s query), .d (.sl .any (change.map rC))])], ks := [50], n := 0, sz := 64, u := noU })) ?step ?last]
  case step =>
    intro i hi ih
    have hd := dec_lt hi
    have hw := wrap_succ (i := i) (by omega)
    have hg : (cols.map sC)[i]? = some [.s cols[i]] := get_map sC cols i hi
    have hs1 := bc _ (List.getElem_mem hi)
    have hz := ev_sized2 cols[i] (by omega)
    have hs := hsC i hi
    have ht := txB_len cols[i] 2
    have hd4 := dec40 (n := (pC i).length + (2 + cols[i].size)) (by have := lC i; omega)
    clear hs1 hH hQ hsC hsR
    repeat' (first | with_reducible refine br_split (fun _ => ?_) (fun _ => ?_) | simp only [*, push_cast, Array.reduceGetElem?, Nat.reduceBEq, Nat.reduceLT, Nat.reduceAdd, Nat.reduceSub, Nat.reduceLeDiff, Nat.reduceMul, Nat.reduceEqDiff, reduceCtorEq, Int.reduceAdd, Int.reduceLT, Int.reduceLE, Int.reduceToNat, Int.reduceNeg, Int.reduceSub, Int.reduceBEq, Int.reduceBNe, Int.reduceGT, Int.reduceGE, Nat.reduceGT] | (rw [drawC_ok]; rotate_left; decide +kernel; exact cfg_mixed))
  case last =>
    repeat' (first | with_reducible refine br_split (fun _ => ?_) (fun _ => ?_) | simp only [*, push_cast, Array.reduceGetElem?, Nat.reduceBEq, Nat.reduceLT, Nat.reduceAdd, Nat.reduceSub, Nat.reduceLeDiff, Nat.reduceMul, Nat.reduceEqDiff, reduceCtorEq, Int.reduceAdd, Int.reduceLT, Int.reduceLE, Int.reduceToNat, Int.reduceNeg, Int.reduceSub, Int.reduceBEq, Int.reduceBNe, Int.reduceGT, Int.reduceGE, Nat.reduceGT] | (rw [drawC_ok]; rotate_left; decide +kernel; exact cfg_mixed))
  · repeat' (first | with_reducible refine br_split (fun _ => ?_) (fun _ => ?_) | simp only [*, push_cast, Array.reduceGetElem?, Nat.reduceBEq, Nat.reduceLT, Nat.reduceAdd, Nat.reduceSub, Nat.reduceLeDiff, Nat.reduceMul, Nat.reduceEqDiff, reduceCtorEq, Int.reduceAdd, Int.reduceLT, Int.reduceLE, Int.reduceToNat, Int.reduceNeg, Int.reduceSub, Int.reduceBEq, Int.reduceBNe, Int.reduceGT, Int.reduceGE, Nat.reduceGT] | (rw [drawC_ok]; rotate_left; decide +kernel; exact cfg_mixed))
    rw [evM_for0 change.length (fun i j => { t := [(3, .d (.s (bs (pR i)))), (46, .d (.sl .any (change.map rC))), (47, .d (.i .i64 change.length)), (48, .d (.i .i64 j))], o := [], ks := [], n := 0, sz := 64, u := noU })
      (fun i => some (.exit 2, { t := [(3, .d (.s (bs (pR change.length))))], o := [], ks := [], n := 0, sz := 64, u := noU })) ?step2 ?last2]
    case step2 =>
      intro i hi ih
      have hd := dec_lt hi
      have hw := wrap_succ (i := i) (by omega)
      have hg : (change.map rC)[i]? = some [.s change[i].name, .i .i64 change[i].bag.w, .sl .any (change[i].bag.rows.map cC)] := get_map rC change i hi
      obtain ⟨r1, r2, r3, r4⟩ := br _ (List.getElem_mem hi)
      have hp := ev_PutBag change[i].bag.w change[i].bag.rows r2 r4
      have hz := ev_sized2 change[i].name (by omega)
      have hz2 := ev_sized4 (bs (pbL change[i].bag)) (by rw [bs_size]; omega)
      have hs := hsR i hi
      have ht := txB_len change[i].name 2
      have ht2 := txB_len (bs (pbL change[i].bag)) 4
      rw [bs_size] at ht2
      have hd4 := dec40 (n := 2 + change[i].name.size + (4 + (pbL change[i].bag).length)) (by omega)
      have hd5 := dec40 (n := (pR i).length + (2 + change[i].name.size + (4 + (pbL change[i].bag).length))) (by have := lR i; omega)
      have hbb : (⟨change[i].bag.w, change[i].bag.rows⟩ : B) = change[i].bag := rfl
      rw [hbb] at hp
      clear hH hQ hsC hsR r1 r2 r3 r4 hbb d1 d2 d3 d4
      repeat' (first | with_reducible refine br_split (fun _ => ?_) (fun _ => ?_) | simp only [*, push_cast, Array.reduceGetElem?, Nat.reduceBEq, Nat.reduceLT, Nat.reduceAdd, Nat.reduceSub, Nat.reduceLeDiff, Nat.reduceMul, Nat.reduceEqDiff, reduceCtorEq, Int.reduceAdd, Int.reduceLT, Int.reduceLE, Int.reduceToNat, Int.reduceNeg, Int.reduceSub, Int.reduceBEq, Int.reduceBNe, Int.reduceGT, Int.reduceGE, Nat.reduceGT] | (rw [drawC_ok]; rotate_left; decide +kernel; exact cfg_mixed))
    case last2 =>
      repeat' (first | with_reducible refine br_split (fun _ => ?_) (fun _ => ?_) | simp only [*, push_cast, Array.reduceGetElem?, Nat.reduceBEq, Nat.reduceLT, Nat.reduceAdd, Nat.reduceSub, Nat.reduceLeDiff, Nat.reduceMul, Nat.reduceEqDiff, reduceCtorEq, Int.reduceAdd, Int.reduceLT, Int.reduceLE, Int.reduceToNat, Int.reduceNeg, Int.reduceSub, Int.reduceBEq, Int.reduceBNe, Int.reduceGT, Int.reduceGE, Nat.reduceGT] | (rw [drawC_ok]; rotate_left; decide +kernel; exact cfg_mixed))
    · repeat' (first | with_reducible refine br_split (fun _ => ?_) (fun _ => ?_) | simp only [*, push_cast, Array.reduceGetElem?, Nat.reduceBEq, Nat.reduceLT, Nat.reduceAdd, Nat.reduceSub, Nat.reduceLeDiff, Nat.reduceMul, Nat.reduceEqDiff, reduceCtorEq, Int.reduceAdd, Int.reduceLT, Int.reduceLE, Int.reduceToNat, Int.reduceNeg, Int.reduceSub, Int.reduceBEq, Int.reduceBNe, Int.reduceGT, Int.reduceGE, Nat.reduceGT] | (rw [drawC_ok]; rotate_left; decide +kernel; exact cfg_mixed))
set_option maxHeartbeats 2000000 in
theorem ev_sPutStep1 {kind : Int} {name : ByteArray} {cols : List ByteArray} {query : ByteArray} {change : List R} {pC pR : Nat → List UInt8} (b : SB kind name cols query change pC pR)
    (hso : evF cfg 32 [] [.agg [.d (.i .i64 kind), .d (.s name), .d (.sl .any (cols.map sC)), .d (.s query), .d (.sl .any (change.map rC))]] = some (.d (.b true), [])) :
    evF cfg 9 [] [.agg [.d (.i .i64 kind), .d (.s name), .d (.sl .any (cols.map sC)), .d (.s query), .d (.sl .any (change.map rC))]] = some (.d (.s (bs (pR change.length))), []) := by
  obtain ⟨hH, hQ, hsC, hsR, lC, lR, bn, bcl, bc, bq, bnl, br, k, rfl, hk⟩ := b
  have z1 := ev_l10Text2 name (by omega)
  have z2 := ev_l10Text2 query (by omega)
  have s1 := ev_l10Size1 k (by omega)
  have s2 := ev_l10Size1 cols.length (by omega)
  have s3 := ev_l10Size1 change.length (by omega)
  have n0 := u64_nn (n := k) (by omega)
  rw [n0] at hH
  have t1 := txB_len name 2
  have t2 := txB_len query 2
  have d1 := dec40 (n := 1 + (2 + name.size)) (by omega)
  have d2 := dec39 (n := 1 + (2 + name.size)) (by omega)
  have d3 := dec40 (n := (pC cols.length).length + (2 + query.size)) (by have := lC cols.length; omega)
  have d4 := dec39 (n := (pC cols.length).length + (2 + query.size)) (by have := lC cols.length; omega)
  clear n0 hk
  (refine (evF_code (C := cfg) (g := 9) (fn := Tryz.f9) rfl Tryz.func9 rfl (by rw [Tryz.ntmps9]; simp) (by kernel_rfl) (by first | decide | simp [keysOf])).trans ?_; rw [Tryz.results9, Tryz.ntmps9])
  repeat' (first | with_reducible refine br_split (fun _ => ?_) (fun _ => ?_) | simp only [*, push_cast, Array.reduceGetElem?, Nat.reduceBEq, Nat.reduceLT, Nat.reduceAdd, Nat.reduceSub, Nat.reduceLeDiff, Nat.reduceMul, Nat.reduceEqDiff, reduceCtorEq, Int.reduceAdd, Int.reduceLT, Int.reduceLE, Int.reduceToNat, Int.reduceNeg, Int.reduceSub, Int.reduceBEq, Int.reduceBNe, Int.reduceGT, Int.reduceGE, Nat.reduceGT] | (rw [drawC_ok]; rotate_left; decide +kernel; exact cfg_mixed))
  rw [evM_for0 cols.length (fun i j => { t := [(1, .ptr 50 0), (3, .d (.s (bs (pC i)))), (4, .d (.i .i64 j))], o := [(50, .box [.d (.i .i64 k), .d (.s name), .d (.sl .any (cols.map sC)), .d (.s query), .d (.sl .any (change.map rC))])], ks := [50], n := 0, sz := 72, u := noU })
    (fun i => some (.exit 0, { t := [(1, .ptr 50 0), (3, .d (.s (bs (pC cols.length))))], o := [(50, .box [.d (.i .i64 k), .d (.s name), .d (.sl .any (cols.map sC)), .d (.s query), .d (.sl .any (change.map rC))])], ks := [50], n := 0, sz := 72, u := noU })) ?step ?last]
  case step =>
    intro i hi ih
    have hd := dec_lt hi
    have hw := wrap_succ (i := i) (by omega)
    have hg : (cols.map sC)[i]? = some [.s cols[i]] := get_map sC cols i hi
    have hs1 := bc _ (List.getElem_mem hi)
    have hz := ev_l10Text2 cols[i] (by omega)
    have hs := hsC i hi
    have ht := txB_len cols[i] 2
    have hd4 := dec40 (n := (pC i).length + (2 + cols[i].size)) (by have := lC i; omega)
    clear hs1 hH hQ hsC hsR
    repeat' (first | with_reducible refine br_split (fun _ => ?_) (fun _ => ?_) | simp only [*, push_cast, Array.reduceGetElem?, Nat.reduceBEq, Nat.reduceLT, Nat.reduceAdd, Nat.reduceSub, Nat.reduceLeDiff, Nat.reduceMul, Nat.reduceEqDiff, reduceCtorEq, Int.reduceAdd, Int.reduceLT, Int.reduceLE, Int.reduceToNat, Int.reduceNeg, Int.reduceSub, Int.reduceBEq, Int.reduceBNe, Int.reduceGT, Int.reduceGE, Nat.reduceGT] | (rw [drawC_ok]; rotate_left; decide +kernel; exact cfg_mixed))
  case last =>
    repeat' (first | with_reducible refine br_split (fun _ => ?_) (fun _ => ?_) | simp only [*, push_cast, Array.reduceGetElem?, Nat.reduceBEq, Nat.reduceLT, Nat.reduceAdd, Nat.reduceSub, Nat.reduceLeDiff, Nat.reduceMul, Nat.reduceEqDiff, reduceCtorEq, Int.reduceAdd, Int.reduceLT, Int.reduceLE, Int.reduceToNat, Int.reduceNeg, Int.reduceSub, Int.reduceBEq, Int.reduceBNe, Int.reduceGT, Int.reduceGE, Nat.reduceGT] | (rw [drawC_ok]; rotate_left; decide +kernel; exact cfg_mixed))
  · repeat' (first | with_reducible refine br_split (fun _ => ?_) (fun _ => ?_) | simp only [*, push_cast, Array.reduceGetElem?, Nat.reduceBEq, Nat.reduceLT, Nat.reduceAdd, Nat.reduceSub, Nat.reduceLeDiff, Nat.reduceMul, Nat.reduceEqDiff, reduceCtorEq, Int.reduceAdd, Int.reduceLT, Int.reduceLE, Int.reduceToNat, Int.reduceNeg, Int.reduceSub, Int.reduceBEq, Int.reduceBNe, Int.reduceGT, Int.reduceGE, Nat.reduceGT] | (rw [drawC_ok]; rotate_left; decide +kernel; exact cfg_mixed))
    rw [evM_for0 change.length (fun i j => { t := [(1, .ptr 50 0), (3, .d (.s (bs (pR i)))), (5, .d (.i .i64 j))], o := [(50, .box [.d (.i .i64 k), .d (.s name), .d (.sl .any (cols.map sC)), .d (.s query), .d (.sl .any (change.map rC))])], ks := [50], n := 0, sz := 72, u := noU })
      (fun i => some (.exit 2, { t := [(3, .d (.s (bs (pR change.length))))], o := [], ks := [], n := 0, sz := 72, u := noU })) ?step2 ?last2]
    case step2 =>
      intro i hi ih
      have hd := dec_lt hi
      have hw := wrap_succ (i := i) (by omega)
      have hg : (change.map rC)[i]? = some [.s change[i].name, .i .i64 change[i].bag.w, .sl .any (change[i].bag.rows.map cC)] := get_map rC change i hi
      obtain ⟨r1, r2, r3, r4⟩ := br _ (List.getElem_mem hi)
      have hp := ev_sPutBag change[i].bag.w change[i].bag.rows r2 r4
      have hz := ev_l10Text2 change[i].name (by omega)
      have hz2 := ev_l10Text4 (bs (pbL change[i].bag)) (by rw [bs_size]; omega)
      have hs := hsR i hi
      have ht := txB_len change[i].name 2
      have ht2 := txB_len (bs (pbL change[i].bag)) 4
      rw [bs_size] at ht2
      have hd4 := dec40 (n := (pR i).length + (2 + change[i].name.size)) (by have := lR i; omega)
      have hd5 := dec40 (n := (pR i).length + (2 + change[i].name.size) + (4 + (pbL change[i].bag).length)) (by have := lR i; omega)
      have hbb : (⟨change[i].bag.w, change[i].bag.rows⟩ : B) = change[i].bag := rfl
      rw [hbb] at hp
      clear hH hQ hsC hsR r1 r2 r3 r4 hbb d1 d2 d3 d4
      repeat' (first | with_reducible refine br_split (fun _ => ?_) (fun _ => ?_) | simp only [*, push_cast, Array.reduceGetElem?, Nat.reduceBEq, Nat.reduceLT, Nat.reduceAdd, Nat.reduceSub, Nat.reduceLeDiff, Nat.reduceMul, Nat.reduceEqDiff, reduceCtorEq, Int.reduceAdd, Int.reduceLT, Int.reduceLE, Int.reduceToNat, Int.reduceNeg, Int.reduceSub, Int.reduceBEq, Int.reduceBNe, Int.reduceGT, Int.reduceGE, Nat.reduceGT] | (rw [drawC_ok]; rotate_left; decide +kernel; exact cfg_mixed))
    case last2 =>
      repeat' (first | with_reducible refine br_split (fun _ => ?_) (fun _ => ?_) | simp only [*, push_cast, Array.reduceGetElem?, Nat.reduceBEq, Nat.reduceLT, Nat.reduceAdd, Nat.reduceSub, Nat.reduceLeDiff, Nat.reduceMul, Nat.reduceEqDiff, reduceCtorEq, Int.reduceAdd, Int.reduceLT, Int.reduceLE, Int.reduceToNat, Int.reduceNeg, Int.reduceSub, Int.reduceBEq, Int.reduceBNe, Int.reduceGT, Int.reduceGE, Nat.reduceGT] | (rw [drawC_ok]; rotate_left; decide +kernel; exact cfg_mixed))
    · repeat' (first | with_reducible refine br_split (fun _ => ?_) (fun _ => ?_) | simp only [*, push_cast, Array.reduceGetElem?, Nat.reduceBEq, Nat.reduceLT, Nat.reduceAdd, Nat.reduceSub, Nat.reduceLeDiff, Nat.reduceMul, Nat.reduceEqDiff, reduceCtorEq, Int.reduceAdd, Int.reduceLT, Int.reduceLE, Int.reduceToNat, Int.reduceNeg, Int.reduceSub, Int.reduceBEq, Int.reduceBNe, Int.reduceGT, Int.reduceGE, Nat.reduceGT] | (rw [drawC_ok]; rotate_left; decide +kernel; exact cfg_mixed))
end Go.Av
end

section
namespace Go.Av
open Go.Proofs
set_option linter.unusedSimpArgs false
theorem ev_PutStep (kind : Int) (name : ByteArray) (cols : List ByteArray) (query : ByteArray) (change : List R) (h : szSp ⟨kind, name, cols, query, change⟩ ≤ 1048576) :
    evF cfg 11 [] [.agg [.d (.i .i64 kind), .d (.s name), .d (.sl .any (cols.map sC)), .d (.s query), .d (.sl .any (change.map rC))]] = some (.d (.s (bs (psL ⟨kind, name, cols, query, change⟩))), []) := by
  have hso := ev_StepOk kind name cols query change h
  cases hv : stepOk ⟨kind, name, cols, query, change⟩ with
  | false =>
    rw [psL_bad hv, ← strEmpty]
    clear h
    (refine (evF_code (C := cfg) (g := 11) (fn := Tryz.f11) rfl Tryz.func11 rfl (by rw [Tryz.ntmps11]; simp) (by kernel_rfl) (by first | decide | simp [keysOf])).trans ?_; rw [Tryz.results11, Tryz.ntmps11])
    repeat' (first | with_reducible refine br_split (fun _ => ?_) (fun _ => ?_) | simp only [*, push_cast, Array.reduceGetElem?, Nat.reduceBEq, Nat.reduceLT, Nat.reduceAdd, Nat.reduceSub, Nat.reduceLeDiff, Nat.reduceMul, Nat.reduceEqDiff, reduceCtorEq, Int.reduceAdd, Int.reduceLT, Int.reduceLE, Int.reduceToNat, Int.reduceNeg, Int.reduceSub, Int.reduceBEq, Int.reduceBNe, Int.reduceGT, Int.reduceGE, Nat.reduceGT] | (rw [drawC_ok]; rotate_left; decide +kernel; exact cfg_mixed))
  | true =>
    rw [psL_ok hv]
    rw [hv] at hso
    exact ev_PutStep1 (sb_of h hv) hso
theorem ev_sPutStep (kind : Int) (name : ByteArray) (cols : List ByteArray) (query : ByteArray) (change : List R) (h : szSp ⟨kind, name, cols, query, change⟩ ≤ 1048576) :
    evF cfg 9 [] [.agg [.d (.i .i64 kind), .d (.s name), .d (.sl .any (cols.map sC)), .d (.s query), .d (.sl .any (change.map rC))]] = some (.d (.s (bs (psL ⟨kind, name, cols, query, change⟩))), []) := by
  have hso := ev_sStepOk kind name cols query change h
  cases hv : stepOk ⟨kind, name, cols, query, change⟩ with
  | false =>
    rw [psL_bad hv, ← strEmpty]
    clear h
    (refine (evF_code (C := cfg) (g := 9) (fn := Tryz.f9) rfl Tryz.func9 rfl (by rw [Tryz.ntmps9]; simp) (by kernel_rfl) (by first | decide | simp [keysOf])).trans ?_; rw [Tryz.results9, Tryz.ntmps9])
    repeat' (first | with_reducible refine br_split (fun _ => ?_) (fun _ => ?_) | simp only [*, push_cast, Array.reduceGetElem?, Nat.reduceBEq, Nat.reduceLT, Nat.reduceAdd, Nat.reduceSub, Nat.reduceLeDiff, Nat.reduceMul, Nat.reduceEqDiff, reduceCtorEq, Int.reduceAdd, Int.reduceLT, Int.reduceLE, Int.reduceToNat, Int.reduceNeg, Int.reduceSub, Int.reduceBEq, Int.reduceBNe, Int.reduceGT, Int.reduceGE, Nat.reduceGT] | (rw [drawC_ok]; rotate_left; decide +kernel; exact cfg_mixed))
  | true =>
    rw [psL_ok hv]
    rw [hv] at hso
    exact ev_sPutStep1 (sb_of h hv) hso
theorem psL_len {x : Sp} (h : szSp x ≤ 1048576) : (psL x).length ≤ 1000100000000 := by
  unfold psL
  split
  · rename_i hv
    exact psR_len (spB h hv) _
  · simp
/-- What stands behind a log with a step more. -/
def recB (own : List UInt8) : List UInt8 := beB own.length 4 ++ (beB (sumI own).toNat 4 ++ own)
theorem recB_len (own : List UInt8) : (recB own).length = own.length + 8 := by rw [recB, List.length_append, List.length_append, beB_len, beB_len]; omega
def appOk (lg own : List UInt8) : Bool := decide (own ≠ []) && decide (lg.length + own.length + 8 ≤ 100000)
def appL (lg own : List UInt8) : List UInt8 := if appOk lg own = true then lg ++ recB own else lg
theorem appL_ok {lg own : List UInt8} (h : appOk lg own = true) : appL lg own = lg ++ recB own := if_pos h
theorem appL_bad {lg own : List UInt8} (h : appOk lg own = false) : appL lg own = lg := if_neg (by rw [h]; simp)
theorem bs_ne {l : List UInt8} (h : l ≠ []) : decide (bs l = ⟨#[]⟩) = false := decide_eq_false fun e => h (bs_inj e)
set_option maxHeartbeats 1000000 in
theorem ev_Append1 (lg own : List UInt8) (a : List TV) (hlg : lg.length ≤ 1048576) (hown : own.length ≤ 1000100000000) (k1 k2 k3 k4 k5 : TV) (ha : a = [k1, k2, k3, k4, k5])
    (hp : evF cfg 11 [] [.agg a] = some (.d (.s (bs own)), [])) (hd : ∀ x ∈ a, ∃ t, x = .d t) :
    evF cfg 14 [] [.d (.s (bs lg)), .agg a] = some (.tup [.d (.s (bs (appL lg own))), .d (.b (appOk lg own))], []) := by
  subst ha
  obtain ⟨t1, rfl⟩ := hd k1 (by simp)
  obtain ⟨t2, rfl⟩ := hd k2 (by simp)
  obtain ⟨t3, rfl⟩ := hd k3 (by simp)
  obtain ⟨t4, rfl⟩ := hd k4 (by simp)
  obtain ⟨t5, rfl⟩ := hd k5 (by simp)
  clear hd
  by_cases he : own = []
  · have hok : appOk lg own = false := by simp [appOk, he]
    rw [appL_bad hok, hok]
    rw [he, ← strEmpty] at hp
    clear hok
    (refine (evF_code (C := cfg) (g := 14) (fn := Tryz.f14) rfl Tryz.func14 rfl (by rw [Tryz.ntmps14]; simp) (by kernel_rfl) (by first | decide | simp [keysOf])).trans ?_; rw [Tryz.results14, Tryz.ntmps14])
    repeat' (first | with_reducible refine br_split (fun _ => ?_) (fun _ => ?_) | simp only [*, push_cast, Array.reduceGetElem?, Nat.reduceBEq, Nat.reduceLT, Nat.reduceAdd, Nat.reduceSub, Nat.reduceLeDiff, Nat.reduceMul, Nat.reduceEqDiff, reduceCtorEq, Int.reduceAdd, Int.reduceLT, Int.reduceLE, Int.reduceToNat, Int.reduceNeg, Int.reduceSub, Int.reduceBEq, Int.reduceBNe, Int.reduceGT, Int.reduceGE, Nat.reduceGT] | (rw [drawC_ok]; rotate_left; decide +kernel; exact cfg_mixed))
  have hne := bs_ne he
  by_cases hl : 100000 < lg.length
  · have hok : appOk lg own = false := by simp [appOk, he]; omega
    have hg : decide ((lg.length : Int) > 100000) = true := decide_eq_true (by omega)
    rw [appL_bad hok, hok]
    clear hok he hl
    (refine (evF_code (C := cfg) (g := 14) (fn := Tryz.f14) rfl Tryz.func14 rfl (by rw [Tryz.ntmps14]; simp) (by kernel_rfl) (by first | decide | simp [keysOf])).trans ?_; rw [Tryz.results14, Tryz.ntmps14])
    repeat' (first | with_reducible refine br_split (fun _ => ?_) (fun _ => ?_) | simp only [*, push_cast, Array.reduceGetElem?, Nat.reduceBEq, Nat.reduceLT, Nat.reduceAdd, Nat.reduceSub, Nat.reduceLeDiff, Nat.reduceMul, Nat.reduceEqDiff, reduceCtorEq, Int.reduceAdd, Int.reduceLT, Int.reduceLE, Int.reduceToNat, Int.reduceNeg, Int.reduceSub, Int.reduceBEq, Int.reduceBNe, Int.reduceGT, Int.reduceGE, Nat.reduceGT] | (rw [drawC_ok]; rotate_left; decide +kernel; exact cfg_mixed))
  have hg : decide ((lg.length : Int) > 100000) = false := decide_eq_false (by omega)
  have hs := ev_Sum own (by omega)
  have n1 := u64_nn (n := own.length) (by omega)
  obtain ⟨q1, q2⟩ := sumI_le own
  have n2 : u64 (sumI own) = (sumI own).toNat := by unfold u64; omega
  have n3 : IntKind.i64.wrap (sumI own) = sumI own := i64_in (by omega) (by omega)
  have d1 := dec40 (n := lg.length + 4) (by omega)
  have d2 := dec40 (n := lg.length + 4 + 4) (by omega)
  have d3 := dec40 (n := lg.length + 4 + 4 + own.length) (by omega)
  have d1' : decide (lg.length ≤ 1099511627772) = true := decide_eq_true (by omega)
  have d2' : decide (lg.length + 4 ≤ 1099511627772) = true := decide_eq_true (by omega)
  have d2'' : decide (lg.length ≤ 1099511627768) = true := decide_eq_true (by omega)
  have d3' := dec40 (n := lg.length + 8 + own.length) (by omega)
  clear q1 q2
  by_cases hb : lg.length + own.length + 8 ≤ 100000
  · have hok : appOk lg own = true := by simp [appOk, he, hb]
    have hg2 : decide (((lg.length : Int) + 4 + 4 + (own.length : Int)) > 100000) = false := decide_eq_false (by omega)
    have hg3 : decide (((lg.length : Int) + (4 + (4 + (own.length : Int)))) > 100000) = false := decide_eq_false (by omega)
    have hr : lg ++ (beB own.length 4 ++ (beB (sumI own).toNat 4 ++ own)) = lg ++ recB own := rfl
    have hg4 : decide ((lg.length : Int) + ((recB own).length : Int) > 100000) = false := decide_eq_false (by rw [recB_len]; omega)
    rw [appL_ok hok, hok]
    clear hok he hl hb
    (refine (evF_code (C := cfg) (g := 14) (fn := Tryz.f14) rfl Tryz.func14 rfl (by rw [Tryz.ntmps14]; simp) (by kernel_rfl) (by first | decide | simp [keysOf])).trans ?_; rw [Tryz.results14, Tryz.ntmps14])
    repeat' (first | with_reducible refine br_split (fun _ => ?_) (fun _ => ?_) | simp only [*, push_cast, Array.reduceGetElem?, Nat.reduceBEq, Nat.reduceLT, Nat.reduceAdd, Nat.reduceSub, Nat.reduceLeDiff, Nat.reduceMul, Nat.reduceEqDiff, reduceCtorEq, Int.reduceAdd, Int.reduceLT, Int.reduceLE, Int.reduceToNat, Int.reduceNeg, Int.reduceSub, Int.reduceBEq, Int.reduceBNe, Int.reduceGT, Int.reduceGE, Nat.reduceGT] | (rw [drawC_ok]; rotate_left; decide +kernel; exact cfg_mixed))
  · have hok : appOk lg own = false := by simp [appOk, he]; omega
    have hg2 : decide (((lg.length : Int) + 4 + 4 + (own.length : Int)) > 100000) = true := decide_eq_true (by omega)
    have hg3 : decide (((lg.length : Int) + (4 + (4 + (own.length : Int)))) > 100000) = true := decide_eq_true (by omega)
    rw [appL_bad hok, hok]
    clear hok he hl hb
    (refine (evF_code (C := cfg) (g := 14) (fn := Tryz.f14) rfl Tryz.func14 rfl (by rw [Tryz.ntmps14]; simp) (by kernel_rfl) (by first | decide | simp [keysOf])).trans ?_; rw [Tryz.results14, Tryz.ntmps14])
    repeat' (first | with_reducible refine br_split (fun _ => ?_) (fun _ => ?_) | simp only [*, push_cast, Array.reduceGetElem?, Nat.reduceBEq, Nat.reduceLT, Nat.reduceAdd, Nat.reduceSub, Nat.reduceLeDiff, Nat.reduceMul, Nat.reduceEqDiff, reduceCtorEq, Int.reduceAdd, Int.reduceLT, Int.reduceLE, Int.reduceToNat, Int.reduceNeg, Int.reduceSub, Int.reduceBEq, Int.reduceBNe, Int.reduceGT, Int.reduceGE, Nat.reduceGT] | (rw [drawC_ok]; rotate_left; decide +kernel; exact cfg_mixed))
set_option maxHeartbeats 1000000 in
theorem ev_sAppend1 (lg own : List UInt8) (a : List TV) (hlg : lg.length ≤ 1048576) (hown : own.length ≤ 1000100000000) (k1 k2 k3 k4 k5 : TV) (ha : a = [k1, k2, k3, k4, k5])
    (hp : evF cfg 9 [] [.agg a] = some (.d (.s (bs own)), [])) (hd : ∀ x ∈ a, ∃ t, x = .d t) :
    evF cfg 13 [] [.d (.s (bs lg)), .agg a] = some (.tup [.d (.s (bs (appL lg own))), .d (.b (appOk lg own))], []) := by
  subst ha
  obtain ⟨t1, rfl⟩ := hd k1 (by simp)
  obtain ⟨t2, rfl⟩ := hd k2 (by simp)
  obtain ⟨t3, rfl⟩ := hd k3 (by simp)
  obtain ⟨t4, rfl⟩ := hd k4 (by simp)
  obtain ⟨t5, rfl⟩ := hd k5 (by simp)
  clear hd
  by_cases he : own = []
  · have hok : appOk lg own = false := by simp [appOk, he]
    rw [appL_bad hok, hok]
    rw [he, ← strEmpty] at hp
    clear hok
    (refine (evF_code (C := cfg) (g := 13) (fn := Tryz.f13) rfl Tryz.func13 rfl (by rw [Tryz.ntmps13]; simp) (by kernel_rfl) (by first | decide | simp [keysOf])).trans ?_; rw [Tryz.results13, Tryz.ntmps13])
    repeat' (first | with_reducible refine br_split (fun _ => ?_) (fun _ => ?_) | simp only [*, push_cast, Array.reduceGetElem?, Nat.reduceBEq, Nat.reduceLT, Nat.reduceAdd, Nat.reduceSub, Nat.reduceLeDiff, Nat.reduceMul, Nat.reduceEqDiff, reduceCtorEq, Int.reduceAdd, Int.reduceLT, Int.reduceLE, Int.reduceToNat, Int.reduceNeg, Int.reduceSub, Int.reduceBEq, Int.reduceBNe, Int.reduceGT, Int.reduceGE, Nat.reduceGT] | (rw [drawC_ok]; rotate_left; decide +kernel; exact cfg_mixed))
  have hne := bs_ne he
  have w1 : IntKind.i64.wrap (100000 - (own.length : Int)) = 100000 - (own.length : Int) := i64_in (by omega) (by omega)
  have w2 : IntKind.i64.wrap (100000 - (own.length : Int) - 8) = 100000 - (own.length : Int) - 8 := i64_in (by omega) (by omega)
  by_cases hb : lg.length + own.length + 8 ≤ 100000
  · have hok : appOk lg own = true := by simp [appOk, he, hb]
    have hg : decide ((lg.length : Int) > 100000 - (own.length : Int) - 8) = false := decide_eq_false (by omega)
    have hs := ev_sSum own (by omega)
    obtain ⟨q1, q2⟩ := sumI_le own
    have z1 := ev_l10Size4 own.length (by omega)
    have z2 := ev_l10Size4 (sumI own).toNat (by omega)
    rw [Int.toNat_of_nonneg q1] at z2
    have n3 : IntKind.i64.wrap (sumI own) = sumI own := i64_in (by omega) (by omega)
    have d1 := dec40 (n := lg.length + 4) (by omega)
    have d2 := dec40 (n := lg.length + 4 + 4) (by omega)
    have d3 := dec40 (n := lg.length + 4 + 4 + own.length) (by omega)
    have d1' : decide (lg.length ≤ 1099511627772) = true := decide_eq_true (by omega)
    have d2' : decide (lg.length + 4 ≤ 1099511627772) = true := decide_eq_true (by omega)
    have d2'' : decide (lg.length ≤ 1099511627768) = true := decide_eq_true (by omega)
    have d3' := dec40 (n := lg.length + 8 + own.length) (by omega)
    have hr : lg ++ (beB own.length 4 ++ (beB (sumI own).toNat 4 ++ own)) = lg ++ recB own := rfl
    rw [appL_ok hok, hok]
    clear hok he hb q1 q2
    (refine (evF_code (C := cfg) (g := 13) (fn := Tryz.f13) rfl Tryz.func13 rfl (by rw [Tryz.ntmps13]; simp) (by kernel_rfl) (by first | decide | simp [keysOf])).trans ?_; rw [Tryz.results13, Tryz.ntmps13])
    repeat' (first | with_reducible refine br_split (fun _ => ?_) (fun _ => ?_) | simp only [*, push_cast, Array.reduceGetElem?, Nat.reduceBEq, Nat.reduceLT, Nat.reduceAdd, Nat.reduceSub, Nat.reduceLeDiff, Nat.reduceMul, Nat.reduceEqDiff, reduceCtorEq, Int.reduceAdd, Int.reduceLT, Int.reduceLE, Int.reduceToNat, Int.reduceNeg, Int.reduceSub, Int.reduceBEq, Int.reduceBNe, Int.reduceGT, Int.reduceGE, Nat.reduceGT] | (rw [drawC_ok]; rotate_left; decide +kernel; exact cfg_mixed))
  · have hok : appOk lg own = false := by simp [appOk, he]; omega
    have hg : decide ((lg.length : Int) > 100000 - (own.length : Int) - 8) = true := decide_eq_true (by omega)
    rw [appL_bad hok, hok]
    clear hok he hb
    (refine (evF_code (C := cfg) (g := 13) (fn := Tryz.f13) rfl Tryz.func13 rfl (by rw [Tryz.ntmps13]; simp) (by kernel_rfl) (by first | decide | simp [keysOf])).trans ?_; rw [Tryz.results13, Tryz.ntmps13])
    repeat' (first | with_reducible refine br_split (fun _ => ?_) (fun _ => ?_) | simp only [*, push_cast, Array.reduceGetElem?, Nat.reduceBEq, Nat.reduceLT, Nat.reduceAdd, Nat.reduceSub, Nat.reduceLeDiff, Nat.reduceMul, Nat.reduceEqDiff, reduceCtorEq, Int.reduceAdd, Int.reduceLT, Int.reduceLE, Int.reduceToNat, Int.reduceNeg, Int.reduceSub, Int.reduceBEq, Int.reduceBNe, Int.reduceGT, Int.reduceGE, Nat.reduceGT] | (rw [drawC_ok]; rotate_left; decide +kernel; exact cfg_mixed))
end Go.Av
end
