/- Texts that the last one goes by: B6, B7, PT, RD1, RD2, RD3, RD4, RD5, PT2, RD6, RD7. -/
import Derived.Test.YtnbdlncbfjkpcaaGreatAvA6
import Derived.Test.YtnbdlncbfjkpcaaGreatAvA4
set_option linter.all false
set_option linter.unusedVariables false
set_option linter.unusedSimpArgs false
section
namespace Go.Av
open Go.Proofs
set_option linter.unusedSimpArgs false
@[push_cast] theorem byC_get0 (b : UInt8) : (byC b)[0]? = some (.i .u8 b.toNat) := rfl
def sumS (x : Int) (b : UInt8) : Int := IntKind.u32.wrap (bitsI .xor .u32 x (IntKind.u32.wrap (b.toNat : Nat)) * 16777619)
def sumT (l : List UInt8) (i : Nat) : Int := (l.take i).foldl sumS 2166136261
def sumI (l : List UInt8) : Int := l.foldl sumS 2166136261
theorem sumT_zero (l : List UInt8) : (2166136261 : Int) = sumT l 0 := rfl
theorem sumT_succ {l : List UInt8} {i : Nat} (h : i < l.length) : IntKind.u32.wrap (bitsI .xor .u32 (sumT l i) (IntKind.u32.wrap (l[i].toNat : Nat)) * 16777619) = sumT l (i + 1) := by
  unfold sumT
  rw [List.take_succ_eq_append_getElem h, List.foldl_append]
  rfl
theorem sumT_full (l : List UInt8) : sumT l l.length = sumI l := by simp [sumT, sumI]
theorem sumI_le (l : List UInt8) : 0 ≤ sumI l ∧ sumI l ≤ 4294967295 := by
  have hw : ∀ x : Int, 0 ≤ IntKind.u32.wrap x ∧ IntKind.u32.wrap x ≤ 4294967295 := fun x => by
    have a : ((2 : Int) ^ IntKind.u32.bits) = 4294967296 := by decide
    have c : IntKind.u32.signed = false := rfl
    simp only [IntKind.wrap, a, c, Bool.false_and]
    show 0 ≤ x % 4294967296 ∧ x % 4294967296 ≤ 4294967295
    omega
  have key : ∀ (l : List UInt8) (x : Int), 0 ≤ x ∧ x ≤ 4294967295 → 0 ≤ l.foldl sumS x ∧ l.foldl sumS x ≤ 4294967295 := by
    intro l
    induction l with
    | nil => exact fun x h => h
    | cons b l ih => exact fun x _ => ih _ (hw _)
  exact key l _ (by omega)
theorem ev_Sum (l : List UInt8) (hl : l.length ≤ 1099511627776) : evF cfg 25 [] [.d (.s (bs l))] = some (.d (.i .u32 (sumI l)), []) := by
  (refine (evF_code (C := cfg) (g := 25) (fn := Tryz.f25) rfl Tryz.func25 rfl (by rw [Tryz.ntmps25]; simp) (by kernel_rfl) (by first | decide | simp [keysOf])).trans ?_; rw [Tryz.results25, Tryz.ntmps25])
  repeat' (first | with_reducible refine br_split (fun _ => ?_) (fun _ => ?_) | simp only [*, push_cast, simprocAttr] | (rw [drawC_ok]; rotate_left; decide +kernel; exact cfg_mixed))
  rw [sumT_zero l]
  rw [evM_for0 l.length (fun i j => { t := [(3, .d (.i .u32 (sumT l i))), (7, .d (.sl .any (l.map byC))), (8, .d (.i .i64 l.length)), (9, .d (.i .i64 j))], o := [], ks := [], n := 0, sz := 20, u := noU })
    (fun i => some (.exit 0, { t := [(3, .d (.i .u32 (sumI l)))], o := [], ks := [], n := 0, sz := 20, u := noU })) ?step ?last]
  case step =>
    intro i hi ih
    have hd := dec_lt hi
    have hw := wrap_succ (i := i) (by omega)
    have hg : (l.map byC)[i]? = some [.i .u8 l[i].toNat] := get_map byC l i hi
    have hs := sumT_succ hi
    repeat' (first | with_reducible refine br_split (fun _ => ?_) (fun _ => ?_) | simp only [*, push_cast, simprocAttr] | (rw [drawC_ok]; rotate_left; decide +kernel; exact cfg_mixed))
  case last =>
    have hf := sumT_full l
    repeat' (first | with_reducible refine br_split (fun _ => ?_) (fun _ => ?_) | simp only [*, push_cast, simprocAttr] | (rw [drawC_ok]; rotate_left; decide +kernel; exact cfg_mixed))
  · repeat' (first | with_reducible refine br_split (fun _ => ?_) (fun _ => ?_) | simp only [*, push_cast, simprocAttr] | (rw [drawC_ok]; rotate_left; decide +kernel; exact cfg_mixed))
theorem ev_sSum (l : List UInt8) (hl : l.length ≤ 1099511627776) : evF cfg 26 [] [.d (.s (bs l))] = some (.d (.i .u32 (sumI l)), []) := by
  have hg0 := ba_get (bs l)
  have hbl : (bs l).data.toList = l := by simp [bs]
  rw [hbl] at hg0
  clear hbl
  (refine (evF_code (C := cfg) (g := 26) (fn := Tryz.f26) rfl Tryz.func26 rfl (by rw [Tryz.ntmps26]; simp) (by kernel_rfl) (by first | decide | simp [keysOf])).trans ?_; rw [Tryz.results26, Tryz.ntmps26])
  repeat' (first | with_reducible refine br_split (fun _ => ?_) (fun _ => ?_) | simp only [*, push_cast, simprocAttr] | (rw [drawC_ok]; rotate_left; decide +kernel; exact cfg_mixed))
  rw [sumT_zero l]
  rw [evM_for0 l.length (fun i j => { t := [(0, .d (.s (bs l))), (3, .d (.i .u32 (sumT l i))), (4, .d (.i .i64 j))], o := [], ks := [], n := 0, sz := 19, u := noU })
    (fun i => some (.exit 0, { t := [(3, .d (.i .u32 (sumI l)))], o := [], ks := [], n := 0, sz := 19, u := noU })) ?step ?last]
  case step =>
    intro i hi ih
    have hd := dec_lt hi
    have hw := wrap_succ (i := i) (by omega)
    have hg : (bs l)[i]? = some l[i] := by rw [hg0, List.getElem?_eq_getElem (by omega)]
    have hs := sumT_succ hi
    clear hg0
    repeat' (first | with_reducible refine br_split (fun _ => ?_) (fun _ => ?_) | simp only [*, push_cast, simprocAttr] | (rw [drawC_ok]; rotate_left; decide +kernel; exact cfg_mixed))
  case last =>
    have hf := sumT_full l
    clear hg0
    repeat' (first | with_reducible refine br_split (fun _ => ?_) (fun _ => ?_) | simp only [*, push_cast, simprocAttr] | (rw [drawC_ok]; rotate_left; decide +kernel; exact cfg_mixed))
  · clear hg0
    repeat' (first | with_reducible refine br_split (fun _ => ?_) (fun _ => ?_) | simp only [*, push_cast, simprocAttr] | (rw [drawC_ok]; rotate_left; decide +kernel; exact cfg_mixed))
def txB (s : ByteArray) (m : Nat) : List UInt8 := beB s.size m ++ bl s
theorem txB_len (s : ByteArray) (m : Nat) : (txB s m).length = m + s.size := by rw [txB, List.length_append, beB_len, bl_size]
theorem ev_sized2 (s : ByteArray) (hs : s.size ≤ 1099511627000) : evF cfg 48 [] [.d (.s s), .d (.i .i64 2)] = some (.d (.s (bs (txB s 2))), []) := ev_sized s 2 (by omega) hs
theorem ev_sized4 (s : ByteArray) (hs : s.size ≤ 1099511627000) : evF cfg 48 [] [.d (.s s), .d (.i .i64 4)] = some (.d (.s (bs (txB s 4))), []) := ev_sized s 4 (by omega) hs
theorem ev_l10Text2 (s : ByteArray) (hs : s.size ≤ 1099511627000) : evF cfg 52 [] [.d (.s s), .d (.i .i64 2)] = some (.d (.s (bs (txB s 2))), []) := ev_l10Text s 2 (by omega) hs
theorem ev_l10Text4 (s : ByteArray) (hs : s.size ≤ 1099511627000) : evF cfg 52 [] [.d (.s s), .d (.i .i64 4)] = some (.d (.s (bs (txB s 4))), []) := ev_l10Text s 4 (by omega) hs
theorem ev_l10Size1 (x : Nat) (hx : x ≤ 9223372036854775807) : evF cfg 51 [] [.d (.i .i64 x), .d (.i .i64 1)] = some (.d (.s (bs (beB x 1))), []) := ev_l10Size x 1 (by omega) hx
theorem ev_l10Size4 (x : Nat) (hx : x ≤ 9223372036854775807) : evF cfg 51 [] [.d (.i .i64 x), .d (.i .i64 4)] = some (.d (.s (bs (beB x 4))), []) := ev_l10Size x 4 (by omega) hx
def col2 (s : ByteArray) : List UInt8 := txB s 2
def relB (r : R) : List UInt8 := txB r.name 2 ++ txB (bs (pbL r.bag)) 4
def psH (x : Sp) : List UInt8 := beB (u64 x.kind) 1 ++ (txB x.name 2 ++ beB x.cols.length 1)
def psC (x : Sp) (i : Nat) : List UInt8 := psH x ++ (x.cols.take i).flatMap col2
def psQ (x : Sp) : List UInt8 := psC x x.cols.length ++ (txB x.query 2 ++ beB x.change.length 1)
def psR (x : Sp) (i : Nat) : List UInt8 := psQ x ++ (x.change.take i).flatMap relB
def psL (x : Sp) : List UInt8 := if stepOk x = true then psR x x.change.length else []
theorem psC_zero (x : Sp) : psH x = psC x 0 := by simp [psC]
theorem psC_succ (x : Sp) {i : Nat} (h : i < x.cols.length) : psC x i ++ txB x.cols[i] 2 = psC x (i + 1) := by
  simp only [psC]
  rw [List.take_succ_eq_append_getElem h, List.flatMap_append]
  simp [col2]
theorem psR_zero (x : Sp) : psQ x = psR x 0 := by simp [psR]
theorem psR_succ (x : Sp) {i : Nat} (h : i < x.change.length) : psR x i ++ (txB x.change[i].name 2 ++ txB (bs (pbL x.change[i].bag)) 4) = psR x (i + 1) := by
  simp only [psR]
  rw [List.take_succ_eq_append_getElem h, List.flatMap_append]
  simp [relB]
theorem cols_len : ∀ l : List ByteArray, (l.flatMap col2).length ≤ 3 * szSs l
  | [] => by simp [szSs]
  | a :: l => by
    have h1 := cols_len l
    rw [List.flatMap_cons, List.length_append, col2, txB_len]
    simp only [szSs, List.length_cons, List.map_cons, List.sum_cons] at h1 ⊢
    omega
theorem rels_len : ∀ l : List R, (∀ r ∈ l, r.name.size ≤ 1048576 ∧ (pbL r.bag).length ≤ 50000000000) → (l.flatMap relB).length ≤ l.length * 50001048582
  | [], _ => by simp
  | a :: l, h => by
    have h1 := rels_len l fun r hr => h r (List.mem_cons_of_mem _ hr)
    obtain ⟨h2, h3⟩ := h a (List.mem_cons_self ..)
    rw [List.flatMap_cons, List.length_append, relB, List.length_append, txB_len, txB_len, bs_size, List.length_cons, Nat.succ_mul]
    omega
structure SpB (x : Sp) : Prop where
  name : x.name.size ≤ 1048576
  cols : szSs x.cols ≤ 1048576
  col : ∀ c ∈ x.cols, c.size ≤ 1048576
  query : x.query.size ≤ 1048576
  nrel : x.change.length ≤ 20
  rel : ∀ r ∈ x.change, r.name.size ≤ 1048576 ∧ r.bag.rows.length ≤ 1048576 ∧ ∀ c ∈ r.bag.rows, c.row.length ≤ 1048576
  kind : ∃ k : Nat, x.kind = k ∧ k ≤ 3
theorem spB {x : Sp} (h : szSp x ≤ 1048576) (ho : stepOk x = true) : SpB x := by
  simp only [szSp] at h
  obtain ⟨c1, c2⟩ := szSs_mem (l := x.cols) (n := 1048576) (by omega)
  obtain ⟨d1, d2⟩ := szRs_mem (l := x.change) (n := 1048576) (by omega)
  refine ⟨by omega, by omega, c2, by omega, ?_, ?_, ?_⟩
  · simp only [stepOk, Bool.and_eq_true, Bool.not_eq_true', stepBad, stepRest, Bool.or_eq_false_iff] at ho
    obtain ⟨⟨_, h3⟩, h4⟩ := ho
    by_cases k3 : x.kind = 3
    · simp [k3] at h4
      omega
    · simp [k3] at h3
      rw [h3]; simp
  · intro r hr
    have := d2 r hr
    simp only [szR, Go.Av.szB] at this
    obtain ⟨e1, e2⟩ := szCs_mem (l := r.bag.rows) (n := 1048576) (by omega)
    refine ⟨by omega, e1, fun c hc => ?_⟩
    have := e2 c hc
    simp only [szC] at this
    exact (szVs_mem (l := c.row) (n := 1048576) (by omega)).1
  · simp only [stepOk, Bool.and_eq_true, stepRest] at ho
    obtain ⟨_, h4⟩ := ho
    by_cases k0 : x.kind = 0
    · exact ⟨0, k0, by omega⟩
    by_cases k1 : x.kind = 1
    · exact ⟨1, k1, by omega⟩
    by_cases k2 : x.kind = 2
    · exact ⟨2, k2, by omega⟩
    by_cases k3 : x.kind = 3
    · exact ⟨3, k3, by omega⟩
    · simp [k0, k1, k2, k3] at h4
theorem psH_len {x : Sp} (b : SpB x) : (psH x).length ≤ 1048580 := by
  have := b.name
  rw [psH, List.length_append, List.length_append, beB_len, beB_len, txB_len]
  omega
theorem psC_len {x : Sp} (b : SpB x) (i : Nat) : (psC x i).length ≤ 4200000 := by
  have h1 := psH_len b
  have h2 := cols_len (x.cols.take i)
  have h3 : szSs (x.cols.take i) ≤ szSs x.cols := by
    conv => rhs; rw [← List.take_append_drop i x.cols]
    simp only [szSs, List.length_append, List.map_append, List.sum_append]
    omega
  have := b.cols
  rw [psC, List.length_append]
  omega
theorem psQ_len {x : Sp} (b : SpB x) : (psQ x).length ≤ 5300000 := by
  have h1 := psC_len b x.cols.length
  have := b.query
  rw [psQ, List.length_append, List.length_append, beB_len, txB_len]
  omega
theorem psR_len {x : Sp} (b : SpB x) (i : Nat) : (psR x i).length ≤ 1000100000000 := by
  have h1 := psQ_len b
  have h2 := rels_len (x.change.take i) fun r hr => by
    have := b.rel r (List.mem_of_mem_take hr)
    exact ⟨this.1, pbL_len this.2.2⟩
  have h3 : (x.change.take i).length ≤ 20 := by have := b.nrel; rw [List.length_take]; omega
  have h4 : (x.change.take i).length * 50001048582 ≤ 20 * 50001048582 := Nat.mul_le_mul_right _ h3
  rw [psR, List.length_append]
  omega
theorem dec40 {n : Nat} (h : n ≤ 1099511627776) : decide (n ≤ 1099511627776) = true := decide_eq_true h
theorem dec39 {n : Nat} (h : n ≤ 1099511627775) : decide (n ≤ 1099511627775) = true := decide_eq_true h
theorem psL_bad {x : Sp} (h : stepOk x = false) : psL x = [] := by simp [psL, h]
theorem psL_ok {x : Sp} (h : stepOk x = true) : psL x = psR x x.change.length := by simp [psL, h]
structure SB (kind : Int) (name : ByteArray) (cols : List ByteArray) (query : ByteArray) (change : List R) (pC pR : Nat → List UInt8) : Prop where
  hH : beB (u64 kind) 1 ++ (txB name 2 ++ beB cols.length 1) = pC 0
  hQ : pC cols.length ++ (txB query 2 ++ beB change.length 1) = pR 0
  sC : ∀ (i : Nat) (hi : i < cols.length), pC i ++ txB cols[i] 2 = pC (i + 1)
  sR : ∀ (i : Nat) (hi : i < change.length), pR i ++ (txB change[i].name 2 ++ txB (bs (pbL change[i].bag)) 4) = pR (i + 1)
  lC : ∀ i, (pC i).length ≤ 4200000
  lR : ∀ i, (pR i).length ≤ 1000100000000
  name : name.size ≤ 1048576
  ncol : cols.length ≤ 1048576
  col : ∀ c ∈ cols, c.size ≤ 1048576
  query : query.size ≤ 1048576
  nrel : change.length ≤ 20
  rel : ∀ r ∈ change, r.name.size ≤ 1048576 ∧ r.bag.rows.length ≤ 1048576 ∧ (pbL r.bag).length ≤ 50000000000 ∧ ∀ c ∈ r.bag.rows, c.row.length ≤ 1048576
  kind : ∃ k : Nat, kind = k ∧ k ≤ 3
theorem sb_of {x : Sp} (h : szSp x ≤ 1048576) (hv : stepOk x = true) : SB x.kind x.name x.cols x.query x.change (psC x) (psR x) :=
  have b := spB h hv
  ⟨psC_zero x, psR_zero x, fun _ hi => psC_succ x hi, fun _ hi => psR_succ x hi, psC_len b, psR_len b, b.name, (szSs_mem b.cols).1, b.col, b.query, b.nrel, fun r hr => ⟨(b.rel r hr).1, (b.rel r hr).2.1, pbL_len (b.rel r hr).2.2, (b.rel r hr).2.2⟩, b.kind⟩
set_option maxHeartbeats 2000000 in
theorem ev_PutStep1 {kind : Int} {name : ByteArray} {cols : List ByteArray} {query : ByteArray} {change : List R} {pC pR : Nat → List UInt8} (b : SB kind name cols query change pC pR)
    (hso : evF cfg 27 [] [.agg [.d (.i .i64 kind), .d (.s name), .d (.sl .any (cols.map sC)), .d (.s query), .d (.sl .any (change.map rC))]] = some (.d (.b true), [])) :
    evF cfg 18 [] [.agg [.d (.i .i64 kind), .d (.s name), .d (.sl .any (cols.map sC)), .d (.s query), .d (.sl .any (change.map rC))]] = some (.d (.s (bs (pR change.length))), []) := by
  obtain ⟨hH, hQ, hsC, hsR, lC, lR, bn, bcl, bc, bq, bnl, br, -⟩ := b
  have z1 := ev_sized2 name (by omega)
  have z2 := ev_sized2 query (by omega)
  have n1 := u64_nn (n := cols.length) (by omega)
  have n2 := u64_nn (n := change.length) (by omega)
  have t1 := txB_len name 2
  have t2 := txB_len query 2
  have d1 := dec40 (n := 1 + (2 + name.size)) (by omega)
  have d2 := dec39 (n := 1 + (2 + name.size)) (by omega)
  have d3 := dec39 (n := 2 + query.size) (by omega)
  have d4 := dec40 (n := (pC cols.length).length + (2 + query.size + 1)) (by have := lC cols.length; omega)
  (refine (evF_code (C := cfg) (g := 18) (fn := Tryz.f18) rfl Tryz.func18 rfl (by rw [Tryz.ntmps18]; simp) (by kernel_rfl) (by first | decide | simp [keysOf])).trans ?_; rw [Tryz.results18, Tryz.ntmps18])
  repeat' (first | with_reducible refine br_split (fun _ => ?_) (fun _ => ?_) | simp only [*, push_cast, simprocAttr] | (rw [drawC_ok]; rotate_left; decide +kernel; exact cfg_mixed))
  rw [evM_for0 cols.length (fun i j => { t := [(1, .ptr 50 0), (3, .d (.s (bs (pC i)))), (24, .d (.sl .any (cols.map sC))), (25, .d (.i .i64 cols.length)), (26, .d (.i .i64 j))], o := [(50, .box [.d (.i .i64 kind), .d (.s name), .d (.sl .any (cols.map sC)), .d (.s query), .d (.sl .any (change.map rC))])], ks := [50], n := 0, sz := 64, u := noU })
    (fun i => some (.exit 0, { t := [(1, .ptr 50 0), (3, .d (.s (bs (pC cols.length))))], o := [(50, .box [.d (.i .i64 kind), .d (.s name), .d (.sl .any (cols.map sC)), .d (.s query), .d (.sl .any (change.map rC))])], ks := [50], n := 0, sz := 64, u := noU })) ?step ?last]
  case step =>
    intro i hi ih
    have hd := dec_lt hi
    have hw := wrap_succ (i := i) (by omega)
    have hg : (cols.map sC)[i]? = some [.s cols[i]] := get_map sC cols i hi
    have hs1 := bc _ (List.getElem_mem hi)
    have hz := ev_sized2 cols[i] (by omega)
    have hs := hsC i hi
    have ht := txB_len cols[i] 2
    have hd4 := dec40 (n := (pC i).length + (2 + cols[i].size)) (by have := lC i; omega)
    clear hs1 hH hQ hsC hsR
    repeat' (first | with_reducible refine br_split (fun _ => ?_) (fun _ => ?_) | simp only [*, push_cast, simprocAttr] | (rw [drawC_ok]; rotate_left; decide +kernel; exact cfg_mixed))
  case last =>
    repeat' (first | with_reducible refine br_split (fun _ => ?_) (fun _ => ?_) | simp only [*, push_cast, simprocAttr] | (rw [drawC_ok]; rotate_left; decide +kernel; exact cfg_mixed))
  · repeat' (first | with_reducible refine br_split (fun _ => ?_) (fun _ => ?_) | simp only [*, push_cast, simprocAttr] | (rw [drawC_ok]; rotate_left; decide +kernel; exact cfg_mixed))
    rw [evM_for0 change.length (fun i j => { t := [(3, .d (.s (bs (pR i)))), (46, .d (.sl .any (change.map rC))), (47, .d (.i .i64 change.length)), (48, .d (.i .i64 j))], o := [], ks := [], n := 0, sz := 64, u := noU })
      (fun i => some (.exit 2, { t := [(3, .d (.s (bs (pR change.length))))], o := [], ks := [], n := 0, sz := 64, u := noU })) ?step2 ?last2]
    case step2 =>
      intro i hi ih
      have hd := dec_lt hi
      have hw := wrap_succ (i := i) (by omega)
      have hg : (change.map rC)[i]? = some [.s change[i].name, .i .i64 change[i].bag.w, .sl .any (change[i].bag.rows.map cC)] := get_map rC change i hi
      obtain ⟨r1, r2, r3, r4⟩ := br _ (List.getElem_mem hi)
      have hp := ev_PutBag change[i].bag.w change[i].bag.rows r2 r4
      have hz := ev_sized2 change[i].name (by omega)
      have hz2 := ev_sized4 (bs (pbL change[i].bag)) (by rw [bs_size]; omega)
      have hs := hsR i hi
      have ht := txB_len change[i].name 2
      have ht2 := txB_len (bs (pbL change[i].bag)) 4
      rw [bs_size] at ht2
      have hd4 := dec40 (n := 2 + change[i].name.size + (4 + (pbL change[i].bag).length)) (by omega)
      have hd5 := dec40 (n := (pR i).length + (2 + change[i].name.size + (4 + (pbL change[i].bag).length))) (by have := lR i; omega)
      have hbb : (⟨change[i].bag.w, change[i].bag.rows⟩ : B) = change[i].bag := rfl
      rw [hbb] at hp
      clear hH hQ hsC hsR r1 r2 r3 r4 hbb d1 d2 d3 d4
      repeat' (first | with_reducible refine br_split (fun _ => ?_) (fun _ => ?_) | simp only [*, push_cast, simprocAttr] | (rw [drawC_ok]; rotate_left; decide +kernel; exact cfg_mixed))
    case last2 =>
      repeat' (first | with_reducible refine br_split (fun _ => ?_) (fun _ => ?_) | simp only [*, push_cast, simprocAttr] | (rw [drawC_ok]; rotate_left; decide +kernel; exact cfg_mixed))
    · repeat' (first | with_reducible refine br_split (fun _ => ?_) (fun _ => ?_) | simp only [*, push_cast, simprocAttr] | (rw [drawC_ok]; rotate_left; decide +kernel; exact cfg_mixed))
set_option maxHeartbeats 2000000 in
theorem ev_sPutStep1 {kind : Int} {name : ByteArray} {cols : List ByteArray} {query : ByteArray} {change : List R} {pC pR : Nat → List UInt8} (b : SB kind name cols query change pC pR)
    (hso : evF cfg 28 [] [.agg [.d (.i .i64 kind), .d (.s name), .d (.sl .any (cols.map sC)), .d (.s query), .d (.sl .any (change.map rC))]] = some (.d (.b true), [])) :
    evF cfg 23 [] [.agg [.d (.i .i64 kind), .d (.s name), .d (.sl .any (cols.map sC)), .d (.s query), .d (.sl .any (change.map rC))]] = some (.d (.s (bs (pR change.length))), []) := by
  obtain ⟨hH, hQ, hsC, hsR, lC, lR, bn, bcl, bc, bq, bnl, br, k, rfl, hk⟩ := b
  have z1 := ev_l10Text2 name (by omega)
  have z2 := ev_l10Text2 query (by omega)
  have s1 := ev_l10Size1 k (by omega)
  have s2 := ev_l10Size1 cols.length (by omega)
  have s3 := ev_l10Size1 change.length (by omega)
  have n0 := u64_nn (n := k) (by omega)
  rw [n0] at hH
  have t1 := txB_len name 2
  have t2 := txB_len query 2
  have d1 := dec40 (n := 1 + (2 + name.size)) (by omega)
  have d2 := dec39 (n := 1 + (2 + name.size)) (by omega)
  have d3 := dec40 (n := (pC cols.length).length + (2 + query.size)) (by have := lC cols.length; omega)
  have d4 := dec39 (n := (pC cols.length).length + (2 + query.size)) (by have := lC cols.length; omega)
  clear n0 hk
  (refine (evF_code (C := cfg) (g := 23) (fn := Tryz.f23) rfl Tryz.func23 rfl (by rw [Tryz.ntmps23]; simp) (by kernel_rfl) (by first | decide | simp [keysOf])).trans ?_; rw [Tryz.results23, Tryz.ntmps23])
  repeat' (first | with_reducible refine br_split (fun _ => ?_) (fun _ => ?_) | simp only [*, push_cast, simprocAttr] | (rw [drawC_ok]; rotate_left; decide +kernel; exact cfg_mixed))
  rw [evM_for0 cols.length (fun i j => { t := [(1, .ptr 50 0), (3, .d (.s (bs (pC i)))), (4, .d (.i .i64 j))], o := [(50, .box [.d (.i .i64 k), .d (.s name), .d (.sl .any (cols.map sC)), .d (.s query), .d (.sl .any (change.map rC))])], ks := [50], n := 0, sz := 72, u := noU })
    (fun i => some (.exit 0, { t := [(1, .ptr 50 0), (3, .d (.s (bs (pC cols.length))))], o := [(50, .box [.d (.i .i64 k), .d (.s name), .d (.sl .any (cols.map sC)), .d (.s query), .d (.sl .any (change.map rC))])], ks := [50], n := 0, sz := 72, u := noU })) ?step ?last]
  case step =>
    intro i hi ih
    have hd := dec_lt hi
    have hw := wrap_succ (i := i) (by omega)
    have hg : (cols.map sC)[i]? = some [.s cols[i]] := get_map sC cols i hi
    have hs1 := bc _ (List.getElem_mem hi)
    have hz := ev_l10Text2 cols[i] (by omega)
    have hs := hsC i hi
    have ht := txB_len cols[i] 2
    have hd4 := dec40 (n := (pC i).length + (2 + cols[i].size)) (by have := lC i; omega)
    clear hs1 hH hQ hsC hsR
    repeat' (first | with_reducible refine br_split (fun _ => ?_) (fun _ => ?_) | simp only [*, push_cast, simprocAttr] | (rw [drawC_ok]; rotate_left; decide +kernel; exact cfg_mixed))
  case last =>
    repeat' (first | with_reducible refine br_split (fun _ => ?_) (fun _ => ?_) | simp only [*, push_cast, simprocAttr] | (rw [drawC_ok]; rotate_left; decide +kernel; exact cfg_mixed))
  · repeat' (first | with_reducible refine br_split (fun _ => ?_) (fun _ => ?_) | simp only [*, push_cast, simprocAttr] | (rw [drawC_ok]; rotate_left; decide +kernel; exact cfg_mixed))
    rw [evM_for0 change.length (fun i j => { t := [(1, .ptr 50 0), (3, .d (.s (bs (pR i)))), (5, .d (.i .i64 j))], o := [(50, .box [.d (.i .i64 k), .d (.s name), .d (.sl .any (cols.map sC)), .d (.s query), .d (.sl .any (change.map rC))])], ks := [50], n := 0, sz := 72, u := noU })
      (fun i => some (.exit 2, { t := [(3, .d (.s (bs (pR change.length))))], o := [], ks := [], n := 0, sz := 72, u := noU })) ?step2 ?last2]
    case step2 =>
      intro i hi ih
      have hd := dec_lt hi
      have hw := wrap_succ (i := i) (by omega)
      have hg : (change.map rC)[i]? = some [.s change[i].name, .i .i64 change[i].bag.w, .sl .any (change[i].bag.rows.map cC)] := get_map rC change i hi
      obtain ⟨r1, r2, r3, r4⟩ := br _ (List.getElem_mem hi)
      have hp := ev_sPutBag change[i].bag.w change[i].bag.rows r2 r4
      have hz := ev_l10Text2 change[i].name (by omega)
      have hz2 := ev_l10Text4 (bs (pbL change[i].bag)) (by rw [bs_size]; omega)
      have hs := hsR i hi
      have ht := txB_len change[i].name 2
      have ht2 := txB_len (bs (pbL change[i].bag)) 4
      rw [bs_size] at ht2
      have hd4 := dec40 (n := (pR i).length + (2 + change[i].name.size)) (by have := lR i; omega)
      have hd5 := dec40 (n := (pR i).length + (2 + change[i].name.size) + (4 + (pbL change[i].bag).length)) (by have := lR i; omega)
      have hbb : (⟨change[i].bag.w, change[i].bag.rows⟩ : B) = change[i].bag := rfl
      rw [hbb] at hp
      clear hH hQ hsC hsR r1 r2 r3 r4 hbb d1 d2 d3 d4
      repeat' (first | with_reducible refine br_split (fun _ => ?_) (fun _ => ?_) | simp only [*, push_cast, simprocAttr] | (rw [drawC_ok]; rotate_left; decide +kernel; exact cfg_mixed))
    case last2 =>
      repeat' (first | with_reducible refine br_split (fun _ => ?_) (fun _ => ?_) | simp only [*, push_cast, simprocAttr] | (rw [drawC_ok]; rotate_left; decide +kernel; exact cfg_mixed))
    · repeat' (first | with_reducible refine br_split (fun _ => ?_) (fun _ => ?_) | simp only [*, push_cast, simprocAttr] | (rw [drawC_ok]; rotate_left; decide +kernel; exact cfg_mixed))
end Go.Av
end
section
namespace Go.Av
open Go.Proofs
set_option linter.unusedSimpArgs false
theorem ev_PutStep (kind : Int) (name : ByteArray) (cols : List ByteArray) (query : ByteArray) (change : List R) (h : szSp ⟨kind, name, cols, query, change⟩ ≤ 1048576) :
    evF cfg 18 [] [.agg [.d (.i .i64 kind), .d (.s name), .d (.sl .any (cols.map sC)), .d (.s query), .d (.sl .any (change.map rC))]] = some (.d (.s (bs (psL ⟨kind, name, cols, query, change⟩))), []) := by
  have hso := ev_StepOk kind name cols query change h
  cases hv : stepOk ⟨kind, name, cols, query, change⟩ with
  | false =>
    rw [psL_bad hv, ← strEmpty]
    clear h
    (refine (evF_code (C := cfg) (g := 18) (fn := Tryz.f18) rfl Tryz.func18 rfl (by rw [Tryz.ntmps18]; simp) (by kernel_rfl) (by first | decide | simp [keysOf])).trans ?_; rw [Tryz.results18, Tryz.ntmps18])
    repeat' (first | with_reducible refine br_split (fun _ => ?_) (fun _ => ?_) | simp only [*, push_cast, simprocAttr] | (rw [drawC_ok]; rotate_left; decide +kernel; exact cfg_mixed))
  | true =>
    rw [psL_ok hv]
    rw [hv] at hso
    exact ev_PutStep1 (sb_of h hv) hso
theorem ev_sPutStep (kind : Int) (name : ByteArray) (cols : List ByteArray) (query : ByteArray) (change : List R) (h : szSp ⟨kind, name, cols, query, change⟩ ≤ 1048576) :
    evF cfg 23 [] [.agg [.d (.i .i64 kind), .d (.s name), .d (.sl .any (cols.map sC)), .d (.s query), .d (.sl .any (change.map rC))]] = some (.d (.s (bs (psL ⟨kind, name, cols, query, change⟩))), []) := by
  have hso := ev_sStepOk kind name cols query change h
  cases hv : stepOk ⟨kind, name, cols, query, change⟩ with
  | false =>
    rw [psL_bad hv, ← strEmpty]
    clear h
    (refine (evF_code (C := cfg) (g := 23) (fn := Tryz.f23) rfl Tryz.func23 rfl (by rw [Tryz.ntmps23]; simp) (by kernel_rfl) (by first | decide | simp [keysOf])).trans ?_; rw [Tryz.results23, Tryz.ntmps23])
    repeat' (first | with_reducible refine br_split (fun _ => ?_) (fun _ => ?_) | simp only [*, push_cast, simprocAttr] | (rw [drawC_ok]; rotate_left; decide +kernel; exact cfg_mixed))
  | true =>
    rw [psL_ok hv]
    rw [hv] at hso
    exact ev_sPutStep1 (sb_of h hv) hso
def recB (own : List UInt8) : List UInt8 := beB own.length 4 ++ (beB (sumI own).toNat 4 ++ own)
theorem recB_len (own : List UInt8) : (recB own).length = own.length + 8 := by rw [recB, List.length_append, List.length_append, beB_len, beB_len]; omega
def appOk (lg own : List UInt8) : Bool := decide (own ≠ []) && decide (lg.length + own.length + 8 ≤ 100000)
def appL (lg own : List UInt8) : List UInt8 := if appOk lg own = true then lg ++ recB own else lg
theorem appL_ok {lg own : List UInt8} (h : appOk lg own = true) : appL lg own = lg ++ recB own := if_pos h
theorem appL_bad {lg own : List UInt8} (h : appOk lg own = false) : appL lg own = lg := if_neg (by rw [h]; simp)
theorem bs_ne {l : List UInt8} (h : l ≠ []) : decide (bs l = ⟨#[]⟩) = false := decide_eq_false fun e => h (bs_inj e)
set_option maxHeartbeats 1000000 in
theorem ev_Append1 (lg own : List UInt8) (a : List TV) (hlg : lg.length ≤ 1048576) (hown : own.length ≤ 1000100000000) (k1 k2 k3 k4 k5 : TV) (ha : a = [k1, k2, k3, k4, k5])
    (hp : evF cfg 18 [] [.agg a] = some (.d (.s (bs own)), [])) (hd : ∀ x ∈ a, ∃ t, x = .d t) :
    evF cfg 20 [] [.d (.s (bs lg)), .agg a] = some (.tup [.d (.s (bs (appL lg own))), .d (.b (appOk lg own))], []) := by
  subst ha
  obtain ⟨t1, rfl⟩ := hd k1 (by simp)
  obtain ⟨t2, rfl⟩ := hd k2 (by simp)
  obtain ⟨t3, rfl⟩ := hd k3 (by simp)
  obtain ⟨t4, rfl⟩ := hd k4 (by simp)
  obtain ⟨t5, rfl⟩ := hd k5 (by simp)
  clear hd
  by_cases he : own = []
  · have hok : appOk lg own = false := by simp [appOk, he]
    rw [appL_bad hok, hok]
    rw [he, ← strEmpty] at hp
    clear hok
    (refine (evF_code (C := cfg) (g := 20) (fn := Tryz.f20) rfl Tryz.func20 rfl (by rw [Tryz.ntmps20]; simp) (by kernel_rfl) (by first | decide | simp [keysOf])).trans ?_; rw [Tryz.results20, Tryz.ntmps20])
    repeat' (first | with_reducible refine br_split (fun _ => ?_) (fun _ => ?_) | simp only [*, push_cast, simprocAttr] | (rw [drawC_ok]; rotate_left; decide +kernel; exact cfg_mixed))
  have hne := bs_ne he
  by_cases hl : 100000 < lg.length
  · have hok : appOk lg own = false := by simp [appOk, he]; omega
    have hg : decide ((lg.length : Int) > 100000) = true := decide_eq_true (by omega)
    rw [appL_bad hok, hok]
    clear hok he hl
    (refine (evF_code (C := cfg) (g := 20) (fn := Tryz.f20) rfl Tryz.func20 rfl (by rw [Tryz.ntmps20]; simp) (by kernel_rfl) (by first | decide | simp [keysOf])).trans ?_; rw [Tryz.results20, Tryz.ntmps20])
    repeat' (first | with_reducible refine br_split (fun _ => ?_) (fun _ => ?_) | simp only [*, push_cast, simprocAttr] | (rw [drawC_ok]; rotate_left; decide +kernel; exact cfg_mixed))
  have hg : decide ((lg.length : Int) > 100000) = false := decide_eq_false (by omega)
  have hs := ev_Sum own (by omega)
  have n1 := u64_nn (n := own.length) (by omega)
  obtain ⟨q1, q2⟩ := sumI_le own
  have n2 : u64 (sumI own) = (sumI own).toNat := by unfold u64; omega
  have n3 : IntKind.i64.wrap (sumI own) = sumI own := i64_in (by omega) (by omega)
  have d1 := dec40 (n := lg.length + 4) (by omega)
  have d2 := dec40 (n := lg.length + 4 + 4) (by omega)
  have d3 := dec40 (n := lg.length + 4 + 4 + own.length) (by omega)
  have d1' : decide (lg.length ≤ 1099511627772) = true := decide_eq_true (by omega)
  have d2' : decide (lg.length + 4 ≤ 1099511627772) = true := decide_eq_true (by omega)
  have d2'' : decide (lg.length ≤ 1099511627768) = true := decide_eq_true (by omega)
  have d3' := dec40 (n := lg.length + 8 + own.length) (by omega)
  clear q1 q2
  by_cases hb : lg.length + own.length + 8 ≤ 100000
  · have hok : appOk lg own = true := by simp [appOk, he, hb]
    have hg2 : decide (((lg.length : Int) + 4 + 4 + (own.length : Int)) > 100000) = false := decide_eq_false (by omega)
    have hg3 : decide (((lg.length : Int) + (4 + (4 + (own.length : Int)))) > 100000) = false := decide_eq_false (by omega)
    have hr : lg ++ (beB own.length 4 ++ (beB (sumI own).toNat 4 ++ own)) = lg ++ recB own := rfl
    have hg4 : decide ((lg.length : Int) + ((recB own).length : Int) > 100000) = false := decide_eq_false (by rw [recB_len]; omega)
    rw [appL_ok hok, hok]
    clear hok he hl hb
    (refine (evF_code (C := cfg) (g := 20) (fn := Tryz.f20) rfl Tryz.func20 rfl (by rw [Tryz.ntmps20]; simp) (by kernel_rfl) (by first | decide | simp [keysOf])).trans ?_; rw [Tryz.results20, Tryz.ntmps20])
    repeat' (first | with_reducible refine br_split (fun _ => ?_) (fun _ => ?_) | simp only [*, push_cast, simprocAttr] | (rw [drawC_ok]; rotate_left; decide +kernel; exact cfg_mixed))
  · have hok : appOk lg own = false := by simp [appOk, he]; omega
    have hg2 : decide (((lg.length : Int) + 4 + 4 + (own.length : Int)) > 100000) = true := decide_eq_true (by omega)
    have hg3 : decide (((lg.length : Int) + (4 + (4 + (own.length : Int)))) > 100000) = true := decide_eq_true (by omega)
    rw [appL_bad hok, hok]
    clear hok he hl hb
    (refine (evF_code (C := cfg) (g := 20) (fn := Tryz.f20) rfl Tryz.func20 rfl (by rw [Tryz.ntmps20]; simp) (by kernel_rfl) (by first | decide | simp [keysOf])).trans ?_; rw [Tryz.results20, Tryz.ntmps20])
    repeat' (first | with_reducible refine br_split (fun _ => ?_) (fun _ => ?_) | simp only [*, push_cast, simprocAttr] | (rw [drawC_ok]; rotate_left; decide +kernel; exact cfg_mixed))
set_option maxHeartbeats 1000000 in
theorem ev_sAppend1 (lg own : List UInt8) (a : List TV) (hlg : lg.length ≤ 1048576) (hown : own.length ≤ 1000100000000) (k1 k2 k3 k4 k5 : TV) (ha : a = [k1, k2, k3, k4, k5])
    (hp : evF cfg 23 [] [.agg a] = some (.d (.s (bs own)), [])) (hd : ∀ x ∈ a, ∃ t, x = .d t) :
    evF cfg 21 [] [.d (.s (bs lg)), .agg a] = some (.tup [.d (.s (bs (appL lg own))), .d (.b (appOk lg own))], []) := by
  subst ha
  obtain ⟨t1, rfl⟩ := hd k1 (by simp)
  obtain ⟨t2, rfl⟩ := hd k2 (by simp)
  obtain ⟨t3, rfl⟩ := hd k3 (by simp)
  obtain ⟨t4, rfl⟩ := hd k4 (by simp)
  obtain ⟨t5, rfl⟩ := hd k5 (by simp)
  clear hd
  by_cases he : own = []
  · have hok : appOk lg own = false := by simp [appOk, he]
    rw [appL_bad hok, hok]
    rw [he, ← strEmpty] at hp
    clear hok
    (refine (evF_code (C := cfg) (g := 21) (fn := Tryz.f21) rfl Tryz.func21 rfl (by rw [Tryz.ntmps21]; simp) (by kernel_rfl) (by first | decide | simp [keysOf])).trans ?_; rw [Tryz.results21, Tryz.ntmps21])
    repeat' (first | with_reducible refine br_split (fun _ => ?_) (fun _ => ?_) | simp only [*, push_cast, simprocAttr] | (rw [drawC_ok]; rotate_left; decide +kernel; exact cfg_mixed))
  have hne := bs_ne he
  have w1 : IntKind.i64.wrap (100000 - (own.length : Int)) = 100000 - (own.length : Int) := i64_in (by omega) (by omega)
  have w2 : IntKind.i64.wrap (100000 - (own.length : Int) - 8) = 100000 - (own.length : Int) - 8 := i64_in (by omega) (by omega)
  by_cases hb : lg.length + own.length + 8 ≤ 100000
  · have hok : appOk lg own = true := by simp [appOk, he, hb]
    have hg : decide ((lg.length : Int) > 100000 - (own.length : Int) - 8) = false := decide_eq_false (by omega)
    have hs := ev_sSum own (by omega)
    obtain ⟨q1, q2⟩ := sumI_le own
    have z1 := ev_l10Size4 own.length (by omega)
    have z2 := ev_l10Size4 (sumI own).toNat (by omega)
    rw [Int.toNat_of_nonneg q1] at z2
    have n3 : IntKind.i64.wrap (sumI own) = sumI own := i64_in (by omega) (by omega)
    have d1 := dec40 (n := lg.length + 4) (by omega)
    have d2 := dec40 (n := lg.length + 4 + 4) (by omega)
    have d3 := dec40 (n := lg.length + 4 + 4 + own.length) (by omega)
    have d1' : decide (lg.length ≤ 1099511627772) = true := decide_eq_true (by omega)
    have d2' : decide (lg.length + 4 ≤ 1099511627772) = true := decide_eq_true (by omega)
    have d2'' : decide (lg.length ≤ 1099511627768) = true := decide_eq_true (by omega)
    have d3' := dec40 (n := lg.length + 8 + own.length) (by omega)
    have hr : lg ++ (beB own.length 4 ++ (beB (sumI own).toNat 4 ++ own)) = lg ++ recB own := rfl
    rw [appL_ok hok, hok]
    clear hok he hb q1 q2
    (refine (evF_code (C := cfg) (g := 21) (fn := Tryz.f21) rfl Tryz.func21 rfl (by rw [Tryz.ntmps21]; simp) (by kernel_rfl) (by first | decide | simp [keysOf])).trans ?_; rw [Tryz.results21, Tryz.ntmps21])
    repeat' (first | with_reducible refine br_split (fun _ => ?_) (fun _ => ?_) | simp only [*, push_cast, simprocAttr] | (rw [drawC_ok]; rotate_left; decide +kernel; exact cfg_mixed))
  · have hok : appOk lg own = false := by simp [appOk, he]; omega
    have hg : decide ((lg.length : Int) > 100000 - (own.length : Int) - 8) = true := decide_eq_true (by omega)
    rw [appL_bad hok, hok]
    clear hok he hb
    (refine (evF_code (C := cfg) (g := 21) (fn := Tryz.f21) rfl Tryz.func21 rfl (by rw [Tryz.ntmps21]; simp) (by kernel_rfl) (by first | decide | simp [keysOf])).trans ?_; rw [Tryz.results21, Tryz.ntmps21])
    repeat' (first | with_reducible refine br_split (fun _ => ?_) (fun _ => ?_) | simp only [*, push_cast, simprocAttr] | (rw [drawC_ok]; rotate_left; decide +kernel; exact cfg_mixed))
end Go.Av
end
section
set_option linter.unusedVariables false
namespace Go.Av
def beV (l : List UInt8) : Nat := l.foldl (fun n b => 256 * n + b.toNat) 0
theorem beV_go : ∀ (l : List UInt8) (a : Nat), l.foldl (fun n b => 256 * n + b.toNat) a = a * 256 ^ l.length + beV l
  | [], a => by simp [beV]
  | b :: l, a => by
    have h1 := beV_go l (256 * a + b.toNat)
    have h2 := beV_go l (256 * 0 + b.toNat)
    simp only [beV, List.foldl_cons, List.length_cons] at h1 h2 ⊢
    rw [h1, h2, Nat.pow_succ]
    rw [Nat.mul_zero, Nat.zero_add, Nat.add_mul, Nat.add_assoc, Nat.mul_comm 256 a, Nat.mul_assoc, Nat.mul_comm 256]
theorem beV_cons (b : UInt8) (l : List UInt8) : beV (b :: l) = b.toNat * 256 ^ l.length + beV l := by
  have := beV_go l (256 * 0 + b.toNat)
  simp only [Nat.mul_zero, Nat.zero_add] at this
  simpa [beV] using this
theorem beV_snoc (l : List UInt8) (b : UInt8) : beV (l ++ [b]) = 256 * beV l + b.toNat := by
  simp [beV, List.foldl_append]
theorem beV_lt : ∀ l : List UInt8, beV l < 256 ^ l.length
  | [] => by simp [beV]
  | b :: l => by
    have h1 := beV_lt l
    have h2 := b.toNat_lt
    rw [beV_cons, List.length_cons, Nat.pow_succ]
    have h3 : b.toNat * 256 ^ l.length ≤ 255 * 256 ^ l.length := Nat.mul_le_mul_right _ (by omega)
    omega
theorem beB_add (n k : Nat) : ∀ i, beB (k * 256 ^ i + n % 256 ^ i) i = beB n i := by
  have key : ∀ i j, i ≤ j → beB (k * 256 ^ j + n % 256 ^ j) i = beB n i := by
    intro i
    induction i with
    | zero => intro j _; rfl
    | succ i ih =>
      intro j hj
      rw [beB, beB, ih j (by omega)]
      congr 2
      have e : 256 ^ j = 256 ^ i * (256 * 256 ^ (j - i - 1)) := by
        rw [show j = i + (1 + (j - i - 1)) by omega, Nat.pow_add, Nat.pow_add, Nat.pow_one]
        congr 2
        rw [show i + (1 + (j - i - 1)) - i - 1 = j - i - 1 by omega]
      have h1 : (k * 256 ^ j + n % 256 ^ j) / 256 ^ i % 256 = n / 256 ^ i % 256 := by
        rw [e, Nat.mul_comm k, Nat.mul_assoc, Nat.add_comm, Nat.add_mul_div_left _ _ (Nat.pow_pos (by omega)), Nat.mul_assoc, Nat.add_mul_mod_self_left, Nat.mod_mul_right_div_self, Nat.mod_mul_right_mod]
      exact h1
  exact fun i => key i i (Nat.le_refl _)
theorem beB_beV : ∀ l : List UInt8, beB (beV l) l.length = l
  | [] => rfl
  | b :: l => by
    have h1 := beV_lt l
    have h2 := beB_add (beV l) b.toNat l.length
    rw [Nat.mod_eq_of_lt h1, beB_beV l] at h2
    rw [beV_cons, List.length_cons, beB, h2]
    congr 1
    rw [Nat.add_comm, Nat.add_mul_div_right _ _ (Nat.pow_pos (by omega)), Nat.div_eq_of_lt h1, Nat.zero_add, Nat.mod_eq_of_lt b.toNat_lt]
    simp
theorem beV_beB (n : Nat) : ∀ m, n < 256 ^ m → beV (beB n m) = n
  | 0, h => by simp at h; subst h; rfl
  | m + 1, h => by
    rw [beB, beV_cons, beB_len]
    have h1 : n / 256 ^ m < 256 := by rw [Nat.div_lt_iff_lt_mul (Nat.pow_pos (by omega))]; rw [Nat.pow_succ, Nat.mul_comm] at h; exact h
    have h2 : beB n m = beB (n % 256 ^ m) m := by
      have := beB_add (n % 256 ^ m) (n / 256 ^ m) m
      rw [Nat.mod_mod] at this
      rw [← this]
      congr 1
      have := Nat.div_add_mod n (256 ^ m)
      rw [Nat.mul_comm] at this
      exact this.symm
    rw [h2, beV_beB (n % 256 ^ m) m (Nat.mod_lt _ (Nat.pow_pos (by omega))), Nat.mod_eq_of_lt h1]
    have e1 : (UInt8.ofNat (n / 256 ^ m)).toNat = n / 256 ^ m := by simp [UInt8.toNat_ofNat']; omega
    rw [e1, Nat.mul_comm]
    exact Nat.div_add_mod n (256 ^ m)
def takeP (n : Nat) (l : List UInt8) : Option (List UInt8 × List UInt8) := if n ≤ l.length then some (l.take n, l.drop n) else none
theorem takeP_app {n : Nat} {a b : List UInt8} (h : a.length = n) : takeP n (a ++ b) = some (a, b) := by
  subst h
  simp [takeP]
theorem takeP_some {n : Nat} {l a b : List UInt8} (h : takeP n l = some (a, b)) : l = a ++ b ∧ a.length = n := by
  unfold takeP at h
  split at h
  · simp only [Option.some.injEq, Prod.mk.injEq] at h
    obtain ⟨rfl, rfl⟩ := h
    exact ⟨(List.take_append_drop _ _).symm, by simp; omega⟩
  · cases h
def numP (n : Nat) (l : List UInt8) : Option (Nat × List UInt8) := (takeP n l).map fun p => (beV p.1, p.2)
theorem numP_app {n k : Nat} {b : List UInt8} (h : k < 256 ^ n) : numP n (beB k n ++ b) = some (k, b) := by
  simp [numP, takeP_app (beB_len k n), beV_beB k n h]
theorem numP_some {n k : Nat} {l b : List UInt8} (h : numP n l = some (k, b)) : l = beB k n ++ b ∧ k < 256 ^ n := by
  unfold numP at h
  cases ht : takeP n l with
  | none => rw [ht] at h; cases h
  | some p =>
    rw [ht] at h
    simp only [Option.map_some, Option.some.injEq, Prod.mk.injEq] at h
    obtain ⟨rfl, rfl⟩ := h
    obtain ⟨h1, h2⟩ := takeP_some (a := p.1) (b := p.2) ht
    have h3 := beB_beV p.1
    rw [h2] at h3
    have h4 := beV_lt p.1
    rw [h2] at h4
    exact ⟨by rw [h3]; exact h1, h4⟩
def txtP (m : Nat) (l : List UInt8) : Option (ByteArray × List UInt8) := (numP m l).bind fun p => (takeP p.1 p.2).map fun q => (bs q.1, q.2)
theorem txtP_app {m : Nat} {s : ByteArray} {b : List UInt8} (h : s.size < 256 ^ m) : txtP m ((beB s.size m ++ bl s) ++ b) = some (s, b) := by
  rw [List.append_assoc]
  simp [txtP, numP_app h, takeP_app (bl_size s), bs_bl]
theorem txtP_some {m : Nat} {s : ByteArray} {l b : List UInt8} (h : txtP m l = some (s, b)) : l = (beB s.size m ++ bl s) ++ b ∧ s.size < 256 ^ m := by
  unfold txtP at h
  cases hn : numP m l with
  | none => rw [hn] at h; cases h
  | some p =>
    rw [hn] at h
    simp only [Option.bind_some] at h
    cases ht : takeP p.1 p.2 with
    | none => rw [ht] at h; cases h
    | some q =>
      rw [ht] at h
      simp only [Option.map_some, Option.some.injEq, Prod.mk.injEq] at h
      obtain ⟨rfl, rfl⟩ := h
      obtain ⟨h1, h2⟩ := numP_some (k := p.1) (b := p.2) hn
      obtain ⟨h3, h4⟩ := takeP_some (a := q.1) (b := q.2) ht
      rw [bs_size, h4, bl_bs, List.append_assoc, ← h3]
      exact ⟨h1, h2⟩
def valP (l : List UInt8) : Option (V × List UInt8) := (takeP 1 l).bind fun p =>
  (if beV p.1 = 0 then some ((⟨0, 0, ⟨#[]⟩⟩ : V), p.2)
   else if beV p.1 = 1 then (numP 8 p.2).map fun q => (⟨1, w64 q.1, ⟨#[]⟩⟩, q.2)
   else if beV p.1 = 2 then (numP 1 p.2).map fun q => (⟨2, (q.1 : Nat), ⟨#[]⟩⟩, q.2)
   else if beV p.1 = 3 then (txtP 1 p.2).map fun q => (⟨3, 0, q.1⟩, q.2)
   else none).bind fun r => if valueOk r.1 then some r else none
theorem u64_w64 (k : Nat) (h : k < 18446744073709551616) : u64 (w64 k) = k := by
  unfold u64
  rw [w64_eq]
  omega
theorem w64_u64 {n : Int} (h : w64 n = n) : w64 (u64 n : Nat) = n := by
  rw [← h, w64_eq, w64_eq]
  unfold u64
  rw [w64_eq] at h
  omega
theorem valP_some {v : V} {l b : List UInt8} (h : valP l = some (v, b)) : l = pvL v ++ b ∧ valueOk v = true ∧ w64 v.n = v.n := by
  unfold valP at h
  cases hp : takeP 1 l with
  | none => rw [hp] at h; cases h
  | some p =>
    rw [hp] at h
    obtain ⟨h1, h2⟩ := takeP_some (a := p.1) (b := p.2) hp
    have h3 := beB_beV p.1
    rw [h2] at h3
    simp only [Option.bind_some] at h
    split at h
    · rename_i hk
      simp only [Option.bind_some] at h
      split at h
      · rename_i ho
        simp only [Option.some.injEq, Prod.mk.injEq] at h
        obtain ⟨rfl, rfl⟩ := h
        rw [hk] at h3
        refine ⟨?_, ho, by decide⟩
        rw [h1]
        simp only [pvL, ho, if_true]
        rw [← h3]
        simp [u64]
      · cases h
    split at h
    · rename_i hk
      cases hn : numP 8 p.2 with
      | none => rw [hn] at h; cases h
      | some q =>
        rw [hn] at h
        simp only [Option.map_some, Option.bind_some] at h
        split at h
        · rename_i ho
          simp only [Option.some.injEq, Prod.mk.injEq] at h
          obtain ⟨rfl, rfl⟩ := h
          obtain ⟨g1, g2⟩ := numP_some (k := q.1) (b := q.2) hn
          rw [hk] at h3
          refine ⟨?_, ho, w64_w _⟩
          rw [h1, g1]
          simp only [pvL, ho, if_true]
          rw [u64_w64 _ (by simpa using g2), ← h3]
          simp [u64]
        · cases h
    split at h
    · rename_i hk
      cases hn : numP 1 p.2 with
      | none => rw [hn] at h; cases h
      | some q =>
        rw [hn] at h
        simp only [Option.map_some, Option.bind_some] at h
        split at h
        · rename_i ho
          simp only [Option.some.injEq, Prod.mk.injEq] at h
          obtain ⟨rfl, rfl⟩ := h
          obtain ⟨g1, g2⟩ := numP_some (k := q.1) (b := q.2) hn
          rw [hk] at h3
          have g3 : q.1 < 256 := by simpa using g2
          refine ⟨?_, ho, by show w64 ((q.1 : Nat) : Int) = ((q.1 : Nat) : Int); rw [w64_eq]; omega⟩
          rw [h1, g1]
          simp only [pvL, ho, if_true]
          rw [u64_nn (by omega), ← h3]
          simp [u64]
        · cases h
    split at h
    · rename_i hk
      cases hn : txtP 1 p.2 with
      | none => rw [hn] at h; cases h
      | some q =>
        rw [hn] at h
        simp only [Option.map_some, Option.bind_some] at h
        split at h
        · rename_i ho
          simp only [Option.some.injEq, Prod.mk.injEq] at h
          obtain ⟨rfl, rfl⟩ := h
          obtain ⟨g1, g2⟩ := txtP_some (s := q.1) (b := q.2) hn
          rw [hk] at h3
          refine ⟨?_, ho, w64_0⟩
          rw [h1, g1]
          simp only [pvL, ho, if_true]
          rw [← h3]
          simp [u64]
        · cases h
    · cases h
theorem valP_app {v : V} {b : List UInt8} (h : valueOk v = true) (hn : w64 v.n = v.n) : valP (pvL v ++ b) = some (v, b) := by
  obtain ⟨k, n, s⟩ := v
  simp only at hn
  have h' := h
  unfold valueOk at h'
  simp only at h'
  by_cases h0 : k = 0
  · subst h0
    simp only [if_true, Bool.and_eq_true, decide_eq_true_eq] at h'
    obtain ⟨rfl, rfl⟩ := h'
    simp only [pvL, h, if_true]
    rw [show (if (0 : Int) = 1 then beB (u64 0) 8 else if (0 : Int) = 2 then beB (u64 0) 1 else if (0 : Int) = 3 then beB (⟨#[]⟩ : ByteArray).size 1 ++ bl ⟨#[]⟩ else []) = [] from rfl, List.append_nil]
    unfold valP
    rw [takeP_app (beB_len _ 1)]
    simp only [Option.bind_some, show beV (beB (u64 0) 1) = 0 from by decide, if_true, h]
  by_cases h1 : k = 1
  · subst h1
    simp only [show ¬ ((1 : Int) = 0) by decide, if_false, if_true, decide_eq_true_eq] at h'
    subst h'
    simp only [pvL, h, if_true, List.append_assoc]
    unfold valP
    rw [takeP_app (beB_len _ 1)]
    simp only [Option.bind_some, show beV (beB (u64 1) 1) = 1 from by decide, show ¬ ((1 : Nat) = 0) by decide, if_false, if_true]
    rw [numP_app (u64_lt n)]
    simp only [Option.map_some, Option.bind_some, w64_u64 hn, h, if_true]
  by_cases h2 : k = 2
  · subst h2
    simp only [show ¬ ((2 : Int) = 0) by decide, show ¬ ((2 : Int) = 1) by decide, if_false, if_true, Bool.and_eq_true, decide_eq_true_eq] at h'
    obtain ⟨⟨n0, n1⟩, rfl⟩ := h'
    simp only [pvL, h, if_true, show ¬ ((2 : Int) = 1) by decide, if_false, List.append_assoc]
    unfold valP
    rw [takeP_app (beB_len _ 1)]
    simp only [Option.bind_some, show beV (beB (u64 2) 1) = 2 from by decide, show ¬ ((2 : Nat) = 0) by decide, show ¬ ((2 : Nat) = 1) by decide, if_false, if_true]
    have hu : u64 n < 256 ^ 1 := by unfold u64; omega
    have hu2 : ((u64 n : Nat) : Int) = n := by unfold u64; omega
    rw [numP_app hu]
    simp only [Option.map_some, Option.bind_some, hu2, h, if_true]
  by_cases h3 : k = 3
  · subst h3
    simp only [show ¬ ((3 : Int) = 0) by decide, show ¬ ((3 : Int) = 1) by decide, show ¬ ((3 : Int) = 2) by decide, if_false, if_true, Bool.and_eq_true, decide_eq_true_eq] at h'
    obtain ⟨rfl, hs⟩ := h'
    simp only [pvL, h, if_true, show ¬ ((3 : Int) = 1) by decide, show ¬ ((3 : Int) = 2) by decide, if_false]
    rw [List.append_assoc]
    unfold valP
    rw [takeP_app (beB_len _ 1)]
    simp only [Option.bind_some, show beV (beB (u64 3) 1) = 3 from by decide, show ¬ ((3 : Nat) = 0) by decide, show ¬ ((3 : Nat) = 1) by decide, show ¬ ((3 : Nat) = 2) by decide, if_false, if_true]
    rw [txtP_app (by omega)]
    simp only [Option.map_some, Option.bind_some, h, if_true]
  · simp [h0, h1, h2, h3] at h'
end Go.Av
end
section
namespace Go.Av
open Go.Proofs
set_option linter.unusedSimpArgs false
theorem bs_extract (l : List UInt8) (a b : Nat) : (bs l).extract a b = bs ((l.take b).drop a) := by
  apply ByteArray.ext
  rw [ByteArray.data_extract]
  simp [bs, List.extract_eq_take_drop, List.drop_take]
theorem or_byte (n : Int) {b : Nat} (hb : b < 256) : bitsI .or .i64 (IntKind.i64.wrap (n * 256)) (b : Int) = w64 (256 * n + b) := by
  have hn : (BitVec.ofInt 64 (IntKind.i64.wrap (n * 256))).toNat = 256 * ((n % 72057594037927936).toNat) := by
    rw [BitVec.toNat_ofInt, show IntKind.i64.wrap (n * 256) = w64 (n * 256) from rfl, w64_eq]
    omega
  have hbb : (BitVec.ofInt 64 (b : Int)).toNat = b := by
    rw [BitVec.toNat_ofInt]
    omega
  have ho : (BitVec.ofInt 64 (IntKind.i64.wrap (n * 256)) ||| BitVec.ofInt 64 (b : Int)).toNat = 256 * ((n % 72057594037927936).toNat) + b := by
    rw [BitVec.toNat_or, hn, hbb]
    have := Nat.shiftLeft_add_eq_or_of_lt (i := 8) (b := b) (by omega) ((n % 72057594037927936).toNat)
    rw [Nat.shiftLeft_eq] at this
    rw [show 256 * (n % 72057594037927936).toNat = (n % 72057594037927936).toNat * 2 ^ 8 by omega]
    exact this.symm
  show IntKind.i64.wrap ((BitVec.ofInt 64 (IntKind.i64.wrap (n * 256)) ||| BitVec.ofInt 64 (b : Int)).toNat : Int) = _
  rw [ho, show IntKind.i64.wrap _ = w64 _ from rfl, w64_eq, w64_eq]
  omega
def bigT (l : List UInt8) (i : Nat) : Int := w64 (beV (l.take i) : Nat)
theorem bigT_succ {l : List UInt8} {i : Nat} (h : i < l.length) : bitsI .or .i64 (IntKind.i64.wrap (bigT l i * 256)) ((l[i].toNat : Nat) : Int) = bigT l (i + 1) := by
  rw [or_byte _ l[i].toNat_lt]
  unfold bigT
  rw [List.take_succ_eq_append_getElem h, beV_snoc, ← w64_add, Int.mul_comm, w64_mul, w64_add]
  congr 1
  rw [Int.natCast_add, Int.natCast_mul]
  omega
theorem ev_bigOf (l : List UInt8) (hl : l.length ≤ 1099511627776) : evF cfg 69 [] [.d (.s (bs l))] = some (.d (.i .i64 (w64 (beV l : Nat))), []) := by
  have H := Hd.mk hl
  clear hl
  (refine (evF_code (C := cfg) (g := 69) (fn := Tryz.f69) rfl Tryz.func69 rfl (by rw [Tryz.ntmps69]; simp) (by kernel_rfl) (by first | decide | simp [keysOf])).trans ?_; rw [Tryz.results69, Tryz.ntmps69])
  repeat' (first | with_reducible refine br_split (fun _ => ?_) (fun _ => ?_) | simp only [*, push_cast, simprocAttr] | (rw [drawC_ok]; rotate_left; decide +kernel; exact cfg_mixed))
  rw [show ({ t := [(3, .d (.i .i64 0)), (7, .d (.sl .any (l.map byC))), (8, .d (.i .i64 l.length)), (9, .d (.i .i64 0))], o := [], ks := [], n := 0, sz := 20, u := noU } : St) = { t := [(3, .d (.i .i64 (bigT l 0))), (7, .d (.sl .any (l.map byC))), (8, .d (.i .i64 l.length)), (9, .d (.i .i64 0))], o := [], ks := [], n := 0, sz := 20, u := noU } from rfl]
  rw [evM_for0 l.length (fun i j => { t := [(3, .d (.i .i64 (bigT l i))), (7, .d (.sl .any (l.map byC))), (8, .d (.i .i64 l.length)), (9, .d (.i .i64 j))], o := [], ks := [], n := 0, sz := 20, u := noU }) (fun i => some (.exit 0, { t := [(3, .d (.i .i64 (bigT l l.length)))], o := [], ks := [], n := 0, sz := 20, u := noU })) ?step ?last]
  case step =>
    intro i hi ih
    have hl := H.out
    have hd := dec_lt hi
    have hdn := dec_ltN hi
    have hw := wrap_succ (i := i) (by omega)
    have hg : (l.map byC)[i]? = some [.i .u8 l[i].toNat] := get_map byC l i hi
    have hb : IntKind.i64.wrap ((l[i].toNat : Nat) : Int) = ((l[i].toNat : Nat) : Int) := by have := l[i].toNat_lt; exact i64_in (by omega) (by omega)
    have hs := bigT_succ hi
    have hpw : (2 : Int) ^ min 8 IntKind.i64.bits = 256 := by decide
    clear hl H
    repeat' (first | with_reducible refine br_split (fun _ => ?_) (fun _ => ?_) | simp only [*, push_cast, simprocAttr] | (rw [drawC_ok]; rotate_left; decide +kernel; exact cfg_mixed))
  case last =>
    clear H
    repeat' (first | with_reducible refine br_split (fun _ => ?_) (fun _ => ?_) | simp only [*, push_cast, simprocAttr] | (rw [drawC_ok]; rotate_left; decide +kernel; exact cfg_mixed))
  have hf : bigT l l.length = w64 (beV l : Nat) := by unfold bigT; rw [List.take_length]
  rw [hf]
  clear hf H
  repeat' (first | with_reducible refine br_split (fun _ => ?_) (fun _ => ?_) | simp only [*, push_cast, simprocAttr] | (rw [drawC_ok]; rotate_left; decide +kernel; exact cfg_mixed))
theorem takeP_at {n i : Nat} {l a b : List UInt8} (h : takeP n (l.drop i) = some (a, b)) (hi : i ≤ l.length) : i + n ≤ l.length ∧ a = (l.drop i).take n ∧ b = l.drop (i + n) ∧ a.length = n := by
  unfold takeP at h
  split at h
  · rename_i hn
    rw [List.length_drop] at hn
    simp only [Option.some.injEq, Prod.mk.injEq] at h
    obtain ⟨rfl, rfl⟩ := h
    refine ⟨by omega, rfl, by rw [List.drop_drop], ?_⟩
    rw [List.length_take, List.length_drop]
    omega
  · cases h
theorem takeP_not {n i : Nat} {l : List UInt8} (h : takeP n (l.drop i) = none) : l.length - i < n := by
  unfold takeP at h
  split at h
  · cases h
  · rename_i hn
    rw [List.length_drop] at hn
    omega
theorem ev_take_bad (s : ByteArray) (i n : Int) : evF cfg 42 [(0, .box [.d (.s s), .d (.i .i64 i), .d (.b true)])] [.ptr 0 0, .d (.i .i64 n)] = some (.d (.s ⟨#[]⟩), [(0, .box [.d (.s s), .d (.i .i64 i), .d (.b true)])]) := by
  (refine (evF_code (C := cfg) (g := 42) (fn := Tryz.f42) rfl Tryz.func42 rfl (by rw [Tryz.ntmps42]; simp) (by kernel_rfl) (by first | decide | simp [keysOf])).trans ?_; rw [Tryz.results42, Tryz.ntmps42])
  repeat' (first | with_reducible refine br_split (fun _ => ?_) (fun _ => ?_) | simp only [*, push_cast, simprocAttr] | (rw [drawC_ok]; rotate_left; decide +kernel; exact cfg_mixed))
theorem ev_take_none (l : List UInt8) (hl : l.length ≤ 1048576) (i n : Nat) (hi : i ≤ l.length) (h : takeP n (l.drop i) = none) : evF cfg 42 [(0, .box [.d (.s (bs l)), .d (.i .i64 (i : Nat)), .d (.b false)])] [.ptr 0 0, .d (.i .i64 (n : Nat))] = some (.d (.s ⟨#[]⟩), [(0, .box [.d (.s (bs l)), .d (.i .i64 (i : Nat)), .d (.b true)])]) := by
  have h1 := takeP_not h
  have w1 : IntKind.i64.wrap ((l.length : Int) - (i : Int)) = (l.length : Int) - (i : Int) := i64_in (by omega) (by omega)
  have c1 : decide ((n : Int) > (l.length : Int) - (i : Int)) = true := decide_eq_true (by omega)
  have hz := bs_size l
  clear hl hi h h1
  (refine (evF_code (C := cfg) (g := 42) (fn := Tryz.f42) rfl Tryz.func42 rfl (by rw [Tryz.ntmps42]; simp) (by kernel_rfl) (by first | decide | simp [keysOf])).trans ?_; rw [Tryz.results42, Tryz.ntmps42])
  repeat' (first | with_reducible refine br_split (fun _ => ?_) (fun _ => ?_) | simp only [*, push_cast, simprocAttr] | (rw [drawC_ok]; rotate_left; decide +kernel; exact cfg_mixed))
theorem ev_take_some (l : List UInt8) (hl : l.length ≤ 1048576) (i n j : Nat) (hi : i ≤ l.length) (hj : i + n = j) {a b : List UInt8} (h : takeP n (l.drop i) = some (a, b)) : evF cfg 42 [(0, .box [.d (.s (bs l)), .d (.i .i64 (i : Nat)), .d (.b false)])] [.ptr 0 0, .d (.i .i64 (n : Nat))] = some (.d (.s (bs a)), [(0, .box [.d (.s (bs l)), .d (.i .i64 (j : Nat)), .d (.b false)])]) := by
  obtain ⟨h1, h2, -, -⟩ := takeP_at h hi
  have w1 : IntKind.i64.wrap ((l.length : Int) - (i : Int)) = (l.length : Int) - (i : Int) := i64_in (by omega) (by omega)
  have c1 : decide ((n : Int) > (l.length : Int) - (i : Int)) = false := decide_eq_false (by omega)
  have w2 : IntKind.i64.wrap ((i : Int) + (n : Int)) = (j : Int) := by rw [i64_in (by omega) (by omega)]; omega
  have w3 : IntKind.i64.wrap ((j : Int) - (n : Int)) = (i : Int) := by rw [i64_in (by omega) (by omega)]; omega
  have c2 : decide (0 ≤ (i : Int) ∧ (i : Int) ≤ (j : Int) ∧ (j : Int) ≤ (l.length : Int)) = true := decide_eq_true (by omega)
  have c3 : decide ((i : Int) ≤ (j : Int) ∧ (j : Int) ≤ (l.length : Int)) = true := decide_eq_true (by omega)
  have hz := bs_size l
  have hx := bs_extract l i j
  have ha : (l.take j).drop i = a := by rw [h2, List.drop_take]; congr 1; omega
  rw [ha] at hx
  clear hl hi h h1 h2 ha hj
  (refine (evF_code (C := cfg) (g := 42) (fn := Tryz.f42) rfl Tryz.func42 rfl (by rw [Tryz.ntmps42]; simp) (by kernel_rfl) (by first | decide | simp [keysOf])).trans ?_; rw [Tryz.results42, Tryz.ntmps42])
  repeat' (first | with_reducible refine br_split (fun _ => ?_) (fun _ => ?_) | simp only [*, push_cast, simprocAttr] | (rw [drawC_ok]; rotate_left; decide +kernel; exact cfg_mixed))
end Go.Av
end
section
namespace Go.Av
open Go.Proofs
set_option linter.unusedSimpArgs false
theorem beV_in {a : List UInt8} {m : Nat} (h : a.length = m) (hm : m ≤ 7) : w64 (beV a : Nat) = (beV a : Nat) := by
  have h1 := beV_lt a
  have h2 : 256 ^ a.length ≤ 256 ^ 7 := Nat.pow_le_pow_right (by omega) (by omega)
  have h3 : (256 : Nat) ^ 7 = 72057594037927936 := by decide
  exact i64_in (by omega) (by omega)
theorem ev_bigOf0 : evF cfg 69 [] [.d (.s ⟨#[]⟩)] = some (.d (.i .i64 0), []) := ev_bigOf [] (by simp)
theorem ev_size_bad (s : ByteArray) (i n : Int) : evF cfg 33 [(0, .box [.d (.s s), .d (.i .i64 i), .d (.b true)])] [.ptr 0 0, .d (.i .i64 n)] = some (.d (.i .i64 0), [(0, .box [.d (.s s), .d (.i .i64 i), .d (.b true)])]) := by
  have e1 := ev_take_bad s i n
  have e2 := ev_bigOf0
  (refine (evF_code (C := cfg) (g := 33) (fn := Tryz.f33) rfl Tryz.func33 rfl (by rw [Tryz.ntmps33]; simp) (by kernel_rfl) (by first | decide | simp [keysOf])).trans ?_; rw [Tryz.results33, Tryz.ntmps33])
  repeat' (first | with_reducible refine br_split (fun _ => ?_) (fun _ => ?_) | simp only [*, push_cast, simprocAttr] | (rw [drawC_ok]; rotate_left; decide +kernel; exact cfg_mixed))
theorem ev_size_none (l : List UInt8) (hl : l.length ≤ 1048576) (i n : Nat) (hi : i ≤ l.length) (h : takeP n (l.drop i) = none) : evF cfg 33 [(0, .box [.d (.s (bs l)), .d (.i .i64 (i : Nat)), .d (.b false)])] [.ptr 0 0, .d (.i .i64 (n : Nat))] = some (.d (.i .i64 0), [(0, .box [.d (.s (bs l)), .d (.i .i64 (i : Nat)), .d (.b true)])]) := by
  have e1 := ev_take_none l hl i n hi h
  have e2 := ev_bigOf0
  clear hl hi h
  (refine (evF_code (C := cfg) (g := 33) (fn := Tryz.f33) rfl Tryz.func33 rfl (by rw [Tryz.ntmps33]; simp) (by kernel_rfl) (by first | decide | simp [keysOf])).trans ?_; rw [Tryz.results33, Tryz.ntmps33])
  repeat' (first | with_reducible refine br_split (fun _ => ?_) (fun _ => ?_) | simp only [*, push_cast, simprocAttr] | (rw [drawC_ok]; rotate_left; decide +kernel; exact cfg_mixed))
theorem ev_size_some (l : List UInt8) (hl : l.length ≤ 1048576) (i n j : Nat) (hi : i ≤ l.length) (hj : i + n = j) {a b : List UInt8} (h : takeP n (l.drop i) = some (a, b)) : evF cfg 33 [(0, .box [.d (.s (bs l)), .d (.i .i64 (i : Nat)), .d (.b false)])] [.ptr 0 0, .d (.i .i64 (n : Nat))] = some (.d (.i .i64 (w64 (beV a : Nat))), [(0, .box [.d (.s (bs l)), .d (.i .i64 (j : Nat)), .d (.b false)])]) := by
  have e1 := ev_take_some l hl i n j hi hj h
  obtain ⟨h1, -, -, h4⟩ := takeP_at h hi
  have e2 := ev_bigOf a (by omega)
  clear hl hi h h1 h4 hj
  (refine (evF_code (C := cfg) (g := 33) (fn := Tryz.f33) rfl Tryz.func33 rfl (by rw [Tryz.ntmps33]; simp) (by kernel_rfl) (by first | decide | simp [keysOf])).trans ?_; rw [Tryz.results33, Tryz.ntmps33])
  repeat' (first | with_reducible refine br_split (fun _ => ?_) (fun _ => ?_) | simp only [*, push_cast, simprocAttr] | (rw [drawC_ok]; rotate_left; decide +kernel; exact cfg_mixed))
theorem ev_text_bad (s : ByteArray) (i n : Int) : evF cfg 34 [(0, .box [.d (.s s), .d (.i .i64 i), .d (.b true)])] [.ptr 0 0, .d (.i .i64 n)] = some (.d (.s ⟨#[]⟩), [(0, .box [.d (.s s), .d (.i .i64 i), .d (.b true)])]) := by
  have e1 := ev_size_bad s i n
  have e2 := ev_take_bad s i 0
  (refine (evF_code (C := cfg) (g := 34) (fn := Tryz.f34) rfl Tryz.func34 rfl (by rw [Tryz.ntmps34]; simp) (by kernel_rfl) (by first | decide | simp [keysOf])).trans ?_; rw [Tryz.results34, Tryz.ntmps34])
  repeat' (first | with_reducible refine br_split (fun _ => ?_) (fun _ => ?_) | simp only [*, push_cast, simprocAttr] | (rw [drawC_ok]; rotate_left; decide +kernel; exact cfg_mixed))
theorem ev_text_none (l : List UInt8) (hl : l.length ≤ 1048576) (i m : Nat) (hi : i ≤ l.length) (hm : m ≤ 7) (h : txtP m (l.drop i) = none) : ∃ i' : Nat, i' ≤ l.length ∧ evF cfg 34 [(0, .box [.d (.s (bs l)), .d (.i .i64 (i : Nat)), .d (.b false)])] [.ptr 0 0, .d (.i .i64 (m : Nat))] = some (.d (.s ⟨#[]⟩), [(0, .box [.d (.s (bs l)), .d (.i .i64 (i' : Nat)), .d (.b true)])]) := by
  cases h0 : takeP m (l.drop i) with
  | none =>
    refine ⟨i, hi, ?_⟩
    have e1 := ev_size_none l hl i m hi h0
    have e2 := ev_take_bad (bs l) i 0
    clear hl hi h h0 hm
    (refine (evF_code (C := cfg) (g := 34) (fn := Tryz.f34) rfl Tryz.func34 rfl (by rw [Tryz.ntmps34]; simp) (by kernel_rfl) (by first | decide | simp [keysOf])).trans ?_; rw [Tryz.results34, Tryz.ntmps34])
    repeat' (first | with_reducible refine br_split (fun _ => ?_) (fun _ => ?_) | simp only [*, push_cast, simprocAttr] | (rw [drawC_ok]; rotate_left; decide +kernel; exact cfg_mixed))
  | some p =>
    obtain ⟨a, b⟩ := p
    obtain ⟨h1, h2, h3, h4⟩ := takeP_at h0 hi
    obtain ⟨j, hj⟩ : ∃ j, i + m = j := ⟨_, rfl⟩
    have e1 := ev_size_some l hl i m j hi hj h0
    rw [hj] at h1 h3
    refine ⟨j, h1, ?_⟩
    rw [beV_in h4 hm] at e1
    have hn : takeP (beV a) (l.drop j) = none := by
      rw [← h3]
      simp only [txtP, numP, h0, Option.map_some, Option.bind_some] at h
      cases ht : takeP (beV a) b with
      | none => rfl
      | some q => rw [ht] at h; cases h
    have e2 := ev_take_none l hl j (beV a) h1 hn
    clear hl hi h h0 h1 h2 h3 h4 hn hm hj
    (refine (evF_code (C := cfg) (g := 34) (fn := Tryz.f34) rfl Tryz.func34 rfl (by rw [Tryz.ntmps34]; simp) (by kernel_rfl) (by first | decide | simp [keysOf])).trans ?_; rw [Tryz.results34, Tryz.ntmps34])
    repeat' (first | with_reducible refine br_split (fun _ => ?_) (fun _ => ?_) | simp only [*, push_cast, simprocAttr] | (rw [drawC_ok]; rotate_left; decide +kernel; exact cfg_mixed))
theorem ev_text_some (l : List UInt8) (hl : l.length ≤ 1048576) (i m : Nat) (hi : i ≤ l.length) (hm : m ≤ 7) {s : ByteArray} {b : List UInt8} (h : txtP m (l.drop i) = some (s, b)) : ∃ i' : Nat, i' ≤ l.length ∧ i + m ≤ i' ∧ b = l.drop i' ∧ evF cfg 34 [(0, .box [.d (.s (bs l)), .d (.i .i64 (i : Nat)), .d (.b false)])] [.ptr 0 0, .d (.i .i64 (m : Nat))] = some (.d (.s s), [(0, .box [.d (.s (bs l)), .d (.i .i64 (i' : Nat)), .d (.b false)])]) := by
  cases h0 : takeP m (l.drop i) with
  | none => simp only [txtP, numP, h0, Option.map_none, Option.bind_none] at h; cases h
  | some p =>
    obtain ⟨a, b0⟩ := p
    obtain ⟨h1, h2, h3, h4⟩ := takeP_at h0 hi
    obtain ⟨j, hj⟩ : ∃ j, i + m = j := ⟨_, rfl⟩
    have e1 := ev_size_some l hl i m j hi hj h0
    rw [hj] at h1 h3
    rw [beV_in h4 hm] at e1
    simp only [txtP, numP, h0, Option.map_some, Option.bind_some] at h
    cases ht : takeP (beV a) b0 with
    | none => rw [ht] at h; cases h
    | some q =>
      obtain ⟨a2, b2⟩ := q
      rw [ht] at h
      simp only [Option.map_some, Option.some.injEq, Prod.mk.injEq] at h
      obtain ⟨rfl, rfl⟩ := h
      rw [h3] at ht
      obtain ⟨g1, g2, g3, g4⟩ := takeP_at ht h1
      obtain ⟨k, hk⟩ : ∃ k, j + beV a = k := ⟨_, rfl⟩
      have e2 := ev_take_some l hl j (beV a) k h1 hk ht
      rw [hk] at g1 g3
      refine ⟨k, g1, by omega, g3, ?_⟩
      clear hl hi h0 h1 h2 h3 h4 hm ht g1 g2 g3 g4 hj hk
      (refine (evF_code (C := cfg) (g := 34) (fn := Tryz.f34) rfl Tryz.func34 rfl (by rw [Tryz.ntmps34]; simp) (by kernel_rfl) (by first | decide | simp [keysOf])).trans ?_; rw [Tryz.results34, Tryz.ntmps34])
      repeat' (first | with_reducible refine br_split (fun _ => ?_) (fun _ => ?_) | simp only [*, push_cast, simprocAttr] | (rw [drawC_ok]; rotate_left; decide +kernel; exact cfg_mixed))
theorem ev_value_bad (s : ByteArray) (i : Int) : evF cfg 70 [(0, .box [.d (.s s), .d (.i .i64 i), .d (.b true)])] [.ptr 0 0] = some (.agg [.d (.i .i64 0), .d (.i .i64 0), .d (.s ⟨#[]⟩)], [(0, .box [.d (.s s), .d (.i .i64 i), .d (.b true)])]) := by
  have e1 := ev_size_bad s i 1
  (refine (evF_code (C := cfg) (g := 70) (fn := Tryz.f70) rfl Tryz.func70 rfl (by rw [Tryz.ntmps70]; simp) (by kernel_rfl) (by first | decide | simp [keysOf])).trans ?_; rw [Tryz.results70, Tryz.ntmps70])
  repeat' (first | with_reducible refine br_split (fun _ => ?_) (fun _ => ?_) | simp only [*, push_cast, simprocAttr] | (rw [drawC_ok]; rotate_left; decide +kernel; exact cfg_mixed))
theorem ev_value (l : List UInt8) (hl : l.length ≤ 1048576) (i : Nat) (hi : i ≤ l.length) : ∃ r, evF cfg 70 [(0, .box [.d (.s (bs l)), .d (.i .i64 (i : Nat)), .d (.b false)])] [.ptr 0 0] = some r ∧
    ((∃ (v : V) (i' : Nat), valP (l.drop i) = some (v, l.drop i') ∧ i < i' ∧ i' ≤ l.length ∧ r = (.agg [.d (.i .i64 v.k), .d (.i .i64 v.n), .d (.s v.s)], [(0, .box [.d (.s (bs l)), .d (.i .i64 (i' : Nat)), .d (.b false)])])) ∨
     (valP (l.drop i) = none ∧ ∃ (v : V) (i' : Nat), i' ≤ l.length ∧ r = (.agg [.d (.i .i64 v.k), .d (.i .i64 v.n), .d (.s v.s)], [(0, .box [.d (.s (bs l)), .d (.i .i64 (i' : Nat)), .d (.b true)])]))) := by
  refine exQ fun Q hQ => ?_
  have HQ := Hd.mk hQ; clear hQ
  have one : ((1 : Nat) : Int) = 1 := rfl
  have eight : ((8 : Nat) : Int) = 8 := rfl
  cases h0 : takeP 1 (l.drop i) with
  | none =>
    have e1 := ev_size_none l hl i 1 hi h0
    rw [one] at e1
    have H := Hd.mk (And.intro hi (show valP (l.drop i) = none by unfold valP; rw [h0]; rfl))
    clear hl hi h0
    (refine Eq.mpr (congrArg Q (evF_code (C := cfg) (g := 70) (fn := Tryz.f70) rfl Tryz.func70 rfl (by rw [Tryz.ntmps70]; simp) (by kernel_rfl) (by first | decide | simp [keysOf]))) ?_; rw [Tryz.results70, Tryz.ntmps70])
    repeat' (first | with_reducible refine br_split (fun _ => ?_) (fun _ => ?_) | simp only [*, push_cast, simprocAttr] | (rw [drawC_ok]; rotate_left; decide +kernel; exact cfg_mixed))
    exact HQ.out _ (.inr ⟨H.out.2, ⟨0, 0, ⟨#[]⟩⟩, i, H.out.1, rfl⟩)
  | some p =>
    obtain ⟨a, b⟩ := p
    obtain ⟨h1, h2, h3, h4⟩ := takeP_at h0 hi
    obtain ⟨j, hj⟩ : ∃ j, i + 1 = j := ⟨_, rfl⟩
    have e1 := ev_size_some l hl i 1 j hi hj h0
    rw [hj] at h1 h3
    rw [beV_in h4 (by omega), one] at e1
    have hk : beV a < 256 := by have := beV_lt a; rw [h4] at this; simpa using this
    subst h3
    have hij : i < j := by omega
    by_cases k0 : beV a = 0
    · have hv : valP (l.drop i) = some (⟨0, 0, ⟨#[]⟩⟩, l.drop j) := by
        unfold valP; rw [h0]; simp only [Option.bind_some, k0, if_true]; rfl
      have vo : valueOk ⟨0, 0, ⟨#[]⟩⟩ = true := by decide
      have H := Hd.mk (And.intro h1 (And.intro hv hij))
      rw [k0] at e1
      clear hl hi h0 h1 h2 h4 hv hk k0 hj hij
      (refine Eq.mpr (congrArg Q (evF_code (C := cfg) (g := 70) (fn := Tryz.f70) rfl Tryz.func70 rfl (by rw [Tryz.ntmps70]; simp) (by kernel_rfl) (by first | decide | simp [keysOf]))) ?_; rw [Tryz.results70, Tryz.ntmps70])
      repeat' (first | with_reducible refine br_split (fun _ => ?_) (fun _ => ?_) | simp only [*, push_cast, simprocAttr] | (rw [drawC_ok]; rotate_left; decide +kernel; exact cfg_mixed))
      exact HQ.out _ (.inl ⟨⟨0, 0, ⟨#[]⟩⟩, j, H.out.2.1, H.out.2.2, H.out.1, rfl⟩)
    by_cases k1 : beV a = 1
    · rw [k1, one] at e1
      cases h8 : takeP 8 (l.drop j) with
      | none =>
        have hv : valP (l.drop i) = none := by
          unfold valP; rw [h0]; simp only [Option.bind_some, k1, show ¬ ((1 : Nat) = 0) by decide, if_false, if_true, numP, h8]; rfl
        have e2 := ev_size_none l hl j 8 h1 h8
        rw [eight] at e2
        have H := Hd.mk (And.intro h1 hv)
        clear hl hi h0 h1 h2 h4 hv hk k0 k1 hj hij h8
        (refine Eq.mpr (congrArg Q (evF_code (C := cfg) (g := 70) (fn := Tryz.f70) rfl Tryz.func70 rfl (by rw [Tryz.ntmps70]; simp) (by kernel_rfl) (by first | decide | simp [keysOf]))) ?_; rw [Tryz.results70, Tryz.ntmps70])
        repeat' (first | with_reducible refine br_split (fun _ => ?_) (fun _ => ?_) | simp only [*, push_cast, simprocAttr] | (rw [drawC_ok]; rotate_left; decide +kernel; exact cfg_mixed))
        exact HQ.out _ (.inr ⟨H.out.2, ⟨1, 0, ⟨#[]⟩⟩, j, H.out.1, rfl⟩)
      | some q =>
        obtain ⟨a8, b8⟩ := q
        obtain ⟨g1, g2, g3, g4⟩ := takeP_at h8 h1
        obtain ⟨k, hk8⟩ : ∃ k, j + 8 = k := ⟨_, rfl⟩
        have e2 := ev_size_some l hl j 8 k h1 hk8 h8
        rw [hk8] at g1 g3
        rw [eight] at e2
        have vo : valueOk ⟨1, w64 (beV a8 : Nat), ⟨#[]⟩⟩ = true := by simp [valueOk]
        have hv : valP (l.drop i) = some (⟨1, w64 (beV a8 : Nat), ⟨#[]⟩⟩, l.drop k) := by
          unfold valP; rw [h0]; simp only [Option.bind_some, k1, show ¬ ((1 : Nat) = 0) by decide, if_false, if_true, numP, h8, Option.map_some, vo, g3]
        have H := Hd.mk (And.intro g1 (And.intro hv (show i < k by omega)))
        clear hl hi h0 h1 h2 h4 hv hk k0 k1 hj hij h8 g1 g2 g3 g4 hk8
        (refine Eq.mpr (congrArg Q (evF_code (C := cfg) (g := 70) (fn := Tryz.f70) rfl Tryz.func70 rfl (by rw [Tryz.ntmps70]; simp) (by kernel_rfl) (by first | decide | simp [keysOf]))) ?_; rw [Tryz.results70, Tryz.ntmps70])
        repeat' (first | with_reducible refine br_split (fun _ => ?_) (fun _ => ?_) | simp only [*, push_cast, simprocAttr] | (rw [drawC_ok]; rotate_left; decide +kernel; exact cfg_mixed))
        exact HQ.out _ (.inl ⟨⟨1, w64 (beV a8 : Nat), ⟨#[]⟩⟩, k, H.out.2.1, H.out.2.2, H.out.1, rfl⟩)
    by_cases k2 : beV a = 2
    · rw [k2, show ((2 : Nat) : Int) = 2 from rfl] at e1
      cases h8 : takeP 1 (l.drop j) with
      | none =>
        have hv : valP (l.drop i) = none := by
          unfold valP; rw [h0]; simp only [Option.bind_some, k2, show ¬ ((2 : Nat) = 0) by decide, show ¬ ((2 : Nat) = 1) by decide, if_false, if_true, numP, h8]; rfl
        have e2 := ev_size_none l hl j 1 h1 h8
        rw [one] at e2
        have H := Hd.mk (And.intro h1 hv)
        clear hl hi h0 h1 h2 h4 hv hk k0 k1 k2 hj hij h8
        (refine Eq.mpr (congrArg Q (evF_code (C := cfg) (g := 70) (fn := Tryz.f70) rfl Tryz.func70 rfl (by rw [Tryz.ntmps70]; simp) (by kernel_rfl) (by first | decide | simp [keysOf]))) ?_; rw [Tryz.results70, Tryz.ntmps70])
        repeat' (first | with_reducible refine br_split (fun _ => ?_) (fun _ => ?_) | simp only [*, push_cast, simprocAttr] | (rw [drawC_ok]; rotate_left; decide +kernel; exact cfg_mixed))
        exact HQ.out _ (.inr ⟨H.out.2, ⟨2, 0, ⟨#[]⟩⟩, j, H.out.1, rfl⟩)
      | some q =>
        obtain ⟨a8, b8⟩ := q
        obtain ⟨g1, g2, g3, g4⟩ := takeP_at h8 h1
        obtain ⟨k, hk8⟩ : ∃ k, j + 1 = k := ⟨_, rfl⟩
        have e2 := ev_size_some l hl j 1 k h1 hk8 h8
        rw [hk8] at g1 g3
        rw [beV_in g4 (by omega), one] at e2
        cases vo : valueOk ⟨2, (beV a8 : Nat), ⟨#[]⟩⟩ with
        | true =>
          have hv : valP (l.drop i) = some (⟨2, (beV a8 : Nat), ⟨#[]⟩⟩, l.drop k) := by
            unfold valP; rw [h0]; simp only [Option.bind_some, k2, show ¬ ((2 : Nat) = 0) by decide, show ¬ ((2 : Nat) = 1) by decide, if_false, if_true, numP, h8, Option.map_some, vo, g3]
          have H := Hd.mk (And.intro g1 (And.intro hv (show i < k by omega)))
          clear hl hi h0 h1 h2 h4 hv hk k0 k1 k2 hj hij h8 g1 g2 g3 g4 hk8
          (refine Eq.mpr (congrArg Q (evF_code (C := cfg) (g := 70) (fn := Tryz.f70) rfl Tryz.func70 rfl (by rw [Tryz.ntmps70]; simp) (by kernel_rfl) (by first | decide | simp [keysOf]))) ?_; rw [Tryz.results70, Tryz.ntmps70])
          repeat' (first | with_reducible refine br_split (fun _ => ?_) (fun _ => ?_) | simp only [*, push_cast, simprocAttr] | (rw [drawC_ok]; rotate_left; decide +kernel; exact cfg_mixed))
          exact HQ.out _ (.inl ⟨⟨2, (beV a8 : Nat), ⟨#[]⟩⟩, k, H.out.2.1, H.out.2.2, H.out.1, rfl⟩)
        | false =>
          have hv : valP (l.drop i) = none := by
            unfold valP; rw [h0]; simp only [Option.bind_some, k2, show ¬ ((2 : Nat) = 0) by decide, show ¬ ((2 : Nat) = 1) by decide, if_false, if_true, numP, h8, Option.map_some, vo, Bool.false_eq_true]
          have H := Hd.mk (And.intro g1 hv)
          clear hl hi h0 h1 h2 h4 hv hk k0 k1 k2 hj hij h8 g1 g2 g3 g4 hk8
          (refine Eq.mpr (congrArg Q (evF_code (C := cfg) (g := 70) (fn := Tryz.f70) rfl Tryz.func70 rfl (by rw [Tryz.ntmps70]; simp) (by kernel_rfl) (by first | decide | simp [keysOf]))) ?_; rw [Tryz.results70, Tryz.ntmps70])
          repeat' (first | with_reducible refine br_split (fun _ => ?_) (fun _ => ?_) | simp only [*, push_cast, simprocAttr] | (rw [drawC_ok]; rotate_left; decide +kernel; exact cfg_mixed))
          exact HQ.out _ (.inr ⟨H.out.2, ⟨2, (beV a8 : Nat), ⟨#[]⟩⟩, k, H.out.1, rfl⟩)
    by_cases k3 : beV a = 3
    · rw [k3, show ((3 : Nat) : Int) = 3 from rfl] at e1
      cases h8 : takeP 1 (l.drop j) with
      | none =>
        have hv : valP (l.drop i) = none := by
          unfold valP; rw [h0]; simp only [Option.bind_some, k3, show ¬ ((3 : Nat) = 0) by decide, show ¬ ((3 : Nat) = 1) by decide, show ¬ ((3 : Nat) = 2) by decide, if_false, if_true, txtP, numP, h8]; rfl
        have e2 := ev_size_none l hl j 1 h1 h8
        rw [one] at e2
        have e3 := ev_take_bad (bs l) j 0
        have H := Hd.mk (And.intro h1 hv)
        clear hl hi h0 h1 h2 h4 hv hk k0 k1 k2 k3 hj hij h8
        (refine Eq.mpr (congrArg Q (evF_code (C := cfg) (g := 70) (fn := Tryz.f70) rfl Tryz.func70 rfl (by rw [Tryz.ntmps70]; simp) (by kernel_rfl) (by first | decide | simp [keysOf]))) ?_; rw [Tryz.results70, Tryz.ntmps70])
        repeat' (first | with_reducible refine br_split (fun _ => ?_) (fun _ => ?_) | simp only [*, push_cast, simprocAttr] | (rw [drawC_ok]; rotate_left; decide +kernel; exact cfg_mixed))
        exact HQ.out _ (.inr ⟨H.out.2, ⟨3, 0, ⟨#[]⟩⟩, j, H.out.1, rfl⟩)
      | some q =>
        obtain ⟨a8, b8⟩ := q
        obtain ⟨g1, g2, g3, g4⟩ := takeP_at h8 h1
        obtain ⟨k, hk8⟩ : ∃ k, j + 1 = k := ⟨_, rfl⟩
        have e2 := ev_size_some l hl j 1 k h1 hk8 h8
        rw [hk8] at g1 g3
        rw [beV_in g4 (by omega), one] at e2
        cases h9 : takeP (beV a8) (l.drop k) with
        | none =>
          have hv : valP (l.drop i) = none := by
            unfold valP; rw [h0]; simp only [Option.bind_some, k3, show ¬ ((3 : Nat) = 0) by decide, show ¬ ((3 : Nat) = 1) by decide, show ¬ ((3 : Nat) = 2) by decide, if_false, if_true, txtP, numP, h8, Option.map_some, g3, h9]; rfl
          have e3 := ev_take_none l hl k (beV a8) g1 h9
          have H := Hd.mk (And.intro g1 hv)
          clear hl hi h0 h1 h2 h4 hv hk k0 k1 k2 k3 hj hij h8 h9 g1 g2 g3 g4 hk8
          (refine Eq.mpr (congrArg Q (evF_code (C := cfg) (g := 70) (fn := Tryz.f70) rfl Tryz.func70 rfl (by rw [Tryz.ntmps70]; simp) (by kernel_rfl) (by first | decide | simp [keysOf]))) ?_; rw [Tryz.results70, Tryz.ntmps70])
          repeat' (first | with_reducible refine br_split (fun _ => ?_) (fun _ => ?_) | simp only [*, push_cast, simprocAttr] | (rw [drawC_ok]; rotate_left; decide +kernel; exact cfg_mixed))
          exact HQ.out _ (.inr ⟨H.out.2, ⟨3, 0, ⟨#[]⟩⟩, k, H.out.1, rfl⟩)
        | some q =>
          obtain ⟨a9, b9⟩ := q
          obtain ⟨f1, f2, f3, f4⟩ := takeP_at h9 g1
          obtain ⟨m, hm9⟩ : ∃ m, k + beV a8 = m := ⟨_, rfl⟩
          have e3 := ev_take_some l hl k (beV a8) m g1 hm9 h9
          rw [hm9] at f1 f3
          cases vo : valueOk ⟨3, 0, bs a9⟩ with
          | true =>
            have hv : valP (l.drop i) = some (⟨3, 0, bs a9⟩, l.drop m) := by
              unfold valP; rw [h0]; simp only [Option.bind_some, k3, show ¬ ((3 : Nat) = 0) by decide, show ¬ ((3 : Nat) = 1) by decide, show ¬ ((3 : Nat) = 2) by decide, if_false, if_true, txtP, numP, h8, Option.map_some, g3, h9, vo, f3]
            have H := Hd.mk (And.intro f1 (And.intro hv (show i < m by omega)))
            clear hl hi h0 h1 h2 h4 hv hk k0 k1 k2 k3 hj hij h8 h9 g1 g2 g3 g4 hk8 f1 f2 f3 f4 hm9
            (refine Eq.mpr (congrArg Q (evF_code (C := cfg) (g := 70) (fn := Tryz.f70) rfl Tryz.func70 rfl (by rw [Tryz.ntmps70]; simp) (by kernel_rfl) (by first | decide | simp [keysOf]))) ?_; rw [Tryz.results70, Tryz.ntmps70])
            repeat' (first | with_reducible refine br_split (fun _ => ?_) (fun _ => ?_) | simp only [*, push_cast, simprocAttr] | (rw [drawC_ok]; rotate_left; decide +kernel; exact cfg_mixed))
            exact HQ.out _ (.inl ⟨⟨3, 0, bs a9⟩, m, H.out.2.1, H.out.2.2, H.out.1, rfl⟩)
          | false =>
            have hv : valP (l.drop i) = none := by
              unfold valP; rw [h0]; simp only [Option.bind_some, k3, show ¬ ((3 : Nat) = 0) by decide, show ¬ ((3 : Nat) = 1) by decide, show ¬ ((3 : Nat) = 2) by decide, if_false, if_true, txtP, numP, h8, Option.map_some, g3, h9, vo, Bool.false_eq_true]
            have H := Hd.mk (And.intro f1 hv)
            clear hl hi h0 h1 h2 h4 hv hk k0 k1 k2 k3 hj hij h8 h9 g1 g2 g3 g4 hk8 f1 f2 f3 f4 hm9
            (refine Eq.mpr (congrArg Q (evF_code (C := cfg) (g := 70) (fn := Tryz.f70) rfl Tryz.func70 rfl (by rw [Tryz.ntmps70]; simp) (by kernel_rfl) (by first | decide | simp [keysOf]))) ?_; rw [Tryz.results70, Tryz.ntmps70])
            repeat' (first | with_reducible refine br_split (fun _ => ?_) (fun _ => ?_) | simp only [*, push_cast, simprocAttr] | (rw [drawC_ok]; rotate_left; decide +kernel; exact cfg_mixed))
            exact HQ.out _ (.inr ⟨H.out.2, ⟨3, 0, bs a9⟩, m, H.out.1, rfl⟩)
    · have vo : valueOk ⟨(beV a : Nat), 0, ⟨#[]⟩⟩ = false := by
        simp only [valueOk]
        rw [if_neg (by omega), if_neg (by omega), if_neg (by omega), if_neg (by omega)]
      have hv : valP (l.drop i) = none := by
        unfold valP; rw [h0]; simp only [Option.bind_some, k0, k1, k2, k3, if_false]; rfl
      have q1 : ((beV a : Int) == 1) = false := by rw [beq_eq_false_iff_ne]; omega
      have q2 : ((beV a : Int) == 2) = false := by rw [beq_eq_false_iff_ne]; omega
      have q3 : ((beV a : Int) == 3) = false := by rw [beq_eq_false_iff_ne]; omega
      have H := Hd.mk (And.intro h1 hv)
      clear hl hi h0 h1 h2 h4 hv hk k0 k1 k2 k3 hj hij
      (refine Eq.mpr (congrArg Q (evF_code (C := cfg) (g := 70) (fn := Tryz.f70) rfl Tryz.func70 rfl (by rw [Tryz.ntmps70]; simp) (by kernel_rfl) (by first | decide | simp [keysOf]))) ?_; rw [Tryz.results70, Tryz.ntmps70])
      repeat' (first | with_reducible refine br_split (fun _ => ?_) (fun _ => ?_) | simp only [*, push_cast, simprocAttr] | (rw [drawC_ok]; rotate_left; decide +kernel; exact cfg_mixed))
      exact HQ.out _ (.inr ⟨H.out.2, ⟨(beV a : Nat), 0, ⟨#[]⟩⟩, j, H.out.1, rfl⟩)
end Go.Av
end
section
namespace Go.Av
open Go.Proofs
set_option linter.unusedSimpArgs false
theorem bs_get {l : List UInt8} {i : Nat} (h : i < l.length) : (bs l)[i]? = some l[i] := by
  have hg0 := ba_get (bs l)
  have hbl : (bs l).data.toList = l := by simp [bs]
  rw [hbl] at hg0
  rw [hg0, List.getElem?_eq_getElem h]
theorem ev_l10Num_bad (s : ByteArray) (n : Int) : evF cfg 30 [] [.d (.s s), .d (.i .i64 (-1)), .d (.i .i64 n)] = some (.tup [.d (.i .i64 0), .d (.i .i64 (-1))], []) := by
  have c1 : decide ((-1 : Int) < 0) = true := rfl
  (refine (evF_code (C := cfg) (g := 30) (fn := Tryz.f30) rfl Tryz.func30 rfl (by rw [Tryz.ntmps30]; simp) (by kernel_rfl) (by first | decide | simp [keysOf])).trans ?_; rw [Tryz.results30, Tryz.ntmps30])
  repeat' (first | with_reducible refine br_split (fun _ => ?_) (fun _ => ?_) | simp only [*, push_cast, simprocAttr] | (rw [drawC_ok]; rotate_left; decide +kernel; exact cfg_mixed))
theorem ev_l10Num_none (l : List UInt8) (hl : l.length ≤ 1048576) (i n : Nat) (hi : i ≤ l.length) (h : takeP n (l.drop i) = none) : evF cfg 30 [] [.d (.s (bs l)), .d (.i .i64 (i : Nat)), .d (.i .i64 (n : Nat))] = some (.tup [.d (.i .i64 0), .d (.i .i64 (-1))], []) := by
  have h1 := takeP_not h
  have c0 : decide ((i : Int) < 0) = false := decide_eq_false (by omega)
  have w1 : IntKind.i64.wrap ((l.length : Int) - (i : Int)) = (l.length : Int) - (i : Int) := i64_in (by omega) (by omega)
  have c1 : decide ((n : Int) > (l.length : Int) - (i : Int)) = true := decide_eq_true (by omega)
  have hz := bs_size l
  clear hl hi h h1
  (refine (evF_code (C := cfg) (g := 30) (fn := Tryz.f30) rfl Tryz.func30 rfl (by rw [Tryz.ntmps30]; simp) (by kernel_rfl) (by first | decide | simp [keysOf])).trans ?_; rw [Tryz.results30, Tryz.ntmps30])
  repeat' (first | with_reducible refine br_split (fun _ => ?_) (fun _ => ?_) | simp only [*, push_cast, simprocAttr] | (rw [drawC_ok]; rotate_left; decide +kernel; exact cfg_mixed))
theorem ev_l10Num_some (l : List UInt8) (hl : l.length ≤ 1048576) (i n j : Nat) (hi : i ≤ l.length) (hj : i + n = j) (hn : n ≤ 7) {a b : List UInt8} (h : takeP n (l.drop i) = some (a, b)) : evF cfg 30 [] [.d (.s (bs l)), .d (.i .i64 (i : Nat)), .d (.i .i64 (n : Nat))] = some (.tup [.d (.i .i64 (beV a : Nat)), .d (.i .i64 (j : Nat))], []) := by
  obtain ⟨h1, h2, -, h4⟩ := takeP_at h hi
  have c0 : decide ((i : Int) < 0) = false := decide_eq_false (by omega)
  have w1 : IntKind.i64.wrap ((l.length : Int) - (i : Int)) = (l.length : Int) - (i : Int) := i64_in (by omega) (by omega)
  have c1 : decide ((n : Int) > (l.length : Int) - (i : Int)) = false := decide_eq_false (by omega)
  have w2 : IntKind.i64.wrap ((i : Int) + (n : Int)) = (j : Int) := by rw [i64_in (by omega) (by omega)]; omega
  have hz := bs_size l
  have H := Hd.mk (And.intro hl (And.intro h1 (And.intro h2 (And.intro h4 hn))))
  clear hl hi h h1 h2 h4 hn hj
  (refine (evF_code (C := cfg) (g := 30) (fn := Tryz.f30) rfl Tryz.func30 rfl (by rw [Tryz.ntmps30]; simp) (by kernel_rfl) (by first | decide | simp [keysOf])).trans ?_; rw [Tryz.results30, Tryz.ntmps30])
  repeat' (first | with_reducible refine br_split (fun _ => ?_) (fun _ => ?_) | simp only [*, push_cast, simprocAttr] | (rw [drawC_ok]; rotate_left; decide +kernel; exact cfg_mixed))
  rw [show ({ t := [(0, .d (.s (bs l))), (1, .d (.i .i64 (i : Nat))), (2, .d (.i .i64 (n : Nat))), (8, .d (.i .i64 0)), (9, .d (.i .i64 0))], o := [], ks := [], n := 0, sz := 38, u := noU } : St) = { t := [(0, .d (.s (bs l))), (1, .d (.i .i64 (i : Nat))), (2, .d (.i .i64 (n : Nat))), (8, .d (.i .i64 (beV (a.take 0) : Nat))), (9, .d (.i .i64 0))], o := [], ks := [], n := 0, sz := 38, u := noU } from rfl]
  rw [evM_for0 n (fun k q => { t := [(0, .d (.s (bs l))), (1, .d (.i .i64 (i : Nat))), (2, .d (.i .i64 (n : Nat))), (8, .d (.i .i64 (beV (a.take k) : Nat))), (9, .d (.i .i64 q))], o := [], ks := [], n := 0, sz := 38, u := noU }) (fun k => some (.exit 0, { t := [(1, .d (.i .i64 (i : Nat))), (2, .d (.i .i64 (n : Nat))), (8, .d (.i .i64 (beV a : Nat)))], o := [], ks := [], n := 0, sz := 38, u := noU })) ?step ?last]
  case step =>
    intro k hk ih
    obtain ⟨hl, h1, h2, h4, hn⟩ := H.out
    have hd := dec_lt hk
    have hw := wrap_succ (i := k) (by omega)
    obtain ⟨m, hm⟩ : ∃ m, i + k = m := ⟨_, rfl⟩
    have w3 : IntKind.i64.wrap ((i : Int) + (k : Int)) = (m : Int) := by rw [i64_in (by omega) (by omega)]; omega
    have hml : m < l.length := by omega
    have hg := bs_get hml
    have hb1 := dec_lt hml
    have hka : k < a.length := by omega
    have hav : a[k] = l[m] := by
      have : a[k]? = l[m]? := by
        rw [h2, List.getElem?_take, if_pos hk, List.getElem?_drop, hm]
      rw [List.getElem?_eq_getElem hka, List.getElem?_eq_getElem hml] at this
      exact Option.some.inj this
    have hlt : beV (a.take k) < 281474976710656 := by
      have h := beV_lt (a.take k)
      have h6 : 256 ^ (a.take k).length ≤ 256 ^ 6 := Nat.pow_le_pow_right (by omega) (by rw [List.length_take]; omega)
      have : (256 : Nat) ^ 6 = 281474976710656 := by decide
      omega
    have hb2 := l[m].toNat_lt
    have w4 : IntKind.i64.wrap ((l[m].toNat : Nat) : Int) = ((l[m].toNat : Nat) : Int) := i64_in (by omega) (by omega)
    have w5 : IntKind.i64.wrap (256 * ((beV (a.take k) : Nat) : Int)) = 256 * ((beV (a.take k) : Nat) : Int) := i64_in (by omega) (by omega)
    have w6 : IntKind.i64.wrap (256 * ((beV (a.take k) : Nat) : Int) + ((l[m].toNat : Nat) : Int)) = ((beV (a.take (k + 1)) : Nat) : Int) := by
      rw [List.take_succ_eq_append_getElem hka, beV_snoc, hav, i64_in (by omega) (by omega), Int.natCast_add, Int.natCast_mul]
      rfl
    clear hl h1 h2 h4 hn hka hav hlt hb2 H hm
    repeat' (first | with_reducible refine br_split (fun _ => ?_) (fun _ => ?_) | simp only [*, push_cast, simprocAttr] | (rw [drawC_ok]; rotate_left; decide +kernel; exact cfg_mixed))
  case last =>
    obtain ⟨hl, h1, h2, h4, hn⟩ := H.out
    have ht : a.take n = a := by rw [← h4]; exact List.take_length
    clear hl h1 h2 h4 hn H
    repeat' (first | with_reducible refine br_split (fun _ => ?_) (fun _ => ?_) | simp only [*, push_cast, simprocAttr] | (rw [drawC_ok]; rotate_left; decide +kernel; exact cfg_mixed))
  clear H
  repeat' (first | with_reducible refine br_split (fun _ => ?_) (fun _ => ?_) | simp only [*, push_cast, simprocAttr] | (rw [drawC_ok]; rotate_left; decide +kernel; exact cfg_mixed))
end Go.Av
end
section
namespace Go.Av
open Go.Proofs
set_option linter.unusedSimpArgs false
theorem ev_l10Get_bad (s : ByteArray) (n : Int) : evF cfg 31 [] [.d (.s s), .d (.i .i64 (-1)), .d (.i .i64 n)] = some (.tup [.d (.s ⟨#[]⟩), .d (.i .i64 (-1))], []) := by
  have e1 := ev_l10Num_bad s n
  have c1 : decide ((-1 : Int) < 0) = true := rfl
  (refine (evF_code (C := cfg) (g := 31) (fn := Tryz.f31) rfl Tryz.func31 rfl (by rw [Tryz.ntmps31]; simp) (by kernel_rfl) (by first | decide | simp [keysOf])).trans ?_; rw [Tryz.results31, Tryz.ntmps31])
  repeat' (first | with_reducible refine br_split (fun _ => ?_) (fun _ => ?_) | simp only [*, push_cast, simprocAttr] | (rw [drawC_ok]; rotate_left; decide +kernel; exact cfg_mixed))
theorem ev_l10Get_none (l : List UInt8) (hl : l.length ≤ 1048576) (i m : Nat) (hi : i ≤ l.length) (hm : m ≤ 7) (h : txtP m (l.drop i) = none) : evF cfg 31 [] [.d (.s (bs l)), .d (.i .i64 (i : Nat)), .d (.i .i64 (m : Nat))] = some (.tup [.d (.s ⟨#[]⟩), .d (.i .i64 (-1))], []) := by
  cases h0 : takeP m (l.drop i) with
  | none =>
    have e1 := ev_l10Num_none l hl i m hi h0
    have c1 : decide ((-1 : Int) < 0) = true := rfl
    clear hl hi h h0 hm
    (refine (evF_code (C := cfg) (g := 31) (fn := Tryz.f31) rfl Tryz.func31 rfl (by rw [Tryz.ntmps31]; simp) (by kernel_rfl) (by first | decide | simp [keysOf])).trans ?_; rw [Tryz.results31, Tryz.ntmps31])
    repeat' (first | with_reducible refine br_split (fun _ => ?_) (fun _ => ?_) | simp only [*, push_cast, simprocAttr] | (rw [drawC_ok]; rotate_left; decide +kernel; exact cfg_mixed))
  | some p =>
    obtain ⟨a, b⟩ := p
    obtain ⟨h1, h2, h3, h4⟩ := takeP_at h0 hi
    obtain ⟨j, hj⟩ : ∃ j, i + m = j := ⟨_, rfl⟩
    have e1 := ev_l10Num_some l hl i m j hi hj hm h0
    rw [hj] at h1 h3
    have hn : takeP (beV a) (l.drop j) = none := by
      rw [← h3]
      simp only [txtP, numP, h0, Option.map_some, Option.bind_some] at h
      cases ht : takeP (beV a) b with
      | none => rfl
      | some q => rw [ht] at h; cases h
    have h5 := takeP_not hn
    have hz := bs_size l
    have c0 : decide ((j : Int) < 0) = false := decide_eq_false (by omega)
    have w1 : IntKind.i64.wrap ((l.length : Int) - (j : Int)) = (l.length : Int) - (j : Int) := i64_in (by omega) (by omega)
    have c1 : decide (((beV a : Nat) : Int) > (l.length : Int) - (j : Int)) = true := decide_eq_true (by omega)
    clear hl hi h h0 h1 h2 h3 h4 hn hm hj h5
    (refine (evF_code (C := cfg) (g := 31) (fn := Tryz.f31) rfl Tryz.func31 rfl (by rw [Tryz.ntmps31]; simp) (by kernel_rfl) (by first | decide | simp [keysOf])).trans ?_; rw [Tryz.results31, Tryz.ntmps31])
    repeat' (first | with_reducible refine br_split (fun _ => ?_) (fun _ => ?_) | simp only [*, push_cast, simprocAttr] | (rw [drawC_ok]; rotate_left; decide +kernel; exact cfg_mixed))
theorem ev_l10Get_some (l : List UInt8) (hl : l.length ≤ 1048576) (i m : Nat) (hi : i ≤ l.length) (hm : m ≤ 7) {s : ByteArray} {b : List UInt8} (h : txtP m (l.drop i) = some (s, b)) : ∃ i' : Nat, i' ≤ l.length ∧ i + m ≤ i' ∧ b = l.drop i' ∧ evF cfg 31 [] [.d (.s (bs l)), .d (.i .i64 (i : Nat)), .d (.i .i64 (m : Nat))] = some (.tup [.d (.s s), .d (.i .i64 (i' : Nat))], []) := by
  cases h0 : takeP m (l.drop i) with
  | none => simp only [txtP, numP, h0, Option.map_none, Option.bind_none] at h; cases h
  | some p =>
    obtain ⟨a, b0⟩ := p
    obtain ⟨h1, h2, h3, h4⟩ := takeP_at h0 hi
    obtain ⟨j, hj⟩ : ∃ j, i + m = j := ⟨_, rfl⟩
    have e1 := ev_l10Num_some l hl i m j hi hj hm h0
    rw [hj] at h1 h3
    simp only [txtP, numP, h0, Option.map_some, Option.bind_some] at h
    cases ht : takeP (beV a) b0 with
    | none => rw [ht] at h; cases h
    | some q =>
      obtain ⟨a2, b2⟩ := q
      rw [ht] at h
      simp only [Option.map_some, Option.some.injEq, Prod.mk.injEq] at h
      obtain ⟨rfl, rfl⟩ := h
      rw [h3] at ht
      obtain ⟨g1, g2, g3, g4⟩ := takeP_at ht h1
      obtain ⟨k, hk⟩ : ∃ k, j + beV a = k := ⟨_, rfl⟩
      rw [hk] at g1 g3
      refine ⟨k, g1, by omega, g3, ?_⟩
      have hz := bs_size l
      have c0 : decide ((j : Int) < 0) = false := decide_eq_false (by omega)
      have w1 : IntKind.i64.wrap ((l.length : Int) - (j : Int)) = (l.length : Int) - (j : Int) := i64_in (by omega) (by omega)
      have c1 : decide (((beV a : Nat) : Int) > (l.length : Int) - (j : Int)) = false := decide_eq_false (by omega)
      have w2 : IntKind.i64.wrap ((j : Int) + ((beV a : Nat) : Int)) = (k : Int) := by rw [i64_in (by omega) (by omega)]; omega
      have c2 : decide (0 ≤ (j : Int) ∧ (j : Int) ≤ (k : Int) ∧ (k : Int) ≤ (l.length : Int)) = true := decide_eq_true (by omega)
      have c3 : decide ((j : Int) ≤ (k : Int) ∧ (k : Int) ≤ (l.length : Int)) = true := decide_eq_true (by omega)
      have hx := bs_extract l j k
      have ha : (l.take k).drop j = a2 := by rw [g2, List.drop_take]; congr 1; omega
      rw [ha] at hx
      clear hl hi h0 h1 h2 h3 h4 hm ht g1 g2 g3 g4 hj hk ha
      (refine (evF_code (C := cfg) (g := 31) (fn := Tryz.f31) rfl Tryz.func31 rfl (by rw [Tryz.ntmps31]; simp) (by kernel_rfl) (by first | decide | simp [keysOf])).trans ?_; rw [Tryz.results31, Tryz.ntmps31])
      repeat' (first | with_reducible refine br_split (fun _ => ?_) (fun _ => ?_) | simp only [*, push_cast, simprocAttr] | (rw [drawC_ok]; rotate_left; decide +kernel; exact cfg_mixed))
theorem ev_GetValue_end (l : List UInt8) (hl : l.length ≤ 1048576) : evF cfg 68 [] [.d (.s (bs l)), .d (.i .i64 (l.length : Nat))] = some (.tup [.agg [.d (.i .i64 0), .d (.i .i64 0), .d (.s ⟨#[]⟩)], .d (.i .i64 (-1))], []) := by
  have hz := bs_size l
  have w1 : IntKind.i64.wrap ((l.length : Int) - 1) = (l.length : Int) - 1 := i64_in (by omega) (by omega)
  have c1 : decide ((l.length : Int) ≤ (l.length : Int) - 1) = false := decide_eq_false (by omega)
  clear hl
  (refine (evF_code (C := cfg) (g := 68) (fn := Tryz.f68) rfl Tryz.func68 rfl (by rw [Tryz.ntmps68]; simp) (by kernel_rfl) (by first | decide | simp [keysOf])).trans ?_; rw [Tryz.results68, Tryz.ntmps68])
  repeat' (first | with_reducible refine br_split (fun _ => ?_) (fun _ => ?_) | simp only [*, push_cast, simprocAttr] | (rw [drawC_ok]; rotate_left; decide +kernel; exact cfg_mixed))
end Go.Av
end
section
namespace Go.Av
open Go.Proofs
set_option linter.unusedSimpArgs false
theorem takeP1 {l : List UInt8} {i : Nat} (h : i < l.length) : takeP 1 (l.drop i) = some ([l[i]], l.drop (i + 1)) := by
  unfold takeP
  rw [List.drop_eq_getElem_cons h, if_pos (by rw [List.length_cons]; omega)]
  rfl
theorem beV1 (x : UInt8) : beV [x] = x.toNat := by simp [beV]
set_option maxHeartbeats 4000000 in
theorem ev_GetValue (l : List UInt8) (hl : l.length ≤ 1048576) (i : Nat) (hi : i < l.length) : ∃ r, evF cfg 68 [] [.d (.s (bs l)), .d (.i .i64 (i : Nat))] = some r ∧
    ((∃ (v : V) (k : Nat), valP (l.drop i) = some (v, l.drop k) ∧ i < k ∧ k ≤ l.length ∧ r = (.tup [.agg [.d (.i .i64 v.k), .d (.i .i64 v.n), .d (.s v.s)], .d (.i .i64 (k : Nat))], [])) ∨
     (valP (l.drop i) = none ∧ r = (.tup [.agg [.d (.i .i64 0), .d (.i .i64 0), .d (.s ⟨#[]⟩)], .d (.i .i64 (-1))], []))) := by
  refine exQ fun Q hQ => ?_
  have HQ := Hd.mk hQ; clear hQ
  have hz := bs_size l
  have h0 := takeP1 hi
  have w1 : IntKind.i64.wrap ((l.length : Int) - 1) = (l.length : Int) - 1 := i64_in (by omega) (by omega)
  have c0 : decide (0 ≤ (i : Int)) = true := decide_eq_true (by omega)
  have c1 : decide ((i : Int) ≤ (l.length : Int) - 1) = true := decide_eq_true (by omega)
  have hg := bs_get hi
  have hb1 := dec_lt hi
  have hx := l[i].toNat_lt
  have w2 : IntKind.i64.wrap ((l[i].toNat : Nat) : Int) = ((l[i].toNat : Nat) : Int) := i64_in (by omega) (by omega)
  have w3 : IntKind.i64.wrap ((l.length : Int) - (i : Int)) = (l.length : Int) - (i : Int) := i64_in (by omega) (by omega)
  have hv0 : ∀ r, (takeP 1 (l.drop i) = some ([l[i]], l.drop (i + 1)) → valP (l.drop i) = r) → valP (l.drop i) = r := fun r f => f h0
  by_cases k0 : l[i].toNat = 0
  · have hv : valP (l.drop i) = some (⟨0, 0, ⟨#[]⟩⟩, l.drop (i + 1)) := by
      unfold valP; rw [h0]; simp only [Option.bind_some, beV1, k0, if_true]; rfl
    have vo : valueOk ⟨0, 0, ⟨#[]⟩⟩ = true := by decide
    have w4 : IntKind.i64.wrap ((i : Int) + 1) = (i : Int) + 1 := i64_in (by omega) (by omega)
    have H := Hd.mk (And.intro hi hv)
    rw [k0] at w2
    clear hl h0 hv0 hv hx
    (refine Eq.mpr (congrArg Q (evF_code (C := cfg) (g := 68) (fn := Tryz.f68) rfl Tryz.func68 rfl (by rw [Tryz.ntmps68]; simp) (by kernel_rfl) (by first | decide | simp [keysOf]))) ?_; rw [Tryz.results68, Tryz.ntmps68])
    repeat' (first | with_reducible refine br_split (fun _ => ?_) (fun _ => ?_) | simp only [*, push_cast, simprocAttr] | (rw [drawC_ok]; rotate_left; decide +kernel; exact cfg_mixed))
    exact HQ.out _ (.inl ⟨⟨0, 0, ⟨#[]⟩⟩, i + 1, H.out.2, by omega, H.out.1, rfl⟩)
  by_cases k1 : l[i].toNat = 1
  · have e1 : (((l[i].toNat : Nat) : Int) == 1) = true := by rw [k1]; rfl
    by_cases h9 : i + 9 ≤ l.length
    · have c2 : decide ((l.length : Int) - (i : Int) ≥ 9) = true := decide_eq_true (by omega)
      have hdl : 8 ≤ (l.drop (i + 1)).length := by rw [List.length_drop]; omega
      obtain ⟨a, b, h8⟩ : ∃ a b, takeP 8 (l.drop (i + 1)) = some (a, b) := ⟨_, _, by unfold takeP; rw [if_pos hdl]⟩
      obtain ⟨f1, f2, f3, f4⟩ := takeP_at h8 (by omega)
      obtain ⟨t, ht⟩ : ∃ t, i + 9 = t := ⟨_, rfl⟩
      have w5 : IntKind.i64.wrap ((i : Int) + 9) = (t : Int) := by rw [i64_in (by omega) (by omega)]; omega
      have vo : valueOk ⟨1, w64 (beV a : Nat), ⟨#[]⟩⟩ = true := by simp [valueOk]
      have hv : valP (l.drop i) = some (⟨1, w64 (beV a : Nat), ⟨#[]⟩⟩, l.drop t) := by
        unfold valP; rw [h0]; simp only [Option.bind_some, beV1, k1, show ¬ ((1 : Nat) = 0) by decide, if_false, if_true, numP, h8, Option.map_some, vo, f3]
        rw [show i + 1 + 8 = t by omega]
      have H := Hd.mk (And.intro hv (And.intro (show i < t by omega) (show t ≤ l.length by omega)))
      have H2 := Hd.mk (And.intro hl (And.intro h9 (And.intro f2 f4)))
      have e5 : ((l[i].toNat : Nat) : Int) = 1 := by rw [k1]; rfl
      rw [show w64 ((beV a : Nat) : Int) = IntKind.i64.wrap ((beV a : Nat) : Int) from rfl] at vo
      clear hl h0 hv0 hv hx k0 k1 h9 hdl h8 f1 f2 f3 f4 ht
      (refine Eq.mpr (congrArg Q (evF_code (C := cfg) (g := 68) (fn := Tryz.f68) rfl Tryz.func68 rfl (by rw [Tryz.ntmps68]; simp) (by kernel_rfl) (by first | decide | simp [keysOf]))) ?_; rw [Tryz.results68, Tryz.ntmps68])
      repeat' (first | with_reducible refine br_split (fun _ => ?_) (fun _ => ?_) | simp only [*, push_cast, simprocAttr] | (rw [drawC_ok]; rotate_left; decide +kernel; exact cfg_mixed))
      rw [show ({ t := [(0, .d (.s (bs l))), (1, .d (.i .i64 (i : Nat))), (4, .ptr 50 0), (6, .ptr 51 0), (8, .d (.i .u64 0)), (9, .d (.i .i64 1))], o := [(50, .box [.d (.i .i64 0), .d (.i .i64 0), .d (.s ⟨#[]⟩)]), (51, .box [.d (.i .i64 1), .d (.i .i64 0), .d (.s ⟨#[]⟩)])], ks := [50, 51], n := 0, sz := 117, u := noU } : St) = { t := [(0, .d (.s (bs l))), (1, .d (.i .i64 (i : Nat))), (4, .ptr 50 0), (6, .ptr 51 0), (8, .d (.i .u64 (beV (a.take 0) : Nat))), (9, .d (.i .i64 (0 + 1)))], o := [(50, .box [.d (.i .i64 0), .d (.i .i64 0), .d (.s ⟨#[]⟩)]), (51, .box [.d (.i .i64 1), .d (.i .i64 0), .d (.s ⟨#[]⟩)])], ks := [50, 51], n := 0, sz := 117, u := noU } from rfl]
      rw [evM_for0 8 (fun z q => { t := [(0, .d (.s (bs l))), (1, .d (.i .i64 (i : Nat))), (4, .ptr 50 0), (6, .ptr 51 0), (8, .d (.i .u64 (beV (a.take z) : Nat))), (9, .d (.i .i64 (q + 1)))], o := [(50, .box [.d (.i .i64 0), .d (.i .i64 0), .d (.s ⟨#[]⟩)]), (51, .box [.d (.i .i64 1), .d (.i .i64 0), .d (.s ⟨#[]⟩)])], ks := [50, 51], n := 0, sz := 117, u := noU }) (fun z => some (.exit 1, { t := [(1, .d (.i .i64 (i : Nat))), (4, .ptr 50 0), (6, .ptr 51 0), (8, .d (.i .u64 (beV a : Nat)))], o := [(50, .box [.d (.i .i64 0), .d (.i .i64 0), .d (.s ⟨#[]⟩)]), (51, .box [.d (.i .i64 1), .d (.i .i64 0), .d (.s ⟨#[]⟩)])], ks := [50, 51], n := 0, sz := 117, u := noU })) ?step ?last]
      case step =>
        intro z hz8 ih
        obtain ⟨hl, h9, f2, f4⟩ := H2.out
        have hd : decide ((z : Int) + 1 < 9) = true := decide_eq_true (by omega)
        have hw : IntKind.i64.wrap ((z : Int) + 1 + 1) = (z : Int) + 1 + 1 := i64_in (by omega) (by omega)
        obtain ⟨m, hm⟩ : ∃ m, i + 1 + z = m := ⟨_, rfl⟩
        have u3 : IntKind.i64.wrap ((i : Int) + ((z : Int) + 1)) = (m : Int) := by rw [i64_in (by omega) (by omega)]; omega
        have hml : m < l.length := by omega
        have hg2 := bs_get hml
        have hb2 := dec_lt hml
        have hka : z < a.length := by omega
        have hav : a[z] = l[m] := by
          have : a[z]? = l[m]? := by
            rw [f2, List.getElem?_take, if_pos hz8, List.getElem?_drop, hm]
          rw [List.getElem?_eq_getElem hka, List.getElem?_eq_getElem hml] at this
          exact Option.some.inj this
        have hlt : beV (a.take z) < 72057594037927936 := by
          have h := beV_lt (a.take z)
          have h6 : 256 ^ (a.take z).length ≤ 256 ^ 7 := Nat.pow_le_pow_right (by omega) (by rw [List.length_take]; omega)
          have : (256 : Nat) ^ 7 = 72057594037927936 := by decide
          omega
        have hb3 := l[m].toNat_lt
        have u64i : ∀ n : Nat, n < 18446744073709551616 → IntKind.u64.wrap (n : Int) = (n : Int) := fun n h => by rw [u64_wrap, u64_nn h]
        have u4 : IntKind.u64.wrap ((l[m].toNat : Nat) : Int) = ((l[m].toNat : Nat) : Int) := u64i _ (by omega)
        have u5 : IntKind.u64.wrap (256 * ((beV (a.take z) : Nat) : Int)) = 256 * ((beV (a.take z) : Nat) : Int) := by
          have := u64i (256 * beV (a.take z)) (by omega)
          rwa [Int.natCast_mul] at this
        have u6 : IntKind.u64.wrap (256 * ((beV (a.take z) : Nat) : Int) + ((l[m].toNat : Nat) : Int)) = ((beV (a.take (z + 1)) : Nat) : Int) := by
          have h := u64i (256 * beV (a.take z) + l[m].toNat) (by omega)
          rw [List.take_succ_eq_append_getElem hka, beV_snoc, hav]
          rw [Int.natCast_add, Int.natCast_mul] at h ⊢
          exact h
        clear hl h9 f2 f4 hka hav hlt hb3 H2 H hm u64i
        repeat' (first | with_reducible refine br_split (fun _ => ?_) (fun _ => ?_) | simp only [*, push_cast, simprocAttr] | (rw [drawC_ok]; rotate_left; decide +kernel; exact cfg_mixed))
      case last =>
        obtain ⟨hl, h9, f2, f4⟩ := H2.out
        have hta : a.take 8 = a := by rw [← f4]; exact List.take_length
        have hd : decide ((8 : Int) + 1 < 9) = false := rfl
        clear hl h9 f2 f4 H2 H
        repeat' (first | with_reducible refine br_split (fun _ => ?_) (fun _ => ?_) | simp only [*, push_cast, simprocAttr] | (rw [drawC_ok]; rotate_left; decide +kernel; exact cfg_mixed))
      clear H2
      repeat' (first | with_reducible refine br_split (fun _ => ?_) (fun _ => ?_) | simp only [*, push_cast, simprocAttr] | (rw [drawC_ok]; rotate_left; decide +kernel; exact cfg_mixed))
      exact HQ.out _ (.inl ⟨⟨1, w64 (beV a : Nat), ⟨#[]⟩⟩, t, H.out.1, H.out.2.1, H.out.2.2, rfl⟩)
    · have c2 : decide ((l.length : Int) - (i : Int) ≥ 9) = false := decide_eq_false (by omega)
      have e2 : (((l[i].toNat : Nat) : Int) == 2) = false := by rw [k1]; rfl
      have e3 : (((l[i].toNat : Nat) : Int) == 3) = false := by rw [k1]; rfl
      have e4 : (((l[i].toNat : Nat) : Int) != 0) = true := by rw [k1]; rfl
      have hv : valP (l.drop i) = none := by
        have h8 : takeP 8 (l.drop (i + 1)) = none := by unfold takeP; rw [if_neg (by rw [List.length_drop]; omega)]
        unfold valP; rw [h0]; simp only [Option.bind_some, beV1, k1, show ¬ ((1 : Nat) = 0) by decide, if_false, if_true, numP, h8]; rfl
      have H := Hd.mk hv
      clear hl h0 hv0 hv hx k0 k1 h9
      (refine Eq.mpr (congrArg Q (evF_code (C := cfg) (g := 68) (fn := Tryz.f68) rfl Tryz.func68 rfl (by rw [Tryz.ntmps68]; simp) (by kernel_rfl) (by first | decide | simp [keysOf]))) ?_; rw [Tryz.results68, Tryz.ntmps68])
      repeat' (first | with_reducible refine br_split (fun _ => ?_) (fun _ => ?_) | simp only [*, push_cast, simprocAttr] | (rw [drawC_ok]; rotate_left; decide +kernel; exact cfg_mixed))
      exact HQ.out _ (.inr ⟨H.out, rfl⟩)
  by_cases k2 : l[i].toNat = 2
  · have e1 : (((l[i].toNat : Nat) : Int) == 1) = false := by rw [k2]; rfl
    have e2 : (((l[i].toNat : Nat) : Int) == 2) = true := by rw [k2]; rfl
    have e3 : (((l[i].toNat : Nat) : Int) == 3) = false := by rw [k2]; rfl
    have e4 : (((l[i].toNat : Nat) : Int) != 0) = true := by rw [k2]; rfl
    by_cases h9 : i + 2 ≤ l.length
    · have c2 : decide ((l.length : Int) - (i : Int) ≥ 2) = true := decide_eq_true (by omega)
      obtain ⟨m, hm⟩ : ∃ m, i + 1 = m := ⟨_, rfl⟩
      have w4 : IntKind.i64.wrap ((i : Int) + 1) = (m : Int) := by rw [i64_in (by omega) (by omega)]; omega
      obtain ⟨k, hk⟩ : ∃ k, i + 2 = k := ⟨_, rfl⟩
      have w5 : IntKind.i64.wrap ((i : Int) + 2) = (k : Int) := by rw [i64_in (by omega) (by omega)]; omega
      have hml : m < l.length := by omega
      have hg2 := bs_get hml
      have hb2 := dec_lt hml
      have w6 : IntKind.i64.wrap ((l[m].toNat : Nat) : Int) = ((l[m].toNat : Nat) : Int) := by have := l[m].toNat_lt; exact i64_in (by omega) (by omega)
      have h8 := takeP1 hml
      cases vo : valueOk ⟨2, (l[m].toNat : Nat), ⟨#[]⟩⟩ with
      | true =>
        have hv : valP (l.drop i) = some (⟨2, (l[m].toNat : Nat), ⟨#[]⟩⟩, l.drop k) := by
          unfold valP; rw [h0]; simp only [Option.bind_some, beV1, k2, show ¬ ((2 : Nat) = 0) by decide, show ¬ ((2 : Nat) = 1) by decide, if_false, if_true, numP, hm, h8, Option.map_some, vo]
          rw [show m + 1 = k by omega]
        have H := Hd.mk (And.intro hv (And.intro (show i < k by omega) (show k ≤ l.length by omega)))
        have e5 : ((l[i].toNat : Nat) : Int) = 2 := by rw [k2]; rfl
        clear hl h0 hv0 hv hx k0 k1 k2 h9 hm hk h8
        (refine Eq.mpr (congrArg Q (evF_code (C := cfg) (g := 68) (fn := Tryz.f68) rfl Tryz.func68 rfl (by rw [Tryz.ntmps68]; simp) (by kernel_rfl) (by first | decide | simp [keysOf]))) ?_; rw [Tryz.results68, Tryz.ntmps68])
        repeat' (first | with_reducible refine br_split (fun _ => ?_) (fun _ => ?_) | simp only [*, push_cast, simprocAttr] | (rw [drawC_ok]; rotate_left; decide +kernel; exact cfg_mixed))
        exact HQ.out _ (.inl ⟨⟨2, (l[m].toNat : Nat), ⟨#[]⟩⟩, k, H.out.1, H.out.2.1, H.out.2.2, rfl⟩)
      | false =>
        have hv : valP (l.drop i) = none := by
          unfold valP; rw [h0]; simp only [Option.bind_some, beV1, k2, show ¬ ((2 : Nat) = 0) by decide, show ¬ ((2 : Nat) = 1) by decide, if_false, if_true, numP, hm, h8, Option.map_some, vo, Bool.false_eq_true]
        have H := Hd.mk hv
        have e5 : ((l[i].toNat : Nat) : Int) = 2 := by rw [k2]; rfl
        clear hl h0 hv0 hv hx k0 k1 k2 h9 hm hk h8
        (refine Eq.mpr (congrArg Q (evF_code (C := cfg) (g := 68) (fn := Tryz.f68) rfl Tryz.func68 rfl (by rw [Tryz.ntmps68]; simp) (by kernel_rfl) (by first | decide | simp [keysOf]))) ?_; rw [Tryz.results68, Tryz.ntmps68])
        repeat' (first | with_reducible refine br_split (fun _ => ?_) (fun _ => ?_) | simp only [*, push_cast, simprocAttr] | (rw [drawC_ok]; rotate_left; decide +kernel; exact cfg_mixed))
        exact HQ.out _ (.inr ⟨H.out, rfl⟩)
    · have c2 : decide ((l.length : Int) - (i : Int) ≥ 2) = false := decide_eq_false (by omega)
      have hv : valP (l.drop i) = none := by
        have h8 : takeP 1 (l.drop (i + 1)) = none := by unfold takeP; rw [if_neg (by rw [List.length_drop]; omega)]
        unfold valP; rw [h0]; simp only [Option.bind_some, beV1, k2, show ¬ ((2 : Nat) = 0) by decide, show ¬ ((2 : Nat) = 1) by decide, if_false, if_true, numP, h8]; rfl
      have H := Hd.mk hv
      clear hl h0 hv0 hv hx k0 k1 k2 h9
      (refine Eq.mpr (congrArg Q (evF_code (C := cfg) (g := 68) (fn := Tryz.f68) rfl Tryz.func68 rfl (by rw [Tryz.ntmps68]; simp) (by kernel_rfl) (by first | decide | simp [keysOf]))) ?_; rw [Tryz.results68, Tryz.ntmps68])
      repeat' (first | with_reducible refine br_split (fun _ => ?_) (fun _ => ?_) | simp only [*, push_cast, simprocAttr] | (rw [drawC_ok]; rotate_left; decide +kernel; exact cfg_mixed))
      exact HQ.out _ (.inr ⟨H.out, rfl⟩)
  by_cases k3 : l[i].toNat = 3
  · have e1 : (((l[i].toNat : Nat) : Int) == 1) = false := by rw [k3]; rfl
    have e2 : (((l[i].toNat : Nat) : Int) == 2) = false := by rw [k3]; rfl
    have e3 : (((l[i].toNat : Nat) : Int) == 3) = true := by rw [k3]; rfl
    have e4 : (((l[i].toNat : Nat) : Int) != 0) = true := by rw [k3]; rfl
    by_cases h9 : i + 2 ≤ l.length
    · have c2 : decide ((l.length : Int) - (i : Int) ≥ 2) = true := decide_eq_true (by omega)
      obtain ⟨m, hm⟩ : ∃ m, i + 1 = m := ⟨_, rfl⟩
      have w4 : IntKind.i64.wrap ((i : Int) + 1) = (m : Int) := by rw [i64_in (by omega) (by omega)]; omega
      obtain ⟨k, hk⟩ : ∃ k, i + 2 = k := ⟨_, rfl⟩
      have w5 : IntKind.i64.wrap ((i : Int) + 2) = (k : Int) := by rw [i64_in (by omega) (by omega)]; omega
      have hml : m < l.length := by omega
      have hg2 := bs_get hml
      have hb2 := dec_lt hml
      have hy := l[m].toNat_lt
      have w6 : IntKind.i64.wrap ((l[m].toNat : Nat) : Int) = ((l[m].toNat : Nat) : Int) := i64_in (by omega) (by omega)
      have w7 : IntKind.i64.wrap ((l.length : Int) - (i : Int) - 2) = (l.length : Int) - (i : Int) - 2 := i64_in (by omega) (by omega)
      have h8 := takeP1 hml
      cases h7 : takeP l[m].toNat (l.drop k) with
      | none =>
        have h6 := takeP_not h7
        have c3 : decide ((l.length : Int) - (i : Int) - 2 ≥ ((l[m].toNat : Nat) : Int)) = false := decide_eq_false (by omega)
        have hv : valP (l.drop i) = none := by
          unfold valP; rw [h0]; simp only [Option.bind_some, beV1, k3, show ¬ ((3 : Nat) = 0) by decide, show ¬ ((3 : Nat) = 1) by decide, show ¬ ((3 : Nat) = 2) by decide, if_false, if_true, txtP, numP, hm, h8, Option.map_some, show m + 1 = k by omega, h7]; rfl
        have H := Hd.mk hv
        clear hl h0 hv0 hv hx k0 k1 k2 k3 h9 hm hk h8 h7 h6 hy
        (refine Eq.mpr (congrArg Q (evF_code (C := cfg) (g := 68) (fn := Tryz.f68) rfl Tryz.func68 rfl (by rw [Tryz.ntmps68]; simp) (by kernel_rfl) (by first | decide | simp [keysOf]))) ?_; rw [Tryz.results68, Tryz.ntmps68])
        repeat' (first | with_reducible refine br_split (fun _ => ?_) (fun _ => ?_) | simp only [*, push_cast, simprocAttr] | (rw [drawC_ok]; rotate_left; decide +kernel; exact cfg_mixed))
        exact HQ.out _ (.inr ⟨H.out, rfl⟩)
      | some q =>
        obtain ⟨a, b⟩ := q
        obtain ⟨f1, f2, f3, f4⟩ := takeP_at h7 (by omega)
        obtain ⟨t, ht⟩ : ∃ t, k + l[m].toNat = t := ⟨_, rfl⟩
        rw [ht] at f1 f3
        have c3 : decide ((l.length : Int) - (i : Int) - 2 ≥ ((l[m].toNat : Nat) : Int)) = true := decide_eq_true (by omega)
        have w8 : IntKind.i64.wrap (2 + ((l[m].toNat : Nat) : Int)) = 2 + ((l[m].toNat : Nat) : Int) := i64_in (by omega) (by omega)
        have w9 : IntKind.i64.wrap ((i : Int) + (2 + ((l[m].toNat : Nat) : Int))) = (t : Int) := by rw [i64_in (by omega) (by omega)]; omega
        have c4 : decide (0 ≤ (k : Int) ∧ (k : Int) ≤ (t : Int) ∧ (t : Int) ≤ (l.length : Int)) = true := decide_eq_true (by omega)
        have c5 : decide ((k : Int) ≤ (t : Int) ∧ (t : Int) ≤ (l.length : Int)) = true := decide_eq_true (by omega)
        have hxx := bs_extract l k t
        have ha : (l.take t).drop k = a := by rw [f2, List.drop_take]; congr 1; omega
        rw [ha] at hxx
        have e5 : ((l[i].toNat : Nat) : Int) = 3 := by rw [k3]; rfl
        cases vo : valueOk ⟨3, 0, bs a⟩ with
        | true =>
          have hv : valP (l.drop i) = some (⟨3, 0, bs a⟩, l.drop t) := by
            unfold valP; rw [h0]; simp only [Option.bind_some, beV1, k3, show ¬ ((3 : Nat) = 0) by decide, show ¬ ((3 : Nat) = 1) by decide, show ¬ ((3 : Nat) = 2) by decide, if_false, if_true, txtP, numP, hm, h8, Option.map_some, show m + 1 = k by omega, h7, vo, f3]
          have H := Hd.mk (And.intro hv (And.intro (show i < t by omega) f1))
          clear hl h0 hv0 hv hx k0 k1 k2 k3 h9 hm hk h8 h7 f1 f2 f3 f4 ht ha hy
          (refine Eq.mpr (congrArg Q (evF_code (C := cfg) (g := 68) (fn := Tryz.f68) rfl Tryz.func68 rfl (by rw [Tryz.ntmps68]; simp) (by kernel_rfl) (by first | decide | simp [keysOf]))) ?_; rw [Tryz.results68, Tryz.ntmps68])
          repeat' (first | with_reducible refine br_split (fun _ => ?_) (fun _ => ?_) | simp only [*, push_cast, simprocAttr] | (rw [drawC_ok]; rotate_left; decide +kernel; exact cfg_mixed))
          exact HQ.out _ (.inl ⟨⟨3, 0, bs a⟩, t, H.out.1, H.out.2.1, H.out.2.2, rfl⟩)
        | false =>
          have hv : valP (l.drop i) = none := by
            unfold valP; rw [h0]; simp only [Option.bind_some, beV1, k3, show ¬ ((3 : Nat) = 0) by decide, show ¬ ((3 : Nat) = 1) by decide, show ¬ ((3 : Nat) = 2) by decide, if_false, if_true, txtP, numP, hm, h8, Option.map_some, show m + 1 = k by omega, h7, vo, Bool.false_eq_true]
          have H := Hd.mk hv
          clear hl h0 hv0 hv hx k0 k1 k2 k3 h9 hm hk h8 h7 f1 f2 f3 f4 ht ha hy
          (refine Eq.mpr (congrArg Q (evF_code (C := cfg) (g := 68) (fn := Tryz.f68) rfl Tryz.func68 rfl (by rw [Tryz.ntmps68]; simp) (by kernel_rfl) (by first | decide | simp [keysOf]))) ?_; rw [Tryz.results68, Tryz.ntmps68])
          repeat' (first | with_reducible refine br_split (fun _ => ?_) (fun _ => ?_) | simp only [*, push_cast, simprocAttr] | (rw [drawC_ok]; rotate_left; decide +kernel; exact cfg_mixed))
          exact HQ.out _ (.inr ⟨H.out, rfl⟩)
    · have c2 : decide ((l.length : Int) - (i : Int) ≥ 2) = false := decide_eq_false (by omega)
      have hv : valP (l.drop i) = none := by
        have h8 : takeP 1 (l.drop (i + 1)) = none := by unfold takeP; rw [if_neg (by rw [List.length_drop]; omega)]
        unfold valP; rw [h0]; simp only [Option.bind_some, beV1, k3, show ¬ ((3 : Nat) = 0) by decide, show ¬ ((3 : Nat) = 1) by decide, show ¬ ((3 : Nat) = 2) by decide, if_false, if_true, txtP, numP, h8]; rfl
      have H := Hd.mk hv
      clear hl h0 hv0 hv hx k0 k1 k2 k3 h9
      (refine Eq.mpr (congrArg Q (evF_code (C := cfg) (g := 68) (fn := Tryz.f68) rfl Tryz.func68 rfl (by rw [Tryz.ntmps68]; simp) (by kernel_rfl) (by first | decide | simp [keysOf]))) ?_; rw [Tryz.results68, Tryz.ntmps68])
      repeat' (first | with_reducible refine br_split (fun _ => ?_) (fun _ => ?_) | simp only [*, push_cast, simprocAttr] | (rw [drawC_ok]; rotate_left; decide +kernel; exact cfg_mixed))
      exact HQ.out _ (.inr ⟨H.out, rfl⟩)
  · have e1 : (((l[i].toNat : Nat) : Int) == 1) = false := by rw [beq_eq_false_iff_ne]; omega
    have e2 : (((l[i].toNat : Nat) : Int) == 2) = false := by rw [beq_eq_false_iff_ne]; omega
    have e3 : (((l[i].toNat : Nat) : Int) == 3) = false := by rw [beq_eq_false_iff_ne]; omega
    have e4 : (((l[i].toNat : Nat) : Int) != 0) = true := by rw [bne_iff_ne]; omega
    have hv : valP (l.drop i) = none := by
      unfold valP; rw [h0]; simp only [Option.bind_some, beV1, k0, k1, k2, k3, if_false]; rfl
    have H := Hd.mk hv
    clear hl h0 hv0 hv hx k0 k1 k2 k3
    (refine Eq.mpr (congrArg Q (evF_code (C := cfg) (g := 68) (fn := Tryz.f68) rfl Tryz.func68 rfl (by rw [Tryz.ntmps68]; simp) (by kernel_rfl) (by first | decide | simp [keysOf]))) ?_; rw [Tryz.results68, Tryz.ntmps68])
    repeat' (first | with_reducible refine br_split (fun _ => ?_) (fun _ => ?_) | simp only [*, push_cast, simprocAttr] | (rw [drawC_ok]; rotate_left; decide +kernel; exact cfg_mixed))
    exact HQ.out _ (.inr ⟨H.out, rfl⟩)
end Go.Av
end
section
set_option linter.unusedVariables false
namespace Go.Av
theorem pvL_pos {v : V} (h : valueOk v = true) : 0 < (pvL v).length := by
  simp only [pvL, h, if_true, List.length_append, beB_len]
  omega
theorem numV_ok (n : Int) : valueOk (numV n) = true := by simp [numV, valueOk]
structure OkB (b : B) : Prop where
  ok : bagOk b = true
  num : ∀ c ∈ b.rows, ∀ v ∈ c.row, w64 v.n = v.n
theorem OkB.row {b : B} (h : OkB b) {c : C} (hc : c ∈ b.rows) : (c.row.length : Int) = b.w ∧ (∀ v ∈ c.row, valueOk v = true ∧ w64 v.n = v.n) ∧ w64 c.n = c.n := by
  obtain ⟨h1, h2⟩ := bagOk_len h.ok
  have h3 := h2 c hc
  have h4 : okC b.w c = true := by
    have h5 := h.ok
    simp only [bagOk, Bool.and_eq_true, okRows] at h5
    have key : ∀ (l : List C) (p : Option C), okRest b.w p l = true → ∀ c ∈ l, okC b.w c = true := by
      intro l
      induction l with
      | nil => exact fun _ _ c hc => by cases hc
      | cons a l ih =>
        intro p h c hc
        simp only [okRest, Bool.and_eq_true] at h
        rcases List.mem_cons.1 hc with rfl | hc
        · exact h.1.1
        · exact ih _ h.2 c hc
    exact key _ _ h5.2.2 c hc
  simp only [okC, Bool.and_eq_true, beq_iff_eq, List.all_eq_true] at h4
  refine ⟨h4.1.1.1, fun v hv => ⟨h4.1.1.2 v hv, h.num c hc v hv⟩, ?_⟩
  rw [w64_eq]
  omega
theorem rowB_pos (c : C) : 0 < (rowB c).length := by
  have := pvL_pos (numV_ok c.n)
  rw [rowB, List.length_append]
  omega
theorem rows_at {l : List UInt8} {rows : List C} {r i : Nat} (h : l.drop i = (rows.drop r).flatMap rowB) (hi : i ≤ l.length) (hr : r ≤ rows.length) : i < l.length ↔ r < rows.length := by
  constructor
  · intro h1
    rcases Nat.lt_or_ge r rows.length with h2 | h2
    · exact h2
    · rw [List.drop_eq_nil_of_le h2] at h
      have := congrArg List.length h
      rw [List.length_drop] at this
      simp at this
      omega
  · intro h1
    rw [List.drop_eq_getElem_cons h1, List.flatMap_cons] at h
    have h2 := congrArg List.length h
    have h3 := rowB_pos rows[r]
    rw [List.length_drop, List.length_append] at h2
    omega
theorem valP_num {n : Int} {X : List UInt8} (hn : w64 n = n) : valP (pvL (numV n) ++ X) = some (numV n, X) := valP_app (numV_ok n) hn
theorem rows_head {l : List UInt8} {rows : List C} {r i : Nat} (h : l.drop i = (rows.drop r).flatMap rowB) (hr : r < rows.length) : l.drop i = pvL (numV rows[r].n) ++ ((rows[r].row.drop 0).flatMap pvL ++ (rows.drop (r + 1)).flatMap rowB) := by
  rw [h, List.drop_eq_getElem_cons hr, List.flatMap_cons, List.drop_zero, rowB, List.append_assoc]
theorem vals_head {row : List V} {k : Nat} (hk : k < row.length) (X : List UInt8) : (row.drop k).flatMap pvL ++ X = pvL row[k] ++ ((row.drop (k + 1)).flatMap pvL ++ X) := by
  rw [List.drop_eq_getElem_cons hk, List.flatMap_cons, List.append_assoc]
end Go.Av
end
section
namespace Go.Av
open Go.Proofs
set_option linter.unusedSimpArgs false
theorem kb_nat {w : Int} (h0 : 0 ≤ w) (h1 : w ≤ 12) : ((kb w).toNat : Int) = w := by
  unfold kb
  rw [dv_zero]
  have e : u64 w = w.toNat := by unfold u64; omega
  rw [e]
  simp [UInt8.toNat_ofNat']
  omega
theorem ev_sGetBag_yes (w : Int) (rows : List C) (h : OkB ⟨w, rows⟩) (hl : (kb w :: rows.flatMap rowB).length ≤ 1048576) : evF cfg 32 [] [.d (.s (bs (kb w :: rows.flatMap rowB)))] = some (.tup [.agg [.d (.i .i64 w), .d (.sl .any (rows.map cC))], .d (.b true)], []) := by
  obtain ⟨l, hL⟩ : ∃ l, kb w :: rows.flatMap rowB = l := ⟨_, rfl⟩
  have h0 : l[0]? = some (kb w) := by rw [← hL]; rfl
  have hz := bs_size l
  have h1 : 0 < l.length := by rw [← hL]; simp
  have h1' : l.drop 1 = (rows.drop 0).flatMap rowB := by rw [← hL]; rfl
  have hpl : pbL ⟨w, rows⟩ = l := by rw [← hL]; simp only [pbL, h.ok, if_true]
  rw [hL] at hl ⊢
  clear hL
  obtain ⟨hb1, hb2⟩ := bagOk_len h.ok
  have hww : 0 ≤ w ∧ w ≤ 12 := by
    have := h.ok
    simp only [bagOk, Bool.and_eq_true, decide_eq_true_eq] at this
    exact this.1
  have hg0 : (bs l)[0]? = some (kb w) := by rw [ba_get, show (bs l).data.toList = l from by simp [bs]]; exact h0
  have hkb := kb_nat hww.1 hww.2
  have hw1 : IntKind.i64.wrap ((kb w).toNat : Int) = w := by rw [hkb]; exact i64_in (by omega) (by omega)
  have c1 : decide (w > 12) = false := decide_eq_false (by omega)
  have hne : decide (bs l = (⟨#[]⟩ : ByteArray)) = false := decide_eq_false fun e => by
    have := congrArg ByteArray.size e
    rw [bs_size] at this
    have : (⟨#[]⟩ : ByteArray).size = 0 := rfl
    omega
  have c0 : decide ((0 : Int) < (l.length : Int)) = true := decide_eq_true (by omega)
  have hpb := ev_sPutBag w rows (by have := hb1; simp only at this; omega) (fun c hc => by have := (hb2 c hc).1; omega)
  rw [hpl] at hpb
  have hpe : decide (bs l = bs l) = true := decide_eq_true rfl
  have H := Hd.mk (And.intro h (And.intro hl (And.intro h1' (And.intro hww hb1))))
  clear h hl h0 h1 h1' hpl hb1 hb2 hww hkb
  (refine (evF_code (C := cfg) (g := 32) (fn := Tryz.f32) rfl Tryz.func32 rfl (by rw [Tryz.ntmps32]; simp) (by kernel_rfl) (by first | decide | simp [keysOf])).trans ?_; rw [Tryz.results32, Tryz.ntmps32])
  repeat' (first | with_reducible refine br_split (fun _ => ?_) (fun _ => ?_) | simp only [*, push_cast, simprocAttr] | (rw [drawC_ok]; rotate_left; decide +kernel; exact cfg_mixed))
  rw [show ([] : List (List T)) = (rows.take 0).map cC from rfl]
  generalize hE : evM cfg _ _ _ _ _ = RR
  have key : ∃ r, RR = some r ∧ r = (Exit.exit 0, { t := [(0, .d (.s (bs l))), (2, .ptr 50 0), (4, .ptr 51 0)], o := [(50, .box [.d (.i .i64 0), .nl]), (51, .box [.d (.i .i64 w), .own 52]), (52, .arr .any 2 (rows.map cC))], ks := [50, 51, 52], n := 0, sz := 83, u := noU }) := by
    rw [← hE]
    refine evM_ex (α := Nat × Nat) (fun z => { t := [(0, .d (.s (bs l))), (2, .ptr 50 0), (4, .ptr 51 0), (5, .d (.i .i64 (z.2 : Nat)))], o := [(50, .box [.d (.i .i64 0), .nl]), (51, .box [.d (.i .i64 w), .own 52]), (52, .arr .any 2 ((rows.take z.1).map cC))], ks := [50, 51, 52], n := 0, sz := 83, u := noU })
      (fun _ r => r = (Exit.exit 0, { t := [(0, .d (.s (bs l))), (2, .ptr 50 0), (4, .ptr 51 0)], o := [(50, .box [.d (.i .i64 0), .nl]), (51, .box [.d (.i .i64 w), .own 52]), (52, .arr .any 2 (rows.map cC))], ks := [50, 51, 52], n := 0, sz := 83, u := noU }))
      (fun z => z.1 ≤ rows.length ∧ z.2 ≤ l.length ∧ l.drop z.2 = (rows.drop z.1).flatMap rowB) (fun z => rows.length - z.1) ?_ (0, 1) ⟨Nat.zero_le _, by have := of_decide_eq_true c0; show 1 ≤ l.length; omega, H.out.2.2.1⟩
    clear hE RR hpb hpe hne hg0 hw1 c1 c0
    rintro ⟨r, i⟩ ⟨hr, hi, hd⟩ ih
    simp only at hr hi hd ih ⊢
    obtain ⟨h, hl, h1, hww, hb1⟩ := H.out
    simp only at hb1
    have hmn : min r rows.length = r := Nat.min_eq_left hr
    have hat := rows_at hd hi hr
    have c4 : decide (((rows.take r).length : Int) ≤ 400) = true := decide_eq_true (by rw [List.length_take]; omega)
    by_cases hc : r < rows.length
    · have hil : i < l.length := hat.2 hc
      have c5 := dec_lt hil
      obtain ⟨g1, g2, g3⟩ := h.row (List.getElem_mem hc)
      have hh := rows_head hd hc
      obtain ⟨_, e1, ⟨v, k, hv, hik, hk, rfl⟩ | ⟨hv, -⟩⟩ := ev_GetValue l hl i hil
      · rw [hh, valP_num g3] at hv
        simp only [Option.some.injEq, Prod.mk.injEq] at hv
        obtain ⟨rfl, hv⟩ := hv
        simp only [numV] at e1
        refine exQ fun Q hQ => ?_
        have HQ := Hd.mk hQ; clear hQ
        have H2 := Hd.mk (And.intro hr (And.intro hi (And.intro hd (And.intro ih (And.intro hik (And.intro hk hv))))))
        have H3 := Hd.mk (And.intro g1 (And.intro g2 hc))
        clear hr hi hd ih hik hk hv h hl h1 hww hb1 hat g1 g2 g3 hh
        repeat' (first | with_reducible refine br_split (fun _ => ?_) (fun _ => ?_) | simp only [*, push_cast, simprocAttr] | (rw [drawC_ok]; rotate_left; decide +kernel; exact cfg_mixed))
        rw [show ([] : List (List T)) = (rows[r].row.take 0).map vC from rfl]
        generalize hE : evM cfg _ _ _ _ _ = RR
        have key : ∃ z, RR = some z ∧ ∃ i' : Nat, i' ≤ l.length ∧ l.drop i' = (rows.drop (r + 1)).flatMap rowB ∧ z = (Exit.exit 2, { t := [(0, .d (.s (bs l))), (2, .ptr 50 0), (4, .ptr 51 0), (5, .d (.i .i64 (i' : Nat))), (8, .ptr 52 0)], o := [(50, .box [.d (.i .i64 0), .nl]), (51, .box [.d (.i .i64 w), .own 53]), (52, .box [.own 54, .d (.i .i64 rows[r].n)]), (53, .arr .any 2 ((rows.take r).map cC)), (54, .arr .any 3 (rows[r].row.map vC))], ks := [50, 51, 52, 53, 54], n := 0, sz := 83, u := noU }) := by
          rw [← hE]
          refine evM_ex (α := Nat × Nat) (fun z => { t := [(0, .d (.s (bs l))), (2, .ptr 50 0), (4, .ptr 51 0), (5, .d (.i .i64 (z.2 : Nat))), (8, .ptr 52 0), (9, .d (.i .i64 (z.1 : Nat)))], o := [(50, .box [.d (.i .i64 0), .nl]), (51, .box [.d (.i .i64 w), .own 53]), (52, .box [.own 54, .d (.i .i64 rows[r].n)]), (53, .arr .any 2 ((rows.take r).map cC)), (54, .arr .any 3 ((rows[r].row.take z.1).map vC))], ks := [50, 51, 52, 53, 54], n := 0, sz := 83, u := noU })
            (fun _ z => ∃ i' : Nat, i' ≤ l.length ∧ l.drop i' = (rows.drop (r + 1)).flatMap rowB ∧ z = (Exit.exit 2, { t := [(0, .d (.s (bs l))), (2, .ptr 50 0), (4, .ptr 51 0), (5, .d (.i .i64 (i' : Nat))), (8, .ptr 52 0)], o := [(50, .box [.d (.i .i64 0), .nl]), (51, .box [.d (.i .i64 w), .own 53]), (52, .box [.own 54, .d (.i .i64 rows[r].n)]), (53, .arr .any 2 ((rows.take r).map cC)), (54, .arr .any 3 (rows[r].row.map vC))], ks := [50, 51, 52, 53, 54], n := 0, sz := 83, u := noU }))
            (fun z => z.1 ≤ rows[r].row.length ∧ z.2 ≤ l.length ∧ l.drop z.2 = (rows[r].row.drop z.1).flatMap pvL ++ (rows.drop (r + 1)).flatMap rowB) (fun z => rows[r].row.length - z.1) ?_ (0, k) ⟨Nat.zero_le _, H2.out.2.2.2.2.2.1, H2.out.2.2.2.2.2.2.symm⟩
          clear hE RR e1
          rintro ⟨q, i⟩ ⟨hq, hi, hd⟩ ih
          simp only at hq hi hd ih ⊢
          obtain ⟨g1, g2, hc⟩ := H3.out
          obtain ⟨h, hl, h1, hww, hb1⟩ := H.out
          simp only at g1
          have c7 : decide ((i : Int) ≥ 0) = true := decide_eq_true (by omega)
          by_cases hqc : q < rows[r].row.length
          · have c6 : decide ((q : Int) < w) = true := decide_eq_true (by omega)
            have hh := vals_head hqc ((rows.drop (r + 1)).flatMap rowB)
            rw [hh] at hd
            obtain ⟨v1, v2⟩ := g2 _ (List.getElem_mem hqc)
            have hil : i < l.length := by
              have := congrArg List.length hd
              rw [List.length_drop, List.length_append] at this
              have := pvL_pos v1
              omega
            have w1 : IntKind.i64.wrap ((q : Int) + 1) = (q : Int) + 1 := wrap_succ (by omega)
            obtain ⟨_, e1, ⟨v, k, hv, hik, hk, rfl⟩ | ⟨hv, -⟩⟩ := ev_GetValue l hl i hil
            · rw [hd, valP_app v1 v2] at hv
              simp only [Option.some.injEq, Prod.mk.injEq] at hv
              obtain ⟨rfl, hv⟩ := hv
              have h3 : (rows[r].row.take q).map vC ++ [[.i .i64 rows[r].row[q].k, .i .i64 rows[r].row[q].n, .s rows[r].row[q].s]] = (rows[r].row.take (q + 1)).map vC := take_snoc vC hqc
              have h4 := len_ok (n := (rows[r].row.take q).length + 1) 32 (by rw [List.length_take]; omega) (by omega)
              obtain ⟨z, hz1, hz2⟩ := ih (q + 1, k) ⟨hqc, hk, hv.symm⟩ (by simp only; omega)
              refine ⟨z, ?_, hz2⟩
              simp only at hz1
              rw [show ((q + 1 : Nat) : Int) = (q : Int) + 1 from rfl] at hz1
              clear ih hq hi hd g1 g2 h hl h1 hww hb1 hh v1 v2 hil hik hk hv hz2
              repeat' (first | with_reducible refine br_split (fun _ => ?_) (fun _ => ?_) | simp only [*, push_cast, simprocAttr] | (rw [drawC_ok]; rotate_left; decide +kernel; exact cfg_mixed))
            · rw [hd, valP_app v1 v2] at hv
              cases hv
          · have c6 : decide ((q : Int) < w) = false := decide_eq_false (by omega)
            have hqe : q = rows[r].row.length := by omega
            have hd2 : l.drop i = (rows.drop (r + 1)).flatMap rowB := by
              rw [hd, hqe, List.drop_length]; rfl
            have hrr : rows[r].row.take q = rows[r].row := by rw [hqe]; exact List.take_length
            refine ⟨_, ?_, i, hi, hd2, rfl⟩
            clear ih hq hi hd g1 g2 h hl h1 hww hb1 hqc hqe hd2
            repeat' (first | with_reducible refine br_split (fun _ => ?_) (fun _ => ?_) | simp only [*, push_cast, simprocAttr] | (rw [drawC_ok]; rotate_left; decide +kernel; exact cfg_mixed))
        obtain ⟨_, rfl, i', p1, p2, rfl⟩ := key
        obtain ⟨g1, g2, hc⟩ := H3.out
        obtain ⟨hr, hi, hd, ih, hik, hk, hv⟩ := H2.out
        have h3 : (rows.take r).map cC ++ [[.sl .any (rows[r].row.map vC), .i .i64 rows[r].n]] = (rows.take (r + 1)).map cC := take_snoc cC hc
        have hb1 := H.out.2.2.2.2
        simp only at hb1
        have h4 := len_ok (n := (rows.take r).length + 1) 32 (by rw [List.length_take]; omega) (by omega)
        have c8 : decide ((i' : Int) < 0) = false := decide_eq_false (by omega)
        obtain ⟨z, hz1, hz2⟩ := ih (r + 1, i') ⟨hc, p1, p2⟩ (by simp only; omega)
        simp only at hz1
        have HZ := Hd.mk hz2
        clear hE hr hi hd ih hik hk hv g1 g2 p1 p2 hz2 hb1
        repeat' (first | with_reducible refine br_split (fun _ => ?_) (fun _ => ?_) | simp only [*, push_cast, simprocAttr] | (rw [drawC_ok]; rotate_left; decide +kernel; exact cfg_mixed))
        exact HQ.out _ HZ.out
      · rw [hh, valP_num g3] at hv
        cases hv
    · have hil : ¬ i < l.length := fun h => hc (hat.1 h)
      have c5 : decide ((i : Int) < (l.length : Int)) = false := decide_eq_false (by omega)
      refine ⟨_, ?_, rfl⟩
      have hrr : rows.take r = rows := List.take_of_length_le (by omega)
      clear ih hr hi hd hat h hl h1 hww hb1 hil hc
      repeat' (first | with_reducible refine br_split (fun _ => ?_) (fun _ => ?_) | simp only [*, push_cast, simprocAttr] | (rw [drawC_ok]; rotate_left; decide +kernel; exact cfg_mixed))
  obtain ⟨_, rfl, rfl⟩ := key
  clear hE H
  repeat' (first | with_reducible refine br_split (fun _ => ?_) (fun _ => ?_) | simp only [*, push_cast, simprocAttr] | (rw [drawC_ok]; rotate_left; decide +kernel; exact cfg_mixed))
end Go.Av
end
section
namespace Go.Av
open Go.Proofs
set_option linter.unusedSimpArgs false
structure GS where
  rows : List C
  i : Nat
structure HS where
  vals : List V
  i : Int
theorem ev_GetValue_any (l : List UInt8) (hl : l.length ≤ 1048576) (i : Nat) (hi : i ≤ l.length) : ∃ r, evF cfg 68 [] [.d (.s (bs l)), .d (.i .i64 (i : Nat))] = some r ∧
    ∃ (v : V) (k : Int), w64 v.n = v.n ∧ (k = -1 ∨ ∃ t : Nat, k = t ∧ i < t ∧ t ≤ l.length) ∧ r = (.tup [.agg [.d (.i .i64 v.k), .d (.i .i64 v.n), .d (.s v.s)], .d (.i .i64 k)], []) := by
  by_cases hil : i < l.length
  · obtain ⟨_, e1, ⟨v, k, hv, hik, hk, rfl⟩ | ⟨hv, rfl⟩⟩ := ev_GetValue l hl i hil
    · exact ⟨_, e1, v, k, (valP_some hv).2.2, .inr ⟨k, rfl, hik, hk⟩, rfl⟩
    · exact ⟨_, e1, ⟨0, 0, ⟨#[]⟩⟩, -1, w64_0, .inl rfl, rfl⟩
  · obtain rfl : i = l.length := by omega
    exact ⟨_, ev_GetValue_end l hl, ⟨0, 0, ⟨#[]⟩⟩, -1, w64_0, .inl rfl, rfl⟩
theorem ev_sGetBag_no (l : List UInt8) (hl : l.length ≤ 1048576) (h : ∀ b, OkB b → l ≠ pbL b) : evF cfg 32 [] [.d (.s (bs l))] = some (.tup [.agg [.d (.i .i64 0), .d (.sl .any [])], .d (.b false)], []) := by
  cases l with
  | nil =>
    have hne : decide (bs [] = (⟨#[]⟩ : ByteArray)) = true := decide_eq_true rfl
    clear hl h
    (refine (evF_code (C := cfg) (g := 32) (fn := Tryz.f32) rfl Tryz.func32 rfl (by rw [Tryz.ntmps32]; simp) (by kernel_rfl) (by first | decide | simp [keysOf])).trans ?_; rw [Tryz.results32, Tryz.ntmps32])
    repeat' (first | with_reducible refine br_split (fun _ => ?_) (fun _ => ?_) | simp only [*, push_cast, simprocAttr] | (rw [drawC_ok]; rotate_left; decide +kernel; exact cfg_mixed))
  | cons x t =>
    obtain ⟨l, hL⟩ : ∃ l, x :: t = l := ⟨_, rfl⟩
    have h0 : l[0]? = some x := by rw [← hL]; rfl
    have h1 : 0 < l.length := by rw [← hL]; simp
    rw [hL] at hl h ⊢
    clear hL
    have hz := bs_size l
    have hg0 : (bs l)[0]? = some x := by rw [ba_get, show (bs l).data.toList = l from by simp [bs]]; exact h0
    have hx := x.toNat_lt
    have hw1 : IntKind.i64.wrap ((x.toNat : Nat) : Int) = ((x.toNat : Nat) : Int) := i64_in (by omega) (by omega)
    have hne : decide (bs l = (⟨#[]⟩ : ByteArray)) = false := decide_eq_false fun e => by
      have := congrArg ByteArray.size e
      rw [bs_size] at this
      have : (⟨#[]⟩ : ByteArray).size = 0 := rfl
      omega
    have c0 : decide ((0 : Int) < (l.length : Int)) = true := decide_eq_true (by omega)
    by_cases hx12 : x.toNat > 12
    · have c1 : decide (((x.toNat : Nat) : Int) > 12) = true := decide_eq_true (by omega)
      clear hl h h0 h1 hx hx12
      (refine (evF_code (C := cfg) (g := 32) (fn := Tryz.f32) rfl Tryz.func32 rfl (by rw [Tryz.ntmps32]; simp) (by kernel_rfl) (by first | decide | simp [keysOf])).trans ?_; rw [Tryz.results32, Tryz.ntmps32])
      repeat' (first | with_reducible refine br_split (fun _ => ?_) (fun _ => ?_) | simp only [*, push_cast, simprocAttr] | (rw [drawC_ok]; rotate_left; decide +kernel; exact cfg_mixed))
    · obtain ⟨W, hW⟩ : ∃ W, x.toNat = W := ⟨_, rfl⟩
      have hw2 : IntKind.i64.wrap ((x.toNat : Nat) : Int) = (W : Int) := by rw [hw1, hW]
      have c1 : decide ((W : Int) > 12) = false := decide_eq_false (by omega)
      have H := Hd.mk (And.intro h (And.intro hl (And.intro h1 (show W ≤ 12 by omega))))
      clear hl h h0 h1 hx hx12 hw1 hW
      (refine (evF_code (C := cfg) (g := 32) (fn := Tryz.f32) rfl Tryz.func32 rfl (by rw [Tryz.ntmps32]; simp) (by kernel_rfl) (by first | decide | simp [keysOf])).trans ?_; rw [Tryz.results32, Tryz.ntmps32])
      repeat' (first | with_reducible refine br_split (fun _ => ?_) (fun _ => ?_) | simp only [*, push_cast, simprocAttr] | (rw [drawC_ok]; rotate_left; decide +kernel; exact cfg_mixed))
      rw [show ([] : List (List T)) = ([] : List C).map cC from rfl]
      generalize hE : evM cfg _ _ _ _ _ = RR
      have key : ∃ r, RR = some r ∧ (r = (Exit.ret, { t := [(2, .ptr 50 0), (3, .d (.b false))], o := [(50, .box [.d (.i .i64 0), .nl])], ks := [50], n := 0, sz := 83, u := noU }) ∨ ∃ rows : List C, (rows.length ≤ 401 ∧ ∀ c ∈ rows, c.row.length ≤ 12 ∧ ∀ v ∈ c.row, w64 v.n = v.n) ∧ r = (Exit.exit 0, { t := [(0, .d (.s (bs l))), (2, .ptr 50 0), (4, .ptr 51 0)], o := [(50, .box [.d (.i .i64 0), .nl]), (51, .box [.d (.i .i64 (W : Nat)), .own 52]), (52, .arr .any 2 (rows.map cC))], ks := [50, 51, 52], n := 0, sz := 83, u := noU })) := by
        rw [← hE]
        refine evM_ex (α := GS) (fun z => { t := [(0, .d (.s (bs l))), (2, .ptr 50 0), (4, .ptr 51 0), (5, .d (.i .i64 (z.i : Nat)))], o := [(50, .box [.d (.i .i64 0), .nl]), (51, .box [.d (.i .i64 (W : Nat)), .own 52]), (52, .arr .any 2 (z.rows.map cC))], ks := [50, 51, 52], n := 0, sz := 83, u := noU })
          (fun _ r => r = (Exit.ret, { t := [(2, .ptr 50 0), (3, .d (.b false))], o := [(50, .box [.d (.i .i64 0), .nl])], ks := [50], n := 0, sz := 83, u := noU }) ∨ ∃ rows : List C, (rows.length ≤ 401 ∧ ∀ c ∈ rows, c.row.length ≤ 12 ∧ ∀ v ∈ c.row, w64 v.n = v.n) ∧ r = (Exit.exit 0, { t := [(0, .d (.s (bs l))), (2, .ptr 50 0), (4, .ptr 51 0)], o := [(50, .box [.d (.i .i64 0), .nl]), (51, .box [.d (.i .i64 (W : Nat)), .own 52]), (52, .arr .any 2 (rows.map cC))], ks := [50, 51, 52], n := 0, sz := 83, u := noU }))
          (fun z => z.i ≤ l.length ∧ z.rows.length ≤ 401 ∧ ∀ c ∈ z.rows, c.row.length ≤ 12 ∧ ∀ v ∈ c.row, w64 v.n = v.n) (fun z => l.length - z.i) ?_ ⟨[], 1⟩ ⟨by have := H.out.2.2.1; show 1 ≤ l.length; omega, by simp, fun _ h => (nomatch h)⟩
        clear hE RR hne hg0 hw2 c1 c0
        rintro ⟨rows, i⟩ ⟨hi, hr, hrow⟩ ih
        simp only at hi hr hrow ih ⊢
        obtain ⟨h, hl, h1, hW⟩ := H.out
        by_cases hc : i < l.length
        · have c5 := dec_lt hc
          by_cases hr4 : rows.length ≤ 400
          · have c4 : decide ((rows.length : Int) ≤ 400) = true := decide_eq_true (by omega)
            obtain ⟨_, e1, ⟨vk, vn, vs⟩, k, hvn, hk, rfl⟩ := ev_GetValue_any l hl i (by omega)
            refine exQ fun Q hQ => ?_
            have HQ := Hd.mk hQ; clear hQ
            have H2 := Hd.mk (And.intro hi (And.intro hr (And.intro hrow (And.intro ih (And.intro hvn (And.intro hk (And.intro hc hr4)))))))
            clear hi hr hrow ih hvn hk h hl h1 hW hc hr4
            repeat' (first | with_reducible refine br_split (fun _ => ?_) (fun _ => ?_) | simp only [*, push_cast, simprocAttr] | (rw [drawC_ok]; rotate_left; decide +kernel; exact cfg_mixed))
            rw [show ([] : List (List T)) = ([] : List V).map vC from rfl]
            generalize hE : evM cfg _ _ _ _ _ = RR
            have key : ∃ z, RR = some z ∧ ∃ (vals : List V) (i' : Int), vals.length ≤ 12 ∧ (∀ v ∈ vals, w64 v.n = v.n) ∧ (i' = -1 ∨ ∃ t : Nat, i' = t ∧ i < t ∧ t ≤ l.length) ∧ z = (Exit.exit 2, { t := [(0, .d (.s (bs l))), (2, .ptr 50 0), (4, .ptr 51 0), (5, .d (.i .i64 i')), (8, .ptr 52 0)], o := [(50, .box [.d (.i .i64 0), .nl]), (51, .box [.d (.i .i64 (W : Nat)), .own 53]), (52, .box [.own 54, .d (.i .i64 vn)]), (53, .arr .any 2 (rows.map cC)), (54, .arr .any 3 (vals.map vC))], ks := [50, 51, 52, 53, 54], n := 0, sz := 83, u := noU }) := by
              rw [← hE]
              refine evM_ex (α := HS) (fun y => { t := [(0, .d (.s (bs l))), (2, .ptr 50 0), (4, .ptr 51 0), (5, .d (.i .i64 y.i)), (8, .ptr 52 0), (9, .d (.i .i64 (y.vals.length : Nat)))], o := [(50, .box [.d (.i .i64 0), .nl]), (51, .box [.d (.i .i64 (W : Nat)), .own 53]), (52, .box [.own 54, .d (.i .i64 vn)]), (53, .arr .any 2 (rows.map cC)), (54, .arr .any 3 (y.vals.map vC))], ks := [50, 51, 52, 53, 54], n := 0, sz := 83, u := noU })
                (fun _ z => ∃ (vals : List V) (i' : Int), vals.length ≤ 12 ∧ (∀ v ∈ vals, w64 v.n = v.n) ∧ (i' = -1 ∨ ∃ t : Nat, i' = t ∧ i < t ∧ t ≤ l.length) ∧ z = (Exit.exit 2, { t := [(0, .d (.s (bs l))), (2, .ptr 50 0), (4, .ptr 51 0), (5, .d (.i .i64 i')), (8, .ptr 52 0)], o := [(50, .box [.d (.i .i64 0), .nl]), (51, .box [.d (.i .i64 (W : Nat)), .own 53]), (52, .box [.own 54, .d (.i .i64 vn)]), (53, .arr .any 2 (rows.map cC)), (54, .arr .any 3 (vals.map vC))], ks := [50, 51, 52, 53, 54], n := 0, sz := 83, u := noU }))
                (fun y => y.vals.length ≤ W ∧ (∀ v ∈ y.vals, w64 v.n = v.n) ∧ (y.i = -1 ∨ ∃ t : Nat, y.i = t ∧ i < t ∧ t ≤ l.length)) (fun y => W - y.vals.length) ?_ ⟨[], k⟩ ⟨Nat.zero_le _, fun _ h => (nomatch h), H2.out.2.2.2.2.2.1⟩
              clear hE RR e1
              rintro ⟨vals, i'⟩ ⟨hq, hvals, hp⟩ ih
              simp only at hq hvals hp ih ⊢
              obtain ⟨h, hl, h1, hW⟩ := H.out
              have hil := H2.out.1
              by_cases hqc : vals.length < W
              · have c6 : decide ((vals.length : Int) < (W : Int)) = true := decide_eq_true (by omega)
                rcases hp with rfl | ⟨t, rfl, ht1, ht2⟩
                · have c7 : decide ((-1 : Int) ≥ 0) = false := rfl
                  refine ⟨_, ?_, vals, -1, by omega, hvals, .inl rfl, rfl⟩
                  clear ih hq hvals h hl h1 hW hil hqc
                  repeat' (first | with_reducible refine br_split (fun _ => ?_) (fun _ => ?_) | simp only [*, push_cast, simprocAttr] | (rw [drawC_ok]; rotate_left; decide +kernel; exact cfg_mixed))
                · have c7 : decide ((t : Int) ≥ 0) = true := decide_eq_true (by omega)
                  have w1 : IntKind.i64.wrap ((vals.length : Int) + 1) = (vals.length : Int) + 1 := wrap_succ (by omega)
                  obtain ⟨_, e1, ⟨vk, vn', vs⟩, k', hvn, hk, rfl⟩ := ev_GetValue_any l hl t ht2
                  have h3 : vals.map vC ++ [[.i .i64 vk, .i .i64 vn', .s vs]] = (vals ++ [(⟨vk, vn', vs⟩ : V)]).map vC := by rw [List.map_append]; rfl
                  have h4 := len_ok (n := vals.length + 1) 32 (by omega) (by omega)
                  obtain ⟨z, hz1, hz2⟩ := ih ⟨vals ++ [(⟨vk, vn', vs⟩ : V)], k'⟩ ⟨by simp; omega, fun v hv => by
                    rcases List.mem_append.1 hv with hv | hv
                    · exact hvals v hv
                    · rw [List.mem_singleton.1 hv]; exact hvn, by
                    rcases hk with hk | ⟨t', hk, hk1, hk2⟩
                    · exact .inl hk
                    · exact .inr ⟨t', hk, by omega, hk2⟩⟩ (by simp; omega)
                  refine ⟨z, ?_, hz2⟩
                  simp only [List.length_append, List.length_singleton] at hz1
                  rw [show ((vals.length + 1 : Nat) : Int) = (vals.length : Int) + 1 from rfl] at hz1
                  clear ih hq hvals h hl h1 hW hil hqc hvn hk ht1 ht2 hz2
                  repeat' (first | with_reducible refine br_split (fun _ => ?_) (fun _ => ?_) | simp only [*, push_cast, simprocAttr] | (rw [drawC_ok]; rotate_left; decide +kernel; exact cfg_mixed))
              · have c6 : decide ((vals.length : Int) < (W : Int)) = false := decide_eq_false (by omega)
                refine ⟨_, ?_, vals, i', by omega, hvals, hp, rfl⟩
                clear ih hq hvals h hl h1 hW hil hqc hp
                repeat' (first | with_reducible refine br_split (fun _ => ?_) (fun _ => ?_) | simp only [*, push_cast, simprocAttr] | (rw [drawC_ok]; rotate_left; decide +kernel; exact cfg_mixed))
            obtain ⟨_, rfl, vals, i', p1, p2, p3, rfl⟩ := key
            obtain ⟨hi, hr, hrow, ih, hvn, hk, hc, hr4⟩ := H2.out
            clear hE
            rcases p3 with rfl | ⟨t, rfl, ht1, ht2⟩
            · have c8 : decide ((-1 : Int) < 0) = true := rfl
              clear hi hr hrow ih hvn hk hc hr4 p1 p2 H
              repeat' (first | with_reducible refine br_split (fun _ => ?_) (fun _ => ?_) | simp only [*, push_cast, simprocAttr] | (rw [drawC_ok]; rotate_left; decide +kernel; exact cfg_mixed))
              exact HQ.out _ (.inl rfl)
            · have c8 : decide ((t : Int) < 0) = false := decide_eq_false (by omega)
              have h3 : rows.map cC ++ [[.sl .any (vals.map vC), .i .i64 vn]] = (rows ++ [(⟨vals, vn⟩ : C)]).map cC := by rw [List.map_append]; rfl
              have h4 := len_ok (n := rows.length + 1) 32 (by omega) (by omega)
              obtain ⟨z, hz1, hz2⟩ := ih ⟨rows ++ [(⟨vals, vn⟩ : C)], t⟩ ⟨ht2, by simp; omega, fun c hc' => by
                rcases List.mem_append.1 hc' with hc' | hc'
                · exact hrow c hc'
                · rw [List.mem_singleton.1 hc']; exact ⟨p1, p2⟩⟩ (by simp only; omega)
              simp only at hz1
              have HZ := Hd.mk hz2
              clear hi hr hrow ih hvn hk hc hr4 p1 p2 ht1 ht2 hz2 H
              repeat' (first | with_reducible refine br_split (fun _ => ?_) (fun _ => ?_) | simp only [*, push_cast, simprocAttr] | (rw [drawC_ok]; rotate_left; decide +kernel; exact cfg_mixed))
              exact HQ.out _ HZ.out
          · have c4 : decide ((rows.length : Int) ≤ 400) = false := decide_eq_false (by omega)
            refine ⟨_, ?_, .inr ⟨rows, ⟨hr, hrow⟩, rfl⟩⟩
            clear ih hi hr hrow h hl h1 hW hc hr4
            repeat' (first | with_reducible refine br_split (fun _ => ?_) (fun _ => ?_) | simp only [*, push_cast, simprocAttr] | (rw [drawC_ok]; rotate_left; decide +kernel; exact cfg_mixed))
        · have c5 : decide ((i : Int) < (l.length : Int)) = false := decide_eq_false (by omega)
          refine ⟨_, ?_, .inr ⟨rows, ⟨hr, hrow⟩, rfl⟩⟩
          clear ih hi hr hrow h hl h1 hW hc
          repeat' (first | with_reducible refine br_split (fun _ => ?_) (fun _ => ?_) | simp only [*, push_cast, simprocAttr] | (rw [drawC_ok]; rotate_left; decide +kernel; exact cfg_mixed))
      obtain ⟨_, rfl, rfl | ⟨rows, ⟨p1, p2⟩, rfl⟩⟩ := key
      · clear hE H
        repeat' (first | with_reducible refine br_split (fun _ => ?_) (fun _ => ?_) | simp only [*, push_cast, simprocAttr] | (rw [drawC_ok]; rotate_left; decide +kernel; exact cfg_mixed))
      · obtain ⟨h, hl, h1, hW⟩ := H.out
        have hpb := ev_sPutBag (W : Nat) rows (by omega) (fun c hc => by have := (p2 c hc).1; omega)
        have hpe : decide (bs (pbL ⟨(W : Nat), rows⟩) = bs l) = false := decide_eq_false fun e => by
          have e := bs_inj e
          cases hb : bagOk ⟨(W : Nat), rows⟩ with
          | true => exact h _ ⟨hb, fun c hc v hv => (p2 c hc).2 v hv⟩ e.symm
          | false =>
            simp only [pbL, hb, Bool.false_eq_true, if_false] at e
            rw [← e] at h1
            simp at h1
        clear hE H h hl h1 hW p1 p2
        repeat' (first | with_reducible refine br_split (fun _ => ?_) (fun _ => ?_) | simp only [*, push_cast, simprocAttr] | (rw [drawC_ok]; rotate_left; decide +kernel; exact cfg_mixed))
end Go.Av
end
