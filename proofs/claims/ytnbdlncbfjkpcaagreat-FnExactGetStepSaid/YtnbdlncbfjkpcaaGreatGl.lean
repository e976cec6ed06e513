/- What functions of this seat give. -/
import Derived.Test.YtnbdlncbfjkpcaaGreatGa
import Derived.Test.YtnbdlncbfjkpcaaGreatAvF
import Derived.Test.YtnbdlncbfjkpcaaGreatAvCfg
import Derived.Test.YtnbdlncbfjkpcaaGreatGd
import Derived.Test.YtnbdlncbfjkpcaaGreatGk
import Derived.Test.YtnbdlncbfjkpcaaGreatAvE
set_option linter.all false
set_option linter.unusedVariables false
set_option linter.unusedSimpArgs false

section
namespace Go.Av
open Go.Proofs Go.RowKit
set_option linter.unusedSimpArgs false
set_option linter.unusedVariables false

structure NSh where
  n : Int
  s : ByteArray
theorem wrap_quo {n : Int} (h : 0 < n) : (IntKind.i64.wrap (Int.tdiv n 10)).toNat < n.toNat ∧ IntKind.i64.wrap (Int.tdiv n 10) ≤ 9223372036854775807 ∧ (n ≤ 9223372036854775807 → IntKind.i64.wrap (Int.tdiv n 10) = n / 10) := by
  have h1 : Int.tdiv n 10 = n / 10 := Int.tdiv_eq_ediv_of_nonneg (by omega)
  rw [h1]
  by_cases h2 : n / 10 ≤ 9223372036854775807
  · rw [i64_in (by omega) (by omega)]; omega
  · rw [IntKind.wrap_i64 (n / 10)]; omega
theorem strOf_oneH (m : Int) : ∃ x, strOf [[.i .u8 (IntKind.u8.wrap m)]] = some x ∧ x.size = 1 := by
  refine ⟨⟨#[UInt8.ofNat (IntKind.u8.wrap m).toNat]⟩, ?_, rfl⟩
  have h : ([[.i .u8 (IntKind.u8.wrap m)]] : List (List T)) = bytesT ⟨#[UInt8.ofNat (IntKind.u8.wrap m).toNat]⟩ := by
    have h0 : 0 ≤ IntKind.u8.wrap m ∧ IntKind.u8.wrap m < 256 := by
      simp [IntKind.wrap, IntKind.bits, IntKind.signed]; omega
    simp [bytesT]
    omega
  rw [h, strOf_bytesT]
/-- The text stays short. -/
def Sht (z : NSh) : Prop := z.s.size = 0 ∨ (z.n ≤ 9223372036854775807 ∧ ∃ d : Nat, z.n < 10 ^ d ∧ z.s.size + d ≤ 100)
theorem Sht.next {n : Int} {s x : ByteArray} (h : Sht ⟨n, s⟩) (hn : 0 < n) (hx : x.size = 1) : Sht ⟨IntKind.i64.wrap (Int.tdiv n 10), x ++ s⟩ ∧ x.size + s.size ≤ 1099511627776 := by
  obtain ⟨_, w1, w2⟩ := wrap_quo hn
  have hsz : (x ++ s).size = x.size + s.size := ByteArray.size_append
  rcases h with h | ⟨h1, d, h2, h3⟩
  · have h : s.size = 0 := h
    refine ⟨.inr ⟨w1, 19, ?_, ?_⟩, by omega⟩
    · show IntKind.i64.wrap (Int.tdiv n 10) < 10 ^ 19
      omega
    · show (x ++ s).size + 19 ≤ 100
      omega
  · have h1 : n ≤ 9223372036854775807 := h1
    have h2 : n < 10 ^ d := h2
    have h3 : s.size + d ≤ 100 := h3
    refine ⟨.inr ⟨w1, d - 1, ?_, ?_⟩, by omega⟩
    · show IntKind.i64.wrap (Int.tdiv n 10) < 10 ^ (d - 1)
      rw [w2 h1]
      cases d with
      | zero => simp at h2; omega
      | succ d =>
        rw [Int.pow_succ] at h2
        simp only [Nat.add_sub_cancel]
        generalize (10 : Int) ^ d = e at *
        omega
    · show (x ++ s).size + (d - 1) ≤ 100
      cases d with
      | zero => simp at h2; omega
      | succ d => omega
theorem ev_markText_ex (k : Int) : ∃ s, evF cfg 43 [] [.d (.i .i64 k)] = some (.d (.s s), []) := by
  by_cases hk : k ≤ 0
  · have h := decide_eq_true hk
    refine ⟨⟨#[109, 48]⟩, ?_⟩
    (refine (evF_code (C := cfg) (g := 43) (fn := Tryz.f43) rfl Tryz.func43 rfl (by rw [Tryz.ntmps43]; simp) (by kernel_rfl) (by first | decide | simp [keysOf])).trans ?_; rw [Tryz.results43, Tryz.ntmps43])
    repeat' (first | with_reducible refine br_split (fun _ => ?_) (fun _ => ?_) | simp only [*, push_cast, Array.reduceGetElem?, Nat.reduceBEq, Nat.reduceLT, Nat.reduceAdd, Nat.reduceSub, Nat.reduceLeDiff, Nat.reduceMul, Nat.reduceEqDiff, reduceCtorEq, Int.reduceAdd, Int.reduceLT, Int.reduceLE, Int.reduceToNat, Int.reduceNeg, Int.reduceSub, Int.reduceBEq, Int.reduceBNe, Int.reduceNe, Int.reduceGT, Int.reduceGE, Nat.reduceGT] | (rw [drawC_ok]; rotate_left; decide +kernel; exact cfg_mixed))
  · have h := decide_eq_false hk
    clear hk
    have : ∃ r, evF cfg 43 [] [.d (.i .i64 k)] = some r ∧ ∃ s, r = (.d (.s s), []) := by
      refine exQ fun Q hQ => ?_
      have HQ := Hd.mk hQ; clear hQ
      (refine Eq.mpr (congrArg Q (evF_code (C := cfg) (g := 43) (fn := Tryz.f43) rfl Tryz.func43 rfl (by rw [Tryz.ntmps43]; simp) (by kernel_rfl) (by first | decide | simp [keysOf]))) ?_; rw [Tryz.results43, Tryz.ntmps43])
      repeat' (first | with_reducible refine br_split (fun _ => ?_) (fun _ => ?_) | simp only [*, push_cast, Array.reduceGetElem?, Nat.reduceBEq, Nat.reduceLT, Nat.reduceAdd, Nat.reduceSub, Nat.reduceLeDiff, Nat.reduceMul, Nat.reduceEqDiff, reduceCtorEq, Int.reduceAdd, Int.reduceLT, Int.reduceLE, Int.reduceToNat, Int.reduceNeg, Int.reduceSub, Int.reduceBEq, Int.reduceBNe, Int.reduceNe, Int.reduceGT, Int.reduceGE, Nat.reduceGT] | (rw [drawC_ok]; rotate_left; decide +kernel; exact cfg_mixed))
      clear h
      generalize hE : evM cfg _ _ _ _ _ = R
      have key : ∃ r, R = some r ∧ ∃ s, s.size ≤ 100 ∧ r = (Exit.exit 0, { t := [(3, .d (.s s))], o := [], ks := [], n := 0, sz := 20, u := noU }) := by
        rw [← hE]
        refine evM_ex (α := NSh) (fun z => { t := [(0, .d (.i .i64 z.n)), (3, .d (.s z.s))], o := [], ks := [], n := 0, sz := 20, u := noU }) (fun z r => ∃ s, s.size ≤ 100 ∧ r = (Exit.exit 0, { t := [(3, .d (.s s))], o := [], ks := [], n := 0, sz := 20, u := noU })) Sht (fun z => z.n.toNat) ?_ ⟨k, ⟨#[]⟩⟩ (.inl rfl)
        clear hE R HQ Q
        rintro ⟨n, s⟩ hI ih
        simp only at ih ⊢
        by_cases hc : n > 0
        · have d1 := decide_eq_true hc
          obtain ⟨x, hx, hx1⟩ := strOf_oneH (IntKind.i64.wrap (48 + n.tmod 10))
          obtain ⟨hI2, hsz⟩ := hI.next hc hx1
          obtain ⟨r, hr, hq⟩ := ih ⟨IntKind.i64.wrap (Int.tdiv n 10), x ++ s⟩ hI2 (wrap_quo hc).1
          have d2 := decide_eq_true hsz
          clear ih hc hI hI2 hsz hx1
          refine ⟨r, ?_, hq⟩
          repeat' (first | with_reducible refine br_split (fun _ => ?_) (fun _ => ?_) | simp only [*, push_cast, Array.reduceGetElem?, Nat.reduceBEq, Nat.reduceLT, Nat.reduceAdd, Nat.reduceSub, Nat.reduceLeDiff, Nat.reduceMul, Nat.reduceEqDiff, reduceCtorEq, Int.reduceAdd, Int.reduceLT, Int.reduceLE, Int.reduceToNat, Int.reduceNeg, Int.reduceSub, Int.reduceBEq, Int.reduceBNe, Int.reduceNe, Int.reduceGT, Int.reduceGE, Nat.reduceGT] | (rw [drawC_ok]; rotate_left; decide +kernel; exact cfg_mixed))
        · have d1 : decide (n > 0) = false := decide_eq_false hc
          have hs : s.size ≤ 100 := by
            rcases hI with h | ⟨_, d, _, h⟩
            · have h : s.size = 0 := h
              omega
            · have h : s.size + d ≤ 100 := h
              omega
          clear ih hc hI
          refine ⟨_, ?_, s, hs, rfl⟩
          repeat' (first | with_reducible refine br_split (fun _ => ?_) (fun _ => ?_) | simp only [*, push_cast, Array.reduceGetElem?, Nat.reduceBEq, Nat.reduceLT, Nat.reduceAdd, Nat.reduceSub, Nat.reduceLeDiff, Nat.reduceMul, Nat.reduceEqDiff, reduceCtorEq, Int.reduceAdd, Int.reduceLT, Int.reduceLE, Int.reduceToNat, Int.reduceNeg, Int.reduceSub, Int.reduceBEq, Int.reduceBNe, Int.reduceNe, Int.reduceGT, Int.reduceGE, Nat.reduceGT] | (rw [drawC_ok]; rotate_left; decide +kernel; exact cfg_mixed))
      obtain ⟨_, rfl, s, hs, rfl⟩ := key
      have hq := HQ.out _ ⟨⟨#[109]⟩ ++ s, rfl⟩
      have d3 : decide (1 + s.size ≤ 1099511627776) = true := decide_eq_true (by omega)
      have d4 : (⟨#[109]⟩ : ByteArray).size = 1 := rfl
      clear hE HQ hs
      repeat' (first | with_reducible refine br_split (fun _ => ?_) (fun _ => ?_) | simp only [*, push_cast, Array.reduceGetElem?, Nat.reduceBEq, Nat.reduceLT, Nat.reduceAdd, Nat.reduceSub, Nat.reduceLeDiff, Nat.reduceMul, Nat.reduceEqDiff, reduceCtorEq, Int.reduceAdd, Int.reduceLT, Int.reduceLE, Int.reduceToNat, Int.reduceNeg, Int.reduceSub, Int.reduceBEq, Int.reduceBNe, Int.reduceNe, Int.reduceGT, Int.reduceGE, Nat.reduceGT] | (rw [drawC_ok]; rotate_left; decide +kernel; exact cfg_mixed))
    obtain ⟨_, h, s, rfl⟩ := this
    exact ⟨s, h⟩
end Go.Av
end

section
namespace Go.Av
open Go.Proofs Go.RowKit
set_option linter.unusedSimpArgs false
set_option linter.unusedVariables false

noncomputable def mtOf (k : Int) : ByteArray := (ev_markText_ex k).choose
theorem ev_markText (k : Int) : evF cfg 43 [] [.d (.i .i64 k)] = some (.d (.s (mtOf k)), []) := (ev_markText_ex k).choose_spec

theorem ev_heldValueS (L : List V) (k : Int) (hl : L.length ≤ 1099511627776) (h : MkdV mtOf L k) : evF cfg 103 [] [.d (.sl .any (L.map vC)), .d (.i .i64 k)] = some (.d (.i .i64 (kIt k L.length)), []) := by
  have H := Hd.mk (And.intro hl h)
  clear hl h
  (refine (evF_code (C := cfg) (g := 103) (fn := Tryz.f103) rfl Tryz.func103 rfl (by rw [Tryz.ntmps103]; simp) (by kernel_rfl) (by first | decide | simp [keysOf])).trans ?_; rw [Tryz.results103, Tryz.ntmps103])
  repeat' (first | with_reducible refine br_split (fun _ => ?_) (fun _ => ?_) | simp only [*, push_cast, Array.reduceGetElem?, Nat.reduceBEq, Nat.reduceLT, Nat.reduceAdd, Nat.reduceSub, Nat.reduceLeDiff, Nat.reduceMul, Nat.reduceEqDiff, reduceCtorEq, Int.reduceAdd, Int.reduceLT, Int.reduceLE, Int.reduceToNat, Int.reduceNeg, Int.reduceSub, Int.reduceBEq, Int.reduceBNe, Int.reduceNe, Int.reduceGT, Int.reduceGE, Nat.reduceGT] | (rw [drawC_ok]; rotate_left; decide +kernel; exact cfg_mixed))
  rw [show k = kIt k 0 from rfl]
  rw [evM_for0 L.length (fun i j => { t := [(0, .d (.sl .any (L.map vC))), (1, .d (.i .i64 (kIt k i))), (5, .d (.i .i64 j))], o := [], ks := [], n := 0, sz := 41, u := noU }) (fun i => some (.exit 0, { t := [(1, .d (.i .i64 (kIt k L.length)))], o := [], ks := [], n := 0, sz := 41, u := noU })) ?step ?last]
  case step =>
    intro i hi ih
    obtain ⟨hl, h⟩ := H.out
    have d1 := dec_lt hi
    have d2 := dec_ltN hi
    have g1 : (L.map vC)[i]? = some [.i .i64 (kIt k i), .i .i64 (w6 (kIt k i + 1)), .s (mtOf (w6 (w6 (kIt k i + 1) + 1)))] := by
      rw [List.getElem?_map, List.getElem?_eq_getElem hi, h i hi]; rfl
    have w1 : IntKind.i64.wrap ((i : Int) + 1) = (i : Int) + 1 := wrap_succ (by omega)
    have e1 : (kIt k i != kIt k i) = false := bne_self_eq_false _
    have e2 : (w6 (kIt k i + 1) != w6 (kIt k i + 1)) = false := bne_self_eq_false _
    have m1 := ev_markText (w6 (w6 (kIt k i + 1) + 1))
    clear hl h hi H
    rw [show kIt k (i + 1) = w6 (w6 (w6 (kIt k i + 1) + 1) + 1) from rfl] at ih
    repeat' (first | with_reducible refine br_split (fun _ => ?_) (fun _ => ?_) | simp only [*, push_cast, Array.reduceGetElem?, Nat.reduceBEq, Nat.reduceLT, Nat.reduceAdd, Nat.reduceSub, Nat.reduceLeDiff, Nat.reduceMul, Nat.reduceEqDiff, reduceCtorEq, Int.reduceAdd, Int.reduceLT, Int.reduceLE, Int.reduceToNat, Int.reduceNeg, Int.reduceSub, Int.reduceBEq, Int.reduceBNe, Int.reduceNe, Int.reduceGT, Int.reduceGE, Nat.reduceGT] | (rw [drawC_ok]; rotate_left; decide +kernel; exact cfg_mixed))
  case last =>
    clear H
    repeat' (first | with_reducible refine br_split (fun _ => ?_) (fun _ => ?_) | simp only [*, push_cast, Array.reduceGetElem?, Nat.reduceBEq, Nat.reduceLT, Nat.reduceAdd, Nat.reduceSub, Nat.reduceLeDiff, Nat.reduceMul, Nat.reduceEqDiff, reduceCtorEq, Int.reduceAdd, Int.reduceLT, Int.reduceLE, Int.reduceToNat, Int.reduceNeg, Int.reduceSub, Int.reduceBEq, Int.reduceBNe, Int.reduceNe, Int.reduceGT, Int.reduceGE, Nat.reduceGT] | (rw [drawC_ok]; rotate_left; decide +kernel; exact cfg_mixed))
  repeat' (first | with_reducible refine br_split (fun _ => ?_) (fun _ => ?_) | simp only [*, push_cast, Array.reduceGetElem?, Nat.reduceBEq, Nat.reduceLT, Nat.reduceAdd, Nat.reduceSub, Nat.reduceLeDiff, Nat.reduceMul, Nat.reduceEqDiff, reduceCtorEq, Int.reduceAdd, Int.reduceLT, Int.reduceLE, Int.reduceToNat, Int.reduceNeg, Int.reduceSub, Int.reduceBEq, Int.reduceBNe, Int.reduceNe, Int.reduceGT, Int.reduceGE, Nat.reduceGT] | (rw [drawC_ok]; rotate_left; decide +kernel; exact cfg_mixed))
  rfl
theorem ev_heldCountedS (L : List C) (k : Int) (hl : L.length ≤ 1099511627776) (hr : ∀ c ∈ L, c.row.length ≤ 1099511627776) (h : MkdC mtOf L k) : evF cfg 73 [] [.d (.sl .any (L.map cC)), .d (.i .i64 k)] = some (.d (.i .i64 (qAt L k L.length)), []) := by
  have H := Hd.mk (And.intro hl (And.intro hr h))
  clear hl h hr
  (refine (evF_code (C := cfg) (g := 73) (fn := Tryz.f73) rfl Tryz.func73 rfl (by rw [Tryz.ntmps73]; simp) (by kernel_rfl) (by first | decide | simp [keysOf])).trans ?_; rw [Tryz.results73, Tryz.ntmps73])
  repeat' (first | with_reducible refine br_split (fun _ => ?_) (fun _ => ?_) | simp only [*, push_cast, Array.reduceGetElem?, Nat.reduceBEq, Nat.reduceLT, Nat.reduceAdd, Nat.reduceSub, Nat.reduceLeDiff, Nat.reduceMul, Nat.reduceEqDiff, reduceCtorEq, Int.reduceAdd, Int.reduceLT, Int.reduceLE, Int.reduceToNat, Int.reduceNeg, Int.reduceSub, Int.reduceBEq, Int.reduceBNe, Int.reduceNe, Int.reduceGT, Int.reduceGE, Nat.reduceGT] | (rw [drawC_ok]; rotate_left; decide +kernel; exact cfg_mixed))
  rw [show ({ t := [(0, TV.d (T.sl Ann.any (L.map cC))), (1, TV.d (T.i IntKind.i64 k)), (5, TV.d (T.i IntKind.i64 0))], o := [], ks := [], n := 0, sz := 31, u := noU } : St) = { t := [(0, .d (.sl .any (L.map cC))), (1, .d (.i .i64 (qAt L k 0))), (5, .d (.i .i64 0))], o := [], ks := [], n := 0, sz := 31, u := noU } from by rw [qAt_zero]]
  rw [evM_for0 L.length (fun i j => { t := [(0, .d (.sl .any (L.map cC))), (1, .d (.i .i64 (qAt L k i))), (5, .d (.i .i64 j))], o := [], ks := [], n := 0, sz := 31, u := noU }) (fun i => some (.exit 0, { t := [(1, .d (.i .i64 (qAt L k L.length)))], o := [], ks := [], n := 0, sz := 31, u := noU })) ?step ?last]
  case step =>
    intro i hi ih
    obtain ⟨hl, hr, h⟩ := H.out
    have d1 := dec_lt hi
    have d2 := dec_ltN hi
    have g1 : (L.map cC)[i]? = some [.sl .any (L[i].row.map vC), .i .i64 (kIt (qAt L k i) L[i].row.length)] := by
      rw [List.getElem?_map, List.getElem?_eq_getElem hi]
      show some [T.sl .any (L[i].row.map vC), .i .i64 L[i].n] = _
      rw [h.n i hi]
    have w1 : IntKind.i64.wrap ((i : Int) + 1) = (i : Int) + 1 := wrap_succ (by omega)
    have e1 : (kIt (qAt L k i) L[i].row.length != kIt (qAt L k i) L[i].row.length) = false := bne_self_eq_false _
    have m1 := ev_heldValueS L[i].row (qAt L k i) (hr _ (List.getElem_mem hi)) (h.row i hi)
    have d3 : decide (kIt (qAt L k i) L[i].row.length < 0) = false := decide_eq_false (by have := h.pos i hi; omega)
    rw [qAt_succ hi] at ih
    clear hl hr h H
    repeat' (first | with_reducible refine br_split (fun _ => ?_) (fun _ => ?_) | simp only [*, push_cast, Array.reduceGetElem?, Nat.reduceBEq, Nat.reduceLT, Nat.reduceAdd, Nat.reduceSub, Nat.reduceLeDiff, Nat.reduceMul, Nat.reduceEqDiff, reduceCtorEq, Int.reduceAdd, Int.reduceLT, Int.reduceLE, Int.reduceToNat, Int.reduceNeg, Int.reduceSub, Int.reduceBEq, Int.reduceBNe, Int.reduceNe, Int.reduceGT, Int.reduceGE, Nat.reduceGT] | (rw [drawC_ok]; rotate_left; decide +kernel; exact cfg_mixed))
  case last =>
    clear H
    repeat' (first | with_reducible refine br_split (fun _ => ?_) (fun _ => ?_) | simp only [*, push_cast, Array.reduceGetElem?, Nat.reduceBEq, Nat.reduceLT, Nat.reduceAdd, Nat.reduceSub, Nat.reduceLeDiff, Nat.reduceMul, Nat.reduceEqDiff, reduceCtorEq, Int.reduceAdd, Int.reduceLT, Int.reduceLE, Int.reduceToNat, Int.reduceNeg, Int.reduceSub, Int.reduceBEq, Int.reduceBNe, Int.reduceNe, Int.reduceGT, Int.reduceGE, Nat.reduceGT] | (rw [drawC_ok]; rotate_left; decide +kernel; exact cfg_mixed))
  repeat' (first | with_reducible refine br_split (fun _ => ?_) (fun _ => ?_) | simp only [*, push_cast, Array.reduceGetElem?, Nat.reduceBEq, Nat.reduceLT, Nat.reduceAdd, Nat.reduceSub, Nat.reduceLeDiff, Nat.reduceMul, Nat.reduceEqDiff, reduceCtorEq, Int.reduceAdd, Int.reduceLT, Int.reduceLE, Int.reduceToNat, Int.reduceNeg, Int.reduceSub, Int.reduceBEq, Int.reduceBNe, Int.reduceNe, Int.reduceGT, Int.reduceGE, Nat.reduceGT] | (rw [drawC_ok]; rotate_left; decide +kernel; exact cfg_mixed))
end Go.Av
end

section
set_option linter.unusedVariables false
namespace Go.Av
def kR (k : Int) : Int := w6 (w6 (k + 1) + 1)
/-- The number before the relation i. -/
def rAt (L : List R) (k : Int) (i : Nat) : Int := (L.take i).foldl (fun k r => qAt r.bag.rows (kR k) r.bag.rows.length) k
structure MkdR (mt : Int → ByteArray) (L : List R) (k : Int) : Prop where
  name : ∀ i (h : i < L.length), L[i].name = mt (rAt L k i)
  w : ∀ i (h : i < L.length), L[i].bag.w = w6 (rAt L k i + 1)
  rows : ∀ i (h : i < L.length), MkdC mt L[i].bag.rows (kR (rAt L k i))
  pos : ∀ i (h : i < L.length), 0 ≤ qAt L[i].bag.rows (kR (rAt L k i)) L[i].bag.rows.length
theorem rAt_zero (L : List R) (k : Int) : rAt L k 0 = k := by simp [rAt]
theorem rAt_succ {L : List R} {k : Int} {i : Nat} (h : i < L.length) : rAt L k (i + 1) = qAt L[i].bag.rows (kR (rAt L k i)) L[i].bag.rows.length := by
  simp only [rAt]
  rw [List.take_succ_eq_append_getElem h, List.foldl_append]; rfl
theorem rAt_cons (c : R) (L : List R) (k : Int) (i : Nat) : rAt (c :: L) k (i + 1) = rAt L (qAt c.bag.rows (kR k) c.bag.rows.length) i := by
  simp [rAt]
def markRs (mt : Int → ByteArray) : List R → Int → List R
  | [], _ => []
  | r :: l, k => ⟨mt k, ⟨w6 (k + 1), markCs mt r.bag.rows (kR k)⟩⟩ :: markRs mt l (qAt r.bag.rows (kR k) r.bag.rows.length)
theorem markRs_len (mt : Int → ByteArray) : ∀ (l : List R) (k : Int), (markRs mt l k).length = l.length
  | [], _ => rfl
  | _ :: l, k => by simp [markRs, markRs_len mt l]
theorem markRs_rows (mt : Int → ByteArray) : ∀ (l : List R) (k : Int) i (h : i < l.length) (h' : i < (markRs mt l k).length), ∃ k', (markRs mt l k)[i].bag.rows = markCs mt l[i].bag.rows k'
  | [], _, i, h, _ => by cases h
  | c :: l, k, i, h, h' => by
    cases i with
    | zero => exact ⟨_, rfl⟩
    | succ i => exact markRs_rows mt l _ i (by simpa using h) (by simpa [markRs] using h')
theorem mkEs_rC (mt : Int → ByteArray) : ∀ (l : List R) (k : Int), mkEs mt (l.map rC) k = ((markRs mt l k).map rC, rAt l k l.length)
  | [], k => rfl
  | c :: l, k => by
    have := mkEs_rC mt l (qAt c.bag.rows (kR k) c.bag.rows.length)
    simp only [List.map_cons, mkEs, rC, mkCs, mkT, mkEs_cC, markRs, List.length_cons, rAt_cons]
    rw [show IntKind.i64.wrap (IntKind.i64.wrap (k + 1) + 1) = kR k from rfl, this]
theorem rAt_mark (mt : Int → ByteArray) : ∀ (l : List R) (k : Int) (i : Nat), rAt (markRs mt l k) k i = rAt l k i
  | [], k, i => rfl
  | c :: l, k, 0 => by simp [rAt]
  | c :: l, k, i + 1 => by
    have := rAt_mark mt l (qAt c.bag.rows (kR k) c.bag.rows.length) i
    simp only [markRs, rAt_cons, qAt_mark, markCs_len]; exact this
/-- The cells of relations. -/
def cellsR (l : List R) : Nat := (l.map fun c => cellsC c.bag.rows + 2).sum
theorem cellsR_cons (c : R) (l : List R) : cellsR (c :: l) = cellsC c.bag.rows + 2 + cellsR l := by simp [cellsR]
theorem kR_in {k : Int} (h0 : 0 ≤ k) (h1 : k + 2 ≤ 9223372036854775807) : kR k = k + 2 := by
  unfold kR w6
  rw [i64_in (n := k + 1) (by omega) (by omega), i64_in (n := k + 1 + 1) (by omega) (by omega)]; omega
theorem markRs_mkd (mt : Int → ByteArray) : ∀ (l : List R) (k : Int), 0 ≤ k → k + cellsR l ≤ 9223372036854775807 → MkdR mt (markRs mt l k) k
  | [], k, _, _ => ⟨fun i h => (by cases h), fun i h => (by cases h), fun i h => (by cases h), fun i h => (by cases h)⟩
  | c :: l, k, h0, h1 => by
    rw [cellsR_cons] at h1
    have e1 : kR k = k + 2 := kR_in h0 (by omega)
    have e2 : qAt c.bag.rows (kR k) c.bag.rows.length = k + 2 + cellsC c.bag.rows := by rw [e1]; exact qAt_in _ _ (by omega) (by omega)
    have ih := markRs_mkd mt l (qAt c.bag.rows (kR k) c.bag.rows.length) (by omega) (by omega)
    refine ⟨fun i h => ?_, fun i h => ?_, fun i h => ?_, fun i h => ?_⟩
    · cases i with
      | zero => simp only [markRs, List.getElem_cons_zero, rAt_zero]
      | succ i => simp only [markRs, List.getElem_cons_succ, rAt_cons, qAt_mark, markCs_len]; exact ih.name i (by simpa [markRs] using h)
    · cases i with
      | zero => simp only [markRs, List.getElem_cons_zero, rAt_zero]
      | succ i => simp only [markRs, List.getElem_cons_succ, rAt_cons, qAt_mark, markCs_len]; exact ih.w i (by simpa [markRs] using h)
    · cases i with
      | zero => simp only [markRs, List.getElem_cons_zero, rAt_zero]; exact markCs_mkd mt _ _ (by omega) (by omega)
      | succ i => simp only [markRs, List.getElem_cons_succ, rAt_cons, qAt_mark, markCs_len]; exact ih.rows i (by simpa [markRs] using h)
    · cases i with
      | zero => simp only [markRs, List.getElem_cons_zero, rAt_zero, qAt_mark, markCs_len]; omega
      | succ i => simp only [markRs, List.getElem_cons_succ, rAt_cons, qAt_mark, markCs_len]; exact ih.pos i (by simpa [markRs] using h)
theorem rAt_in : ∀ (l : List R) (k : Int), 0 ≤ k → k + cellsR l ≤ 9223372036854775807 → rAt l k l.length = k + cellsR l
  | [], k, _, _ => by simp [rAt, cellsR]
  | c :: l, k, h0, h1 => by
    rw [cellsR_cons] at h1
    have e1 : kR k = k + 2 := kR_in h0 (by omega)
    have e2 : qAt c.bag.rows (kR k) c.bag.rows.length = k + 2 + cellsC c.bag.rows := by rw [e1]; exact qAt_in _ _ (by omega) (by omega)
    rw [List.length_cons, rAt_cons, e2, rAt_in l _ (by omega) (by omega), cellsR_cons]; omega
theorem cellsR_le {l : List R} {m : Nat} : (∀ r ∈ l, cellsC r.bag.rows ≤ m) → cellsR l ≤ l.length * (m + 2) := by
  induction l with
  | nil => intro _; simp [cellsR]
  | cons c l ih =>
    intro h
    have := ih fun d hd => h d (List.mem_cons_of_mem _ hd)
    have h1 := h c (by simp)
    rw [cellsR_cons, List.length_cons, Nat.add_mul]
    omega
end Go.Av
end

section
namespace Go.Av
open Go.Proofs Go.RowKit
set_option linter.unusedSimpArgs false
set_option linter.unusedVariables false
theorem ev_heldRelS (L : List R) (k : Int) (hl : L.length ≤ 1099511627776) (hr : ∀ r ∈ L, r.bag.rows.length ≤ 1099511627776 ∧ ∀ c ∈ r.bag.rows, c.row.length ≤ 1099511627776) (h : MkdR mtOf L k) :
    evF cfg 41 [] [.d (.sl .any (L.map rC)), .d (.i .i64 k)] = some (.d (.i .i64 (rAt L k L.length)), []) := by
  have H := Hd.mk (And.intro hl (And.intro hr h))
  clear hl h hr
  (refine (evF_codeZ (C := cfg) (g := 41) (fn := Tryz.f41) rfl Tryz.func41 rfl (by rw [Tryz.ntmps41]; simp) (by kernel_rfl)).trans ?_; rw [Tryz.results41, Tryz.ntmps41])
  repeat' (first | with_reducible refine br_split (fun _ => ?_) (fun _ => ?_) | simp only [*, push_cast, Array.reduceGetElem?, Nat.reduceBEq, Nat.reduceLT, Nat.reduceAdd, Nat.reduceSub, Nat.reduceLeDiff, Nat.reduceMul, Nat.reduceEqDiff, reduceCtorEq, Int.reduceAdd, Int.reduceLT, Int.reduceLE, Int.reduceToNat, Int.reduceNeg, Int.reduceSub, Int.reduceBEq, Int.reduceBNe, Int.reduceNe, Int.reduceGT, Int.reduceGE, Nat.reduceGT] | (rw [drawC_ok]; rotate_left; decide +kernel; exact cfg_mixed))
  rw [show ({ t := [(0, .d (.sl .any (L.map rC))), (1, .d (.i .i64 k)), (5, .d (.i .i64 0))], o := [], ks := [], n := 0, sz := 43, u := noU, g := some (0, false) } : St) = { t := [(0, .d (.sl .any (L.map rC))), (1, .d (.i .i64 (rAt L k 0))), (5, .d (.i .i64 0))], o := [], ks := [], n := 0, sz := 43, u := noU, g := some (0, false) } from by rw [rAt_zero]]
  rw [evM_for0 L.length (fun i j => { t := [(0, .d (.sl .any (L.map rC))), (1, .d (.i .i64 (rAt L k i))), (5, .d (.i .i64 j))], o := [], ks := [], n := 0, sz := 43, u := noU, g := some (0, false) }) (fun i => some (.exit 0, { t := [(1, .d (.i .i64 (rAt L k L.length)))], o := [], ks := [], n := 0, sz := 43, u := noU, g := some (0, false) })) ?step ?last]
  case step =>
    intro i hi ih
    obtain ⟨hl, hr, h⟩ := H.out
    have d1 := dec_lt hi
    have d2 := dec_ltN hi
    have g1 : (L.map rC)[i]? = some [.s (mtOf (rAt L k i)), .i .i64 (w6 (rAt L k i + 1)), .sl .any (L[i].bag.rows.map cC)] := by
      rw [List.getElem?_map, List.getElem?_eq_getElem hi]
      show some [T.s L[i].name, .i .i64 L[i].bag.w, .sl .any (L[i].bag.rows.map cC)] = _
      rw [h.name i hi, h.w i hi]
    have w1 : IntKind.i64.wrap ((i : Int) + 1) = (i : Int) + 1 := wrap_succ (by omega)
    have e1 : (w6 (rAt L k i + 1) != w6 (rAt L k i + 1)) = false := bne_self_eq_false _
    have m0 := ev_markText (rAt L k i)
    have m1 := ev_heldCountedS L[i].bag.rows (kR (rAt L k i)) (hr _ (List.getElem_mem hi)).1 (hr _ (List.getElem_mem hi)).2 (h.rows i hi)
    rw [show kR (rAt L k i) = w6 (w6 (rAt L k i + 1) + 1) from rfl] at m1
    have d3 : decide (qAt L[i].bag.rows (w6 (w6 (rAt L k i + 1) + 1)) L[i].bag.rows.length < 0) = false := decide_eq_false (by have := h.pos i hi; unfold kR at this; omega)
    rw [rAt_succ hi, show kR (rAt L k i) = w6 (w6 (rAt L k i + 1) + 1) from rfl] at ih
    clear hl hr h H
    repeat' (first | with_reducible refine br_split (fun _ => ?_) (fun _ => ?_) | simp only [*, push_cast, Array.reduceGetElem?, Nat.reduceBEq, Nat.reduceLT, Nat.reduceAdd, Nat.reduceSub, Nat.reduceLeDiff, Nat.reduceMul, Nat.reduceEqDiff, reduceCtorEq, Int.reduceAdd, Int.reduceLT, Int.reduceLE, Int.reduceToNat, Int.reduceNeg, Int.reduceSub, Int.reduceBEq, Int.reduceBNe, Int.reduceNe, Int.reduceGT, Int.reduceGE, Nat.reduceGT] | (rw [drawC_ok]; rotate_left; decide +kernel; exact cfg_mixed))
  case last =>
    clear H
    repeat' (first | with_reducible refine br_split (fun _ => ?_) (fun _ => ?_) | simp only [*, push_cast, Array.reduceGetElem?, Nat.reduceBEq, Nat.reduceLT, Nat.reduceAdd, Nat.reduceSub, Nat.reduceLeDiff, Nat.reduceMul, Nat.reduceEqDiff, reduceCtorEq, Int.reduceAdd, Int.reduceLT, Int.reduceLE, Int.reduceToNat, Int.reduceNeg, Int.reduceSub, Int.reduceBEq, Int.reduceBNe, Int.reduceNe, Int.reduceGT, Int.reduceGE, Nat.reduceGT] | (rw [drawC_ok]; rotate_left; decide +kernel; exact cfg_mixed))
  repeat' (first | with_reducible refine br_split (fun _ => ?_) (fun _ => ?_) | simp only [*, push_cast, Array.reduceGetElem?, Nat.reduceBEq, Nat.reduceLT, Nat.reduceAdd, Nat.reduceSub, Nat.reduceLeDiff, Nat.reduceMul, Nat.reduceEqDiff, reduceCtorEq, Int.reduceAdd, Int.reduceLT, Int.reduceLE, Int.reduceToNat, Int.reduceNeg, Int.reduceSub, Int.reduceBEq, Int.reduceBNe, Int.reduceNe, Int.reduceGT, Int.reduceGE, Nat.reduceGT] | (rw [drawC_ok]; rotate_left; decide +kernel; exact cfg_mixed))
end Go.Av
end

section
set_option linter.unusedVariables false
namespace Go.Av
/-- The number before the string i. -/
def sIt : Int → Nat → Int
  | k, 0 => k
  | k, n + 1 => sIt (w6 (k + 1)) n
theorem sIt_succ : ∀ (n : Nat) (k : Int), sIt k (n + 1) = w6 (sIt k n + 1)
  | 0, k => rfl
  | n + 1, k => by rw [sIt, sIt_succ n]; rfl
theorem sIt_in : ∀ (n : Nat) (k : Int), 0 ≤ k → k + n ≤ 9223372036854775807 → sIt k n = k + n
  | 0, k, _, _ => by simp [sIt]
  | n + 1, k, h0, h1 => by
    rw [sIt, show w6 (k + 1) = k + 1 from i64_in (by omega) (by omega), sIt_in n (k + 1) (by omega) (by omega)]
    omega
def markSs (mt : Int → ByteArray) : List ByteArray → Int → List ByteArray
  | [], _ => []
  | _ :: l, k => mt k :: markSs mt l (w6 (k + 1))
theorem markSs_len (mt : Int → ByteArray) : ∀ (l : List ByteArray) (k : Int), (markSs mt l k).length = l.length
  | [], _ => rfl
  | _ :: l, k => by simp [markSs, markSs_len mt l]
theorem mkEs_sC (mt : Int → ByteArray) : ∀ (l : List ByteArray) (k : Int), mkEs mt (l.map sC) k = ((markSs mt l k).map sC, sIt k l.length)
  | [], k => rfl
  | s :: l, k => by
    have := mkEs_sC mt l (w6 (k + 1))
    simp only [List.map_cons, mkEs, sC, mkCs, mkT, markSs, List.length_cons]
    show ([T.s (mt k)] :: (mkEs mt (List.map sC l) (w6 (k + 1))).fst, (mkEs mt (List.map sC l) (w6 (k + 1))).snd) = _
    rw [this]
    rfl
theorem markSs_mkd (mt : Int → ByteArray) : ∀ (l : List ByteArray) (k : Int) (i : Nat) (h : i < (markSs mt l k).length), (markSs mt l k)[i] = mt (sIt k i)
  | _ :: l, k, 0, h => rfl
  | _ :: l, k, i + 1, h => by
    have := markSs_mkd mt l (w6 (k + 1)) i (by simpa [markSs] using h)
    simpa [markSs, sIt] using this
end Go.Av
end

section
namespace Go.Av
open Go.Proofs Go.RowKit
set_option linter.unusedSimpArgs false
set_option linter.unusedVariables false
theorem ev_heldStringS (L : List ByteArray) (k : Int) (hl : L.length ≤ 1099511627776) (h : ∀ i (h : i < L.length), L[i] = mtOf (sIt k i)) : evF cfg 40 [] [.d (.sl .any (L.map sC)), .d (.i .i64 k)] = some (.d (.i .i64 (sIt k L.length)), []) := by
  have H := Hd.mk (And.intro hl h)
  clear hl h
  (refine (evF_code (C := cfg) (g := 40) (fn := Tryz.f40) rfl Tryz.func40 rfl (by rw [Tryz.ntmps40]; simp) (by kernel_rfl) (by first | decide | simp [keysOf])).trans ?_; rw [Tryz.results40, Tryz.ntmps40])
  repeat' (first | with_reducible refine br_split (fun _ => ?_) (fun _ => ?_) | simp only [*, push_cast, Array.reduceGetElem?, Nat.reduceBEq, Nat.reduceLT, Nat.reduceAdd, Nat.reduceSub, Nat.reduceLeDiff, Nat.reduceMul, Nat.reduceEqDiff, reduceCtorEq, Int.reduceAdd, Int.reduceLT, Int.reduceLE, Int.reduceToNat, Int.reduceNeg, Int.reduceSub, Int.reduceBEq, Int.reduceBNe, Int.reduceNe, Int.reduceGT, Int.reduceGE, Nat.reduceGT] | (rw [drawC_ok]; rotate_left; decide +kernel; exact cfg_mixed))
  rw [show k = sIt k 0 from rfl]
  rw [evM_for0 L.length (fun i j => { t := [(0, .d (.sl .any (L.map sC))), (1, .d (.i .i64 (sIt k i))), (5, .d (.i .i64 j))], o := [], ks := [], n := 0, sz := 22, u := noU }) (fun i => some (.exit 0, { t := [(1, .d (.i .i64 (sIt k L.length)))], o := [], ks := [], n := 0, sz := 22, u := noU })) ?step ?last]
  case step =>
    intro i hi ih
    obtain ⟨hl, h⟩ := H.out
    have d1 := dec_lt hi
    have d2 := dec_ltN hi
    have g1 : (L.map sC)[i]? = some [.s (mtOf (sIt k i))] := by
      rw [List.getElem?_map, List.getElem?_eq_getElem hi, h i hi]; rfl
    have w1 : IntKind.i64.wrap ((i : Int) + 1) = (i : Int) + 1 := wrap_succ (by omega)
    have m1 := ev_markText (sIt k i)
    have w2 : IntKind.i64.wrap (sIt k i + 1) = sIt k (i + 1) := (sIt_succ i k).symm
    clear hl h hi H
    repeat' (first | with_reducible refine br_split (fun _ => ?_) (fun _ => ?_) | simp only [*, push_cast, Array.reduceGetElem?, Nat.reduceBEq, Nat.reduceLT, Nat.reduceAdd, Nat.reduceSub, Nat.reduceLeDiff, Nat.reduceMul, Nat.reduceEqDiff, reduceCtorEq, Int.reduceAdd, Int.reduceLT, Int.reduceLE, Int.reduceToNat, Int.reduceNeg, Int.reduceSub, Int.reduceBEq, Int.reduceBNe, Int.reduceNe, Int.reduceGT, Int.reduceGE, Nat.reduceGT] | (rw [drawC_ok]; rotate_left; decide +kernel; exact cfg_mixed))
  case last =>
    clear H
    repeat' (first | with_reducible refine br_split (fun _ => ?_) (fun _ => ?_) | simp only [*, push_cast, Array.reduceGetElem?, Nat.reduceBEq, Nat.reduceLT, Nat.reduceAdd, Nat.reduceSub, Nat.reduceLeDiff, Nat.reduceMul, Nat.reduceEqDiff, reduceCtorEq, Int.reduceAdd, Int.reduceLT, Int.reduceLE, Int.reduceToNat, Int.reduceNeg, Int.reduceSub, Int.reduceBEq, Int.reduceBNe, Int.reduceNe, Int.reduceGT, Int.reduceGE, Nat.reduceGT] | (rw [drawC_ok]; rotate_left; decide +kernel; exact cfg_mixed))
  repeat' (first | with_reducible refine br_split (fun _ => ?_) (fun _ => ?_) | simp only [*, push_cast, Array.reduceGetElem?, Nat.reduceBEq, Nat.reduceLT, Nat.reduceAdd, Nat.reduceSub, Nat.reduceLeDiff, Nat.reduceMul, Nat.reduceEqDiff, reduceCtorEq, Int.reduceAdd, Int.reduceLT, Int.reduceLE, Int.reduceToNat, Int.reduceNeg, Int.reduceSub, Int.reduceBEq, Int.reduceBNe, Int.reduceNe, Int.reduceGT, Int.reduceGE, Nat.reduceGT] | (rw [drawC_ok]; rotate_left; decide +kernel; exact cfg_mixed))
  rfl
theorem raw_Step (w : World) (u0 u1 u3 : Value) (a a' : Option Addr) (len cap len' cap' : Nat) (k : Int) (R : Int → World → Prop)
   (hc : ∀ w1, Below w.heap.size w w1 → w1.cell? ⟨w.heap.size, 4, none⟩ = some (.slice a' len' cap') → w.heap.size < w1.heap.size → Calls Tryz.prog 38 #[.slice a len cap, .int .i64 k] w1 fun e w2 => ∃ k1, e = .returned (.int .i64 k1) ∧ w2.cell? ⟨w.heap.size, 4, none⟩ = some (.slice a' len' cap') ∧
      Calls Tryz.prog 39 #[.slice a' len' cap', .int .i64 k1] w2 fun e w' => ∃ k', e = .returned (.int .i64 k') ∧ R k' w') :
   Calls Tryz.prog 9 #[.agg #[u0, u1, .slice a len cap, u3, .slice a' len' cap'], .int .i64 k] w fun e w' => ∃ k', e = .returned (.int .i64 k') ∧ R k' w' := by
  go_enter Tryz.func9, Tryz.ntmps9
  go_wp2_with (first | (go_at_call 38; refine (hc _ ((Below.refl _ _).alloc (Nat.le_refl _) _) (by simp) (by simp)).mono ?_; rintro e w2 ⟨k1, rfl, hcell, h⟩) | (go_at_call 39; refine h.mono ?_; rintro e w' ⟨k', rfl, h'⟩))
  go_ret
  exact ⟨_, rfl, h'⟩
end Go.Av
end

section
namespace Go.Av
open Go.Proofs Go.RowKit
set_option linter.unusedSimpArgs false
set_option linter.unusedVariables false
theorem SafeT.under {p : Tok} {i j : Nat} (hne : i ≠ j) (t : T) : ∀ x ∈ tkT (t.cn (p ++ [j])), ∃ q, x = some q ∧ q ≠ [] ∧ ¬ (p ++ [i]) <+: q := fun x hx => by
  obtain ⟨q', h1, h2⟩ := (tk_cn t (p ++ [j])).some x hx
  obtain ⟨u', hu'⟩ := h2
  refine ⟨q', h1, fun e => ?_, fun ⟨u, hu⟩ => ?_⟩
  · rw [e] at hu'; simp at hu'
  · rw [← hu', List.append_assoc, List.append_assoc] at hu
    have := List.append_cancel_left hu
    exact hne (by simpa using (List.cons.inj this).1)
theorem rep_mv {p : Tok} {w w' : World} {S : Stable} {t : T} {v : Value} (hn : Nmd w S) (hlt : ∀ b x, S b x → b < w.heap.size) (hnm : ∀ q b, q ≠ [] → S.t q b → ∃ x, S b x) (hp : p ≠ []) (hm : Mv p w S w')
    (hs : ∀ x ∈ tkT t, ∃ q, x = some q ∧ q ≠ [] ∧ ¬ p <+: q) (hr : Rep w S t v) : Rep w' S t v := by
  refine hr.same fun x hx => ?_
  obtain ⟨q, e, hq0, hq⟩ := hs x hx
  refine ⟨q, e, fun b hb => hm.block b ?_ ?_⟩
  · obtain ⟨y, hy⟩ := hnm q b hq0 hb
    exact hlt b y hy
  · rintro ⟨q', g1, g2⟩
    have hq'0 : q' ≠ [] := fun e => by subst e; exact hp (List.prefix_nil.1 g1)
    have : q' = q := hn.i2 q' q b hq'0 g2 hb
    subst this
    exact hq g1
/-- The two roots of a step. -/
def stepR (p : Tok) (cols : List ByteArray) (change : List R) (k : Int) (t t' : T) : Prop :=
  (t = .sl (.tok (p ++ [2])) (cnEs (p ++ [2]) 0 (cols.map sC)) ∧ t' = .sl (.tok (p ++ [2])) (cnEs (p ++ [2]) 0 ((markSs mtOf cols k).map sC))) ∨
  (t = .sl (.tok (p ++ [4])) (cnEs (p ++ [4]) 0 (change.map rC)) ∧ t' = .sl (.tok (p ++ [4])) (cnEs (p ++ [4]) 0 ((markRs mtOf change (sIt k cols.length)).map rC)))
theorem mcall_Step [Known] (ht : TxtOk mtOf) (p : Tok) {cols : List ByteArray} {change : List R} (hcl : cols.length ≤ 1099511627776) (hrl : change.length ≤ 1099511627776) (hrr : ∀ r ∈ change, r.bag.rows.length ≤ 1099511627776 ∧ ∀ c ∈ r.bag.rows, c.row.length ≤ 1099511627776) (kind : Int) (name query : ByteArray) (k : Int) :
    MCallM Tryz.prog 9 p (stepR p cols change k) [.agg [.d (.i .i64 kind), .d (.s name), .d (.sl (.tok (p ++ [2])) (cnEs (p ++ [2]) 0 (cols.map sC))), .d (.s query), .d (.sl (.tok (p ++ [4])) (cnEs (p ++ [4]) 0 (change.map rC)))], .d (.i .i64 k)] (rAt change (sIt k cols.length) change.length) := by
  intro w S β vs hn hlt hnm hl hrv
  have h0 := hrv 0 (by simp) (by rw [← hl]; simp)
  have h1 := hrv 1 (by simp) (by rw [← hl]; simp)
  obtain ⟨v0, v1, rfl⟩ := two_of (vs := vs) (by rw [← hl]; rfl)
  simp only [List.getElem_cons_zero, List.getElem_cons_succ, List.getElem_toArray] at h0 h1
  cases h1 with | d h1 => cases h1 with | i =>
  cases h0 with | @agg _ vs2 hl2 hr2 =>
  have g2 := hr2 2 (by simp) (by rw [← hl2]; simp)
  have g4 := hr2 4 (by simp) (by rw [← hl2]; simp)
  obtain ⟨u0, u1, u2, u3, u4, rfl⟩ : ∃ u0 u1 u2 u3 u4, vs2 = #[u0, u1, u2, u3, u4] := by
    have hs : vs2.size = 5 := by rw [← hl2]; rfl
    refine ⟨vs2[0], vs2[1], vs2[2], vs2[3], vs2[4], Array.ext hs fun i h1 h2 => ?_⟩
    have : i = 0 ∨ i = 1 ∨ i = 2 ∨ i = 3 ∨ i = 4 := by omega
    rcases this with rfl | rfl | rfl | rfl | rfl <;> rfl
  simp only [List.getElem_cons_zero, List.getElem_cons_succ, List.getElem_toArray] at g2 g4
  cases g2 with | d g2 =>
  cases g4 with | d g4 =>
  obtain ⟨a, len, cap, rfl⟩ := slice_of g2
  obtain ⟨a', len', cap', rfl⟩ := slice_of g4
  have hp2 : p ++ [2] ≠ [] := by simp
  have hp4 : p ++ [4] ≠ [] := by simp
  refine (raw_Step w u0 u1 u3 a a' len cap len' cap' k (fun k' w' => k' = rAt change (sIt k cols.length) change.length ∧ Mv p w S w' ∧ ∀ t t' v, stepR p cols change k t t' → Rep w S t v → Rep w' S t' v) ?_).mono ?_
  · intro w1 hb hcell hsz
    have hm : Mv (p ++ [2]) w S w1 := Mv.below hn hlt hnm hb
    have hn1 := hm.nmd hn
    have hlt1 : ∀ b x, S b x → b < w1.heap.size := fun b x h => Nat.lt_of_lt_of_le (hlt b x h) hm.size
    have hcS : ∀ b x, S b x → w1.cell? ⟨b, x, none⟩ = w.cell? ⟨b, x, none⟩ := fun b x hs => hb.cell (p := ⟨b, x, none⟩) (hlt b x hs)
    have g2' := g2.mono (fun _ _ h => h) (fun _ _ h => h) hcS
    have g4' := g4.mono (fun _ _ h => h) (fun _ _ h => h) hcS
    refine (mok_StringS ht w1 S (p ++ [2]) (cols.map sC) _ k hp2 hn1 hlt1 hnm ⟨cols, rfl, hcl⟩ g2').mono ?_
    rintro e w2 ⟨rfl, q2, m2⟩
    have hn2 := m2.nmd hn1
    have hlt2 : ∀ b x, S b x → b < w2.heap.size := fun b x h => Nat.lt_of_lt_of_le (hlt1 b x h) m2.size
    have q4 := rep_mv hn1 hlt1 hnm hp2 m2 (SafeT.under (p := p) (i := 2) (j := 4) (by decide) (.sl .any (change.map rC))) g4'
    rw [mkEs_sC] at q2 ⊢
    refine ⟨_, rfl, ?_, ?_⟩
    · have hblk : w2.heap[w.heap.size]? = w1.heap[w.heap.size]? := by
        refine m2.block _ hsz ?_
        rintro ⟨q, f1, f2⟩
        have hq0 : q ≠ [] := fun e => by subst e; exact hp2 (List.prefix_nil.1 f1)
        obtain ⟨x, hx⟩ := hnm q _ hq0 f2
        exact Nat.lt_irrefl _ (hlt _ x hx)
      rw [← hcell]
      simp only [World.cell?, hblk]
    · refine (mok_RelS ht w2 S (p ++ [4]) (change.map rC) _ (sIt k cols.length) hp4 hn2 hlt2 hnm ⟨change, rfl, hrl, hrr⟩ q4).mono ?_
      rintro e w3 ⟨rfl, q5, m3⟩
      rw [mkEs_rC] at q5 ⊢
      have q3 := rep_mv hn2 hlt2 hnm hp4 m3 (SafeT.under (p := p) (i := 4) (j := 2) (by decide) (.sl .any ((markSs mtOf cols k).map sC))) q2
      have mm : Mv p w S w3 := ((Mv.below hn hlt hnm hb : Mv p w S w1).trans m2 (List.prefix_append p [2])).trans m3 (List.prefix_append p [4])
      refine ⟨_, rfl, rfl, mm, ?_⟩
      rintro t t' v (⟨rfl, rfl⟩ | ⟨rfl, rfl⟩) hv
      · exact root_all hn hp2 (by simp [markSs_len]) g2 q3 v hv
      · exact root_all hn hp4 (by simp [markRs_len]) g4 q5 v hv
  · rintro e w' ⟨k', rfl, rfl, hm, hr⟩
    exact ⟨rfl, hm, hr⟩
end Go.Av
end

section
namespace Go.Av
open Go.Proofs Go.RowKit
set_option linter.unusedSimpArgs false
set_option linter.unusedVariables false
abbrev noKn : Known := ⟨fun _ _ _ => False⟩
attribute [local instance] noKn

theorem txtOk : TxtOk mtOf := by
  intro w k
  have hs := (evF_sound (C := cfg) cfg_hE cfg_hO (ev_markText k)).2
  refine (hs w (inHeap w) noPl #[.int .i64 k] (fun _ q b h => h) (fun b x h => h) (fun b o v h => h.elim) rfl ?_ (by simp [okL, TV.ok]) (There.mk (fun k ob hk => by cases hk) (fun k k' ob ob' hk => by cases hk) (fun k ob hk => by cases hk))).mono ?_
  · intro i h1 h2
    have : i = 0 := by simpa using h1
    subst this
    exact .d (.i _ _)
  · rintro e w' ⟨r, v, S', β', outs, rfl, ⟨rfl, rfl⟩, hr, _, _, _, _, _, hx⟩
    refine ⟨?_, ⟨hx.below.os, hx.below.tape, hx.below.output, hx.below.size, fun k hk => hx.below.block k hk (by rintro ⟨k', ob, hk', _⟩; cases hk')⟩⟩
    cases hr with
    | d h => cases h; rfl
end Go.Av
end
