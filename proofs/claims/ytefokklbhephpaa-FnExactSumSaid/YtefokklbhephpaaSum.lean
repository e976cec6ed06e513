import Derived.Test.YtefokklbhephpaaAvC
import Derived.Test.YtefokklbhephpaaAvTy
namespace Go.Av
open Go.Proofs
set_option linter.unusedSimpArgs false

def sumStep (x : Int) (c : UInt8) : Int := IntKind.u32.wrap (bitsI .xor .u32 x (IntKind.u32.wrap c.toNat) * 16777619)
def sumF (l : List UInt8) : Int := l.foldl sumStep 2166136261
theorem sumF_snoc (l : List UInt8) (i : Nat) (h : i < l.length) : sumF (l.take (i + 1)) = sumStep (sumF (l.take i)) l[i] := by
  rw [List.take_succ_eq_append_getElem h]
  simp only [sumF, List.foldl_append, List.foldl_cons, List.foldl_nil]

theorem spec_Sum (x : ByteArray) (hx : x.size ≤ 140737488351232) : AP Try.prog 8 [.d (.s x)] (fun _ _ r => r = .d (.i .u32 (sumF x.data.toList))) := by
  refine AP.of Try.func8 rfl (by rw [Try.ntmps8]; simp) fun n0 => ?_
  simp only [Try.results8, Try.ntmps8, init, argT, Nat.zero_add, Nat.reduceAdd]
  repeat' (first
    | with_reducible refine aw_seq_k (fun _ _ => ?_)
    | (with_reducible refine aw_region ?_; simp only [push_cast, Array.reduceGetElem?, Nat.reduceBEq, Nat.reduceLT, Nat.reduceAdd, Nat.reduceSub, Nat.reduceLeDiff, Nat.reduceMul])
    | with_reducible refine aw_block ?_
    | (with_reducible refine aw_skip ?_; simp only [push_cast, Array.reduceGetElem?, Nat.reduceBEq, Nat.reduceLT, Nat.reduceAdd, Nat.reduceSub, Nat.reduceLeDiff, Nat.reduceMul])
    | (with_reducible refine aw_exit ?_; simp only [push_cast, Array.reduceGetElem?, Nat.reduceBEq, Nat.reduceLT, Nat.reduceAdd, Nat.reduceSub, Nat.reduceLeDiff, Nat.reduceMul, if_true, if_false, Nat.reduceEqDiff])
    | (with_reducible refine aw_ret ?_; simp only [push_cast, Array.reduceGetElem?, Nat.reduceBEq, Nat.reduceLT, Nat.reduceAdd, Nat.reduceSub, Nat.reduceLeDiff, Nat.reduceMul])
    | (with_reducible refine aw_cond' ?_; simp only [push_cast, Array.reduceGetElem?, Nat.reduceBEq, Nat.reduceLT, Nat.reduceAdd, Nat.reduceSub, Nat.reduceLeDiff, Nat.reduceMul])
    | (with_reducible refine afin_same ?_ (fun n hn => ?_)) <;> simp only [push_cast, Array.reduceGetElem?, Nat.reduceBEq, Nat.reduceLT, Nat.reduceAdd, Nat.reduceSub, Nat.reduceLeDiff, Nat.reduceMul]
    | with_reducible intro _ _
    | with_reducible apply_assumption -exfalso -symm)
  refine aw_loop (fun m st => ∃ i : Nat, i ≤ x.size ∧ m = x.size - i ∧ st = { t := [(0, .d (.s x)), (3, .d (.i .u32 (sumF (x.data.toList.take i)))), (4, .d (.i .i64 i))], o := [], ks := [], n := n0, sz := 19 }) x.size
    (s1 := { t := [(0, .d (.s x)), (3, .d (.i .u32 (sumF (x.data.toList.take 0)))), (4, .d (.i .i64 (0 : Nat)))], o := [], ks := [], n := n0, sz := 19 }) (SLe.of' ?_ ?_ ?_ rfl) ⟨0, by omega, by omega, rfl⟩ ?_
  · simp only [push_cast, Array.reduceGetElem?, Nat.reduceBEq, Nat.reduceLT, Nat.reduceAdd, Nat.reduceSub, Nat.reduceLeDiff, Nat.reduceMul]
    simp [sumF]
  · simp only [push_cast, Array.reduceGetElem?, Nat.reduceBEq, Nat.reduceLT, Nat.reduceAdd, Nat.reduceSub, Nat.reduceLeDiff, Nat.reduceMul]
  · exact Nat.le_refl _
  rintro m st ⟨i, hi, rfl, rfl⟩
  by_cases hlt : i < x.size
  · have hc : x[i]? = some x[i] := by rw [getElem?_pos]
    have hd : decide ((i : Int) < (x.size : Int)) = true := by simpa using hlt
    have hw : IntKind.i64.wrap ((i : Int) + 1) = ((i + 1 : Nat) : Int) := by rw [i64_in (by omega) (by omega)]; omega
    repeat' (first
    | with_reducible refine aw_seq_k (fun _ _ => ?_)
    | (with_reducible refine aw_region ?_; simp only [hd, hc, hw, push_cast, Array.reduceGetElem?, Nat.reduceBEq, Nat.reduceLT, Nat.reduceAdd, Nat.reduceSub, Nat.reduceLeDiff, Nat.reduceMul])
    | with_reducible refine aw_block ?_
    | (with_reducible refine aw_skip ?_; simp only [hd, hc, hw, push_cast, Array.reduceGetElem?, Nat.reduceBEq, Nat.reduceLT, Nat.reduceAdd, Nat.reduceSub, Nat.reduceLeDiff, Nat.reduceMul])
    | (with_reducible refine aw_exit ?_; simp only [hd, hc, hw, push_cast, Array.reduceGetElem?, Nat.reduceBEq, Nat.reduceLT, Nat.reduceAdd, Nat.reduceSub, Nat.reduceLeDiff, Nat.reduceMul, if_true, if_false, Nat.reduceEqDiff])
    | (with_reducible refine aw_ret ?_; simp only [hd, hc, hw, push_cast, Array.reduceGetElem?, Nat.reduceBEq, Nat.reduceLT, Nat.reduceAdd, Nat.reduceSub, Nat.reduceLeDiff, Nat.reduceMul])
    | (with_reducible refine aw_cond' ?_; simp only [hd, hc, hw, push_cast, Array.reduceGetElem?, Nat.reduceBEq, Nat.reduceLT, Nat.reduceAdd, Nat.reduceSub, Nat.reduceLeDiff, Nat.reduceMul])
    | (with_reducible refine afin_same ?_ (fun n hn => ?_)) <;> simp only [hd, hc, hw, push_cast, Array.reduceGetElem?, Nat.reduceBEq, Nat.reduceLT, Nat.reduceAdd, Nat.reduceSub, Nat.reduceLeDiff, Nat.reduceMul]
    | with_reducible intro _ _
    | with_reducible apply_assumption -exfalso -symm)
    refine ⟨x.size - (i + 1), { t := [(0, .d (.s x)), (3, .d (.i .u32 (sumF (x.data.toList.take (i + 1))))), (4, .d (.i .i64 (i + 1 : Nat)))], o := [], ks := [], n := n0, sz := 19 }, by omega, SLe.of' ?_ ?_ (Nat.le_refl _) rfl, i + 1, by omega, rfl, rfl⟩
    · simp only [push_cast, Array.reduceGetElem?, Nat.reduceBEq, Nat.reduceLT, Nat.reduceAdd, Nat.reduceSub, Nat.reduceLeDiff, Nat.reduceMul]
      rw [sumF_snoc _ i (by simpa using hlt)]
      rfl
    · simp only [push_cast, Array.reduceGetElem?, Nat.reduceBEq, Nat.reduceLT, Nat.reduceAdd, Nat.reduceSub, Nat.reduceLeDiff, Nat.reduceMul]
  · have hd : decide ((i : Int) < (x.size : Int)) = false := by simpa using hlt
    have : i = x.size := by omega
    subst this
    have ht : x.data.toList.take x.size = x.data.toList := List.take_of_length_le (by simp)
    repeat' (first
    | with_reducible refine aw_seq_k (fun _ _ => ?_)
    | (with_reducible refine aw_region ?_; simp only [hd, ht, push_cast, Array.reduceGetElem?, Nat.reduceBEq, Nat.reduceLT, Nat.reduceAdd, Nat.reduceSub, Nat.reduceLeDiff, Nat.reduceMul])
    | with_reducible refine aw_block ?_
    | (with_reducible refine aw_skip ?_; simp only [hd, ht, push_cast, Array.reduceGetElem?, Nat.reduceBEq, Nat.reduceLT, Nat.reduceAdd, Nat.reduceSub, Nat.reduceLeDiff, Nat.reduceMul])
    | (with_reducible refine aw_exit ?_; simp only [hd, ht, push_cast, Array.reduceGetElem?, Nat.reduceBEq, Nat.reduceLT, Nat.reduceAdd, Nat.reduceSub, Nat.reduceLeDiff, Nat.reduceMul, if_true, if_false, Nat.reduceEqDiff])
    | (with_reducible refine aw_ret ?_; simp only [hd, ht, push_cast, Array.reduceGetElem?, Nat.reduceBEq, Nat.reduceLT, Nat.reduceAdd, Nat.reduceSub, Nat.reduceLeDiff, Nat.reduceMul])
    | (with_reducible refine aw_cond' ?_; simp only [hd, ht, push_cast, Array.reduceGetElem?, Nat.reduceBEq, Nat.reduceLT, Nat.reduceAdd, Nat.reduceSub, Nat.reduceLeDiff, Nat.reduceMul])
    | (with_reducible refine afin_same ?_ (fun n hn => ?_)) <;> simp only [hd, ht, push_cast, Array.reduceGetElem?, Nat.reduceBEq, Nat.reduceLT, Nat.reduceAdd, Nat.reduceSub, Nat.reduceLeDiff, Nat.reduceMul]
    | with_reducible intro _ _
    | with_reducible apply_assumption -exfalso -symm)

theorem bytesT_len (x : ByteArray) : (bytesT x).length = x.size := by simp [bytesT]
theorem bytesT_get (x : ByteArray) (i : Nat) (h : i < x.size) : (bytesT x)[i]? = some [.i .u8 (x[i]).toNat] := by
  unfold bytesT
  rw [List.getElem?_map, List.getElem?_eq_getElem (by simpa using h)]
  rfl

theorem impl_Sum (x : ByteArray) (hx : x.size ≤ 140737488351232) : AP Try.prog 9 [.d (.s x)] (fun _ _ r => r = .d (.i .u32 (sumF x.data.toList))) := by
  have hl := bytesT_len x
  refine AP.of Try.func9 rfl (by rw [Try.ntmps9]; simp) fun n0 => ?_
  simp only [Try.results9, Try.ntmps9, init, argT, Nat.zero_add, Nat.reduceAdd]
  repeat' (first
    | with_reducible refine aw_seq_k (fun _ _ => ?_)
    | (with_reducible refine aw_region ?_; simp only [hl, push_cast, Array.reduceGetElem?, Nat.reduceBEq, Nat.reduceLT, Nat.reduceAdd, Nat.reduceSub, Nat.reduceLeDiff, Nat.reduceMul])
    | with_reducible refine aw_block ?_
    | (with_reducible refine aw_skip ?_; simp only [hl, push_cast, Array.reduceGetElem?, Nat.reduceBEq, Nat.reduceLT, Nat.reduceAdd, Nat.reduceSub, Nat.reduceLeDiff, Nat.reduceMul])
    | (with_reducible refine aw_exit ?_; simp only [hl, push_cast, Array.reduceGetElem?, Nat.reduceBEq, Nat.reduceLT, Nat.reduceAdd, Nat.reduceSub, Nat.reduceLeDiff, Nat.reduceMul, if_true, if_false, Nat.reduceEqDiff])
    | (with_reducible refine aw_ret ?_; simp only [hl, push_cast, Array.reduceGetElem?, Nat.reduceBEq, Nat.reduceLT, Nat.reduceAdd, Nat.reduceSub, Nat.reduceLeDiff, Nat.reduceMul])
    | (with_reducible refine aw_cond' ?_; simp only [hl, push_cast, Array.reduceGetElem?, Nat.reduceBEq, Nat.reduceLT, Nat.reduceAdd, Nat.reduceSub, Nat.reduceLeDiff, Nat.reduceMul])
    | (with_reducible refine afin_same ?_ (fun n hn => ?_)) <;> simp only [hl, push_cast, Array.reduceGetElem?, Nat.reduceBEq, Nat.reduceLT, Nat.reduceAdd, Nat.reduceSub, Nat.reduceLeDiff, Nat.reduceMul]
    | with_reducible intro _ _
    | with_reducible apply_assumption -exfalso -symm)
  rename_i blk hblk
  refine aw_loop (fun m st => ∃ i : Nat, i ≤ x.size ∧ m = x.size - i ∧ st = { t := [(3, .d (.i .u32 (sumF (x.data.toList.take i)))), (7, .d (.sl blk (bytesT x))), (8, .d (.i .i64 x.size)), (9, .d (.i .i64 i))], o := [], ks := [], n := blk + 1, sz := 20 }) x.size
    (s1 := { t := [(3, .d (.i .u32 (sumF (x.data.toList.take 0)))), (7, .d (.sl blk (bytesT x))), (8, .d (.i .i64 x.size)), (9, .d (.i .i64 (0 : Nat)))], o := [], ks := [], n := blk + 1, sz := 20 }) (SLe.of' ?_ ?_ (Nat.le_refl _) rfl) ⟨0, by omega, by omega, rfl⟩ ?_
  · simp only [push_cast, Array.reduceGetElem?, Nat.reduceBEq, Nat.reduceLT, Nat.reduceAdd, Nat.reduceSub, Nat.reduceLeDiff, Nat.reduceMul]
    simp [sumF]
  · simp only [push_cast, Array.reduceGetElem?, Nat.reduceBEq, Nat.reduceLT, Nat.reduceAdd, Nat.reduceSub, Nat.reduceLeDiff, Nat.reduceMul]
  rintro m st ⟨i, hi, rfl, rfl⟩
  by_cases hlt : i < x.size
  · have hc := bytesT_get x i hlt
    have hd : decide ((i : Int) < (x.size : Int)) = true := by simpa using hlt
    have hw : IntKind.i64.wrap ((i : Int) + 1) = ((i + 1 : Nat) : Int) := by rw [i64_in (by omega) (by omega)]; omega
    repeat' (first
    | with_reducible refine aw_seq_k (fun _ _ => ?_)
    | (with_reducible refine aw_region ?_; simp only [hd, hc, hw, push_cast, Array.reduceGetElem?, Nat.reduceBEq, Nat.reduceLT, Nat.reduceAdd, Nat.reduceSub, Nat.reduceLeDiff, Nat.reduceMul])
    | with_reducible refine aw_block ?_
    | (with_reducible refine aw_skip ?_; simp only [hd, hc, hw, push_cast, Array.reduceGetElem?, Nat.reduceBEq, Nat.reduceLT, Nat.reduceAdd, Nat.reduceSub, Nat.reduceLeDiff, Nat.reduceMul])
    | (with_reducible refine aw_exit ?_; simp only [hd, hc, hw, push_cast, Array.reduceGetElem?, Nat.reduceBEq, Nat.reduceLT, Nat.reduceAdd, Nat.reduceSub, Nat.reduceLeDiff, Nat.reduceMul, if_true, if_false, Nat.reduceEqDiff])
    | (with_reducible refine aw_ret ?_; simp only [hd, hc, hw, push_cast, Array.reduceGetElem?, Nat.reduceBEq, Nat.reduceLT, Nat.reduceAdd, Nat.reduceSub, Nat.reduceLeDiff, Nat.reduceMul])
    | (with_reducible refine aw_cond' ?_; simp only [hd, hc, hw, push_cast, Array.reduceGetElem?, Nat.reduceBEq, Nat.reduceLT, Nat.reduceAdd, Nat.reduceSub, Nat.reduceLeDiff, Nat.reduceMul])
    | (with_reducible refine afin_same ?_ (fun n hn => ?_)) <;> simp only [hd, hc, hw, push_cast, Array.reduceGetElem?, Nat.reduceBEq, Nat.reduceLT, Nat.reduceAdd, Nat.reduceSub, Nat.reduceLeDiff, Nat.reduceMul]
    | with_reducible intro _ _
    | with_reducible apply_assumption -exfalso -symm)
    refine ⟨x.size - (i + 1), { t := [(3, .d (.i .u32 (sumF (x.data.toList.take (i + 1))))), (7, .d (.sl blk (bytesT x))), (8, .d (.i .i64 x.size)), (9, .d (.i .i64 (i + 1 : Nat)))], o := [], ks := [], n := blk + 1, sz := 20 }, by omega, SLe.of' ?_ ?_ (Nat.le_refl _) rfl, i + 1, by omega, rfl, rfl⟩
    · simp only [push_cast, Array.reduceGetElem?, Nat.reduceBEq, Nat.reduceLT, Nat.reduceAdd, Nat.reduceSub, Nat.reduceLeDiff, Nat.reduceMul]
      rw [sumF_snoc _ i (by simpa using hlt)]
      rfl
    · simp only [push_cast, Array.reduceGetElem?, Nat.reduceBEq, Nat.reduceLT, Nat.reduceAdd, Nat.reduceSub, Nat.reduceLeDiff, Nat.reduceMul]
  · have hd : decide ((i : Int) < (x.size : Int)) = false := by simpa using hlt
    have : i = x.size := by omega
    subst this
    have ht : x.data.toList.take x.size = x.data.toList := List.take_of_length_le (by simp)
    repeat' (first
    | with_reducible refine aw_seq_k (fun _ _ => ?_)
    | (with_reducible refine aw_region ?_; simp only [hd, ht, push_cast, Array.reduceGetElem?, Nat.reduceBEq, Nat.reduceLT, Nat.reduceAdd, Nat.reduceSub, Nat.reduceLeDiff, Nat.reduceMul])
    | with_reducible refine aw_block ?_
    | (with_reducible refine aw_skip ?_; simp only [hd, ht, push_cast, Array.reduceGetElem?, Nat.reduceBEq, Nat.reduceLT, Nat.reduceAdd, Nat.reduceSub, Nat.reduceLeDiff, Nat.reduceMul])
    | (with_reducible refine aw_exit ?_; simp only [hd, ht, push_cast, Array.reduceGetElem?, Nat.reduceBEq, Nat.reduceLT, Nat.reduceAdd, Nat.reduceSub, Nat.reduceLeDiff, Nat.reduceMul, if_true, if_false, Nat.reduceEqDiff])
    | (with_reducible refine aw_ret ?_; simp only [hd, ht, push_cast, Array.reduceGetElem?, Nat.reduceBEq, Nat.reduceLT, Nat.reduceAdd, Nat.reduceSub, Nat.reduceLeDiff, Nat.reduceMul])
    | (with_reducible refine aw_cond' ?_; simp only [hd, ht, push_cast, Array.reduceGetElem?, Nat.reduceBEq, Nat.reduceLT, Nat.reduceAdd, Nat.reduceSub, Nat.reduceLeDiff, Nat.reduceMul])
    | (with_reducible refine afin_same ?_ (fun n hn => ?_)) <;> simp only [hd, ht, push_cast, Array.reduceGetElem?, Nat.reduceBEq, Nat.reduceLT, Nat.reduceAdd, Nat.reduceSub, Nat.reduceLeDiff, Nat.reduceMul]
    | with_reducible intro _ _
    | with_reducible apply_assumption -exfalso -symm)

theorem plainTry8 : Plainly Try.prog 8 := ⟨_, Try.func8, rfl, by decide⟩
theorem plainTry9 : Plainly Try.prog 9 := ⟨_, Try.func9, rfl, by decide⟩
theorem law_Sum (x : ByteArray) (hx : x.size ≤ 140737488351232) : AP Try.prog 3 [.d (.s x)] (fun _ _ r => r = .d (.b true)) := by
  refine AP.of Try.func3 rfl (by rw [Try.ntmps3]; simp) fun n0 => ?_
  simp only [Try.results3, Try.ntmps3, init, argT, Nat.zero_add, Nat.reduceAdd]
  by_cases hs : (1048576 : Int) < x.size
  · have hd : decide ((x.size : Int) > 1048576) = true := by simpa using hs
    repeat' (first
    | with_reducible refine aw_seq_k (fun _ _ => ?_)
    | (with_reducible refine aw_region ?_; simp only [hd, push_cast, Array.reduceGetElem?, Nat.reduceBEq, Nat.reduceLT, Nat.reduceAdd, Nat.reduceSub, Nat.reduceLeDiff, Nat.reduceMul])
    | with_reducible refine aw_block ?_
    | (with_reducible refine aw_skip ?_; simp only [hd, push_cast, Array.reduceGetElem?, Nat.reduceBEq, Nat.reduceLT, Nat.reduceAdd, Nat.reduceSub, Nat.reduceLeDiff, Nat.reduceMul])
    | (with_reducible refine aw_exit ?_; simp only [hd, push_cast, Array.reduceGetElem?, Nat.reduceBEq, Nat.reduceLT, Nat.reduceAdd, Nat.reduceSub, Nat.reduceLeDiff, Nat.reduceMul, if_true, if_false, Nat.reduceEqDiff])
    | (with_reducible refine aw_ret ?_; simp only [hd, push_cast, Array.reduceGetElem?, Nat.reduceBEq, Nat.reduceLT, Nat.reduceAdd, Nat.reduceSub, Nat.reduceLeDiff, Nat.reduceMul])
    | (with_reducible refine aw_cond' ?_; simp only [hd, push_cast, Array.reduceGetElem?, Nat.reduceBEq, Nat.reduceLT, Nat.reduceAdd, Nat.reduceSub, Nat.reduceLeDiff, Nat.reduceMul])
    | (with_reducible refine afin_same ?_ (fun n hn => ?_)) <;> simp only [hd, push_cast, Array.reduceGetElem?, Nat.reduceBEq, Nat.reduceLT, Nat.reduceAdd, Nat.reduceSub, Nat.reduceLeDiff, Nat.reduceMul]
    | with_reducible intro _ _
    | with_reducible apply_assumption -exfalso -symm)
  · have hd : decide ((x.size : Int) > 1048576) = false := by simpa using hs
    repeat' (first
    | with_reducible refine aw_seq_k (fun _ _ => ?_)
    | (with_reducible refine aw_region ?_; simp only [hd, push_cast, Array.reduceGetElem?, Nat.reduceBEq, Nat.reduceLT, Nat.reduceAdd, Nat.reduceSub, Nat.reduceLeDiff, Nat.reduceMul])
    | with_reducible refine aw_block ?_
    | (with_reducible refine aw_skip ?_; simp only [hd, push_cast, Array.reduceGetElem?, Nat.reduceBEq, Nat.reduceLT, Nat.reduceAdd, Nat.reduceSub, Nat.reduceLeDiff, Nat.reduceMul])
    | (with_reducible refine aw_exit ?_; simp only [hd, push_cast, Array.reduceGetElem?, Nat.reduceBEq, Nat.reduceLT, Nat.reduceAdd, Nat.reduceSub, Nat.reduceLeDiff, Nat.reduceMul, if_true, if_false, Nat.reduceEqDiff])
    | (with_reducible refine aw_ret ?_; simp only [hd, push_cast, Array.reduceGetElem?, Nat.reduceBEq, Nat.reduceLT, Nat.reduceAdd, Nat.reduceSub, Nat.reduceLeDiff, Nat.reduceMul])
    | (with_reducible refine aw_cond' ?_; simp only [hd, push_cast, Array.reduceGetElem?, Nat.reduceBEq, Nat.reduceLT, Nat.reduceAdd, Nat.reduceSub, Nat.reduceLeDiff, Nat.reduceMul])
    | (with_reducible refine afin_same ?_ (fun n hn => ?_)) <;> simp only [hd, push_cast, Array.reduceGetElem?, Nat.reduceBEq, Nat.reduceLT, Nat.reduceAdd, Nat.reduceSub, Nat.reduceLeDiff, Nat.reduceMul]
    | with_reducible intro _ _
    | with_reducible apply_assumption -exfalso -symm)
    refine acall_same (plainTry8) (spec_Sum x hx) (by simp only [push_cast, Array.reduceGetElem?, Nat.reduceBEq, Nat.reduceLT, Nat.reduceAdd, Nat.reduceSub, Nat.reduceLeDiff, Nat.reduceMul]) (by simp only [push_cast, Array.reduceGetElem?, Nat.reduceBEq, Nat.reduceLT, Nat.reduceAdd, Nat.reduceSub, Nat.reduceLeDiff, Nat.reduceMul]) ?_
    rintro n1 n2 r h1 h2 rfl
    simp only [push_cast, Array.reduceGetElem?, Nat.reduceBEq, Nat.reduceLT, Nat.reduceAdd, Nat.reduceSub, Nat.reduceLeDiff, Nat.reduceMul]
    repeat' (first
    | with_reducible refine aw_seq_k (fun _ _ => ?_)
    | (with_reducible refine aw_region ?_; simp only [hd, push_cast, Array.reduceGetElem?, Nat.reduceBEq, Nat.reduceLT, Nat.reduceAdd, Nat.reduceSub, Nat.reduceLeDiff, Nat.reduceMul])
    | with_reducible refine aw_block ?_
    | (with_reducible refine aw_skip ?_; simp only [hd, push_cast, Array.reduceGetElem?, Nat.reduceBEq, Nat.reduceLT, Nat.reduceAdd, Nat.reduceSub, Nat.reduceLeDiff, Nat.reduceMul])
    | (with_reducible refine aw_exit ?_; simp only [hd, push_cast, Array.reduceGetElem?, Nat.reduceBEq, Nat.reduceLT, Nat.reduceAdd, Nat.reduceSub, Nat.reduceLeDiff, Nat.reduceMul, if_true, if_false, Nat.reduceEqDiff])
    | (with_reducible refine aw_ret ?_; simp only [hd, push_cast, Array.reduceGetElem?, Nat.reduceBEq, Nat.reduceLT, Nat.reduceAdd, Nat.reduceSub, Nat.reduceLeDiff, Nat.reduceMul])
    | (with_reducible refine aw_cond' ?_; simp only [hd, push_cast, Array.reduceGetElem?, Nat.reduceBEq, Nat.reduceLT, Nat.reduceAdd, Nat.reduceSub, Nat.reduceLeDiff, Nat.reduceMul])
    | (with_reducible refine afin_same ?_ (fun n hn => ?_)) <;> simp only [hd, push_cast, Array.reduceGetElem?, Nat.reduceBEq, Nat.reduceLT, Nat.reduceAdd, Nat.reduceSub, Nat.reduceLeDiff, Nat.reduceMul]
    | with_reducible intro _ _
    | with_reducible apply_assumption -exfalso -symm)
    refine acall_same (plainTry9) (impl_Sum x hx) (by simp only [push_cast, Array.reduceGetElem?, Nat.reduceBEq, Nat.reduceLT, Nat.reduceAdd, Nat.reduceSub, Nat.reduceLeDiff, Nat.reduceMul]) (by simp only [push_cast, Array.reduceGetElem?, Nat.reduceBEq, Nat.reduceLT, Nat.reduceAdd, Nat.reduceSub, Nat.reduceLeDiff, Nat.reduceMul]) ?_
    rintro n1 n2 r h1 h2 rfl
    simp only [push_cast, Array.reduceGetElem?, Nat.reduceBEq, Nat.reduceLT, Nat.reduceAdd, Nat.reduceSub, Nat.reduceLeDiff, Nat.reduceMul]
    repeat' (first
    | with_reducible refine aw_seq_k (fun _ _ => ?_)
    | (with_reducible refine aw_region ?_; simp only [hd, push_cast, Array.reduceGetElem?, Nat.reduceBEq, Nat.reduceLT, Nat.reduceAdd, Nat.reduceSub, Nat.reduceLeDiff, Nat.reduceMul])
    | with_reducible refine aw_block ?_
    | (with_reducible refine aw_skip ?_; simp only [hd, push_cast, Array.reduceGetElem?, Nat.reduceBEq, Nat.reduceLT, Nat.reduceAdd, Nat.reduceSub, Nat.reduceLeDiff, Nat.reduceMul])
    | (with_reducible refine aw_exit ?_; simp only [hd, push_cast, Array.reduceGetElem?, Nat.reduceBEq, Nat.reduceLT, Nat.reduceAdd, Nat.reduceSub, Nat.reduceLeDiff, Nat.reduceMul, if_true, if_false, Nat.reduceEqDiff])
    | (with_reducible refine aw_ret ?_; simp only [hd, push_cast, Array.reduceGetElem?, Nat.reduceBEq, Nat.reduceLT, Nat.reduceAdd, Nat.reduceSub, Nat.reduceLeDiff, Nat.reduceMul])
    | (with_reducible refine aw_cond' ?_; simp only [hd, push_cast, Array.reduceGetElem?, Nat.reduceBEq, Nat.reduceLT, Nat.reduceAdd, Nat.reduceSub, Nat.reduceLeDiff, Nat.reduceMul])
    | (with_reducible refine afin_same ?_ (fun n hn => ?_)) <;> simp only [hd, push_cast, Array.reduceGetElem?, Nat.reduceBEq, Nat.reduceLT, Nat.reduceAdd, Nat.reduceSub, Nat.reduceLeDiff, Nat.reduceMul]
    | with_reducible intro _ _
    | with_reducible apply_assumption -exfalso -symm)
    have hn : (sumF x.data.toList != sumF x.data.toList) = false := by simp
    simp only [hn, push_cast, Array.reduceGetElem?, Nat.reduceBEq, Nat.reduceLT, Nat.reduceAdd, Nat.reduceSub, Nat.reduceLeDiff, Nat.reduceMul]
    repeat' (first
    | with_reducible refine aw_seq_k (fun _ _ => ?_)
    | (with_reducible refine aw_region ?_; simp only [hd, hn, push_cast, Array.reduceGetElem?, Nat.reduceBEq, Nat.reduceLT, Nat.reduceAdd, Nat.reduceSub, Nat.reduceLeDiff, Nat.reduceMul])
    | with_reducible refine aw_block ?_
    | (with_reducible refine aw_skip ?_; simp only [hd, hn, push_cast, Array.reduceGetElem?, Nat.reduceBEq, Nat.reduceLT, Nat.reduceAdd, Nat.reduceSub, Nat.reduceLeDiff, Nat.reduceMul])
    | (with_reducible refine aw_exit ?_; simp only [hd, hn, push_cast, Array.reduceGetElem?, Nat.reduceBEq, Nat.reduceLT, Nat.reduceAdd, Nat.reduceSub, Nat.reduceLeDiff, Nat.reduceMul, if_true, if_false, Nat.reduceEqDiff])
    | (with_reducible refine aw_ret ?_; simp only [hd, hn, push_cast, Array.reduceGetElem?, Nat.reduceBEq, Nat.reduceLT, Nat.reduceAdd, Nat.reduceSub, Nat.reduceLeDiff, Nat.reduceMul])
    | (with_reducible refine aw_cond' ?_; simp only [hd, hn, push_cast, Array.reduceGetElem?, Nat.reduceBEq, Nat.reduceLT, Nat.reduceAdd, Nat.reduceSub, Nat.reduceLeDiff, Nat.reduceMul])
    | (with_reducible refine afin_same ?_ (fun n hn => ?_)) <;> simp only [hd, hn, push_cast, Array.reduceGetElem?, Nat.reduceBEq, Nat.reduceLT, Nat.reduceAdd, Nat.reduceSub, Nat.reduceLeDiff, Nat.reduceMul]
    | with_reducible intro _ _
    | with_reducible apply_assumption -exfalso -symm)

theorem law_Sum_calls (x : ByteArray) (hx : x.size ≤ 140737488351232) (w : World) :
    Calls Try.prog 3 #[.string x] w fun e w' => e = .returned (.bool true) ∧ Go.RowKit.Below w.heap.size w w' := by
  refine (law_Sum x hx w (fun _ _ => False) (fun _ => default) #[.string x] (fun _ _ h => h.elim) rfl ?_ ⟨trivial, trivial⟩).mono ?_
  · intro i hi hj
    have : i = 0 := by simpa using hi
    subst this
    exact .d (.s _)
  · rintro e w' ⟨r, v, S', rfl, rfl, hr, _, hx⟩
    exact ⟨by rw [rv_bool hr], hx.below⟩
end Go.Av
