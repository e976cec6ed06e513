/- What functions of this seat give. -/
import Derived.Test.YtnbdlncbfjkpcaaGreatGf
import Derived.Test.YtnbdlncbfjkpcaaGreatGe
import Derived.Test.YtnbdlncbfjkpcaaGreatAvCfg
set_option linter.all false
set_option linter.unusedVariables false
set_option linter.unusedSimpArgs false

section
namespace Go.Av
open Go.Proofs
set_option linter.unusedSimpArgs false
theorem bs_extract (l : List UInt8) (a b : Nat) : (bs l).extract a b = bs ((l.take b).drop a) := by
  apply ByteArray.ext
  rw [ByteArray.data_extract]
  simp [bs, List.extract_eq_take_drop, List.drop_take]
theorem or_byte (n : Int) {b : Nat} (hb : b < 256) : bitsI .or .i64 (IntKind.i64.wrap (n * 256)) (b : Int) = w64 (256 * n + b) := by
  have hn : (BitVec.ofInt 64 (IntKind.i64.wrap (n * 256))).toNat = 256 * ((n % 72057594037927936).toNat) := by
    rw [BitVec.toNat_ofInt, show IntKind.i64.wrap (n * 256) = w64 (n * 256) from rfl, w64_eq]
    omega
  have hbb : (BitVec.ofInt 64 (b : Int)).toNat = b := by
    rw [BitVec.toNat_ofInt]
    omega
  have ho : (BitVec.ofInt 64 (IntKind.i64.wrap (n * 256)) ||| BitVec.ofInt 64 (b : Int)).toNat = 256 * ((n % 72057594037927936).toNat) + b := by
    rw [BitVec.toNat_or, hn, hbb]
    have := Nat.shiftLeft_add_eq_or_of_lt (i := 8) (b := b) (by omega) ((n % 72057594037927936).toNat)
    rw [Nat.shiftLeft_eq] at this
    rw [show 256 * (n % 72057594037927936).toNat = (n % 72057594037927936).toNat * 2 ^ 8 by omega]
    exact this.symm
  show IntKind.i64.wrap ((BitVec.ofInt 64 (IntKind.i64.wrap (n * 256)) ||| BitVec.ofInt 64 (b : Int)).toNat : Int) = _
  rw [ho, show IntKind.i64.wrap _ = w64 _ from rfl, w64_eq, w64_eq]
  omega
def bigT (l : List UInt8) (i : Nat) : Int := w64 (beV (l.take i) : Nat)
theorem bigT_succ {l : List UInt8} {i : Nat} (h : i < l.length) : bitsI .or .i64 (IntKind.i64.wrap (bigT l i * 256)) ((l[i].toNat : Nat) : Int) = bigT l (i + 1) := by
  rw [or_byte _ l[i].toNat_lt]
  unfold bigT
  rw [List.take_succ_eq_append_getElem h, beV_snoc, ← w64_add, Int.mul_comm, w64_mul, w64_add]
  congr 1
  rw [Int.natCast_add, Int.natCast_mul]
  omega
theorem ev_bigOf (l : List UInt8) (hl : l.length ≤ 1099511627776) : evF cfg 69 [] [.d (.s (bs l))] = some (.d (.i .i64 (w64 (beV l : Nat))), []) := by
  have H := Hd.mk hl
  clear hl
  (refine (evF_code (C := cfg) (g := 69) (fn := Tryz.f69) rfl Tryz.func69 rfl (by rw [Tryz.ntmps69]; simp) (by kernel_rfl) (by first | decide | simp [keysOf])).trans ?_; rw [Tryz.results69, Tryz.ntmps69])
  repeat' (first | with_reducible refine br_split (fun _ => ?_) (fun _ => ?_) | simp only [*, push_cast, Array.reduceGetElem?, Nat.reduceBEq, Nat.reduceLT, Nat.reduceAdd, Nat.reduceSub, Nat.reduceLeDiff, Nat.reduceMul, Nat.reduceEqDiff, reduceCtorEq, Int.reduceAdd, Int.reduceLT, Int.reduceLE, Int.reduceToNat, Int.reduceNeg, Int.reduceSub, Int.reduceBEq, Int.reduceBNe, Int.reduceNe, Int.reduceGT, Int.reduceGE, Nat.reduceGT] | (rw [drawC_ok]; rotate_left; decide +kernel; exact cfg_mixed))
  rw [show ({ t := [(3, .d (.i .i64 0)), (7, .d (.sl .any (l.map byC))), (8, .d (.i .i64 l.length)), (9, .d (.i .i64 0))], o := [], ks := [], n := 0, sz := 20, u := noU } : St) = { t := [(3, .d (.i .i64 (bigT l 0))), (7, .d (.sl .any (l.map byC))), (8, .d (.i .i64 l.length)), (9, .d (.i .i64 0))], o := [], ks := [], n := 0, sz := 20, u := noU } from rfl]
  rw [evM_for0 l.length (fun i j => { t := [(3, .d (.i .i64 (bigT l i))), (7, .d (.sl .any (l.map byC))), (8, .d (.i .i64 l.length)), (9, .d (.i .i64 j))], o := [], ks := [], n := 0, sz := 20, u := noU }) (fun i => some (.exit 0, { t := [(3, .d (.i .i64 (bigT l l.length)))], o := [], ks := [], n := 0, sz := 20, u := noU })) ?step ?last]
  case step =>
    intro i hi ih
    have hl := H.out
    have hd := dec_lt hi
    have hdn := dec_ltN hi
    have hw := wrap_succ (i := i) (by omega)
    have hg : (l.map byC)[i]? = some [.i .u8 l[i].toNat] := get_map byC l i hi
    have hb : IntKind.i64.wrap ((l[i].toNat : Nat) : Int) = ((l[i].toNat : Nat) : Int) := by have := l[i].toNat_lt; exact i64_in (by omega) (by omega)
    have hs := bigT_succ hi
    have hpw : (2 : Int) ^ min 8 IntKind.i64.bits = 256 := by decide
    clear hl H
    repeat' (first | with_reducible refine br_split (fun _ => ?_) (fun _ => ?_) | simp only [*, push_cast, Array.reduceGetElem?, Nat.reduceBEq, Nat.reduceLT, Nat.reduceAdd, Nat.reduceSub, Nat.reduceLeDiff, Nat.reduceMul, Nat.reduceEqDiff, reduceCtorEq, Int.reduceAdd, Int.reduceLT, Int.reduceLE, Int.reduceToNat, Int.reduceNeg, Int.reduceSub, Int.reduceBEq, Int.reduceBNe, Int.reduceNe, Int.reduceGT, Int.reduceGE, Nat.reduceGT] | (rw [drawC_ok]; rotate_left; decide +kernel; exact cfg_mixed))
  case last =>
    clear H
    repeat' (first | with_reducible refine br_split (fun _ => ?_) (fun _ => ?_) | simp only [*, push_cast, Array.reduceGetElem?, Nat.reduceBEq, Nat.reduceLT, Nat.reduceAdd, Nat.reduceSub, Nat.reduceLeDiff, Nat.reduceMul, Nat.reduceEqDiff, reduceCtorEq, Int.reduceAdd, Int.reduceLT, Int.reduceLE, Int.reduceToNat, Int.reduceNeg, Int.reduceSub, Int.reduceBEq, Int.reduceBNe, Int.reduceNe, Int.reduceGT, Int.reduceGE, Nat.reduceGT] | (rw [drawC_ok]; rotate_left; decide +kernel; exact cfg_mixed))
  have hf : bigT l l.length = w64 (beV l : Nat) := by unfold bigT; rw [List.take_length]
  rw [hf]
  clear hf H
  repeat' (first | with_reducible refine br_split (fun _ => ?_) (fun _ => ?_) | simp only [*, push_cast, Array.reduceGetElem?, Nat.reduceBEq, Nat.reduceLT, Nat.reduceAdd, Nat.reduceSub, Nat.reduceLeDiff, Nat.reduceMul, Nat.reduceEqDiff, reduceCtorEq, Int.reduceAdd, Int.reduceLT, Int.reduceLE, Int.reduceToNat, Int.reduceNeg, Int.reduceSub, Int.reduceBEq, Int.reduceBNe, Int.reduceNe, Int.reduceGT, Int.reduceGE, Nat.reduceGT] | (rw [drawC_ok]; rotate_left; decide +kernel; exact cfg_mixed))
theorem takeP_at {n i : Nat} {l a b : List UInt8} (h : takeP n (l.drop i) = some (a, b)) (hi : i ≤ l.length) : i + n ≤ l.length ∧ a = (l.drop i).take n ∧ b = l.drop (i + n) ∧ a.length = n := by
  unfold takeP at h
  split at h
  · rename_i hn
    rw [List.length_drop] at hn
    simp only [Option.some.injEq, Prod.mk.injEq] at h
    obtain ⟨rfl, rfl⟩ := h
    refine ⟨by omega, rfl, by rw [List.drop_drop], ?_⟩
    rw [List.length_take, List.length_drop]
    omega
  · cases h
theorem takeP_not {n i : Nat} {l : List UInt8} (h : takeP n (l.drop i) = none) : l.length - i < n := by
  unfold takeP at h
  split at h
  · cases h
  · rename_i hn
    rw [List.length_drop] at hn
    omega
/-- A reader: its text, its place, whether it went wrong. -/
theorem ev_take_bad (s : ByteArray) (i n : Int) : evF cfg 42 [(0, .box [.d (.s s), .d (.i .i64 i), .d (.b true)])] [.ptr 0 0, .d (.i .i64 n)] = some (.d (.s ⟨#[]⟩), [(0, .box [.d (.s s), .d (.i .i64 i), .d (.b true)])]) := by
  (refine (evF_code (C := cfg) (g := 42) (fn := Tryz.f42) rfl Tryz.func42 rfl (by rw [Tryz.ntmps42]; simp) (by kernel_rfl) (by first | decide | simp [keysOf])).trans ?_; rw [Tryz.results42, Tryz.ntmps42])
  repeat' (first | with_reducible refine br_split (fun _ => ?_) (fun _ => ?_) | simp only [*, push_cast, Array.reduceGetElem?, Nat.reduceBEq, Nat.reduceLT, Nat.reduceAdd, Nat.reduceSub, Nat.reduceLeDiff, Nat.reduceMul, Nat.reduceEqDiff, reduceCtorEq, Int.reduceAdd, Int.reduceLT, Int.reduceLE, Int.reduceToNat, Int.reduceNeg, Int.reduceSub, Int.reduceBEq, Int.reduceBNe, Int.reduceNe, Int.reduceGT, Int.reduceGE, Nat.reduceGT] | (rw [drawC_ok]; rotate_left; decide +kernel; exact cfg_mixed))
theorem ev_take_none (l : List UInt8) (hl : l.length ≤ 1048576) (i n : Nat) (hi : i ≤ l.length) (h : takeP n (l.drop i) = none) : evF cfg 42 [(0, .box [.d (.s (bs l)), .d (.i .i64 (i : Nat)), .d (.b false)])] [.ptr 0 0, .d (.i .i64 (n : Nat))] = some (.d (.s ⟨#[]⟩), [(0, .box [.d (.s (bs l)), .d (.i .i64 (i : Nat)), .d (.b true)])]) := by
  have h1 := takeP_not h
  have w1 : IntKind.i64.wrap ((l.length : Int) - (i : Int)) = (l.length : Int) - (i : Int) := i64_in (by omega) (by omega)
  have c1 : decide ((n : Int) > (l.length : Int) - (i : Int)) = true := decide_eq_true (by omega)
  have hz := bs_size l
  clear hl hi h h1
  (refine (evF_code (C := cfg) (g := 42) (fn := Tryz.f42) rfl Tryz.func42 rfl (by rw [Tryz.ntmps42]; simp) (by kernel_rfl) (by first | decide | simp [keysOf])).trans ?_; rw [Tryz.results42, Tryz.ntmps42])
  repeat' (first | with_reducible refine br_split (fun _ => ?_) (fun _ => ?_) | simp only [*, push_cast, Array.reduceGetElem?, Nat.reduceBEq, Nat.reduceLT, Nat.reduceAdd, Nat.reduceSub, Nat.reduceLeDiff, Nat.reduceMul, Nat.reduceEqDiff, reduceCtorEq, Int.reduceAdd, Int.reduceLT, Int.reduceLE, Int.reduceToNat, Int.reduceNeg, Int.reduceSub, Int.reduceBEq, Int.reduceBNe, Int.reduceNe, Int.reduceGT, Int.reduceGE, Nat.reduceGT] | (rw [drawC_ok]; rotate_left; decide +kernel; exact cfg_mixed))
theorem ev_take_some (l : List UInt8) (hl : l.length ≤ 1048576) (i n j : Nat) (hi : i ≤ l.length) (hj : i + n = j) {a b : List UInt8} (h : takeP n (l.drop i) = some (a, b)) : evF cfg 42 [(0, .box [.d (.s (bs l)), .d (.i .i64 (i : Nat)), .d (.b false)])] [.ptr 0 0, .d (.i .i64 (n : Nat))] = some (.d (.s (bs a)), [(0, .box [.d (.s (bs l)), .d (.i .i64 (j : Nat)), .d (.b false)])]) := by
  obtain ⟨h1, h2, -, -⟩ := takeP_at h hi
  have w1 : IntKind.i64.wrap ((l.length : Int) - (i : Int)) = (l.length : Int) - (i : Int) := i64_in (by omega) (by omega)
  have c1 : decide ((n : Int) > (l.length : Int) - (i : Int)) = false := decide_eq_false (by omega)
  have w2 : IntKind.i64.wrap ((i : Int) + (n : Int)) = (j : Int) := by rw [i64_in (by omega) (by omega)]; omega
  have w3 : IntKind.i64.wrap ((j : Int) - (n : Int)) = (i : Int) := by rw [i64_in (by omega) (by omega)]; omega
  have c2 : decide (0 ≤ (i : Int) ∧ (i : Int) ≤ (j : Int) ∧ (j : Int) ≤ (l.length : Int)) = true := decide_eq_true (by omega)
  have c3 : decide ((i : Int) ≤ (j : Int) ∧ (j : Int) ≤ (l.length : Int)) = true := decide_eq_true (by omega)
  have hz := bs_size l
  have hx := bs_extract l i j
  have ha : (l.take j).drop i = a := by rw [h2, List.drop_take]; congr 1; omega
  rw [ha] at hx
  clear hl hi h h1 h2 ha hj
  (refine (evF_code (C := cfg) (g := 42) (fn := Tryz.f42) rfl Tryz.func42 rfl (by rw [Tryz.ntmps42]; simp) (by kernel_rfl) (by first | decide | simp [keysOf])).trans ?_; rw [Tryz.results42, Tryz.ntmps42])
  repeat' (first | with_reducible refine br_split (fun _ => ?_) (fun _ => ?_) | simp only [*, push_cast, Array.reduceGetElem?, Nat.reduceBEq, Nat.reduceLT, Nat.reduceAdd, Nat.reduceSub, Nat.reduceLeDiff, Nat.reduceMul, Nat.reduceEqDiff, reduceCtorEq, Int.reduceAdd, Int.reduceLT, Int.reduceLE, Int.reduceToNat, Int.reduceNeg, Int.reduceSub, Int.reduceBEq, Int.reduceBNe, Int.reduceNe, Int.reduceGT, Int.reduceGE, Nat.reduceGT] | (rw [drawC_ok]; rotate_left; decide +kernel; exact cfg_mixed))
end Go.Av
end

section
namespace Go.Av
open Go.Proofs
set_option linter.unusedSimpArgs false
theorem beV_in {a : List UInt8} {m : Nat} (h : a.length = m) (hm : m ≤ 7) : w64 (beV a : Nat) = (beV a : Nat) := by
  have h1 := beV_lt a
  have h2 : 256 ^ a.length ≤ 256 ^ 7 := Nat.pow_le_pow_right (by omega) (by omega)
  have h3 : (256 : Nat) ^ 7 = 72057594037927936 := by decide
  exact i64_in (by omega) (by omega)
theorem ev_bigOf0 : evF cfg 69 [] [.d (.s ⟨#[]⟩)] = some (.d (.i .i64 0), []) := ev_bigOf [] (by simp)
theorem ev_size_bad (s : ByteArray) (i n : Int) : evF cfg 33 [(0, .box [.d (.s s), .d (.i .i64 i), .d (.b true)])] [.ptr 0 0, .d (.i .i64 n)] = some (.d (.i .i64 0), [(0, .box [.d (.s s), .d (.i .i64 i), .d (.b true)])]) := by
  have e1 := ev_take_bad s i n
  have e2 := ev_bigOf0
  (refine (evF_code (C := cfg) (g := 33) (fn := Tryz.f33) rfl Tryz.func33 rfl (by rw [Tryz.ntmps33]; simp) (by kernel_rfl) (by first | decide | simp [keysOf])).trans ?_; rw [Tryz.results33, Tryz.ntmps33])
  repeat' (first | with_reducible refine br_split (fun _ => ?_) (fun _ => ?_) | simp only [*, push_cast, Array.reduceGetElem?, Nat.reduceBEq, Nat.reduceLT, Nat.reduceAdd, Nat.reduceSub, Nat.reduceLeDiff, Nat.reduceMul, Nat.reduceEqDiff, reduceCtorEq, Int.reduceAdd, Int.reduceLT, Int.reduceLE, Int.reduceToNat, Int.reduceNeg, Int.reduceSub, Int.reduceBEq, Int.reduceBNe, Int.reduceNe, Int.reduceGT, Int.reduceGE, Nat.reduceGT] | (rw [drawC_ok]; rotate_left; decide +kernel; exact cfg_mixed))
theorem ev_size_none (l : List UInt8) (hl : l.length ≤ 1048576) (i n : Nat) (hi : i ≤ l.length) (h : takeP n (l.drop i) = none) : evF cfg 33 [(0, .box [.d (.s (bs l)), .d (.i .i64 (i : Nat)), .d (.b false)])] [.ptr 0 0, .d (.i .i64 (n : Nat))] = some (.d (.i .i64 0), [(0, .box [.d (.s (bs l)), .d (.i .i64 (i : Nat)), .d (.b true)])]) := by
  have e1 := ev_take_none l hl i n hi h
  have e2 := ev_bigOf0
  clear hl hi h
  (refine (evF_code (C := cfg) (g := 33) (fn := Tryz.f33) rfl Tryz.func33 rfl (by rw [Tryz.ntmps33]; simp) (by kernel_rfl) (by first | decide | simp [keysOf])).trans ?_; rw [Tryz.results33, Tryz.ntmps33])
  repeat' (first | with_reducible refine br_split (fun _ => ?_) (fun _ => ?_) | simp only [*, push_cast, Array.reduceGetElem?, Nat.reduceBEq, Nat.reduceLT, Nat.reduceAdd, Nat.reduceSub, Nat.reduceLeDiff, Nat.reduceMul, Nat.reduceEqDiff, reduceCtorEq, Int.reduceAdd, Int.reduceLT, Int.reduceLE, Int.reduceToNat, Int.reduceNeg, Int.reduceSub, Int.reduceBEq, Int.reduceBNe, Int.reduceNe, Int.reduceGT, Int.reduceGE, Nat.reduceGT] | (rw [drawC_ok]; rotate_left; decide +kernel; exact cfg_mixed))
theorem ev_size_some (l : List UInt8) (hl : l.length ≤ 1048576) (i n j : Nat) (hi : i ≤ l.length) (hj : i + n = j) {a b : List UInt8} (h : takeP n (l.drop i) = some (a, b)) : evF cfg 33 [(0, .box [.d (.s (bs l)), .d (.i .i64 (i : Nat)), .d (.b false)])] [.ptr 0 0, .d (.i .i64 (n : Nat))] = some (.d (.i .i64 (w64 (beV a : Nat))), [(0, .box [.d (.s (bs l)), .d (.i .i64 (j : Nat)), .d (.b false)])]) := by
  have e1 := ev_take_some l hl i n j hi hj h
  obtain ⟨h1, -, -, h4⟩ := takeP_at h hi
  have e2 := ev_bigOf a (by omega)
  clear hl hi h h1 h4 hj
  (refine (evF_code (C := cfg) (g := 33) (fn := Tryz.f33) rfl Tryz.func33 rfl (by rw [Tryz.ntmps33]; simp) (by kernel_rfl) (by first | decide | simp [keysOf])).trans ?_; rw [Tryz.results33, Tryz.ntmps33])
  repeat' (first | with_reducible refine br_split (fun _ => ?_) (fun _ => ?_) | simp only [*, push_cast, Array.reduceGetElem?, Nat.reduceBEq, Nat.reduceLT, Nat.reduceAdd, Nat.reduceSub, Nat.reduceLeDiff, Nat.reduceMul, Nat.reduceEqDiff, reduceCtorEq, Int.reduceAdd, Int.reduceLT, Int.reduceLE, Int.reduceToNat, Int.reduceNeg, Int.reduceSub, Int.reduceBEq, Int.reduceBNe, Int.reduceNe, Int.reduceGT, Int.reduceGE, Nat.reduceGT] | (rw [drawC_ok]; rotate_left; decide +kernel; exact cfg_mixed))
theorem ev_text_bad (s : ByteArray) (i n : Int) : evF cfg 34 [(0, .box [.d (.s s), .d (.i .i64 i), .d (.b true)])] [.ptr 0 0, .d (.i .i64 n)] = some (.d (.s ⟨#[]⟩), [(0, .box [.d (.s s), .d (.i .i64 i), .d (.b true)])]) := by
  have e1 := ev_size_bad s i n
  have e2 := ev_take_bad s i 0
  (refine (evF_code (C := cfg) (g := 34) (fn := Tryz.f34) rfl Tryz.func34 rfl (by rw [Tryz.ntmps34]; simp) (by kernel_rfl) (by first | decide | simp [keysOf])).trans ?_; rw [Tryz.results34, Tryz.ntmps34])
  repeat' (first | with_reducible refine br_split (fun _ => ?_) (fun _ => ?_) | simp only [*, push_cast, Array.reduceGetElem?, Nat.reduceBEq, Nat.reduceLT, Nat.reduceAdd, Nat.reduceSub, Nat.reduceLeDiff, Nat.reduceMul, Nat.reduceEqDiff, reduceCtorEq, Int.reduceAdd, Int.reduceLT, Int.reduceLE, Int.reduceToNat, Int.reduceNeg, Int.reduceSub, Int.reduceBEq, Int.reduceBNe, Int.reduceNe, Int.reduceGT, Int.reduceGE, Nat.reduceGT] | (rw [drawC_ok]; rotate_left; decide +kernel; exact cfg_mixed))
theorem ev_text_none (l : List UInt8) (hl : l.length ≤ 1048576) (i m : Nat) (hi : i ≤ l.length) (hm : m ≤ 7) (h : txtP m (l.drop i) = none) : ∃ i' : Nat, i' ≤ l.length ∧ evF cfg 34 [(0, .box [.d (.s (bs l)), .d (.i .i64 (i : Nat)), .d (.b false)])] [.ptr 0 0, .d (.i .i64 (m : Nat))] = some (.d (.s ⟨#[]⟩), [(0, .box [.d (.s (bs l)), .d (.i .i64 (i' : Nat)), .d (.b true)])]) := by
  cases h0 : takeP m (l.drop i) with
  | none =>
    refine ⟨i, hi, ?_⟩
    have e1 := ev_size_none l hl i m hi h0
    have e2 := ev_take_bad (bs l) i 0
    clear hl hi h h0 hm
    (refine (evF_code (C := cfg) (g := 34) (fn := Tryz.f34) rfl Tryz.func34 rfl (by rw [Tryz.ntmps34]; simp) (by kernel_rfl) (by first | decide | simp [keysOf])).trans ?_; rw [Tryz.results34, Tryz.ntmps34])
    repeat' (first | with_reducible refine br_split (fun _ => ?_) (fun _ => ?_) | simp only [*, push_cast, Array.reduceGetElem?, Nat.reduceBEq, Nat.reduceLT, Nat.reduceAdd, Nat.reduceSub, Nat.reduceLeDiff, Nat.reduceMul, Nat.reduceEqDiff, reduceCtorEq, Int.reduceAdd, Int.reduceLT, Int.reduceLE, Int.reduceToNat, Int.reduceNeg, Int.reduceSub, Int.reduceBEq, Int.reduceBNe, Int.reduceNe, Int.reduceGT, Int.reduceGE, Nat.reduceGT] | (rw [drawC_ok]; rotate_left; decide +kernel; exact cfg_mixed))
  | some p =>
    obtain ⟨a, b⟩ := p
    obtain ⟨h1, h2, h3, h4⟩ := takeP_at h0 hi
    obtain ⟨j, hj⟩ : ∃ j, i + m = j := ⟨_, rfl⟩
    have e1 := ev_size_some l hl i m j hi hj h0
    rw [hj] at h1 h3
    refine ⟨j, h1, ?_⟩
    rw [beV_in h4 hm] at e1
    have hn : takeP (beV a) (l.drop j) = none := by
      rw [← h3]
      simp only [txtP, numP, h0, Option.map_some, Option.bind_some] at h
      cases ht : takeP (beV a) b with
      | none => rfl
      | some q => rw [ht] at h; cases h
    have e2 := ev_take_none l hl j (beV a) h1 hn
    clear hl hi h h0 h1 h2 h3 h4 hn hm hj
    (refine (evF_code (C := cfg) (g := 34) (fn := Tryz.f34) rfl Tryz.func34 rfl (by rw [Tryz.ntmps34]; simp) (by kernel_rfl) (by first | decide | simp [keysOf])).trans ?_; rw [Tryz.results34, Tryz.ntmps34])
    repeat' (first | with_reducible refine br_split (fun _ => ?_) (fun _ => ?_) | simp only [*, push_cast, Array.reduceGetElem?, Nat.reduceBEq, Nat.reduceLT, Nat.reduceAdd, Nat.reduceSub, Nat.reduceLeDiff, Nat.reduceMul, Nat.reduceEqDiff, reduceCtorEq, Int.reduceAdd, Int.reduceLT, Int.reduceLE, Int.reduceToNat, Int.reduceNeg, Int.reduceSub, Int.reduceBEq, Int.reduceBNe, Int.reduceNe, Int.reduceGT, Int.reduceGE, Nat.reduceGT] | (rw [drawC_ok]; rotate_left; decide +kernel; exact cfg_mixed))
theorem ev_text_some (l : List UInt8) (hl : l.length ≤ 1048576) (i m : Nat) (hi : i ≤ l.length) (hm : m ≤ 7) {s : ByteArray} {b : List UInt8} (h : txtP m (l.drop i) = some (s, b)) : ∃ i' : Nat, i' ≤ l.length ∧ i + m ≤ i' ∧ b = l.drop i' ∧ evF cfg 34 [(0, .box [.d (.s (bs l)), .d (.i .i64 (i : Nat)), .d (.b false)])] [.ptr 0 0, .d (.i .i64 (m : Nat))] = some (.d (.s s), [(0, .box [.d (.s (bs l)), .d (.i .i64 (i' : Nat)), .d (.b false)])]) := by
  cases h0 : takeP m (l.drop i) with
  | none => simp only [txtP, numP, h0, Option.map_none, Option.bind_none] at h; cases h
  | some p =>
    obtain ⟨a, b0⟩ := p
    obtain ⟨h1, h2, h3, h4⟩ := takeP_at h0 hi
    obtain ⟨j, hj⟩ : ∃ j, i + m = j := ⟨_, rfl⟩
    have e1 := ev_size_some l hl i m j hi hj h0
    rw [hj] at h1 h3
    rw [beV_in h4 hm] at e1
    simp only [txtP, numP, h0, Option.map_some, Option.bind_some] at h
    cases ht : takeP (beV a) b0 with
    | none => rw [ht] at h; cases h
    | some q =>
      obtain ⟨a2, b2⟩ := q
      rw [ht] at h
      simp only [Option.map_some, Option.some.injEq, Prod.mk.injEq] at h
      obtain ⟨rfl, rfl⟩ := h
      rw [h3] at ht
      obtain ⟨g1, g2, g3, g4⟩ := takeP_at ht h1
      obtain ⟨k, hk⟩ : ∃ k, j + beV a = k := ⟨_, rfl⟩
      have e2 := ev_take_some l hl j (beV a) k h1 hk ht
      rw [hk] at g1 g3
      refine ⟨k, g1, by omega, g3, ?_⟩
      clear hl hi h0 h1 h2 h3 h4 hm ht g1 g2 g3 g4 hj hk
      (refine (evF_code (C := cfg) (g := 34) (fn := Tryz.f34) rfl Tryz.func34 rfl (by rw [Tryz.ntmps34]; simp) (by kernel_rfl) (by first | decide | simp [keysOf])).trans ?_; rw [Tryz.results34, Tryz.ntmps34])
      repeat' (first | with_reducible refine br_split (fun _ => ?_) (fun _ => ?_) | simp only [*, push_cast, Array.reduceGetElem?, Nat.reduceBEq, Nat.reduceLT, Nat.reduceAdd, Nat.reduceSub, Nat.reduceLeDiff, Nat.reduceMul, Nat.reduceEqDiff, reduceCtorEq, Int.reduceAdd, Int.reduceLT, Int.reduceLE, Int.reduceToNat, Int.reduceNeg, Int.reduceSub, Int.reduceBEq, Int.reduceBNe, Int.reduceNe, Int.reduceGT, Int.reduceGE, Nat.reduceGT] | (rw [drawC_ok]; rotate_left; decide +kernel; exact cfg_mixed))
theorem ev_value_bad (s : ByteArray) (i : Int) : evF cfg 70 [(0, .box [.d (.s s), .d (.i .i64 i), .d (.b true)])] [.ptr 0 0] = some (.agg [.d (.i .i64 0), .d (.i .i64 0), .d (.s ⟨#[]⟩)], [(0, .box [.d (.s s), .d (.i .i64 i), .d (.b true)])]) := by
  have e1 := ev_size_bad s i 1
  (refine (evF_code (C := cfg) (g := 70) (fn := Tryz.f70) rfl Tryz.func70 rfl (by rw [Tryz.ntmps70]; simp) (by kernel_rfl) (by first | decide | simp [keysOf])).trans ?_; rw [Tryz.results70, Tryz.ntmps70])
  repeat' (first | with_reducible refine br_split (fun _ => ?_) (fun _ => ?_) | simp only [*, push_cast, Array.reduceGetElem?, Nat.reduceBEq, Nat.reduceLT, Nat.reduceAdd, Nat.reduceSub, Nat.reduceLeDiff, Nat.reduceMul, Nat.reduceEqDiff, reduceCtorEq, Int.reduceAdd, Int.reduceLT, Int.reduceLE, Int.reduceToNat, Int.reduceNeg, Int.reduceSub, Int.reduceBEq, Int.reduceBNe, Int.reduceNe, Int.reduceGT, Int.reduceGE, Nat.reduceGT] | (rw [drawC_ok]; rotate_left; decide +kernel; exact cfg_mixed))
theorem ev_value (l : List UInt8) (hl : l.length ≤ 1048576) (i : Nat) (hi : i ≤ l.length) : ∃ r, evF cfg 70 [(0, .box [.d (.s (bs l)), .d (.i .i64 (i : Nat)), .d (.b false)])] [.ptr 0 0] = some r ∧
    ((∃ (v : V) (i' : Nat), valP (l.drop i) = some (v, l.drop i') ∧ i < i' ∧ i' ≤ l.length ∧ r = (.agg [.d (.i .i64 v.k), .d (.i .i64 v.n), .d (.s v.s)], [(0, .box [.d (.s (bs l)), .d (.i .i64 (i' : Nat)), .d (.b false)])])) ∨
     (valP (l.drop i) = none ∧ ∃ (v : V) (i' : Nat), i' ≤ l.length ∧ r = (.agg [.d (.i .i64 v.k), .d (.i .i64 v.n), .d (.s v.s)], [(0, .box [.d (.s (bs l)), .d (.i .i64 (i' : Nat)), .d (.b true)])]))) := by
  refine exQ fun Q hQ => ?_
  have HQ := Hd.mk hQ; clear hQ
  have one : ((1 : Nat) : Int) = 1 := rfl
  have eight : ((8 : Nat) : Int) = 8 := rfl
  cases h0 : takeP 1 (l.drop i) with
  | none =>
    have e1 := ev_size_none l hl i 1 hi h0
    rw [one] at e1
    have H := Hd.mk (And.intro hi (show valP (l.drop i) = none by unfold valP; rw [h0]; rfl))
    clear hl hi h0
    (refine Eq.mpr (congrArg Q (evF_code (C := cfg) (g := 70) (fn := Tryz.f70) rfl Tryz.func70 rfl (by rw [Tryz.ntmps70]; simp) (by kernel_rfl) (by first | decide | simp [keysOf]))) ?_; rw [Tryz.results70, Tryz.ntmps70])
    repeat' (first | with_reducible refine br_split (fun _ => ?_) (fun _ => ?_) | simp only [*, push_cast, Array.reduceGetElem?, Nat.reduceBEq, Nat.reduceLT, Nat.reduceAdd, Nat.reduceSub, Nat.reduceLeDiff, Nat.reduceMul, Nat.reduceEqDiff, reduceCtorEq, Int.reduceAdd, Int.reduceLT, Int.reduceLE, Int.reduceToNat, Int.reduceNeg, Int.reduceSub, Int.reduceBEq, Int.reduceBNe, Int.reduceNe, Int.reduceGT, Int.reduceGE, Nat.reduceGT] | (rw [drawC_ok]; rotate_left; decide +kernel; exact cfg_mixed))
    exact HQ.out _ (.inr ⟨H.out.2, ⟨0, 0, ⟨#[]⟩⟩, i, H.out.1, rfl⟩)
  | some p =>
    obtain ⟨a, b⟩ := p
    obtain ⟨h1, h2, h3, h4⟩ := takeP_at h0 hi
    obtain ⟨j, hj⟩ : ∃ j, i + 1 = j := ⟨_, rfl⟩
    have e1 := ev_size_some l hl i 1 j hi hj h0
    rw [hj] at h1 h3
    rw [beV_in h4 (by omega), one] at e1
    have hk : beV a < 256 := by have := beV_lt a; rw [h4] at this; simpa using this
    subst h3
    have hij : i < j := by omega
    by_cases k0 : beV a = 0
    · have hv : valP (l.drop i) = some (⟨0, 0, ⟨#[]⟩⟩, l.drop j) := by
        unfold valP; rw [h0]; simp only [Option.bind_some, k0, if_true]; rfl
      have vo : valueOk ⟨0, 0, ⟨#[]⟩⟩ = true := by decide
      have H := Hd.mk (And.intro h1 (And.intro hv hij))
      rw [k0] at e1
      clear hl hi h0 h1 h2 h4 hv hk k0 hj hij
      (refine Eq.mpr (congrArg Q (evF_code (C := cfg) (g := 70) (fn := Tryz.f70) rfl Tryz.func70 rfl (by rw [Tryz.ntmps70]; simp) (by kernel_rfl) (by first | decide | simp [keysOf]))) ?_; rw [Tryz.results70, Tryz.ntmps70])
      repeat' (first | with_reducible refine br_split (fun _ => ?_) (fun _ => ?_) | simp only [*, push_cast, Array.reduceGetElem?, Nat.reduceBEq, Nat.reduceLT, Nat.reduceAdd, Nat.reduceSub, Nat.reduceLeDiff, Nat.reduceMul, Nat.reduceEqDiff, reduceCtorEq, Int.reduceAdd, Int.reduceLT, Int.reduceLE, Int.reduceToNat, Int.reduceNeg, Int.reduceSub, Int.reduceBEq, Int.reduceBNe, Int.reduceNe, Int.reduceGT, Int.reduceGE, Nat.reduceGT] | (rw [drawC_ok]; rotate_left; decide +kernel; exact cfg_mixed))
      exact HQ.out _ (.inl ⟨⟨0, 0, ⟨#[]⟩⟩, j, H.out.2.1, H.out.2.2, H.out.1, rfl⟩)
    by_cases k1 : beV a = 1
    · rw [k1, one] at e1
      cases h8 : takeP 8 (l.drop j) with
      | none =>
        have hv : valP (l.drop i) = none := by
          unfold valP; rw [h0]; simp only [Option.bind_some, k1, show ¬ ((1 : Nat) = 0) by decide, if_false, if_true, numP, h8]; rfl
        have e2 := ev_size_none l hl j 8 h1 h8
        rw [eight] at e2
        have H := Hd.mk (And.intro h1 hv)
        clear hl hi h0 h1 h2 h4 hv hk k0 k1 hj hij h8
        (refine Eq.mpr (congrArg Q (evF_code (C := cfg) (g := 70) (fn := Tryz.f70) rfl Tryz.func70 rfl (by rw [Tryz.ntmps70]; simp) (by kernel_rfl) (by first | decide | simp [keysOf]))) ?_; rw [Tryz.results70, Tryz.ntmps70])
        repeat' (first | with_reducible refine br_split (fun _ => ?_) (fun _ => ?_) | simp only [*, push_cast, Array.reduceGetElem?, Nat.reduceBEq, Nat.reduceLT, Nat.reduceAdd, Nat.reduceSub, Nat.reduceLeDiff, Nat.reduceMul, Nat.reduceEqDiff, reduceCtorEq, Int.reduceAdd, Int.reduceLT, Int.reduceLE, Int.reduceToNat, Int.reduceNeg, Int.reduceSub, Int.reduceBEq, Int.reduceBNe, Int.reduceNe, Int.reduceGT, Int.reduceGE, Nat.reduceGT] | (rw [drawC_ok]; rotate_left; decide +kernel; exact cfg_mixed))
        exact HQ.out _ (.inr ⟨H.out.2, ⟨1, 0, ⟨#[]⟩⟩, j, H.out.1, rfl⟩)
      | some q =>
        obtain ⟨a8, b8⟩ := q
        obtain ⟨g1, g2, g3, g4⟩ := takeP_at h8 h1
        obtain ⟨k, hk8⟩ : ∃ k, j + 8 = k := ⟨_, rfl⟩
        have e2 := ev_size_some l hl j 8 k h1 hk8 h8
        rw [hk8] at g1 g3
        rw [eight] at e2
        have vo : valueOk ⟨1, w64 (beV a8 : Nat), ⟨#[]⟩⟩ = true := by simp [valueOk]
        have hv : valP (l.drop i) = some (⟨1, w64 (beV a8 : Nat), ⟨#[]⟩⟩, l.drop k) := by
          unfold valP; rw [h0]; simp only [Option.bind_some, k1, show ¬ ((1 : Nat) = 0) by decide, if_false, if_true, numP, h8, Option.map_some, vo, g3]
        have H := Hd.mk (And.intro g1 (And.intro hv (show i < k by omega)))
        clear hl hi h0 h1 h2 h4 hv hk k0 k1 hj hij h8 g1 g2 g3 g4 hk8
        (refine Eq.mpr (congrArg Q (evF_code (C := cfg) (g := 70) (fn := Tryz.f70) rfl Tryz.func70 rfl (by rw [Tryz.ntmps70]; simp) (by kernel_rfl) (by first | decide | simp [keysOf]))) ?_; rw [Tryz.results70, Tryz.ntmps70])
        repeat' (first | with_reducible refine br_split (fun _ => ?_) (fun _ => ?_) | simp only [*, push_cast, Array.reduceGetElem?, Nat.reduceBEq, Nat.reduceLT, Nat.reduceAdd, Nat.reduceSub, Nat.reduceLeDiff, Nat.reduceMul, Nat.reduceEqDiff, reduceCtorEq, Int.reduceAdd, Int.reduceLT, Int.reduceLE, Int.reduceToNat, Int.reduceNeg, Int.reduceSub, Int.reduceBEq, Int.reduceBNe, Int.reduceNe, Int.reduceGT, Int.reduceGE, Nat.reduceGT] | (rw [drawC_ok]; rotate_left; decide +kernel; exact cfg_mixed))
        exact HQ.out _ (.inl ⟨⟨1, w64 (beV a8 : Nat), ⟨#[]⟩⟩, k, H.out.2.1, H.out.2.2, H.out.1, rfl⟩)
    by_cases k2 : beV a = 2
    · rw [k2, show ((2 : Nat) : Int) = 2 from rfl] at e1
      cases h8 : takeP 1 (l.drop j) with
      | none =>
        have hv : valP (l.drop i) = none := by
          unfold valP; rw [h0]; simp only [Option.bind_some, k2, show ¬ ((2 : Nat) = 0) by decide, show ¬ ((2 : Nat) = 1) by decide, if_false, if_true, numP, h8]; rfl
        have e2 := ev_size_none l hl j 1 h1 h8
        rw [one] at e2
        have H := Hd.mk (And.intro h1 hv)
        clear hl hi h0 h1 h2 h4 hv hk k0 k1 k2 hj hij h8
        (refine Eq.mpr (congrArg Q (evF_code (C := cfg) (g := 70) (fn := Tryz.f70) rfl Tryz.func70 rfl (by rw [Tryz.ntmps70]; simp) (by kernel_rfl) (by first | decide | simp [keysOf]))) ?_; rw [Tryz.results70, Tryz.ntmps70])
        repeat' (first | with_reducible refine br_split (fun _ => ?_) (fun _ => ?_) | simp only [*, push_cast, Array.reduceGetElem?, Nat.reduceBEq, Nat.reduceLT, Nat.reduceAdd, Nat.reduceSub, Nat.reduceLeDiff, Nat.reduceMul, Nat.reduceEqDiff, reduceCtorEq, Int.reduceAdd, Int.reduceLT, Int.reduceLE, Int.reduceToNat, Int.reduceNeg, Int.reduceSub, Int.reduceBEq, Int.reduceBNe, Int.reduceNe, Int.reduceGT, Int.reduceGE, Nat.reduceGT] | (rw [drawC_ok]; rotate_left; decide +kernel; exact cfg_mixed))
        exact HQ.out _ (.inr ⟨H.out.2, ⟨2, 0, ⟨#[]⟩⟩, j, H.out.1, rfl⟩)
      | some q =>
        obtain ⟨a8, b8⟩ := q
        obtain ⟨g1, g2, g3, g4⟩ := takeP_at h8 h1
        obtain ⟨k, hk8⟩ : ∃ k, j + 1 = k := ⟨_, rfl⟩
        have e2 := ev_size_some l hl j 1 k h1 hk8 h8
        rw [hk8] at g1 g3
        rw [beV_in g4 (by omega), one] at e2
        cases vo : valueOk ⟨2, (beV a8 : Nat), ⟨#[]⟩⟩ with
        | true =>
          have hv : valP (l.drop i) = some (⟨2, (beV a8 : Nat), ⟨#[]⟩⟩, l.drop k) := by
            unfold valP; rw [h0]; simp only [Option.bind_some, k2, show ¬ ((2 : Nat) = 0) by decide, show ¬ ((2 : Nat) = 1) by decide, if_false, if_true, numP, h8, Option.map_some, vo, g3]
          have H := Hd.mk (And.intro g1 (And.intro hv (show i < k by omega)))
          clear hl hi h0 h1 h2 h4 hv hk k0 k1 k2 hj hij h8 g1 g2 g3 g4 hk8
          (refine Eq.mpr (congrArg Q (evF_code (C := cfg) (g := 70) (fn := Tryz.f70) rfl Tryz.func70 rfl (by rw [Tryz.ntmps70]; simp) (by kernel_rfl) (by first | decide | simp [keysOf]))) ?_; rw [Tryz.results70, Tryz.ntmps70])
          repeat' (first | with_reducible refine br_split (fun _ => ?_) (fun _ => ?_) | simp only [*, push_cast, Array.reduceGetElem?, Nat.reduceBEq, Nat.reduceLT, Nat.reduceAdd, Nat.reduceSub, Nat.reduceLeDiff, Nat.reduceMul, Nat.reduceEqDiff, reduceCtorEq, Int.reduceAdd, Int.reduceLT, Int.reduceLE, Int.reduceToNat, Int.reduceNeg, Int.reduceSub, Int.reduceBEq, Int.reduceBNe, Int.reduceNe, Int.reduceGT, Int.reduceGE, Nat.reduceGT] | (rw [drawC_ok]; rotate_left; decide +kernel; exact cfg_mixed))
          exact HQ.out _ (.inl ⟨⟨2, (beV a8 : Nat), ⟨#[]⟩⟩, k, H.out.2.1, H.out.2.2, H.out.1, rfl⟩)
        | false =>
          have hv : valP (l.drop i) = none := by
            unfold valP; rw [h0]; simp only [Option.bind_some, k2, show ¬ ((2 : Nat) = 0) by decide, show ¬ ((2 : Nat) = 1) by decide, if_false, if_true, numP, h8, Option.map_some, vo, Bool.false_eq_true]
          have H := Hd.mk (And.intro g1 hv)
          clear hl hi h0 h1 h2 h4 hv hk k0 k1 k2 hj hij h8 g1 g2 g3 g4 hk8
          (refine Eq.mpr (congrArg Q (evF_code (C := cfg) (g := 70) (fn := Tryz.f70) rfl Tryz.func70 rfl (by rw [Tryz.ntmps70]; simp) (by kernel_rfl) (by first | decide | simp [keysOf]))) ?_; rw [Tryz.results70, Tryz.ntmps70])
          repeat' (first | with_reducible refine br_split (fun _ => ?_) (fun _ => ?_) | simp only [*, push_cast, Array.reduceGetElem?, Nat.reduceBEq, Nat.reduceLT, Nat.reduceAdd, Nat.reduceSub, Nat.reduceLeDiff, Nat.reduceMul, Nat.reduceEqDiff, reduceCtorEq, Int.reduceAdd, Int.reduceLT, Int.reduceLE, Int.reduceToNat, Int.reduceNeg, Int.reduceSub, Int.reduceBEq, Int.reduceBNe, Int.reduceNe, Int.reduceGT, Int.reduceGE, Nat.reduceGT] | (rw [drawC_ok]; rotate_left; decide +kernel; exact cfg_mixed))
          exact HQ.out _ (.inr ⟨H.out.2, ⟨2, (beV a8 : Nat), ⟨#[]⟩⟩, k, H.out.1, rfl⟩)
    by_cases k3 : beV a = 3
    · rw [k3, show ((3 : Nat) : Int) = 3 from rfl] at e1
      cases h8 : takeP 1 (l.drop j) with
      | none =>
        have hv : valP (l.drop i) = none := by
          unfold valP; rw [h0]; simp only [Option.bind_some, k3, show ¬ ((3 : Nat) = 0) by decide, show ¬ ((3 : Nat) = 1) by decide, show ¬ ((3 : Nat) = 2) by decide, if_false, if_true, txtP, numP, h8]; rfl
        have e2 := ev_size_none l hl j 1 h1 h8
        rw [one] at e2
        have e3 := ev_take_bad (bs l) j 0
        have H := Hd.mk (And.intro h1 hv)
        clear hl hi h0 h1 h2 h4 hv hk k0 k1 k2 k3 hj hij h8
        (refine Eq.mpr (congrArg Q (evF_code (C := cfg) (g := 70) (fn := Tryz.f70) rfl Tryz.func70 rfl (by rw [Tryz.ntmps70]; simp) (by kernel_rfl) (by first | decide | simp [keysOf]))) ?_; rw [Tryz.results70, Tryz.ntmps70])
        repeat' (first | with_reducible refine br_split (fun _ => ?_) (fun _ => ?_) | simp only [*, push_cast, Array.reduceGetElem?, Nat.reduceBEq, Nat.reduceLT, Nat.reduceAdd, Nat.reduceSub, Nat.reduceLeDiff, Nat.reduceMul, Nat.reduceEqDiff, reduceCtorEq, Int.reduceAdd, Int.reduceLT, Int.reduceLE, Int.reduceToNat, Int.reduceNeg, Int.reduceSub, Int.reduceBEq, Int.reduceBNe, Int.reduceNe, Int.reduceGT, Int.reduceGE, Nat.reduceGT] | (rw [drawC_ok]; rotate_left; decide +kernel; exact cfg_mixed))
        exact HQ.out _ (.inr ⟨H.out.2, ⟨3, 0, ⟨#[]⟩⟩, j, H.out.1, rfl⟩)
      | some q =>
        obtain ⟨a8, b8⟩ := q
        obtain ⟨g1, g2, g3, g4⟩ := takeP_at h8 h1
        obtain ⟨k, hk8⟩ : ∃ k, j + 1 = k := ⟨_, rfl⟩
        have e2 := ev_size_some l hl j 1 k h1 hk8 h8
        rw [hk8] at g1 g3
        rw [beV_in g4 (by omega), one] at e2
        cases h9 : takeP (beV a8) (l.drop k) with
        | none =>
          have hv : valP (l.drop i) = none := by
            unfold valP; rw [h0]; simp only [Option.bind_some, k3, show ¬ ((3 : Nat) = 0) by decide, show ¬ ((3 : Nat) = 1) by decide, show ¬ ((3 : Nat) = 2) by decide, if_false, if_true, txtP, numP, h8, Option.map_some, g3, h9]; rfl
          have e3 := ev_take_none l hl k (beV a8) g1 h9
          have H := Hd.mk (And.intro g1 hv)
          clear hl hi h0 h1 h2 h4 hv hk k0 k1 k2 k3 hj hij h8 h9 g1 g2 g3 g4 hk8
          (refine Eq.mpr (congrArg Q (evF_code (C := cfg) (g := 70) (fn := Tryz.f70) rfl Tryz.func70 rfl (by rw [Tryz.ntmps70]; simp) (by kernel_rfl) (by first | decide | simp [keysOf]))) ?_; rw [Tryz.results70, Tryz.ntmps70])
          repeat' (first | with_reducible refine br_split (fun _ => ?_) (fun _ => ?_) | simp only [*, push_cast, Array.reduceGetElem?, Nat.reduceBEq, Nat.reduceLT, Nat.reduceAdd, Nat.reduceSub, Nat.reduceLeDiff, Nat.reduceMul, Nat.reduceEqDiff, reduceCtorEq, Int.reduceAdd, Int.reduceLT, Int.reduceLE, Int.reduceToNat, Int.reduceNeg, Int.reduceSub, Int.reduceBEq, Int.reduceBNe, Int.reduceNe, Int.reduceGT, Int.reduceGE, Nat.reduceGT] | (rw [drawC_ok]; rotate_left; decide +kernel; exact cfg_mixed))
          exact HQ.out _ (.inr ⟨H.out.2, ⟨3, 0, ⟨#[]⟩⟩, k, H.out.1, rfl⟩)
        | some q =>
          obtain ⟨a9, b9⟩ := q
          obtain ⟨f1, f2, f3, f4⟩ := takeP_at h9 g1
          obtain ⟨m, hm9⟩ : ∃ m, k + beV a8 = m := ⟨_, rfl⟩
          have e3 := ev_take_some l hl k (beV a8) m g1 hm9 h9
          rw [hm9] at f1 f3
          cases vo : valueOk ⟨3, 0, bs a9⟩ with
          | true =>
            have hv : valP (l.drop i) = some (⟨3, 0, bs a9⟩, l.drop m) := by
              unfold valP; rw [h0]; simp only [Option.bind_some, k3, show ¬ ((3 : Nat) = 0) by decide, show ¬ ((3 : Nat) = 1) by decide, show ¬ ((3 : Nat) = 2) by decide, if_false, if_true, txtP, numP, h8, Option.map_some, g3, h9, vo, f3]
            have H := Hd.mk (And.intro f1 (And.intro hv (show i < m by omega)))
            clear hl hi h0 h1 h2 h4 hv hk k0 k1 k2 k3 hj hij h8 h9 g1 g2 g3 g4 hk8 f1 f2 f3 f4 hm9
            (refine Eq.mpr (congrArg Q (evF_code (C := cfg) (g := 70) (fn := Tryz.f70) rfl Tryz.func70 rfl (by rw [Tryz.ntmps70]; simp) (by kernel_rfl) (by first | decide | simp [keysOf]))) ?_; rw [Tryz.results70, Tryz.ntmps70])
            repeat' (first | with_reducible refine br_split (fun _ => ?_) (fun _ => ?_) | simp only [*, push_cast, Array.reduceGetElem?, Nat.reduceBEq, Nat.reduceLT, Nat.reduceAdd, Nat.reduceSub, Nat.reduceLeDiff, Nat.reduceMul, Nat.reduceEqDiff, reduceCtorEq, Int.reduceAdd, Int.reduceLT, Int.reduceLE, Int.reduceToNat, Int.reduceNeg, Int.reduceSub, Int.reduceBEq, Int.reduceBNe, Int.reduceNe, Int.reduceGT, Int.reduceGE, Nat.reduceGT] | (rw [drawC_ok]; rotate_left; decide +kernel; exact cfg_mixed))
            exact HQ.out _ (.inl ⟨⟨3, 0, bs a9⟩, m, H.out.2.1, H.out.2.2, H.out.1, rfl⟩)
          | false =>
            have hv : valP (l.drop i) = none := by
              unfold valP; rw [h0]; simp only [Option.bind_some, k3, show ¬ ((3 : Nat) = 0) by decide, show ¬ ((3 : Nat) = 1) by decide, show ¬ ((3 : Nat) = 2) by decide, if_false, if_true, txtP, numP, h8, Option.map_some, g3, h9, vo, Bool.false_eq_true]
            have H := Hd.mk (And.intro f1 hv)
            clear hl hi h0 h1 h2 h4 hv hk k0 k1 k2 k3 hj hij h8 h9 g1 g2 g3 g4 hk8 f1 f2 f3 f4 hm9
            (refine Eq.mpr (congrArg Q (evF_code (C := cfg) (g := 70) (fn := Tryz.f70) rfl Tryz.func70 rfl (by rw [Tryz.ntmps70]; simp) (by kernel_rfl) (by first | decide | simp [keysOf]))) ?_; rw [Tryz.results70, Tryz.ntmps70])
            repeat' (first | with_reducible refine br_split (fun _ => ?_) (fun _ => ?_) | simp only [*, push_cast, Array.reduceGetElem?, Nat.reduceBEq, Nat.reduceLT, Nat.reduceAdd, Nat.reduceSub, Nat.reduceLeDiff, Nat.reduceMul, Nat.reduceEqDiff, reduceCtorEq, Int.reduceAdd, Int.reduceLT, Int.reduceLE, Int.reduceToNat, Int.reduceNeg, Int.reduceSub, Int.reduceBEq, Int.reduceBNe, Int.reduceNe, Int.reduceGT, Int.reduceGE, Nat.reduceGT] | (rw [drawC_ok]; rotate_left; decide +kernel; exact cfg_mixed))
            exact HQ.out _ (.inr ⟨H.out.2, ⟨3, 0, bs a9⟩, m, H.out.1, rfl⟩)
    · have vo : valueOk ⟨(beV a : Nat), 0, ⟨#[]⟩⟩ = false := by
        simp only [valueOk]
        rw [if_neg (by omega), if_neg (by omega), if_neg (by omega), if_neg (by omega)]
      have hv : valP (l.drop i) = none := by
        unfold valP; rw [h0]; simp only [Option.bind_some, k0, k1, k2, k3, if_false]; rfl
      have q1 : ((beV a : Int) == 1) = false := by rw [beq_eq_false_iff_ne]; omega
      have q2 : ((beV a : Int) == 2) = false := by rw [beq_eq_false_iff_ne]; omega
      have q3 : ((beV a : Int) == 3) = false := by rw [beq_eq_false_iff_ne]; omega
      have H := Hd.mk (And.intro h1 hv)
      clear hl hi h0 h1 h2 h4 hv hk k0 k1 k2 k3 hj hij
      (refine Eq.mpr (congrArg Q (evF_code (C := cfg) (g := 70) (fn := Tryz.f70) rfl Tryz.func70 rfl (by rw [Tryz.ntmps70]; simp) (by kernel_rfl) (by first | decide | simp [keysOf]))) ?_; rw [Tryz.results70, Tryz.ntmps70])
      repeat' (first | with_reducible refine br_split (fun _ => ?_) (fun _ => ?_) | simp only [*, push_cast, Array.reduceGetElem?, Nat.reduceBEq, Nat.reduceLT, Nat.reduceAdd, Nat.reduceSub, Nat.reduceLeDiff, Nat.reduceMul, Nat.reduceEqDiff, reduceCtorEq, Int.reduceAdd, Int.reduceLT, Int.reduceLE, Int.reduceToNat, Int.reduceNeg, Int.reduceSub, Int.reduceBEq, Int.reduceBNe, Int.reduceNe, Int.reduceGT, Int.reduceGE, Nat.reduceGT] | (rw [drawC_ok]; rotate_left; decide +kernel; exact cfg_mixed))
      exact HQ.out _ (.inr ⟨H.out.2, ⟨(beV a : Nat), 0, ⟨#[]⟩⟩, j, H.out.1, rfl⟩)
end Go.Av
end

section
namespace Go.Av
open Go.Proofs
set_option linter.unusedSimpArgs false
theorem bs_get {l : List UInt8} {i : Nat} (h : i < l.length) : (bs l)[i]? = some l[i] := by
  have hg0 := ba_get (bs l)
  have hbl : (bs l).data.toList = l := by simp [bs]
  rw [hbl] at hg0
  rw [hg0, List.getElem?_eq_getElem h]
theorem ev_l10Num_bad (s : ByteArray) (n : Int) : evF cfg 30 [] [.d (.s s), .d (.i .i64 (-1)), .d (.i .i64 n)] = some (.tup [.d (.i .i64 0), .d (.i .i64 (-1))], []) := by
  have c1 : decide ((-1 : Int) < 0) = true := rfl
  (refine (evF_code (C := cfg) (g := 30) (fn := Tryz.f30) rfl Tryz.func30 rfl (by rw [Tryz.ntmps30]; simp) (by kernel_rfl) (by first | decide | simp [keysOf])).trans ?_; rw [Tryz.results30, Tryz.ntmps30])
  repeat' (first | with_reducible refine br_split (fun _ => ?_) (fun _ => ?_) | simp only [*, push_cast, Array.reduceGetElem?, Nat.reduceBEq, Nat.reduceLT, Nat.reduceAdd, Nat.reduceSub, Nat.reduceLeDiff, Nat.reduceMul, Nat.reduceEqDiff, reduceCtorEq, Int.reduceAdd, Int.reduceLT, Int.reduceLE, Int.reduceToNat, Int.reduceNeg, Int.reduceSub, Int.reduceBEq, Int.reduceBNe, Int.reduceNe, Int.reduceGT, Int.reduceGE, Nat.reduceGT] | (rw [drawC_ok]; rotate_left; decide +kernel; exact cfg_mixed))
theorem ev_l10Num_none (l : List UInt8) (hl : l.length ≤ 1048576) (i n : Nat) (hi : i ≤ l.length) (h : takeP n (l.drop i) = none) : evF cfg 30 [] [.d (.s (bs l)), .d (.i .i64 (i : Nat)), .d (.i .i64 (n : Nat))] = some (.tup [.d (.i .i64 0), .d (.i .i64 (-1))], []) := by
  have h1 := takeP_not h
  have c0 : decide ((i : Int) < 0) = false := decide_eq_false (by omega)
  have w1 : IntKind.i64.wrap ((l.length : Int) - (i : Int)) = (l.length : Int) - (i : Int) := i64_in (by omega) (by omega)
  have c1 : decide ((n : Int) > (l.length : Int) - (i : Int)) = true := decide_eq_true (by omega)
  have hz := bs_size l
  clear hl hi h h1
  (refine (evF_code (C := cfg) (g := 30) (fn := Tryz.f30) rfl Tryz.func30 rfl (by rw [Tryz.ntmps30]; simp) (by kernel_rfl) (by first | decide | simp [keysOf])).trans ?_; rw [Tryz.results30, Tryz.ntmps30])
  repeat' (first | with_reducible refine br_split (fun _ => ?_) (fun _ => ?_) | simp only [*, push_cast, Array.reduceGetElem?, Nat.reduceBEq, Nat.reduceLT, Nat.reduceAdd, Nat.reduceSub, Nat.reduceLeDiff, Nat.reduceMul, Nat.reduceEqDiff, reduceCtorEq, Int.reduceAdd, Int.reduceLT, Int.reduceLE, Int.reduceToNat, Int.reduceNeg, Int.reduceSub, Int.reduceBEq, Int.reduceBNe, Int.reduceNe, Int.reduceGT, Int.reduceGE, Nat.reduceGT] | (rw [drawC_ok]; rotate_left; decide +kernel; exact cfg_mixed))
theorem ev_l10Num_some (l : List UInt8) (hl : l.length ≤ 1048576) (i n j : Nat) (hi : i ≤ l.length) (hj : i + n = j) (hn : n ≤ 7) {a b : List UInt8} (h : takeP n (l.drop i) = some (a, b)) : evF cfg 30 [] [.d (.s (bs l)), .d (.i .i64 (i : Nat)), .d (.i .i64 (n : Nat))] = some (.tup [.d (.i .i64 (beV a : Nat)), .d (.i .i64 (j : Nat))], []) := by
  obtain ⟨h1, h2, -, h4⟩ := takeP_at h hi
  have c0 : decide ((i : Int) < 0) = false := decide_eq_false (by omega)
  have w1 : IntKind.i64.wrap ((l.length : Int) - (i : Int)) = (l.length : Int) - (i : Int) := i64_in (by omega) (by omega)
  have c1 : decide ((n : Int) > (l.length : Int) - (i : Int)) = false := decide_eq_false (by omega)
  have w2 : IntKind.i64.wrap ((i : Int) + (n : Int)) = (j : Int) := by rw [i64_in (by omega) (by omega)]; omega
  have hz := bs_size l
  have H := Hd.mk (And.intro hl (And.intro h1 (And.intro h2 (And.intro h4 hn))))
  clear hl hi h h1 h2 h4 hn hj
  (refine (evF_code (C := cfg) (g := 30) (fn := Tryz.f30) rfl Tryz.func30 rfl (by rw [Tryz.ntmps30]; simp) (by kernel_rfl) (by first | decide | simp [keysOf])).trans ?_; rw [Tryz.results30, Tryz.ntmps30])
  repeat' (first | with_reducible refine br_split (fun _ => ?_) (fun _ => ?_) | simp only [*, push_cast, Array.reduceGetElem?, Nat.reduceBEq, Nat.reduceLT, Nat.reduceAdd, Nat.reduceSub, Nat.reduceLeDiff, Nat.reduceMul, Nat.reduceEqDiff, reduceCtorEq, Int.reduceAdd, Int.reduceLT, Int.reduceLE, Int.reduceToNat, Int.reduceNeg, Int.reduceSub, Int.reduceBEq, Int.reduceBNe, Int.reduceNe, Int.reduceGT, Int.reduceGE, Nat.reduceGT] | (rw [drawC_ok]; rotate_left; decide +kernel; exact cfg_mixed))
  rw [show ({ t := [(0, .d (.s (bs l))), (1, .d (.i .i64 (i : Nat))), (2, .d (.i .i64 (n : Nat))), (8, .d (.i .i64 0)), (9, .d (.i .i64 0))], o := [], ks := [], n := 0, sz := 38, u := noU } : St) = { t := [(0, .d (.s (bs l))), (1, .d (.i .i64 (i : Nat))), (2, .d (.i .i64 (n : Nat))), (8, .d (.i .i64 (beV (a.take 0) : Nat))), (9, .d (.i .i64 0))], o := [], ks := [], n := 0, sz := 38, u := noU } from rfl]
  rw [evM_for0 n (fun k q => { t := [(0, .d (.s (bs l))), (1, .d (.i .i64 (i : Nat))), (2, .d (.i .i64 (n : Nat))), (8, .d (.i .i64 (beV (a.take k) : Nat))), (9, .d (.i .i64 q))], o := [], ks := [], n := 0, sz := 38, u := noU }) (fun k => some (.exit 0, { t := [(1, .d (.i .i64 (i : Nat))), (2, .d (.i .i64 (n : Nat))), (8, .d (.i .i64 (beV a : Nat)))], o := [], ks := [], n := 0, sz := 38, u := noU })) ?step ?last]
  case step =>
    intro k hk ih
    obtain ⟨hl, h1, h2, h4, hn⟩ := H.out
    have hd := dec_lt hk
    have hw := wrap_succ (i := k) (by omega)
    obtain ⟨m, hm⟩ : ∃ m, i + k = m := ⟨_, rfl⟩
    have w3 : IntKind.i64.wrap ((i : Int) + (k : Int)) = (m : Int) := by rw [i64_in (by omega) (by omega)]; omega
    have hml : m < l.length := by omega
    have hg := bs_get hml
    have hb1 := dec_lt hml
    have hka : k < a.length := by omega
    have hav : a[k] = l[m] := by
      have : a[k]? = l[m]? := by
        rw [h2, List.getElem?_take, if_pos hk, List.getElem?_drop, hm]
      rw [List.getElem?_eq_getElem hka, List.getElem?_eq_getElem hml] at this
      exact Option.some.inj this
    have hlt : beV (a.take k) < 281474976710656 := by
      have h := beV_lt (a.take k)
      have h6 : 256 ^ (a.take k).length ≤ 256 ^ 6 := Nat.pow_le_pow_right (by omega) (by rw [List.length_take]; omega)
      have : (256 : Nat) ^ 6 = 281474976710656 := by decide
      omega
    have hb2 := l[m].toNat_lt
    have w4 : IntKind.i64.wrap ((l[m].toNat : Nat) : Int) = ((l[m].toNat : Nat) : Int) := i64_in (by omega) (by omega)
    have w5 : IntKind.i64.wrap (256 * ((beV (a.take k) : Nat) : Int)) = 256 * ((beV (a.take k) : Nat) : Int) := i64_in (by omega) (by omega)
    have w6 : IntKind.i64.wrap (256 * ((beV (a.take k) : Nat) : Int) + ((l[m].toNat : Nat) : Int)) = ((beV (a.take (k + 1)) : Nat) : Int) := by
      rw [List.take_succ_eq_append_getElem hka, beV_snoc, hav, i64_in (by omega) (by omega), Int.natCast_add, Int.natCast_mul]
      rfl
    clear hl h1 h2 h4 hn hka hav hlt hb2 H hm
    repeat' (first | with_reducible refine br_split (fun _ => ?_) (fun _ => ?_) | simp only [*, push_cast, Array.reduceGetElem?, Nat.reduceBEq, Nat.reduceLT, Nat.reduceAdd, Nat.reduceSub, Nat.reduceLeDiff, Nat.reduceMul, Nat.reduceEqDiff, reduceCtorEq, Int.reduceAdd, Int.reduceLT, Int.reduceLE, Int.reduceToNat, Int.reduceNeg, Int.reduceSub, Int.reduceBEq, Int.reduceBNe, Int.reduceNe, Int.reduceGT, Int.reduceGE, Nat.reduceGT] | (rw [drawC_ok]; rotate_left; decide +kernel; exact cfg_mixed))
  case last =>
    obtain ⟨hl, h1, h2, h4, hn⟩ := H.out
    have ht : a.take n = a := by rw [← h4]; exact List.take_length
    clear hl h1 h2 h4 hn H
    repeat' (first | with_reducible refine br_split (fun _ => ?_) (fun _ => ?_) | simp only [*, push_cast, Array.reduceGetElem?, Nat.reduceBEq, Nat.reduceLT, Nat.reduceAdd, Nat.reduceSub, Nat.reduceLeDiff, Nat.reduceMul, Nat.reduceEqDiff, reduceCtorEq, Int.reduceAdd, Int.reduceLT, Int.reduceLE, Int.reduceToNat, Int.reduceNeg, Int.reduceSub, Int.reduceBEq, Int.reduceBNe, Int.reduceNe, Int.reduceGT, Int.reduceGE, Nat.reduceGT] | (rw [drawC_ok]; rotate_left; decide +kernel; exact cfg_mixed))
  clear H
  repeat' (first | with_reducible refine br_split (fun _ => ?_) (fun _ => ?_) | simp only [*, push_cast, Array.reduceGetElem?, Nat.reduceBEq, Nat.reduceLT, Nat.reduceAdd, Nat.reduceSub, Nat.reduceLeDiff, Nat.reduceMul, Nat.reduceEqDiff, reduceCtorEq, Int.reduceAdd, Int.reduceLT, Int.reduceLE, Int.reduceToNat, Int.reduceNeg, Int.reduceSub, Int.reduceBEq, Int.reduceBNe, Int.reduceNe, Int.reduceGT, Int.reduceGE, Nat.reduceGT] | (rw [drawC_ok]; rotate_left; decide +kernel; exact cfg_mixed))
end Go.Av
end

section
namespace Go.Av
open Go.Proofs
set_option linter.unusedSimpArgs false
theorem ev_l10Get_bad (s : ByteArray) (n : Int) : evF cfg 31 [] [.d (.s s), .d (.i .i64 (-1)), .d (.i .i64 n)] = some (.tup [.d (.s ⟨#[]⟩), .d (.i .i64 (-1))], []) := by
  have e1 := ev_l10Num_bad s n
  have c1 : decide ((-1 : Int) < 0) = true := rfl
  (refine (evF_code (C := cfg) (g := 31) (fn := Tryz.f31) rfl Tryz.func31 rfl (by rw [Tryz.ntmps31]; simp) (by kernel_rfl) (by first | decide | simp [keysOf])).trans ?_; rw [Tryz.results31, Tryz.ntmps31])
  repeat' (first | with_reducible refine br_split (fun _ => ?_) (fun _ => ?_) | simp only [*, push_cast, Array.reduceGetElem?, Nat.reduceBEq, Nat.reduceLT, Nat.reduceAdd, Nat.reduceSub, Nat.reduceLeDiff, Nat.reduceMul, Nat.reduceEqDiff, reduceCtorEq, Int.reduceAdd, Int.reduceLT, Int.reduceLE, Int.reduceToNat, Int.reduceNeg, Int.reduceSub, Int.reduceBEq, Int.reduceBNe, Int.reduceNe, Int.reduceGT, Int.reduceGE, Nat.reduceGT] | (rw [drawC_ok]; rotate_left; decide +kernel; exact cfg_mixed))
theorem ev_l10Get_none (l : List UInt8) (hl : l.length ≤ 1048576) (i m : Nat) (hi : i ≤ l.length) (hm : m ≤ 7) (h : txtP m (l.drop i) = none) : evF cfg 31 [] [.d (.s (bs l)), .d (.i .i64 (i : Nat)), .d (.i .i64 (m : Nat))] = some (.tup [.d (.s ⟨#[]⟩), .d (.i .i64 (-1))], []) := by
  cases h0 : takeP m (l.drop i) with
  | none =>
    have e1 := ev_l10Num_none l hl i m hi h0
    have c1 : decide ((-1 : Int) < 0) = true := rfl
    clear hl hi h h0 hm
    (refine (evF_code (C := cfg) (g := 31) (fn := Tryz.f31) rfl Tryz.func31 rfl (by rw [Tryz.ntmps31]; simp) (by kernel_rfl) (by first | decide | simp [keysOf])).trans ?_; rw [Tryz.results31, Tryz.ntmps31])
    repeat' (first | with_reducible refine br_split (fun _ => ?_) (fun _ => ?_) | simp only [*, push_cast, Array.reduceGetElem?, Nat.reduceBEq, Nat.reduceLT, Nat.reduceAdd, Nat.reduceSub, Nat.reduceLeDiff, Nat.reduceMul, Nat.reduceEqDiff, reduceCtorEq, Int.reduceAdd, Int.reduceLT, Int.reduceLE, Int.reduceToNat, Int.reduceNeg, Int.reduceSub, Int.reduceBEq, Int.reduceBNe, Int.reduceNe, Int.reduceGT, Int.reduceGE, Nat.reduceGT] | (rw [drawC_ok]; rotate_left; decide +kernel; exact cfg_mixed))
  | some p =>
    obtain ⟨a, b⟩ := p
    obtain ⟨h1, h2, h3, h4⟩ := takeP_at h0 hi
    obtain ⟨j, hj⟩ : ∃ j, i + m = j := ⟨_, rfl⟩
    have e1 := ev_l10Num_some l hl i m j hi hj hm h0
    rw [hj] at h1 h3
    have hn : takeP (beV a) (l.drop j) = none := by
      rw [← h3]
      simp only [txtP, numP, h0, Option.map_some, Option.bind_some] at h
      cases ht : takeP (beV a) b with
      | none => rfl
      | some q => rw [ht] at h; cases h
    have h5 := takeP_not hn
    have hz := bs_size l
    have c0 : decide ((j : Int) < 0) = false := decide_eq_false (by omega)
    have w1 : IntKind.i64.wrap ((l.length : Int) - (j : Int)) = (l.length : Int) - (j : Int) := i64_in (by omega) (by omega)
    have c1 : decide (((beV a : Nat) : Int) > (l.length : Int) - (j : Int)) = true := decide_eq_true (by omega)
    clear hl hi h h0 h1 h2 h3 h4 hn hm hj h5
    (refine (evF_code (C := cfg) (g := 31) (fn := Tryz.f31) rfl Tryz.func31 rfl (by rw [Tryz.ntmps31]; simp) (by kernel_rfl) (by first | decide | simp [keysOf])).trans ?_; rw [Tryz.results31, Tryz.ntmps31])
    repeat' (first | with_reducible refine br_split (fun _ => ?_) (fun _ => ?_) | simp only [*, push_cast, Array.reduceGetElem?, Nat.reduceBEq, Nat.reduceLT, Nat.reduceAdd, Nat.reduceSub, Nat.reduceLeDiff, Nat.reduceMul, Nat.reduceEqDiff, reduceCtorEq, Int.reduceAdd, Int.reduceLT, Int.reduceLE, Int.reduceToNat, Int.reduceNeg, Int.reduceSub, Int.reduceBEq, Int.reduceBNe, Int.reduceNe, Int.reduceGT, Int.reduceGE, Nat.reduceGT] | (rw [drawC_ok]; rotate_left; decide +kernel; exact cfg_mixed))
theorem ev_l10Get_some (l : List UInt8) (hl : l.length ≤ 1048576) (i m : Nat) (hi : i ≤ l.length) (hm : m ≤ 7) {s : ByteArray} {b : List UInt8} (h : txtP m (l.drop i) = some (s, b)) : ∃ i' : Nat, i' ≤ l.length ∧ i + m ≤ i' ∧ b = l.drop i' ∧ evF cfg 31 [] [.d (.s (bs l)), .d (.i .i64 (i : Nat)), .d (.i .i64 (m : Nat))] = some (.tup [.d (.s s), .d (.i .i64 (i' : Nat))], []) := by
  cases h0 : takeP m (l.drop i) with
  | none => simp only [txtP, numP, h0, Option.map_none, Option.bind_none] at h; cases h
  | some p =>
    obtain ⟨a, b0⟩ := p
    obtain ⟨h1, h2, h3, h4⟩ := takeP_at h0 hi
    obtain ⟨j, hj⟩ : ∃ j, i + m = j := ⟨_, rfl⟩
    have e1 := ev_l10Num_some l hl i m j hi hj hm h0
    rw [hj] at h1 h3
    simp only [txtP, numP, h0, Option.map_some, Option.bind_some] at h
    cases ht : takeP (beV a) b0 with
    | none => rw [ht] at h; cases h
    | some q =>
      obtain ⟨a2, b2⟩ := q
      rw [ht] at h
      simp only [Option.map_some, Option.some.injEq, Prod.mk.injEq] at h
      obtain ⟨rfl, rfl⟩ := h
      rw [h3] at ht
      obtain ⟨g1, g2, g3, g4⟩ := takeP_at ht h1
      obtain ⟨k, hk⟩ : ∃ k, j + beV a = k := ⟨_, rfl⟩
      rw [hk] at g1 g3
      refine ⟨k, g1, by omega, g3, ?_⟩
      have hz := bs_size l
      have c0 : decide ((j : Int) < 0) = false := decide_eq_false (by omega)
      have w1 : IntKind.i64.wrap ((l.length : Int) - (j : Int)) = (l.length : Int) - (j : Int) := i64_in (by omega) (by omega)
      have c1 : decide (((beV a : Nat) : Int) > (l.length : Int) - (j : Int)) = false := decide_eq_false (by omega)
      have w2 : IntKind.i64.wrap ((j : Int) + ((beV a : Nat) : Int)) = (k : Int) := by rw [i64_in (by omega) (by omega)]; omega
      have c2 : decide (0 ≤ (j : Int) ∧ (j : Int) ≤ (k : Int) ∧ (k : Int) ≤ (l.length : Int)) = true := decide_eq_true (by omega)
      have c3 : decide ((j : Int) ≤ (k : Int) ∧ (k : Int) ≤ (l.length : Int)) = true := decide_eq_true (by omega)
      have hx := bs_extract l j k
      have ha : (l.take k).drop j = a2 := by rw [g2, List.drop_take]; congr 1; omega
      rw [ha] at hx
      clear hl hi h0 h1 h2 h3 h4 hm ht g1 g2 g3 g4 hj hk ha
      (refine (evF_code (C := cfg) (g := 31) (fn := Tryz.f31) rfl Tryz.func31 rfl (by rw [Tryz.ntmps31]; simp) (by kernel_rfl) (by first | decide | simp [keysOf])).trans ?_; rw [Tryz.results31, Tryz.ntmps31])
      repeat' (first | with_reducible refine br_split (fun _ => ?_) (fun _ => ?_) | simp only [*, push_cast, Array.reduceGetElem?, Nat.reduceBEq, Nat.reduceLT, Nat.reduceAdd, Nat.reduceSub, Nat.reduceLeDiff, Nat.reduceMul, Nat.reduceEqDiff, reduceCtorEq, Int.reduceAdd, Int.reduceLT, Int.reduceLE, Int.reduceToNat, Int.reduceNeg, Int.reduceSub, Int.reduceBEq, Int.reduceBNe, Int.reduceNe, Int.reduceGT, Int.reduceGE, Nat.reduceGT] | (rw [drawC_ok]; rotate_left; decide +kernel; exact cfg_mixed))
theorem ev_GetValue_end (l : List UInt8) (hl : l.length ≤ 1048576) : evF cfg 68 [] [.d (.s (bs l)), .d (.i .i64 (l.length : Nat))] = some (.tup [.agg [.d (.i .i64 0), .d (.i .i64 0), .d (.s ⟨#[]⟩)], .d (.i .i64 (-1))], []) := by
  have hz := bs_size l
  have w1 : IntKind.i64.wrap ((l.length : Int) - 1) = (l.length : Int) - 1 := i64_in (by omega) (by omega)
  have c1 : decide ((l.length : Int) ≤ (l.length : Int) - 1) = false := decide_eq_false (by omega)
  clear hl
  (refine (evF_code (C := cfg) (g := 68) (fn := Tryz.f68) rfl Tryz.func68 rfl (by rw [Tryz.ntmps68]; simp) (by kernel_rfl) (by first | decide | simp [keysOf])).trans ?_; rw [Tryz.results68, Tryz.ntmps68])
  repeat' (first | with_reducible refine br_split (fun _ => ?_) (fun _ => ?_) | simp only [*, push_cast, Array.reduceGetElem?, Nat.reduceBEq, Nat.reduceLT, Nat.reduceAdd, Nat.reduceSub, Nat.reduceLeDiff, Nat.reduceMul, Nat.reduceEqDiff, reduceCtorEq, Int.reduceAdd, Int.reduceLT, Int.reduceLE, Int.reduceToNat, Int.reduceNeg, Int.reduceSub, Int.reduceBEq, Int.reduceBNe, Int.reduceNe, Int.reduceGT, Int.reduceGE, Nat.reduceGT] | (rw [drawC_ok]; rotate_left; decide +kernel; exact cfg_mixed))
end Go.Av
end
