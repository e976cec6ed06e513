/- What functions of this seat give. -/
import Derived.Test.YtflkffnelppigaaGa
import Derived.Test.YtflkffnelppigaaAvF
import Derived.Test.YtflkffnelppigaaAvCfg
import Derived.Test.YtflkffnelppigaaProg
import Derived.WalkKit
import Derived.ProofKit
import Derived.Lib.Hide
set_option linter.all false
set_option linter.unusedVariables false
set_option linter.unusedSimpArgs false

section
namespace Go.Av
open Go.Proofs Go.RowKit
set_option linter.unusedSimpArgs false
set_option linter.unusedVariables false

structure NS where
  n : Int
  s : ByteArray
theorem wrap_quo {n : Int} (h : 0 < n) : (IntKind.i64.wrap (Int.tdiv n 10)).toNat < n.toNat ∧ IntKind.i64.wrap (Int.tdiv n 10) ≤ 9223372036854775807 ∧ (n ≤ 9223372036854775807 → IntKind.i64.wrap (Int.tdiv n 10) = n / 10) := by
  have h1 : Int.tdiv n 10 = n / 10 := Int.tdiv_eq_ediv_of_nonneg (by omega)
  rw [h1]
  by_cases h2 : n / 10 ≤ 9223372036854775807
  · rw [i64_in (by omega) (by omega)]; omega
  · rw [IntKind.wrap_i64 (n / 10)]; omega
theorem strOf_one (m : Int) : ∃ x, strOf [[.i .u8 (IntKind.u8.wrap m)]] = some x ∧ x.size = 1 := by
  refine ⟨⟨#[UInt8.ofNat (IntKind.u8.wrap m).toNat]⟩, ?_, rfl⟩
  have h : ([[.i .u8 (IntKind.u8.wrap m)]] : List (List T)) = bytesT ⟨#[UInt8.ofNat (IntKind.u8.wrap m).toNat]⟩ := by
    have h0 : 0 ≤ IntKind.u8.wrap m ∧ IntKind.u8.wrap m < 256 := by
      simp [IntKind.wrap, IntKind.bits, IntKind.signed]; omega
    simp [bytesT]
    omega
  rw [h, strOf_bytesT]
/-- The text stays short. -/
def Sht (z : NS) : Prop := z.s.size = 0 ∨ (z.n ≤ 9223372036854775807 ∧ ∃ d : Nat, z.n < 10 ^ d ∧ z.s.size + d ≤ 100)
theorem Sht.next {n : Int} {s x : ByteArray} (h : Sht ⟨n, s⟩) (hn : 0 < n) (hx : x.size = 1) : Sht ⟨IntKind.i64.wrap (Int.tdiv n 10), x ++ s⟩ ∧ x.size + s.size ≤ 1099511627776 := by
  obtain ⟨_, w1, w2⟩ := wrap_quo hn
  have hsz : (x ++ s).size = x.size + s.size := ByteArray.size_append
  rcases h with h | ⟨h1, d, h2, h3⟩
  · have h : s.size = 0 := h
    refine ⟨.inr ⟨w1, 19, ?_, ?_⟩, by omega⟩
    · show IntKind.i64.wrap (Int.tdiv n 10) < 10 ^ 19
      omega
    · show (x ++ s).size + 19 ≤ 100
      omega
  · have h1 : n ≤ 9223372036854775807 := h1
    have h2 : n < 10 ^ d := h2
    have h3 : s.size + d ≤ 100 := h3
    refine ⟨.inr ⟨w1, d - 1, ?_, ?_⟩, by omega⟩
    · show IntKind.i64.wrap (Int.tdiv n 10) < 10 ^ (d - 1)
      rw [w2 h1]
      cases d with
      | zero => simp at h2; omega
      | succ d =>
        rw [Int.pow_succ] at h2
        simp only [Nat.add_sub_cancel]
        generalize (10 : Int) ^ d = e at *
        omega
    · show (x ++ s).size + (d - 1) ≤ 100
      cases d with
      | zero => simp at h2; omega
      | succ d => omega
theorem ev_markText_ex (k : Int) : ∃ s, evF cfg 58 [] [.d (.i .i64 k)] = some (.d (.s s), []) := by
  by_cases hk : k ≤ 0
  · have h := decide_eq_true hk
    refine ⟨⟨#[109, 48]⟩, ?_⟩
    (refine (evF_code (C := cfg) (g := 58) (fn := Try.f58) rfl Try.func58 rfl (by rw [Try.ntmps58]; simp) (by kernel_rfl) (by first | decide | simp [keysOf])).trans ?_; rw [Try.results58, Try.ntmps58])
    repeat' (first | with_reducible refine br_split (fun _ => ?_) (fun _ => ?_) | simp only [*, push_cast, Array.reduceGetElem?, Nat.reduceBEq, Nat.reduceLT, Nat.reduceAdd, Nat.reduceSub, Nat.reduceLeDiff, Nat.reduceMul, Nat.reduceEqDiff, reduceCtorEq, Int.reduceAdd, Int.reduceLT, Int.reduceLE, Int.reduceToNat, Int.reduceNeg, Int.reduceSub, Int.reduceBEq, Int.reduceBNe, Int.reduceNe, Int.reduceGT, Int.reduceGE, Nat.reduceGT] | (rw [drawC_ok]; rotate_left; decide +kernel; exact cfg_mixed))
  · have h := decide_eq_false hk
    clear hk
    have : ∃ r, evF cfg 58 [] [.d (.i .i64 k)] = some r ∧ ∃ s, r = (.d (.s s), []) := by
      refine exQ fun Q hQ => ?_
      have HQ := Hd.mk hQ; clear hQ
      (refine Eq.mpr (congrArg Q (evF_code (C := cfg) (g := 58) (fn := Try.f58) rfl Try.func58 rfl (by rw [Try.ntmps58]; simp) (by kernel_rfl) (by first | decide | simp [keysOf]))) ?_; rw [Try.results58, Try.ntmps58])
      repeat' (first | with_reducible refine br_split (fun _ => ?_) (fun _ => ?_) | simp only [*, push_cast, Array.reduceGetElem?, Nat.reduceBEq, Nat.reduceLT, Nat.reduceAdd, Nat.reduceSub, Nat.reduceLeDiff, Nat.reduceMul, Nat.reduceEqDiff, reduceCtorEq, Int.reduceAdd, Int.reduceLT, Int.reduceLE, Int.reduceToNat, Int.reduceNeg, Int.reduceSub, Int.reduceBEq, Int.reduceBNe, Int.reduceNe, Int.reduceGT, Int.reduceGE, Nat.reduceGT] | (rw [drawC_ok]; rotate_left; decide +kernel; exact cfg_mixed))
      clear h
      generalize hE : evM cfg _ _ _ _ _ = R
      have key : ∃ r, R = some r ∧ ∃ s, s.size ≤ 100 ∧ r = (Exit.exit 0, { t := [(3, .d (.s s))], o := [], ks := [], n := 0, sz := 20, u := noU }) := by
        rw [← hE]
        refine evM_ex (α := NS) (fun z => { t := [(0, .d (.i .i64 z.n)), (3, .d (.s z.s))], o := [], ks := [], n := 0, sz := 20, u := noU }) (fun z r => ∃ s, s.size ≤ 100 ∧ r = (Exit.exit 0, { t := [(3, .d (.s s))], o := [], ks := [], n := 0, sz := 20, u := noU })) Sht (fun z => z.n.toNat) ?_ ⟨k, ⟨#[]⟩⟩ (.inl rfl)
        clear hE R HQ Q
        rintro ⟨n, s⟩ hI ih
        simp only at ih ⊢
        by_cases hc : n > 0
        · have d1 := decide_eq_true hc
          obtain ⟨x, hx, hx1⟩ := strOf_one (IntKind.i64.wrap (48 + n.tmod 10))
          obtain ⟨hI2, hsz⟩ := hI.next hc hx1
          obtain ⟨r, hr, hq⟩ := ih ⟨IntKind.i64.wrap (Int.tdiv n 10), x ++ s⟩ hI2 (wrap_quo hc).1
          have d2 := decide_eq_true hsz
          clear ih hc hI hI2 hsz hx1
          refine ⟨r, ?_, hq⟩
          repeat' (first | with_reducible refine br_split (fun _ => ?_) (fun _ => ?_) | simp only [*, push_cast, Array.reduceGetElem?, Nat.reduceBEq, Nat.reduceLT, Nat.reduceAdd, Nat.reduceSub, Nat.reduceLeDiff, Nat.reduceMul, Nat.reduceEqDiff, reduceCtorEq, Int.reduceAdd, Int.reduceLT, Int.reduceLE, Int.reduceToNat, Int.reduceNeg, Int.reduceSub, Int.reduceBEq, Int.reduceBNe, Int.reduceNe, Int.reduceGT, Int.reduceGE, Nat.reduceGT] | (rw [drawC_ok]; rotate_left; decide +kernel; exact cfg_mixed))
        · have d1 : decide (n > 0) = false := decide_eq_false hc
          have hs : s.size ≤ 100 := by
            rcases hI with h | ⟨_, d, _, h⟩
            · have h : s.size = 0 := h
              omega
            · have h : s.size + d ≤ 100 := h
              omega
          clear ih hc hI
          refine ⟨_, ?_, s, hs, rfl⟩
          repeat' (first | with_reducible refine br_split (fun _ => ?_) (fun _ => ?_) | simp only [*, push_cast, Array.reduceGetElem?, Nat.reduceBEq, Nat.reduceLT, Nat.reduceAdd, Nat.reduceSub, Nat.reduceLeDiff, Nat.reduceMul, Nat.reduceEqDiff, reduceCtorEq, Int.reduceAdd, Int.reduceLT, Int.reduceLE, Int.reduceToNat, Int.reduceNeg, Int.reduceSub, Int.reduceBEq, Int.reduceBNe, Int.reduceNe, Int.reduceGT, Int.reduceGE, Nat.reduceGT] | (rw [drawC_ok]; rotate_left; decide +kernel; exact cfg_mixed))
      obtain ⟨_, rfl, s, hs, rfl⟩ := key
      have hq := HQ.out _ ⟨⟨#[109]⟩ ++ s, rfl⟩
      have d3 : decide (1 + s.size ≤ 1099511627776) = true := decide_eq_true (by omega)
      have d4 : (⟨#[109]⟩ : ByteArray).size = 1 := rfl
      clear hE HQ hs
      repeat' (first | with_reducible refine br_split (fun _ => ?_) (fun _ => ?_) | simp only [*, push_cast, Array.reduceGetElem?, Nat.reduceBEq, Nat.reduceLT, Nat.reduceAdd, Nat.reduceSub, Nat.reduceLeDiff, Nat.reduceMul, Nat.reduceEqDiff, reduceCtorEq, Int.reduceAdd, Int.reduceLT, Int.reduceLE, Int.reduceToNat, Int.reduceNeg, Int.reduceSub, Int.reduceBEq, Int.reduceBNe, Int.reduceNe, Int.reduceGT, Int.reduceGE, Nat.reduceGT] | (rw [drawC_ok]; rotate_left; decide +kernel; exact cfg_mixed))
    obtain ⟨_, h, s, rfl⟩ := this
    exact ⟨s, h⟩
end Go.Av
end

section
namespace Go.Av
open Go.Proofs Go.RowKit
set_option linter.unusedSimpArgs false
set_option linter.unusedVariables false

noncomputable def mtOf (k : Int) : ByteArray := (ev_markText_ex k).choose
theorem ev_markText (k : Int) : evF cfg 58 [] [.d (.i .i64 k)] = some (.d (.s (mtOf k)), []) := (ev_markText_ex k).choose_spec

theorem ev_heldValueS (L : List V) (k : Int) (hl : L.length ≤ 1099511627776) (h : MkdV mtOf L k) : evF cfg 90 [] [.d (.sl .any (L.map vC)), .d (.i .i64 k)] = some (.d (.i .i64 (kIt k L.length)), []) := by
  have H := Hd.mk (And.intro hl h)
  clear hl h
  (refine (evF_code (C := cfg) (g := 90) (fn := Try.f90) rfl Try.func90 rfl (by rw [Try.ntmps90]; simp) (by kernel_rfl) (by first | decide | simp [keysOf])).trans ?_; rw [Try.results90, Try.ntmps90])
  repeat' (first | with_reducible refine br_split (fun _ => ?_) (fun _ => ?_) | simp only [*, push_cast, Array.reduceGetElem?, Nat.reduceBEq, Nat.reduceLT, Nat.reduceAdd, Nat.reduceSub, Nat.reduceLeDiff, Nat.reduceMul, Nat.reduceEqDiff, reduceCtorEq, Int.reduceAdd, Int.reduceLT, Int.reduceLE, Int.reduceToNat, Int.reduceNeg, Int.reduceSub, Int.reduceBEq, Int.reduceBNe, Int.reduceNe, Int.reduceGT, Int.reduceGE, Nat.reduceGT] | (rw [drawC_ok]; rotate_left; decide +kernel; exact cfg_mixed))
  rw [show k = kIt k 0 from rfl]
  rw [evM_for0 L.length (fun i j => { t := [(0, .d (.sl .any (L.map vC))), (1, .d (.i .i64 (kIt k i))), (5, .d (.i .i64 j))], o := [], ks := [], n := 0, sz := 41, u := noU }) (fun i => some (.exit 0, { t := [(1, .d (.i .i64 (kIt k L.length)))], o := [], ks := [], n := 0, sz := 41, u := noU })) ?step ?last]
  case step =>
    intro i hi ih
    obtain ⟨hl, h⟩ := H.out
    have d1 := dec_lt hi
    have d2 := dec_ltN hi
    have g1 : (L.map vC)[i]? = some [.i .i64 (kIt k i), .i .i64 (w6 (kIt k i + 1)), .s (mtOf (w6 (w6 (kIt k i + 1) + 1)))] := by
      rw [List.getElem?_map, List.getElem?_eq_getElem hi, h i hi]; rfl
    have w1 : IntKind.i64.wrap ((i : Int) + 1) = (i : Int) + 1 := wrap_succ (by omega)
    have e1 : (kIt k i != kIt k i) = false := bne_self_eq_false _
    have e2 : (w6 (kIt k i + 1) != w6 (kIt k i + 1)) = false := bne_self_eq_false _
    have m1 := ev_markText (w6 (w6 (kIt k i + 1) + 1))
    clear hl h hi H
    rw [show kIt k (i + 1) = w6 (w6 (w6 (kIt k i + 1) + 1) + 1) from rfl] at ih
    repeat' (first | with_reducible refine br_split (fun _ => ?_) (fun _ => ?_) | simp only [*, push_cast, Array.reduceGetElem?, Nat.reduceBEq, Nat.reduceLT, Nat.reduceAdd, Nat.reduceSub, Nat.reduceLeDiff, Nat.reduceMul, Nat.reduceEqDiff, reduceCtorEq, Int.reduceAdd, Int.reduceLT, Int.reduceLE, Int.reduceToNat, Int.reduceNeg, Int.reduceSub, Int.reduceBEq, Int.reduceBNe, Int.reduceNe, Int.reduceGT, Int.reduceGE, Nat.reduceGT] | (rw [drawC_ok]; rotate_left; decide +kernel; exact cfg_mixed))
  case last =>
    clear H
    repeat' (first | with_reducible refine br_split (fun _ => ?_) (fun _ => ?_) | simp only [*, push_cast, Array.reduceGetElem?, Nat.reduceBEq, Nat.reduceLT, Nat.reduceAdd, Nat.reduceSub, Nat.reduceLeDiff, Nat.reduceMul, Nat.reduceEqDiff, reduceCtorEq, Int.reduceAdd, Int.reduceLT, Int.reduceLE, Int.reduceToNat, Int.reduceNeg, Int.reduceSub, Int.reduceBEq, Int.reduceBNe, Int.reduceNe, Int.reduceGT, Int.reduceGE, Nat.reduceGT] | (rw [drawC_ok]; rotate_left; decide +kernel; exact cfg_mixed))
  repeat' (first | with_reducible refine br_split (fun _ => ?_) (fun _ => ?_) | simp only [*, push_cast, Array.reduceGetElem?, Nat.reduceBEq, Nat.reduceLT, Nat.reduceAdd, Nat.reduceSub, Nat.reduceLeDiff, Nat.reduceMul, Nat.reduceEqDiff, reduceCtorEq, Int.reduceAdd, Int.reduceLT, Int.reduceLE, Int.reduceToNat, Int.reduceNeg, Int.reduceSub, Int.reduceBEq, Int.reduceBNe, Int.reduceNe, Int.reduceGT, Int.reduceGE, Nat.reduceGT] | (rw [drawC_ok]; rotate_left; decide +kernel; exact cfg_mixed))
  rfl
theorem ev_heldCountedS (L : List C) (k : Int) (hl : L.length ≤ 1099511627776) (hr : ∀ c ∈ L, c.row.length ≤ 1099511627776) (h : MkdC mtOf L k) : evF cfg 54 [] [.d (.sl .any (L.map cC)), .d (.i .i64 k)] = some (.d (.i .i64 (qAt L k L.length)), []) := by
  have H := Hd.mk (And.intro hl (And.intro hr h))
  clear hl h hr
  (refine (evF_code (C := cfg) (g := 54) (fn := Try.f54) rfl Try.func54 rfl (by rw [Try.ntmps54]; simp) (by kernel_rfl) (by first | decide | simp [keysOf])).trans ?_; rw [Try.results54, Try.ntmps54])
  repeat' (first | with_reducible refine br_split (fun _ => ?_) (fun _ => ?_) | simp only [*, push_cast, Array.reduceGetElem?, Nat.reduceBEq, Nat.reduceLT, Nat.reduceAdd, Nat.reduceSub, Nat.reduceLeDiff, Nat.reduceMul, Nat.reduceEqDiff, reduceCtorEq, Int.reduceAdd, Int.reduceLT, Int.reduceLE, Int.reduceToNat, Int.reduceNeg, Int.reduceSub, Int.reduceBEq, Int.reduceBNe, Int.reduceNe, Int.reduceGT, Int.reduceGE, Nat.reduceGT] | (rw [drawC_ok]; rotate_left; decide +kernel; exact cfg_mixed))
  rw [show ({ t := [(0, TV.d (T.sl Ann.any (L.map cC))), (1, TV.d (T.i IntKind.i64 k)), (5, TV.d (T.i IntKind.i64 0))], o := [], ks := [], n := 0, sz := 31, u := noU } : St) = { t := [(0, .d (.sl .any (L.map cC))), (1, .d (.i .i64 (qAt L k 0))), (5, .d (.i .i64 0))], o := [], ks := [], n := 0, sz := 31, u := noU } from by rw [qAt_zero]]
  rw [evM_for0 L.length (fun i j => { t := [(0, .d (.sl .any (L.map cC))), (1, .d (.i .i64 (qAt L k i))), (5, .d (.i .i64 j))], o := [], ks := [], n := 0, sz := 31, u := noU }) (fun i => some (.exit 0, { t := [(1, .d (.i .i64 (qAt L k L.length)))], o := [], ks := [], n := 0, sz := 31, u := noU })) ?step ?last]
  case step =>
    intro i hi ih
    obtain ⟨hl, hr, h⟩ := H.out
    have d1 := dec_lt hi
    have d2 := dec_ltN hi
    have g1 : (L.map cC)[i]? = some [.sl .any (L[i].row.map vC), .i .i64 (kIt (qAt L k i) L[i].row.length)] := by
      rw [List.getElem?_map, List.getElem?_eq_getElem hi]
      show some [T.sl .any (L[i].row.map vC), .i .i64 L[i].n] = _
      rw [h.n i hi]
    have w1 : IntKind.i64.wrap ((i : Int) + 1) = (i : Int) + 1 := wrap_succ (by omega)
    have e1 : (kIt (qAt L k i) L[i].row.length != kIt (qAt L k i) L[i].row.length) = false := bne_self_eq_false _
    have m1 := ev_heldValueS L[i].row (qAt L k i) (hr _ (List.getElem_mem hi)) (h.row i hi)
    have d3 : decide (kIt (qAt L k i) L[i].row.length < 0) = false := decide_eq_false (by have := h.pos i hi; omega)
    rw [qAt_succ hi] at ih
    clear hl hr h H
    repeat' (first | with_reducible refine br_split (fun _ => ?_) (fun _ => ?_) | simp only [*, push_cast, Array.reduceGetElem?, Nat.reduceBEq, Nat.reduceLT, Nat.reduceAdd, Nat.reduceSub, Nat.reduceLeDiff, Nat.reduceMul, Nat.reduceEqDiff, reduceCtorEq, Int.reduceAdd, Int.reduceLT, Int.reduceLE, Int.reduceToNat, Int.reduceNeg, Int.reduceSub, Int.reduceBEq, Int.reduceBNe, Int.reduceNe, Int.reduceGT, Int.reduceGE, Nat.reduceGT] | (rw [drawC_ok]; rotate_left; decide +kernel; exact cfg_mixed))
  case last =>
    clear H
    repeat' (first | with_reducible refine br_split (fun _ => ?_) (fun _ => ?_) | simp only [*, push_cast, Array.reduceGetElem?, Nat.reduceBEq, Nat.reduceLT, Nat.reduceAdd, Nat.reduceSub, Nat.reduceLeDiff, Nat.reduceMul, Nat.reduceEqDiff, reduceCtorEq, Int.reduceAdd, Int.reduceLT, Int.reduceLE, Int.reduceToNat, Int.reduceNeg, Int.reduceSub, Int.reduceBEq, Int.reduceBNe, Int.reduceNe, Int.reduceGT, Int.reduceGE, Nat.reduceGT] | (rw [drawC_ok]; rotate_left; decide +kernel; exact cfg_mixed))
  repeat' (first | with_reducible refine br_split (fun _ => ?_) (fun _ => ?_) | simp only [*, push_cast, Array.reduceGetElem?, Nat.reduceBEq, Nat.reduceLT, Nat.reduceAdd, Nat.reduceSub, Nat.reduceLeDiff, Nat.reduceMul, Nat.reduceEqDiff, reduceCtorEq, Int.reduceAdd, Int.reduceLT, Int.reduceLE, Int.reduceToNat, Int.reduceNeg, Int.reduceSub, Int.reduceBEq, Int.reduceBNe, Int.reduceNe, Int.reduceGT, Int.reduceGE, Nat.reduceGT] | (rw [drawC_ok]; rotate_left; decide +kernel; exact cfg_mixed))
theorem ev_heldBag (w : Int) (L : List C) (k : Int) (hl : L.length ≤ 1099511627776) (hr : ∀ c ∈ L, c.row.length ≤ 1099511627776) (h : MkdC mtOf L k) (h0 : 0 ≤ qAt L k L.length) :
    evF cfg 14 [] [.agg [.d (.i .i64 w), .d (.sl .any (L.map cC))], .d (.i .i64 k)] = some (.d (.i .i64 (qAt L k L.length)), []) := by
  have m1 := ev_heldCountedS L k hl hr h
  have d1 : decide (qAt L k L.length < 0) = false := decide_eq_false (by omega)
  clear hl hr h h0
  (refine (evF_codeZ (C := cfg) (g := 14) (fn := Try.f14) rfl Try.func14 rfl (by rw [Try.ntmps14]; simp) (by kernel_rfl)).trans ?_; rw [Try.results14, Try.ntmps14])
  repeat' (first | with_reducible refine br_split (fun _ => ?_) (fun _ => ?_) | simp only [*, push_cast, Array.reduceGetElem?, Nat.reduceBEq, Nat.reduceLT, Nat.reduceAdd, Nat.reduceSub, Nat.reduceLeDiff, Nat.reduceMul, Nat.reduceEqDiff, reduceCtorEq, Int.reduceAdd, Int.reduceLT, Int.reduceLE, Int.reduceToNat, Int.reduceNeg, Int.reduceSub, Int.reduceBEq, Int.reduceBNe, Int.reduceNe, Int.reduceGT, Int.reduceGE, Nat.reduceGT] | (rw [drawC_ok]; rotate_left; decide +kernel; exact cfg_mixed))
end Go.Av
end

section
namespace Go.Av
open Go.Proofs Go.RowKit
set_option linter.unusedVariables false
/-- Each of these walks a function that marks a list, against whatever is kept from element to element. -/
theorem raw_CountedS {P : Program} (hP : P = Try.prog) (w : World) (B off len cap : Nat) (hlen : len ≤ 1099511627776) (k : Int) (I : Nat → Int → World → Prop) (h0 : I 0 k w)
   (hc : ∀ j kk w, j < len → I j kk w → ∃ vr, w.cell? ⟨B, off + j * 2, none⟩ = some vr ∧ Calls Try.prog 89 #[vr, .int .i64 kk] w fun e w' => ∃ k' u, e = .returned (.int .i64 k') ∧ w'.cell? ⟨B, off + j * 2 + 1, none⟩ = some u ∧ w'.frozen? ⟨B, off + j * 2 + 1, none⟩ = false ∧
      I (j + 1) (wrap64 (k' + 1)) (w'.setCell ⟨B, off + j * 2 + 1, none⟩ (.int .i64 k'))) :
   Calls Try.prog 53 #[.slice (some ⟨B, off, none⟩) len cap, .int .i64 k] w fun e w' => ∃ k', e = .returned (.int .i64 k') ∧ I len k' w' := by
  go_enter Try.func53, Try.ntmps53
  go_wp2
  go_loopw [1, 5] (fun kv i wr => ∃ (j : Nat) (kk : Int), j ≤ len ∧ i = .int .i64 j ∧ kv = .int .i64 kk ∧ I j kk wr) (fun _ i _ => len - (intOf i).toNat)
  case atStart => exact ⟨0, k, Nat.zero_le _, rfl, rfl, h0⟩
  case round =>
    obtain ⟨j, kk, hj, rfl, rfl, hi⟩ := hrel
    rcases Nat.lt_or_ge j len with hjl | hjl
    · obtain ⟨vr, h1, h2⟩ := hc j kk wr hjl hi
      clear hc hi h0
      go_wp2_with (first | (go_at_call 89; refine h2.mono ?_; rintro e w' ⟨k', u, rfl, h3, h4, h5⟩))
      refine ⟨⟨j + 1, _, hjl, by first | rfl | simp, rfl, h5⟩, by simp only [intOf]; omega⟩
    · obtain rfl : j = len := by omega
      clear hc h0
      go_wp2
      go_ret
      exact ⟨kk, rfl, hi⟩
theorem raw_ValueS {P : Program} (hP : P = Try.prog) (w : World) (B off len cap : Nat) (hlen : len ≤ 1099511627776) (k : Int) (I : Nat → Int → World → Prop) (h0 : I 0 k w)
   (hc : ∀ j kk w, j < len → I j kk w → ∃ u0 u1, w.cell? ⟨B, off + j * 3, none⟩ = some u0 ∧ w.frozen? ⟨B, off + j * 3, none⟩ = false ∧ (w.setCell ⟨B, off + j * 3, none⟩ (.int .i64 kk)).cell? ⟨B, off + j * 3 + 1, none⟩ = some u1 ∧ (w.setCell ⟨B, off + j * 3, none⟩ (.int .i64 kk)).frozen? ⟨B, off + j * 3 + 1, none⟩ = false ∧
      Calls Try.prog 58 #[.int .i64 (wrap64 (wrap64 (kk + 1) + 1))] ((w.setCell ⟨B, off + j * 3, none⟩ (.int .i64 kk)).setCell ⟨B, off + j * 3 + 1, none⟩ (.int .i64 (wrap64 (kk + 1)))) fun e w' => ∃ s u, e = .returned (.string s) ∧ w'.cell? ⟨B, off + j * 3 + 2, none⟩ = some u ∧ w'.frozen? ⟨B, off + j * 3 + 2, none⟩ = false ∧
        I (j + 1) (wrap64 (wrap64 (wrap64 (kk + 1) + 1) + 1)) (w'.setCell ⟨B, off + j * 3 + 2, none⟩ (.string s))) :
   Calls Try.prog 89 #[.slice (some ⟨B, off, none⟩) len cap, .int .i64 k] w fun e w' => ∃ k', e = .returned (.int .i64 k') ∧ I len k' w' := by
  go_enter Try.func89, Try.ntmps89
  go_wp2
  go_loopw [1, 5] (fun kv i wr => ∃ (j : Nat) (kk : Int), j ≤ len ∧ i = .int .i64 j ∧ kv = .int .i64 kk ∧ I j kk wr) (fun _ i _ => len - (intOf i).toNat)
  case atStart => exact ⟨0, k, Nat.zero_le _, rfl, rfl, h0⟩
  case round =>
    obtain ⟨j, kk, hj, rfl, rfl, hi⟩ := hrel
    rcases Nat.lt_or_ge j len with hjl | hjl
    · obtain ⟨u0, u1, h1, h2, h3, h4, h5⟩ := hc j kk wr hjl hi
      clear hc hi h0
      go_wp2_with (first | (go_at_call 58; refine h5.mono ?_; rintro e w' ⟨s, u, rfl, h6, h7, h8⟩))
      refine ⟨⟨j + 1, _, hjl, by first | rfl | simp, rfl, h8⟩, by simp only [intOf]; omega⟩
    · obtain rfl : j = len := by omega
      clear hc h0
      go_wp2
      go_ret
      exact ⟨kk, rfl, hi⟩
theorem raw_nil1 (w : World) (a : Option Addr) (cap : Nat) (k : Int) : Calls Try.prog 53 #[.slice a 0 cap, .int .i64 k] w fun e w' => e = .returned (.int .i64 k) ∧ w' = w := by
  go_enter Try.func53, Try.ntmps53
  go_wp2
  go_loopw [1, 5] (fun kv i wr => i = .int .i64 0 ∧ kv = .int .i64 k ∧ wr = w) (fun _ i _ => 0)
  case atStart => exact ⟨rfl, rfl, rfl⟩
  case round =>
    obtain ⟨rfl, rfl, rfl⟩ := hrel
    go_wp2
    go_ret
    exact ⟨rfl, rfl⟩
theorem raw_nil2 (w : World) (a : Option Addr) (cap : Nat) (k : Int) : Calls Try.prog 89 #[.slice a 0 cap, .int .i64 k] w fun e w' => e = .returned (.int .i64 k) ∧ w' = w := by
  go_enter Try.func89, Try.ntmps89
  go_wp2
  go_loopw [1, 5] (fun kv i wr => i = .int .i64 0 ∧ kv = .int .i64 k ∧ wr = w) (fun _ i _ => 0)
  case atStart => exact ⟨rfl, rfl, rfl⟩
  case round =>
    obtain ⟨rfl, rfl, rfl⟩ := hrel
    go_wp2
    go_ret
    exact ⟨rfl, rfl⟩
end Go.Av
end

section
namespace Go.Av
open Go.Proofs Go.RowKit
set_option linter.unusedVariables false
/-- What the function that makes texts of numbers gives. -/
def TxtOk (mt : Int → ByteArray) : Prop := ∀ (w : World) (k : Int), Calls Try.prog 58 #[.int .i64 k] w fun e w' => e = .returned (.string (mt k)) ∧ Below w.heap.size w w'

theorem wrap64_eq (n : Int) : wrap64 n = IntKind.i64.wrap n := by unfold wrap64; exact (IntKind.wrap_i64 n).symm
theorem Mv.below {p : Tok} {w w' : World} {S : Stable} (hn : Nmd w S) (hlt : ∀ b x, S b x → b < w.heap.size) (hnm : ∀ q b, q ≠ [] → S.t q b → ∃ x, S b x) (hb : Below w.heap.size w w') : Mv p w S w' :=
  ⟨hb.os, hb.tape, hb.output, hb.size, fun b h _ => hb.block b h, fun q b hq h => let ⟨x, hx⟩ := hnm q b hq h; by rw [hb.block b (hlt b x hx)]; exact hn.full q b hq h⟩
theorem Row.below {p : Tok} {w w' : World} {S : Stable} {B off m : Nat} {es : List (List T)} {vs : Nat → Nat → Value} (h : Row w S p B off m es vs) (hlt : ∀ b x, S b x → b < w.heap.size) (hb : Below w.heap.size w w') : Row w' S p B off m es vs := by
  have hc : ∀ b x, S b x → w'.cell? ⟨b, x, none⟩ = w.cell? ⟨b, x, none⟩ := fun b x hs => hb.cell (p := ⟨b, x, none⟩) (hlt b x hs)
  exact ⟨h.name, h.hm, h.st, fun i j hi hj => by rw [hc _ _ (h.st i j hi hj)]; exact h.cell i j hi hj, fun i j hi hj => (h.rep i j hi hj).mono (fun _ _ h => h) (fun _ _ h => h) hc⟩

theorem mok_ValueS {mt : Int → ByteArray} (ht : TxtOk mt) : MOk mt Try.prog 89 fun es => ∃ l : List V, es = l.map vC ∧ l.length ≤ 1099511627776 := by
  intro w S p es v k hp hn hlt hnm ⟨l, hes, hll⟩ hr
  by_cases he : es = []
  · subst he
    have hv : ∃ a cap, v = .slice a 0 cap := by
      cases hr with
      | nil _ a cap => exact ⟨a, cap, rfl⟩
      | sl _ _ B off m cap vs => exact ⟨_, _, rfl⟩
    obtain ⟨a, cap, rfl⟩ := hv
    refine (raw_nil2 w a cap k).mono ?_
    rintro e w' ⟨rfl, rfl⟩
    exact ⟨rfl, hr, .refl hn⟩
  · obtain ⟨B, off, m, cap, vs0, rfl, hcap, h0, row⟩ := Row.of he hr
    have hel : es.length = l.length := by rw [hes]; simp
    have hpos : 0 < es.length := List.length_pos_iff.2 he
    obtain rfl : m = 3 := by
      have := row.hm 0 hpos
      rw [← this]
      simp [hes, vC]
    refine (raw_ValueS rfl w B off es.length cap (by omega) k (fun j kk wr => ∃ vs, Row wr S p B off 3 (mkUp mt es k j) vs ∧ kk = mkK mt es k j ∧ Mv p w S wr) ⟨vs0, by rw [mkUp_zero]; exact row, rfl, .refl hn⟩ ?_).mono ?_
    · rintro j kk wr hj ⟨vs, row, rfl, hmv⟩
      have hn1 := hmv.nmd hn
      have hlt1 : ∀ b x, S b x → b < wr.heap.size := fun b x h => Nat.lt_of_lt_of_le (hlt b x h) hmv.size
      have hul : j < (mkUp mt es k j).length := by rw [mkUp_len]; exact hj
      have hE : (mkUp mt es k j)[j] = [.i .i64 l[j].k, .i .i64 l[j].n, .s l[j].s] := by rw [mkUp_get hj]; simp [hes, vC]
      generalize hkk : mkK mt es k j = kk
      obtain ⟨a1, a2, r1, m1⟩ := row.store (t' := .i .i64 kk) (v' := .int .i64 kk) hn1 hp hul (c := 0) (by omega) (fun w q => .i _ _)
      have hn2 := m1.nmd hn1
      obtain ⟨b1, b2, r2, m2⟩ := r1.store (t' := .i .i64 (wrap64 (kk + 1))) (v' := .int .i64 (wrap64 (kk + 1))) hn2 hp (i := j) (by simpa using hul) (c := 1) (by omega) (fun w q => .i _ _)
      have hn3 := m2.nmd hn2
      have mm := (hmv.trans m1 (List.prefix_refl _)).trans m2 (List.prefix_refl _)
      have hlt3 : ∀ b x, S b x → b < ((wr.setCell ⟨B, off + j * 3 + 0, none⟩ (.int .i64 kk)).setCell ⟨B, off + j * 3 + 1, none⟩ (.int .i64 (wrap64 (kk + 1)))).heap.size := fun b x h => Nat.lt_of_lt_of_le (hlt b x h) mm.size
      refine ⟨_, _, a1, a2, b1, b2, (ht _ _).mono ?_⟩
      rintro e w' ⟨rfl, hb⟩
      have r3 := r2.below hlt3 hb
      have m3 : Mv p _ S w' := Mv.below hn3 hlt3 hnm hb
      have hn4 := m3.nmd hn3
      obtain ⟨c1, c2, r4, m4⟩ := r3.store (t' := .s (mt (wrap64 (wrap64 (kk + 1) + 1)))) (v' := .string (mt (wrap64 (wrap64 (kk + 1) + 1)))) hn4 hp (i := j) (by simpa using hul) (c := 2) (by omega) (fun w q => .s _)
      have hes' : es[j] = [.i .i64 l[j].k, .i .i64 l[j].n, .s l[j].s] := by simp [hes, vC]
      have hfin : mkUp mt es k (j + 1) = (mkUp mt es k j).set j [.i .i64 kk, .i .i64 (wrap64 (kk + 1)), .s (mt (wrap64 (wrap64 (kk + 1) + 1)))] := by
        rw [← mkUp_succ hj, hkk, hes']
        simp only [mkCs, mkT, wrap64_eq]
      simp only [List.getElem_set_self, List.set_set, hE, List.set_cons_zero, List.set_cons_succ] at r4
      rw [← hfin] at r4
      exact ⟨_, _, rfl, c1, c2, _, r4, by rw [mkK_succ hj, hkk, hes']; simp only [mkCs, mkT, wrap64_eq], (mm.trans m3 (List.prefix_refl _)).trans m4 (List.prefix_refl _)⟩
    · rintro e w' ⟨k', rfl, vs, row', rfl, hmv⟩
      rw [mkK_all]
      refine ⟨rfl, ?_, hmv⟩
      rw [mkUp_all] at row'
      have := row'.to (cap := cap) h0 (by rw [mkEs_len]; exact hcap)
      rwa [mkEs_len] at this
theorem mok_CountedS {mt : Int → ByteArray} (ht : TxtOk mt) : MOk mt Try.prog 53 fun es => ∃ l : List C, es = l.map cC ∧ l.length ≤ 1099511627776 ∧ ∀ c ∈ l, c.row.length ≤ 1099511627776 := by
  intro w S p es v k hp hn hlt hnm ⟨l, hes, hll, hlr⟩ hr
  by_cases he : es = []
  · subst he
    have hv : ∃ a cap, v = .slice a 0 cap := by
      cases hr with
      | nil _ a cap => exact ⟨a, cap, rfl⟩
      | sl _ _ B off m cap vs => exact ⟨_, _, rfl⟩
    obtain ⟨a, cap, rfl⟩ := hv
    refine (raw_nil1 w a cap k).mono ?_
    rintro e w' ⟨rfl, rfl⟩
    exact ⟨rfl, hr, .refl hn⟩
  · obtain ⟨B, off, m, cap, vs0, rfl, hcap, h0, row⟩ := Row.of he hr
    have hel : es.length = l.length := by rw [hes]; simp
    have hpos : 0 < es.length := List.length_pos_iff.2 he
    obtain rfl : m = 2 := by
      have := row.hm 0 hpos
      rw [← this]
      simp [hes, cC]
    refine (raw_CountedS rfl w B off es.length cap (by omega) k (fun j kk wr => ∃ vs, Row wr S p B off 2 (mkUp mt es k j) vs ∧ kk = mkK mt es k j ∧ Mv p w S wr) ⟨vs0, by rw [mkUp_zero]; exact row, rfl, .refl hn⟩ ?_).mono ?_
    · rintro j kk wr hj ⟨vs, row, rfl, hmv⟩
      have hn1 := hmv.nmd hn
      have hlt1 : ∀ b x, S b x → b < wr.heap.size := fun b x h => Nat.lt_of_lt_of_le (hlt b x h) hmv.size
      have hul : j < (mkUp mt es k j).length := by rw [mkUp_len]; exact hj
      have hes' : es[j] = [.sl .any (l[j].row.map vC), .i .i64 l[j].n] := by simp [hes, cC]
      have hE : (mkUp mt es k j)[j] = [.sl .any (l[j].row.map vC), .i .i64 l[j].n] := by rw [mkUp_get hj, hes']
      generalize hkk : mkK mt es k j = kk
      have hrow := row.rep j 0 hul (by rw [hE]; simp)
      have hg : (mkUp mt es k j)[j][0]'(by rw [hE]; simp) = .sl .any (l[j].row.map vC) := by simp only [hE]; rfl
      rw [hg] at hrow
      have hsub := mok_ValueS ht wr S (p ++ [j] ++ [0]) (l[j].row.map vC) (vs j 0) kk (by simp) hn1 hlt1 hnm ⟨_, rfl, hlr _ (List.getElem_mem _)⟩ hrow
      refine ⟨_, row.cell j 0 hul (by omega), hsub.mono ?_⟩
      rintro e w1 ⟨rfl, hr1, m1⟩
      have r1 := row.sub hn1 hp hul (c := 0) (by omega) (t' := .sl .any (mkEs mt (l[j].row.map vC) kk).1) m1 hlt1 hnm hr1
      have hm1 : Mv p w S w1 := hmv.trans m1 ((List.prefix_append p [j]).trans (List.prefix_append _ _))
      have hn2 := m1.nmd hn1
      obtain ⟨c1, c2, r4, m4⟩ := r1.store (t' := .i .i64 (mkEs mt (l[j].row.map vC) kk).2) (v' := .int .i64 (mkEs mt (l[j].row.map vC) kk).2) hn2 hp (i := j) (by simpa using hul) (c := 1) (by omega) (fun w q => .i _ _)
      have hfin : mkUp mt es k (j + 1) = (mkUp mt es k j).set j [.sl .any (mkEs mt (l[j].row.map vC) kk).1, .i .i64 (mkEs mt (l[j].row.map vC) kk).2] := by
        rw [← mkUp_succ hj, hkk, hes']
        simp only [mkCs, mkT, wrap64_eq]
      simp only [List.getElem_set_self, List.set_set, hE, List.set_cons_zero, List.set_cons_succ] at r4
      rw [← hfin] at r4
      exact ⟨_, _, rfl, c1, c2, _, r4, by rw [mkK_succ hj, hkk, hes']; simp only [mkCs, mkT, wrap64_eq], hm1.trans m4 (List.prefix_refl _)⟩
    · rintro e w' ⟨k', rfl, vs, row', rfl, hmv⟩
      rw [mkK_all]
      refine ⟨rfl, ?_, hmv⟩
      rw [mkUp_all] at row'
      have := row'.to (cap := cap) h0 (by rw [mkEs_len]; exact hcap)
      rwa [mkEs_len] at this
end Go.Av
end

section
namespace Go.Av
open Go.Proofs Go.RowKit
set_option linter.unusedVariables false
theorem raw_Bag (w : World) (wt : Int) (a : Option Addr) (len cap : Nat) (k : Int) (R : Int → World → Prop)
   (hc : ∀ w1, Below w.heap.size w w1 → Calls Try.prog 53 #[.slice a len cap, .int .i64 k] w1 fun e w' => ∃ k', e = .returned (.int .i64 k') ∧ R k' w') :
   Calls Try.prog 13 #[.agg #[.int .i64 wt, .slice a len cap], .int .i64 k] w fun e w' => ∃ k', e = .returned (.int .i64 k') ∧ R k' w' := by
  go_enter Try.func13, Try.ntmps13
  go_wp2_with (first | (go_at_call 53; refine (hc _ ((Below.refl _ _).alloc (Nat.le_refl _) _)).mono ?_; rintro e w' ⟨k', rfl, h⟩))
  go_ret
  exact ⟨_, rfl, h⟩

theorem mcall_Bag [Known] {mt : Int → ByteArray} (ht : TxtOk mt) {p : Tok} (hp : p ≠ []) {l : List C} (hll : l.length ≤ 1099511627776) (hlr : ∀ c ∈ l, c.row.length ≤ 1099511627776) (wt k : Int) :
    MCall Try.prog 13 p (.sl (.tok p) (cnEs p 0 (l.map cC))) (.sl (.tok p) (cnEs p 0 (mkEs mt (l.map cC) k).1)) [.agg [.d (.i .i64 wt), .d (.sl (.tok p) (cnEs p 0 (l.map cC)))], .d (.i .i64 k)] (mkEs mt (l.map cC) k).2 := by
  intro w S β vs hn hlt hnm hl hrv
  have h0 := hrv 0 (by simp) (by rw [← hl]; simp)
  have h1 := hrv 1 (by simp) (by rw [← hl]; simp)
  obtain ⟨v0, v1, rfl⟩ := two_of (vs := vs) (by rw [← hl]; rfl)
  simp only [List.getElem_cons_zero, List.getElem_cons_succ, List.getElem_toArray] at h0 h1
  cases h1 with | d h1 => cases h1 with | i =>
  cases h0 with | @agg _ vs2 hl2 hr2 =>
  have g0 := hr2 0 (by simp) (by rw [← hl2]; simp)
  have g1 := hr2 1 (by simp) (by rw [← hl2]; simp)
  obtain ⟨u0, u1, rfl⟩ := two_of (vs := vs2) (by rw [← hl2]; rfl)
  simp only [List.getElem_cons_zero, List.getElem_cons_succ, List.getElem_toArray] at g0 g1
  cases g0 with | d g0 => cases g0 with | i =>
  cases g1 with | d g1 =>
  obtain ⟨a, len, cap, rfl⟩ := slice_of g1
  refine (raw_Bag w wt a len cap k (fun k' w' => k' = (mkEs mt (l.map cC) k).2 ∧ Mv p w S w' ∧ Rep w' S (.sl (.tok p) (cnEs p 0 (mkEs mt (l.map cC) k).1)) (.slice a len cap)) ?_).mono ?_
  · intro w1 hb
    have hm : Mv p w S w1 := Mv.below hn hlt hnm hb
    have hlt1 : ∀ b x, S b x → b < w1.heap.size := fun b x h => Nat.lt_of_lt_of_le (hlt b x h) hm.size
    have g1' : Rep w1 S (.sl (.tok p) (cnEs p 0 (l.map cC))) (.slice a len cap) := g1.mono (fun _ _ h => h) (fun _ _ h => h) (fun b x hs => hb.cell (p := ⟨b, x, none⟩) (hlt b x hs))
    refine (mok_CountedS ht w1 S p (l.map cC) _ k hp (hm.nmd hn) hlt1 hnm ⟨l, rfl, hll, hlr⟩ g1').mono ?_
    rintro e w' ⟨rfl, h2, h3⟩
    exact ⟨_, rfl, rfl, hm.trans h3 (List.prefix_refl _), h2⟩
  · rintro e w' ⟨k', rfl, rfl, hm, hr⟩
    exact ⟨rfl, hm, root_all hn hp (mkEs_len _ _ _) g1 hr⟩
end Go.Av
end
