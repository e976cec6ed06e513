/- What functions of this seat give. -/
import Derived.Test.YtnbdlncbfjkpcaaGreatGg
import Derived.Test.YtnbdlncbfjkpcaaGreatGe
set_option linter.all false
set_option linter.unusedVariables false
set_option linter.unusedSimpArgs false

section
namespace Go.Av
open Go.Proofs
set_option linter.unusedSimpArgs false
theorem takeP1 {l : List UInt8} {i : Nat} (h : i < l.length) : takeP 1 (l.drop i) = some ([l[i]], l.drop (i + 1)) := by
  unfold takeP
  rw [List.drop_eq_getElem_cons h, if_pos (by rw [List.length_cons]; omega)]
  rfl
theorem beV1 (x : UInt8) : beV [x] = x.toNat := by simp [beV]
set_option maxHeartbeats 4000000 in
theorem ev_GetValue (l : List UInt8) (hl : l.length ≤ 1048576) (i : Nat) (hi : i < l.length) : ∃ r, evF cfg 68 [] [.d (.s (bs l)), .d (.i .i64 (i : Nat))] = some r ∧
    ((∃ (v : V) (k : Nat), valP (l.drop i) = some (v, l.drop k) ∧ i < k ∧ k ≤ l.length ∧ r = (.tup [.agg [.d (.i .i64 v.k), .d (.i .i64 v.n), .d (.s v.s)], .d (.i .i64 (k : Nat))], [])) ∨
     (valP (l.drop i) = none ∧ r = (.tup [.agg [.d (.i .i64 0), .d (.i .i64 0), .d (.s ⟨#[]⟩)], .d (.i .i64 (-1))], []))) := by
  refine exQ fun Q hQ => ?_
  have HQ := Hd.mk hQ; clear hQ
  have hz := bs_size l
  have h0 := takeP1 hi
  have w1 : IntKind.i64.wrap ((l.length : Int) - 1) = (l.length : Int) - 1 := i64_in (by omega) (by omega)
  have c0 : decide (0 ≤ (i : Int)) = true := decide_eq_true (by omega)
  have c1 : decide ((i : Int) ≤ (l.length : Int) - 1) = true := decide_eq_true (by omega)
  have hg := bs_get hi
  have hb1 := dec_lt hi
  have hx := l[i].toNat_lt
  have w2 : IntKind.i64.wrap ((l[i].toNat : Nat) : Int) = ((l[i].toNat : Nat) : Int) := i64_in (by omega) (by omega)
  have w3 : IntKind.i64.wrap ((l.length : Int) - (i : Int)) = (l.length : Int) - (i : Int) := i64_in (by omega) (by omega)
  have hv0 : ∀ r, (takeP 1 (l.drop i) = some ([l[i]], l.drop (i + 1)) → valP (l.drop i) = r) → valP (l.drop i) = r := fun r f => f h0
  by_cases k0 : l[i].toNat = 0
  · have hv : valP (l.drop i) = some (⟨0, 0, ⟨#[]⟩⟩, l.drop (i + 1)) := by
      unfold valP; rw [h0]; simp only [Option.bind_some, beV1, k0, if_true]; rfl
    have vo : valueOk ⟨0, 0, ⟨#[]⟩⟩ = true := by decide
    have w4 : IntKind.i64.wrap ((i : Int) + 1) = (i : Int) + 1 := i64_in (by omega) (by omega)
    have H := Hd.mk (And.intro hi hv)
    rw [k0] at w2
    clear hl h0 hv0 hv hx
    (refine Eq.mpr (congrArg Q (evF_code (C := cfg) (g := 68) (fn := Tryz.f68) rfl Tryz.func68 rfl (by rw [Tryz.ntmps68]; simp) (by kernel_rfl) (by first | decide | simp [keysOf]))) ?_; rw [Tryz.results68, Tryz.ntmps68])
    repeat' (first | with_reducible refine br_split (fun _ => ?_) (fun _ => ?_) | simp only [*, push_cast, Array.reduceGetElem?, Nat.reduceBEq, Nat.reduceLT, Nat.reduceAdd, Nat.reduceSub, Nat.reduceLeDiff, Nat.reduceMul, Nat.reduceEqDiff, reduceCtorEq, Int.reduceAdd, Int.reduceLT, Int.reduceLE, Int.reduceToNat, Int.reduceNeg, Int.reduceSub, Int.reduceBEq, Int.reduceBNe, Int.reduceNe, Int.reduceGT, Int.reduceGE, Nat.reduceGT] | (rw [drawC_ok]; rotate_left; decide +kernel; exact cfg_mixed))
    exact HQ.out _ (.inl ⟨⟨0, 0, ⟨#[]⟩⟩, i + 1, H.out.2, by omega, H.out.1, rfl⟩)
  by_cases k1 : l[i].toNat = 1
  · have e1 : (((l[i].toNat : Nat) : Int) == 1) = true := by rw [k1]; rfl
    by_cases h9 : i + 9 ≤ l.length
    · have c2 : decide ((l.length : Int) - (i : Int) ≥ 9) = true := decide_eq_true (by omega)
      have hdl : 8 ≤ (l.drop (i + 1)).length := by rw [List.length_drop]; omega
      obtain ⟨a, b, h8⟩ : ∃ a b, takeP 8 (l.drop (i + 1)) = some (a, b) := ⟨_, _, by unfold takeP; rw [if_pos hdl]⟩
      obtain ⟨f1, f2, f3, f4⟩ := takeP_at h8 (by omega)
      obtain ⟨t, ht⟩ : ∃ t, i + 9 = t := ⟨_, rfl⟩
      have w5 : IntKind.i64.wrap ((i : Int) + 9) = (t : Int) := by rw [i64_in (by omega) (by omega)]; omega
      have vo : valueOk ⟨1, w64 (beV a : Nat), ⟨#[]⟩⟩ = true := by simp [valueOk]
      have hv : valP (l.drop i) = some (⟨1, w64 (beV a : Nat), ⟨#[]⟩⟩, l.drop t) := by
        unfold valP; rw [h0]; simp only [Option.bind_some, beV1, k1, show ¬ ((1 : Nat) = 0) by decide, if_false, if_true, numP, h8, Option.map_some, vo, f3]
        rw [show i + 1 + 8 = t by omega]
      have H := Hd.mk (And.intro hv (And.intro (show i < t by omega) (show t ≤ l.length by omega)))
      have H2 := Hd.mk (And.intro hl (And.intro h9 (And.intro f2 f4)))
      have e5 : ((l[i].toNat : Nat) : Int) = 1 := by rw [k1]; rfl
      rw [show w64 ((beV a : Nat) : Int) = IntKind.i64.wrap ((beV a : Nat) : Int) from rfl] at vo
      clear hl h0 hv0 hv hx k0 k1 h9 hdl h8 f1 f2 f3 f4 ht
      (refine Eq.mpr (congrArg Q (evF_code (C := cfg) (g := 68) (fn := Tryz.f68) rfl Tryz.func68 rfl (by rw [Tryz.ntmps68]; simp) (by kernel_rfl) (by first | decide | simp [keysOf]))) ?_; rw [Tryz.results68, Tryz.ntmps68])
      repeat' (first | with_reducible refine br_split (fun _ => ?_) (fun _ => ?_) | simp only [*, push_cast, Array.reduceGetElem?, Nat.reduceBEq, Nat.reduceLT, Nat.reduceAdd, Nat.reduceSub, Nat.reduceLeDiff, Nat.reduceMul, Nat.reduceEqDiff, reduceCtorEq, Int.reduceAdd, Int.reduceLT, Int.reduceLE, Int.reduceToNat, Int.reduceNeg, Int.reduceSub, Int.reduceBEq, Int.reduceBNe, Int.reduceNe, Int.reduceGT, Int.reduceGE, Nat.reduceGT] | (rw [drawC_ok]; rotate_left; decide +kernel; exact cfg_mixed))
      rw [show ({ t := [(0, .d (.s (bs l))), (1, .d (.i .i64 (i : Nat))), (4, .ptr 50 0), (6, .ptr 51 0), (8, .d (.i .u64 0)), (9, .d (.i .i64 1))], o := [(50, .box [.d (.i .i64 0), .d (.i .i64 0), .d (.s ⟨#[]⟩)]), (51, .box [.d (.i .i64 1), .d (.i .i64 0), .d (.s ⟨#[]⟩)])], ks := [50, 51], n := 0, sz := 117, u := noU } : St) = { t := [(0, .d (.s (bs l))), (1, .d (.i .i64 (i : Nat))), (4, .ptr 50 0), (6, .ptr 51 0), (8, .d (.i .u64 (beV (a.take 0) : Nat))), (9, .d (.i .i64 (0 + 1)))], o := [(50, .box [.d (.i .i64 0), .d (.i .i64 0), .d (.s ⟨#[]⟩)]), (51, .box [.d (.i .i64 1), .d (.i .i64 0), .d (.s ⟨#[]⟩)])], ks := [50, 51], n := 0, sz := 117, u := noU } from rfl]
      rw [evM_for0 8 (fun z q => { t := [(0, .d (.s (bs l))), (1, .d (.i .i64 (i : Nat))), (4, .ptr 50 0), (6, .ptr 51 0), (8, .d (.i .u64 (beV (a.take z) : Nat))), (9, .d (.i .i64 (q + 1)))], o := [(50, .box [.d (.i .i64 0), .d (.i .i64 0), .d (.s ⟨#[]⟩)]), (51, .box [.d (.i .i64 1), .d (.i .i64 0), .d (.s ⟨#[]⟩)])], ks := [50, 51], n := 0, sz := 117, u := noU }) (fun z => some (.exit 1, { t := [(1, .d (.i .i64 (i : Nat))), (4, .ptr 50 0), (6, .ptr 51 0), (8, .d (.i .u64 (beV a : Nat)))], o := [(50, .box [.d (.i .i64 0), .d (.i .i64 0), .d (.s ⟨#[]⟩)]), (51, .box [.d (.i .i64 1), .d (.i .i64 0), .d (.s ⟨#[]⟩)])], ks := [50, 51], n := 0, sz := 117, u := noU })) ?step ?last]
      case step =>
        intro z hz8 ih
        obtain ⟨hl, h9, f2, f4⟩ := H2.out
        have hd : decide ((z : Int) + 1 < 9) = true := decide_eq_true (by omega)
        have hw : IntKind.i64.wrap ((z : Int) + 1 + 1) = (z : Int) + 1 + 1 := i64_in (by omega) (by omega)
        obtain ⟨m, hm⟩ : ∃ m, i + 1 + z = m := ⟨_, rfl⟩
        have u3 : IntKind.i64.wrap ((i : Int) + ((z : Int) + 1)) = (m : Int) := by rw [i64_in (by omega) (by omega)]; omega
        have hml : m < l.length := by omega
        have hg2 := bs_get hml
        have hb2 := dec_lt hml
        have hka : z < a.length := by omega
        have hav : a[z] = l[m] := by
          have : a[z]? = l[m]? := by
            rw [f2, List.getElem?_take, if_pos hz8, List.getElem?_drop, hm]
          rw [List.getElem?_eq_getElem hka, List.getElem?_eq_getElem hml] at this
          exact Option.some.inj this
        have hlt : beV (a.take z) < 72057594037927936 := by
          have h := beV_lt (a.take z)
          have h6 : 256 ^ (a.take z).length ≤ 256 ^ 7 := Nat.pow_le_pow_right (by omega) (by rw [List.length_take]; omega)
          have : (256 : Nat) ^ 7 = 72057594037927936 := by decide
          omega
        have hb3 := l[m].toNat_lt
        have u64i : ∀ n : Nat, n < 18446744073709551616 → IntKind.u64.wrap (n : Int) = (n : Int) := fun n h => by rw [u64_wrap, u64_nn h]
        have u4 : IntKind.u64.wrap ((l[m].toNat : Nat) : Int) = ((l[m].toNat : Nat) : Int) := u64i _ (by omega)
        have u5 : IntKind.u64.wrap (256 * ((beV (a.take z) : Nat) : Int)) = 256 * ((beV (a.take z) : Nat) : Int) := by
          have := u64i (256 * beV (a.take z)) (by omega)
          rwa [Int.natCast_mul] at this
        have u6 : IntKind.u64.wrap (256 * ((beV (a.take z) : Nat) : Int) + ((l[m].toNat : Nat) : Int)) = ((beV (a.take (z + 1)) : Nat) : Int) := by
          have h := u64i (256 * beV (a.take z) + l[m].toNat) (by omega)
          rw [List.take_succ_eq_append_getElem hka, beV_snoc, hav]
          rw [Int.natCast_add, Int.natCast_mul] at h ⊢
          exact h
        clear hl h9 f2 f4 hka hav hlt hb3 H2 H hm u64i
        repeat' (first | with_reducible refine br_split (fun _ => ?_) (fun _ => ?_) | simp only [*, push_cast, Array.reduceGetElem?, Nat.reduceBEq, Nat.reduceLT, Nat.reduceAdd, Nat.reduceSub, Nat.reduceLeDiff, Nat.reduceMul, Nat.reduceEqDiff, reduceCtorEq, Int.reduceAdd, Int.reduceLT, Int.reduceLE, Int.reduceToNat, Int.reduceNeg, Int.reduceSub, Int.reduceBEq, Int.reduceBNe, Int.reduceNe, Int.reduceGT, Int.reduceGE, Nat.reduceGT] | (rw [drawC_ok]; rotate_left; decide +kernel; exact cfg_mixed))
      case last =>
        obtain ⟨hl, h9, f2, f4⟩ := H2.out
        have hta : a.take 8 = a := by rw [← f4]; exact List.take_length
        have hd : decide ((8 : Int) + 1 < 9) = false := rfl
        clear hl h9 f2 f4 H2 H
        repeat' (first | with_reducible refine br_split (fun _ => ?_) (fun _ => ?_) | simp only [*, push_cast, Array.reduceGetElem?, Nat.reduceBEq, Nat.reduceLT, Nat.reduceAdd, Nat.reduceSub, Nat.reduceLeDiff, Nat.reduceMul, Nat.reduceEqDiff, reduceCtorEq, Int.reduceAdd, Int.reduceLT, Int.reduceLE, Int.reduceToNat, Int.reduceNeg, Int.reduceSub, Int.reduceBEq, Int.reduceBNe, Int.reduceNe, Int.reduceGT, Int.reduceGE, Nat.reduceGT] | (rw [drawC_ok]; rotate_left; decide +kernel; exact cfg_mixed))
      clear H2
      repeat' (first | with_reducible refine br_split (fun _ => ?_) (fun _ => ?_) | simp only [*, push_cast, Array.reduceGetElem?, Nat.reduceBEq, Nat.reduceLT, Nat.reduceAdd, Nat.reduceSub, Nat.reduceLeDiff, Nat.reduceMul, Nat.reduceEqDiff, reduceCtorEq, Int.reduceAdd, Int.reduceLT, Int.reduceLE, Int.reduceToNat, Int.reduceNeg, Int.reduceSub, Int.reduceBEq, Int.reduceBNe, Int.reduceNe, Int.reduceGT, Int.reduceGE, Nat.reduceGT] | (rw [drawC_ok]; rotate_left; decide +kernel; exact cfg_mixed))
      exact HQ.out _ (.inl ⟨⟨1, w64 (beV a : Nat), ⟨#[]⟩⟩, t, H.out.1, H.out.2.1, H.out.2.2, rfl⟩)
    · have c2 : decide ((l.length : Int) - (i : Int) ≥ 9) = false := decide_eq_false (by omega)
      have e2 : (((l[i].toNat : Nat) : Int) == 2) = false := by rw [k1]; rfl
      have e3 : (((l[i].toNat : Nat) : Int) == 3) = false := by rw [k1]; rfl
      have e4 : (((l[i].toNat : Nat) : Int) != 0) = true := by rw [k1]; rfl
      have hv : valP (l.drop i) = none := by
        have h8 : takeP 8 (l.drop (i + 1)) = none := by unfold takeP; rw [if_neg (by rw [List.length_drop]; omega)]
        unfold valP; rw [h0]; simp only [Option.bind_some, beV1, k1, show ¬ ((1 : Nat) = 0) by decide, if_false, if_true, numP, h8]; rfl
      have H := Hd.mk hv
      clear hl h0 hv0 hv hx k0 k1 h9
      (refine Eq.mpr (congrArg Q (evF_code (C := cfg) (g := 68) (fn := Tryz.f68) rfl Tryz.func68 rfl (by rw [Tryz.ntmps68]; simp) (by kernel_rfl) (by first | decide | simp [keysOf]))) ?_; rw [Tryz.results68, Tryz.ntmps68])
      repeat' (first | with_reducible refine br_split (fun _ => ?_) (fun _ => ?_) | simp only [*, push_cast, Array.reduceGetElem?, Nat.reduceBEq, Nat.reduceLT, Nat.reduceAdd, Nat.reduceSub, Nat.reduceLeDiff, Nat.reduceMul, Nat.reduceEqDiff, reduceCtorEq, Int.reduceAdd, Int.reduceLT, Int.reduceLE, Int.reduceToNat, Int.reduceNeg, Int.reduceSub, Int.reduceBEq, Int.reduceBNe, Int.reduceNe, Int.reduceGT, Int.reduceGE, Nat.reduceGT] | (rw [drawC_ok]; rotate_left; decide +kernel; exact cfg_mixed))
      exact HQ.out _ (.inr ⟨H.out, rfl⟩)
  by_cases k2 : l[i].toNat = 2
  · have e1 : (((l[i].toNat : Nat) : Int) == 1) = false := by rw [k2]; rfl
    have e2 : (((l[i].toNat : Nat) : Int) == 2) = true := by rw [k2]; rfl
    have e3 : (((l[i].toNat : Nat) : Int) == 3) = false := by rw [k2]; rfl
    have e4 : (((l[i].toNat : Nat) : Int) != 0) = true := by rw [k2]; rfl
    by_cases h9 : i + 2 ≤ l.length
    · have c2 : decide ((l.length : Int) - (i : Int) ≥ 2) = true := decide_eq_true (by omega)
      obtain ⟨m, hm⟩ : ∃ m, i + 1 = m := ⟨_, rfl⟩
      have w4 : IntKind.i64.wrap ((i : Int) + 1) = (m : Int) := by rw [i64_in (by omega) (by omega)]; omega
      obtain ⟨k, hk⟩ : ∃ k, i + 2 = k := ⟨_, rfl⟩
      have w5 : IntKind.i64.wrap ((i : Int) + 2) = (k : Int) := by rw [i64_in (by omega) (by omega)]; omega
      have hml : m < l.length := by omega
      have hg2 := bs_get hml
      have hb2 := dec_lt hml
      have w6 : IntKind.i64.wrap ((l[m].toNat : Nat) : Int) = ((l[m].toNat : Nat) : Int) := by have := l[m].toNat_lt; exact i64_in (by omega) (by omega)
      have h8 := takeP1 hml
      cases vo : valueOk ⟨2, (l[m].toNat : Nat), ⟨#[]⟩⟩ with
      | true =>
        have hv : valP (l.drop i) = some (⟨2, (l[m].toNat : Nat), ⟨#[]⟩⟩, l.drop k) := by
          unfold valP; rw [h0]; simp only [Option.bind_some, beV1, k2, show ¬ ((2 : Nat) = 0) by decide, show ¬ ((2 : Nat) = 1) by decide, if_false, if_true, numP, hm, h8, Option.map_some, vo]
          rw [show m + 1 = k by omega]
        have H := Hd.mk (And.intro hv (And.intro (show i < k by omega) (show k ≤ l.length by omega)))
        have e5 : ((l[i].toNat : Nat) : Int) = 2 := by rw [k2]; rfl
        clear hl h0 hv0 hv hx k0 k1 k2 h9 hm hk h8
        (refine Eq.mpr (congrArg Q (evF_code (C := cfg) (g := 68) (fn := Tryz.f68) rfl Tryz.func68 rfl (by rw [Tryz.ntmps68]; simp) (by kernel_rfl) (by first | decide | simp [keysOf]))) ?_; rw [Tryz.results68, Tryz.ntmps68])
        repeat' (first | with_reducible refine br_split (fun _ => ?_) (fun _ => ?_) | simp only [*, push_cast, Array.reduceGetElem?, Nat.reduceBEq, Nat.reduceLT, Nat.reduceAdd, Nat.reduceSub, Nat.reduceLeDiff, Nat.reduceMul, Nat.reduceEqDiff, reduceCtorEq, Int.reduceAdd, Int.reduceLT, Int.reduceLE, Int.reduceToNat, Int.reduceNeg, Int.reduceSub, Int.reduceBEq, Int.reduceBNe, Int.reduceNe, Int.reduceGT, Int.reduceGE, Nat.reduceGT] | (rw [drawC_ok]; rotate_left; decide +kernel; exact cfg_mixed))
        exact HQ.out _ (.inl ⟨⟨2, (l[m].toNat : Nat), ⟨#[]⟩⟩, k, H.out.1, H.out.2.1, H.out.2.2, rfl⟩)
      | false =>
        have hv : valP (l.drop i) = none := by
          unfold valP; rw [h0]; simp only [Option.bind_some, beV1, k2, show ¬ ((2 : Nat) = 0) by decide, show ¬ ((2 : Nat) = 1) by decide, if_false, if_true, numP, hm, h8, Option.map_some, vo, Bool.false_eq_true]
        have H := Hd.mk hv
        have e5 : ((l[i].toNat : Nat) : Int) = 2 := by rw [k2]; rfl
        clear hl h0 hv0 hv hx k0 k1 k2 h9 hm hk h8
        (refine Eq.mpr (congrArg Q (evF_code (C := cfg) (g := 68) (fn := Tryz.f68) rfl Tryz.func68 rfl (by rw [Tryz.ntmps68]; simp) (by kernel_rfl) (by first | decide | simp [keysOf]))) ?_; rw [Tryz.results68, Tryz.ntmps68])
        repeat' (first | with_reducible refine br_split (fun _ => ?_) (fun _ => ?_) | simp only [*, push_cast, Array.reduceGetElem?, Nat.reduceBEq, Nat.reduceLT, Nat.reduceAdd, Nat.reduceSub, Nat.reduceLeDiff, Nat.reduceMul, Nat.reduceEqDiff, reduceCtorEq, Int.reduceAdd, Int.reduceLT, Int.reduceLE, Int.reduceToNat, Int.reduceNeg, Int.reduceSub, Int.reduceBEq, Int.reduceBNe, Int.reduceNe, Int.reduceGT, Int.reduceGE, Nat.reduceGT] | (rw [drawC_ok]; rotate_left; decide +kernel; exact cfg_mixed))
        exact HQ.out _ (.inr ⟨H.out, rfl⟩)
    · have c2 : decide ((l.length : Int) - (i : Int) ≥ 2) = false := decide_eq_false (by omega)
      have hv : valP (l.drop i) = none := by
        have h8 : takeP 1 (l.drop (i + 1)) = none := by unfold takeP; rw [if_neg (by rw [List.length_drop]; omega)]
        unfold valP; rw [h0]; simp only [Option.bind_some, beV1, k2, show ¬ ((2 : Nat) = 0) by decide, show ¬ ((2 : Nat) = 1) by decide, if_false, if_true, numP, h8]; rfl
      have H := Hd.mk hv
      clear hl h0 hv0 hv hx k0 k1 k2 h9
      (refine Eq.mpr (congrArg Q (evF_code (C := cfg) (g := 68) (fn := Tryz.f68) rfl Tryz.func68 rfl (by rw [Tryz.ntmps68]; simp) (by kernel_rfl) (by first | decide | simp [keysOf]))) ?_; rw [Tryz.results68, Tryz.ntmps68])
      repeat' (first | with_reducible refine br_split (fun _ => ?_) (fun _ => ?_) | simp only [*, push_cast, Array.reduceGetElem?, Nat.reduceBEq, Nat.reduceLT, Nat.reduceAdd, Nat.reduceSub, Nat.reduceLeDiff, Nat.reduceMul, Nat.reduceEqDiff, reduceCtorEq, Int.reduceAdd, Int.reduceLT, Int.reduceLE, Int.reduceToNat, Int.reduceNeg, Int.reduceSub, Int.reduceBEq, Int.reduceBNe, Int.reduceNe, Int.reduceGT, Int.reduceGE, Nat.reduceGT] | (rw [drawC_ok]; rotate_left; decide +kernel; exact cfg_mixed))
      exact HQ.out _ (.inr ⟨H.out, rfl⟩)
  by_cases k3 : l[i].toNat = 3
  · have e1 : (((l[i].toNat : Nat) : Int) == 1) = false := by rw [k3]; rfl
    have e2 : (((l[i].toNat : Nat) : Int) == 2) = false := by rw [k3]; rfl
    have e3 : (((l[i].toNat : Nat) : Int) == 3) = true := by rw [k3]; rfl
    have e4 : (((l[i].toNat : Nat) : Int) != 0) = true := by rw [k3]; rfl
    by_cases h9 : i + 2 ≤ l.length
    · have c2 : decide ((l.length : Int) - (i : Int) ≥ 2) = true := decide_eq_true (by omega)
      obtain ⟨m, hm⟩ : ∃ m, i + 1 = m := ⟨_, rfl⟩
      have w4 : IntKind.i64.wrap ((i : Int) + 1) = (m : Int) := by rw [i64_in (by omega) (by omega)]; omega
      obtain ⟨k, hk⟩ : ∃ k, i + 2 = k := ⟨_, rfl⟩
      have w5 : IntKind.i64.wrap ((i : Int) + 2) = (k : Int) := by rw [i64_in (by omega) (by omega)]; omega
      have hml : m < l.length := by omega
      have hg2 := bs_get hml
      have hb2 := dec_lt hml
      have hy := l[m].toNat_lt
      have w6 : IntKind.i64.wrap ((l[m].toNat : Nat) : Int) = ((l[m].toNat : Nat) : Int) := i64_in (by omega) (by omega)
      have w7 : IntKind.i64.wrap ((l.length : Int) - (i : Int) - 2) = (l.length : Int) - (i : Int) - 2 := i64_in (by omega) (by omega)
      have h8 := takeP1 hml
      cases h7 : takeP l[m].toNat (l.drop k) with
      | none =>
        have h6 := takeP_not h7
        have c3 : decide ((l.length : Int) - (i : Int) - 2 ≥ ((l[m].toNat : Nat) : Int)) = false := decide_eq_false (by omega)
        have hv : valP (l.drop i) = none := by
          unfold valP; rw [h0]; simp only [Option.bind_some, beV1, k3, show ¬ ((3 : Nat) = 0) by decide, show ¬ ((3 : Nat) = 1) by decide, show ¬ ((3 : Nat) = 2) by decide, if_false, if_true, txtP, numP, hm, h8, Option.map_some, show m + 1 = k by omega, h7]; rfl
        have H := Hd.mk hv
        clear hl h0 hv0 hv hx k0 k1 k2 k3 h9 hm hk h8 h7 h6 hy
        (refine Eq.mpr (congrArg Q (evF_code (C := cfg) (g := 68) (fn := Tryz.f68) rfl Tryz.func68 rfl (by rw [Tryz.ntmps68]; simp) (by kernel_rfl) (by first | decide | simp [keysOf]))) ?_; rw [Tryz.results68, Tryz.ntmps68])
        repeat' (first | with_reducible refine br_split (fun _ => ?_) (fun _ => ?_) | simp only [*, push_cast, Array.reduceGetElem?, Nat.reduceBEq, Nat.reduceLT, Nat.reduceAdd, Nat.reduceSub, Nat.reduceLeDiff, Nat.reduceMul, Nat.reduceEqDiff, reduceCtorEq, Int.reduceAdd, Int.reduceLT, Int.reduceLE, Int.reduceToNat, Int.reduceNeg, Int.reduceSub, Int.reduceBEq, Int.reduceBNe, Int.reduceNe, Int.reduceGT, Int.reduceGE, Nat.reduceGT] | (rw [drawC_ok]; rotate_left; decide +kernel; exact cfg_mixed))
        exact HQ.out _ (.inr ⟨H.out, rfl⟩)
      | some q =>
        obtain ⟨a, b⟩ := q
        obtain ⟨f1, f2, f3, f4⟩ := takeP_at h7 (by omega)
        obtain ⟨t, ht⟩ : ∃ t, k + l[m].toNat = t := ⟨_, rfl⟩
        rw [ht] at f1 f3
        have c3 : decide ((l.length : Int) - (i : Int) - 2 ≥ ((l[m].toNat : Nat) : Int)) = true := decide_eq_true (by omega)
        have w8 : IntKind.i64.wrap (2 + ((l[m].toNat : Nat) : Int)) = 2 + ((l[m].toNat : Nat) : Int) := i64_in (by omega) (by omega)
        have w9 : IntKind.i64.wrap ((i : Int) + (2 + ((l[m].toNat : Nat) : Int))) = (t : Int) := by rw [i64_in (by omega) (by omega)]; omega
        have c4 : decide (0 ≤ (k : Int) ∧ (k : Int) ≤ (t : Int) ∧ (t : Int) ≤ (l.length : Int)) = true := decide_eq_true (by omega)
        have c5 : decide ((k : Int) ≤ (t : Int) ∧ (t : Int) ≤ (l.length : Int)) = true := decide_eq_true (by omega)
        have hxx := bs_extract l k t
        have ha : (l.take t).drop k = a := by rw [f2, List.drop_take]; congr 1; omega
        rw [ha] at hxx
        have e5 : ((l[i].toNat : Nat) : Int) = 3 := by rw [k3]; rfl
        cases vo : valueOk ⟨3, 0, bs a⟩ with
        | true =>
          have hv : valP (l.drop i) = some (⟨3, 0, bs a⟩, l.drop t) := by
            unfold valP; rw [h0]; simp only [Option.bind_some, beV1, k3, show ¬ ((3 : Nat) = 0) by decide, show ¬ ((3 : Nat) = 1) by decide, show ¬ ((3 : Nat) = 2) by decide, if_false, if_true, txtP, numP, hm, h8, Option.map_some, show m + 1 = k by omega, h7, vo, f3]
          have H := Hd.mk (And.intro hv (And.intro (show i < t by omega) f1))
          clear hl h0 hv0 hv hx k0 k1 k2 k3 h9 hm hk h8 h7 f1 f2 f3 f4 ht ha hy
          (refine Eq.mpr (congrArg Q (evF_code (C := cfg) (g := 68) (fn := Tryz.f68) rfl Tryz.func68 rfl (by rw [Tryz.ntmps68]; simp) (by kernel_rfl) (by first | decide | simp [keysOf]))) ?_; rw [Tryz.results68, Tryz.ntmps68])
          repeat' (first | with_reducible refine br_split (fun _ => ?_) (fun _ => ?_) | simp only [*, push_cast, Array.reduceGetElem?, Nat.reduceBEq, Nat.reduceLT, Nat.reduceAdd, Nat.reduceSub, Nat.reduceLeDiff, Nat.reduceMul, Nat.reduceEqDiff, reduceCtorEq, Int.reduceAdd, Int.reduceLT, Int.reduceLE, Int.reduceToNat, Int.reduceNeg, Int.reduceSub, Int.reduceBEq, Int.reduceBNe, Int.reduceNe, Int.reduceGT, Int.reduceGE, Nat.reduceGT] | (rw [drawC_ok]; rotate_left; decide +kernel; exact cfg_mixed))
          exact HQ.out _ (.inl ⟨⟨3, 0, bs a⟩, t, H.out.1, H.out.2.1, H.out.2.2, rfl⟩)
        | false =>
          have hv : valP (l.drop i) = none := by
            unfold valP; rw [h0]; simp only [Option.bind_some, beV1, k3, show ¬ ((3 : Nat) = 0) by decide, show ¬ ((3 : Nat) = 1) by decide, show ¬ ((3 : Nat) = 2) by decide, if_false, if_true, txtP, numP, hm, h8, Option.map_some, show m + 1 = k by omega, h7, vo, Bool.false_eq_true]
          have H := Hd.mk hv
          clear hl h0 hv0 hv hx k0 k1 k2 k3 h9 hm hk h8 h7 f1 f2 f3 f4 ht ha hy
          (refine Eq.mpr (congrArg Q (evF_code (C := cfg) (g := 68) (fn := Tryz.f68) rfl Tryz.func68 rfl (by rw [Tryz.ntmps68]; simp) (by kernel_rfl) (by first | decide | simp [keysOf]))) ?_; rw [Tryz.results68, Tryz.ntmps68])
          repeat' (first | with_reducible refine br_split (fun _ => ?_) (fun _ => ?_) | simp only [*, push_cast, Array.reduceGetElem?, Nat.reduceBEq, Nat.reduceLT, Nat.reduceAdd, Nat.reduceSub, Nat.reduceLeDiff, Nat.reduceMul, Nat.reduceEqDiff, reduceCtorEq, Int.reduceAdd, Int.reduceLT, Int.reduceLE, Int.reduceToNat, Int.reduceNeg, Int.reduceSub, Int.reduceBEq, Int.reduceBNe, Int.reduceNe, Int.reduceGT, Int.reduceGE, Nat.reduceGT] | (rw [drawC_ok]; rotate_left; decide +kernel; exact cfg_mixed))
          exact HQ.out _ (.inr ⟨H.out, rfl⟩)
    · have c2 : decide ((l.length : Int) - (i : Int) ≥ 2) = false := decide_eq_false (by omega)
      have hv : valP (l.drop i) = none := by
        have h8 : takeP 1 (l.drop (i + 1)) = none := by unfold takeP; rw [if_neg (by rw [List.length_drop]; omega)]
        unfold valP; rw [h0]; simp only [Option.bind_some, beV1, k3, show ¬ ((3 : Nat) = 0) by decide, show ¬ ((3 : Nat) = 1) by decide, show ¬ ((3 : Nat) = 2) by decide, if_false, if_true, txtP, numP, h8]; rfl
      have H := Hd.mk hv
      clear hl h0 hv0 hv hx k0 k1 k2 k3 h9
      (refine Eq.mpr (congrArg Q (evF_code (C := cfg) (g := 68) (fn := Tryz.f68) rfl Tryz.func68 rfl (by rw [Tryz.ntmps68]; simp) (by kernel_rfl) (by first | decide | simp [keysOf]))) ?_; rw [Tryz.results68, Tryz.ntmps68])
      repeat' (first | with_reducible refine br_split (fun _ => ?_) (fun _ => ?_) | simp only [*, push_cast, Array.reduceGetElem?, Nat.reduceBEq, Nat.reduceLT, Nat.reduceAdd, Nat.reduceSub, Nat.reduceLeDiff, Nat.reduceMul, Nat.reduceEqDiff, reduceCtorEq, Int.reduceAdd, Int.reduceLT, Int.reduceLE, Int.reduceToNat, Int.reduceNeg, Int.reduceSub, Int.reduceBEq, Int.reduceBNe, Int.reduceNe, Int.reduceGT, Int.reduceGE, Nat.reduceGT] | (rw [drawC_ok]; rotate_left; decide +kernel; exact cfg_mixed))
      exact HQ.out _ (.inr ⟨H.out, rfl⟩)
  · have e1 : (((l[i].toNat : Nat) : Int) == 1) = false := by rw [beq_eq_false_iff_ne]; omega
    have e2 : (((l[i].toNat : Nat) : Int) == 2) = false := by rw [beq_eq_false_iff_ne]; omega
    have e3 : (((l[i].toNat : Nat) : Int) == 3) = false := by rw [beq_eq_false_iff_ne]; omega
    have e4 : (((l[i].toNat : Nat) : Int) != 0) = true := by rw [bne_iff_ne]; omega
    have hv : valP (l.drop i) = none := by
      unfold valP; rw [h0]; simp only [Option.bind_some, beV1, k0, k1, k2, k3, if_false]; rfl
    have H := Hd.mk hv
    clear hl h0 hv0 hv hx k0 k1 k2 k3
    (refine Eq.mpr (congrArg Q (evF_code (C := cfg) (g := 68) (fn := Tryz.f68) rfl Tryz.func68 rfl (by rw [Tryz.ntmps68]; simp) (by kernel_rfl) (by first | decide | simp [keysOf]))) ?_; rw [Tryz.results68, Tryz.ntmps68])
    repeat' (first | with_reducible refine br_split (fun _ => ?_) (fun _ => ?_) | simp only [*, push_cast, Array.reduceGetElem?, Nat.reduceBEq, Nat.reduceLT, Nat.reduceAdd, Nat.reduceSub, Nat.reduceLeDiff, Nat.reduceMul, Nat.reduceEqDiff, reduceCtorEq, Int.reduceAdd, Int.reduceLT, Int.reduceLE, Int.reduceToNat, Int.reduceNeg, Int.reduceSub, Int.reduceBEq, Int.reduceBNe, Int.reduceNe, Int.reduceGT, Int.reduceGE, Nat.reduceGT] | (rw [drawC_ok]; rotate_left; decide +kernel; exact cfg_mixed))
    exact HQ.out _ (.inr ⟨H.out, rfl⟩)
end Go.Av
end

section
set_option linter.unusedVariables false
namespace Go.Av
theorem pvL_pos {v : V} (h : valueOk v = true) : 0 < (pvL v).length := by
  simp only [pvL, h, if_true, List.length_append, beB_len]
  omega
theorem numV_ok (n : Int) : valueOk (numV n) = true := by simp [numV, valueOk]
/-- A bag whose numbers are in range. -/
structure OkB (b : B) : Prop where
  ok : bagOk b = true
  num : ∀ c ∈ b.rows, ∀ v ∈ c.row, w64 v.n = v.n
theorem OkB.row {b : B} (h : OkB b) {c : C} (hc : c ∈ b.rows) : (c.row.length : Int) = b.w ∧ (∀ v ∈ c.row, valueOk v = true ∧ w64 v.n = v.n) ∧ w64 c.n = c.n := by
  obtain ⟨h1, h2⟩ := bagOk_len h.ok
  have h3 := h2 c hc
  have h4 : okC b.w c = true := by
    have h5 := h.ok
    simp only [bagOk, Bool.and_eq_true, okRows] at h5
    have key : ∀ (l : List C) (p : Option C), okRest b.w p l = true → ∀ c ∈ l, okC b.w c = true := by
      intro l
      induction l with
      | nil => exact fun _ _ c hc => by cases hc
      | cons a l ih =>
        intro p h c hc
        simp only [okRest, Bool.and_eq_true] at h
        rcases List.mem_cons.1 hc with rfl | hc
        · exact h.1.1
        · exact ih _ h.2 c hc
    exact key _ _ h5.2.2 c hc
  simp only [okC, Bool.and_eq_true, beq_iff_eq, List.all_eq_true] at h4
  refine ⟨h4.1.1.1, fun v hv => ⟨h4.1.1.2 v hv, h.num c hc v hv⟩, ?_⟩
  rw [w64_eq]
  omega
theorem rowB_pos (c : C) : 0 < (rowB c).length := by
  have := pvL_pos (numV_ok c.n)
  rw [rowB, List.length_append]
  omega
/-- What stands before a place, where rows are left. -/
theorem rows_at {l : List UInt8} {rows : List C} {r i : Nat} (h : l.drop i = (rows.drop r).flatMap rowB) (hi : i ≤ l.length) (hr : r ≤ rows.length) : i < l.length ↔ r < rows.length := by
  constructor
  · intro h1
    rcases Nat.lt_or_ge r rows.length with h2 | h2
    · exact h2
    · rw [List.drop_eq_nil_of_le h2] at h
      have := congrArg List.length h
      rw [List.length_drop] at this
      simp at this
      omega
  · intro h1
    rw [List.drop_eq_getElem_cons h1, List.flatMap_cons] at h
    have h2 := congrArg List.length h
    have h3 := rowB_pos rows[r]
    rw [List.length_drop, List.length_append] at h2
    omega
theorem valP_num {n : Int} {X : List UInt8} (hn : w64 n = n) : valP (pvL (numV n) ++ X) = some (numV n, X) := valP_app (numV_ok n) hn
theorem rows_head {l : List UInt8} {rows : List C} {r i : Nat} (h : l.drop i = (rows.drop r).flatMap rowB) (hr : r < rows.length) : l.drop i = pvL (numV rows[r].n) ++ ((rows[r].row.drop 0).flatMap pvL ++ (rows.drop (r + 1)).flatMap rowB) := by
  rw [h, List.drop_eq_getElem_cons hr, List.flatMap_cons, List.drop_zero, rowB, List.append_assoc]
theorem vals_head {row : List V} {k : Nat} (hk : k < row.length) (X : List UInt8) : (row.drop k).flatMap pvL ++ X = pvL row[k] ++ ((row.drop (k + 1)).flatMap pvL ++ X) := by
  rw [List.drop_eq_getElem_cons hk, List.flatMap_cons, List.append_assoc]
end Go.Av
end
