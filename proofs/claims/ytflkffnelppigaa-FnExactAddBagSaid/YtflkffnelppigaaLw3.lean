/- What functions of this seat give. -/
import Derived.Test.YtflkffnelppigaaGe
import Derived.Test.YtflkffnelppigaaGo
import Derived.Test.YtflkffnelppigaaRows
import Derived.WalkKit
import Derived.ProofKit
import Derived.OpenShut
import Derived.ShutString
import Derived.ChangeOld
import Derived.Below
import Derived.SizedLaws
set_option linter.all false
set_option linter.unusedVariables false
set_option linter.unusedSimpArgs false

section
namespace Go.Av
open Go.Proofs Go.RowKit
set_option linter.unusedSimpArgs false
set_option linter.unusedVariables false
attribute [local instance] noKn

theorem foldl_putC_row : ∀ (l a : List C) (c : C), c ∈ l.foldl putC a → (∃ d ∈ a, d.row = c.row) ∨ ∃ d ∈ l, d.row = c.row
  | [], a, c, h => .inl ⟨c, h, rfl⟩
  | x :: l, a, c, h => by
    rcases foldl_putC_row l (putC a x) c h with ⟨d, hd, e⟩ | ⟨d, hd, e⟩
    · rcases putC_mem hd with hd | hd
      · exact .inl ⟨d, hd, e⟩
      · exact .inr ⟨x, List.mem_cons_self .., by rw [← hd, e]⟩
    · exact .inr ⟨d, List.mem_cons_of_mem _ hd, e⟩
theorem norm_row {l : List C} {c : C} (h : c ∈ norm l) : ∃ d ∈ l, d.row = c.row := by
  rcases foldl_putC_row l [] c h with ⟨d, hd, _⟩ | h
  · cases hd
  · exact h
theorem addBag_small {a b : B} (hl : a.rows.length + b.rows.length ≤ 1048576) (h1 : ∀ c ∈ a.rows, c.row.length ≤ 1048576) (h2 : ∀ c ∈ b.rows, c.row.length ≤ 1048576) : (addBag a b).rows.length ≤ 1048576 ∧ ∀ c ∈ (addBag a b).rows, c.row.length ≤ 1048576 := by
  unfold addBag
  split
  · rename_i h
    simp only [Bool.and_eq_true] at h
    split
    · exact norm_small (bagOk_canon h.1) (bagOk_full h.2.1) hl h1 h2
    · exact ⟨by omega, h1⟩
  · exact ⟨by omega, h1⟩
theorem addBag_lim {a b : B} (hl : a.rows.length + b.rows.length ≤ 1048576) (h1 : ∀ c ∈ a.rows, c.row.length ≤ 1048576) (h2 : ∀ c ∈ b.rows, c.row.length ≤ 1048576) (ha : limCs (bC a)) (hb : limCs (bC b)) : limCs (bC ⟨a.w, (addBag a b).rows⟩) := by
  have hs := addBag_small hl h1 h2
  simp only [bC, limCs, T.lim, limEs_map, List.length_map] at ha hb ⊢
  refine ⟨trivial, ⟨by omega, fun c hc => ?_⟩, trivial⟩
  have key : ∃ d, (d ∈ a.rows ∨ d ∈ b.rows) ∧ d.row = c.row := by
    unfold addBag at hc
    split at hc
    · split at hc
      · obtain ⟨d, hd, e⟩ := norm_row hc
        exact ⟨d, List.mem_append.1 hd, e⟩
      · exact ⟨c, .inl hc, rfl⟩
    · exact ⟨c, .inl hc, rfl⟩
  obtain ⟨d, hd, e⟩ := key
  have : limCs (cC d) := by
    rcases hd with hd | hd
    · exact ha.2.1.2 d hd
    · exact hb.2.1.2 d hd
  simp only [cC, limCs, T.lim] at this ⊢
  rw [← e]
  exact ⟨this.1, trivial, trivial⟩
theorem law_AddBag {w : World} {wa wb : Int} {ra rb : List C} {vs : Array Value} (hlimA : limCs (bC ⟨wa, ra⟩)) (hlimB : limCs (bC ⟨wb, rb⟩))
    (hl : 2 = vs.size) (hrv : ∀ i (hi : i < 2) (hj : i < vs.size), RV Try.prog w (inHeap w) noPl ([TV.agg [.d (.i .i64 wa), .d (.sl .any (ra.map cC))], TV.agg [.d (.i .i64 wb), .d (.sl .any (rb.map cC))]][i]) vs[i]) :
    Calls Try.prog 5 vs w fun e w' => e = .returned (.bool true) ∧ Go.RowKit.Below w.heap.size w w' := by
  refine law_true (fn := Try.f5) (args := [TV.agg [.d (.i .i64 wa), .d (.sl .any (ra.map cC))], TV.agg [.d (.i .i64 wb), .d (.sl .any (rb.map cC))]]) (t := 4) Try.func5 rfl (by rw [Try.ntmps5]; simp) Try.results5 (fun b o v h => h.elim) hl hrv (by simp [okL, TV.ok]) ?_
  rw [Try.ntmps5]
  intro Q hQ
  have hsz := ev_szBag wa ra 1048576 (by omega) (by omega) hlimA
  simp only [initL, argT]
  have HQ := Hd.mk hQ
  clear hQ
  by_cases hb : (1048576 : Int) - (szB ⟨wa, ra⟩ : Nat) < 0
  · have h1 : left1 1048576 (szB ⟨wa, ra⟩) = -1 := left1_neg hb
    have hd : decide ((-1 : Int) < 0) = true := rfl
    clear hb hrv hl hlimA hlimB
    apply Wp.last (C := cfg) (g := 5) cfg_hE cfg_hO
    · repeat' (first | with_reducible refine br_split (fun _ => ?_) (fun _ => ?_) | simp only [*, push_cast, Array.reduceGetElem?, Nat.reduceBEq, Nat.reduceLT, Nat.reduceAdd, Nat.reduceSub, Nat.reduceLeDiff, Nat.reduceMul, Nat.reduceEqDiff, reduceCtorEq, Int.reduceAdd, Int.reduceLT, Int.reduceLE, Int.reduceToNat, Int.reduceNeg, Int.reduceSub, Int.reduceBEq, Int.reduceBNe, Int.reduceNe, Int.reduceGT, Int.reduceGE, Nat.reduceGT] | (rw [drawC_ok]; rotate_left; decide +kernel; exact cfg_mixed))
      rfl
    · exact HQ.out _ rfl
  · have h1 : left1 1048576 (szB ⟨wa, ra⟩) = 1048576 - (szB ⟨wa, ra⟩ : Nat) := left1_pos hb
    have hd : decide ((1048576 : Int) - (szB ⟨wa, ra⟩ : Nat) < 0) = false := decide_eq_false hb
    have hsz2 := ev_szBag wb rb (1048576 - (szB ⟨wa, ra⟩ : Nat)) (by omega) (by omega) hlimB
    by_cases hb2 : ((1048576 : Int) - (szB ⟨wa, ra⟩ : Nat)) - (szB ⟨wb, rb⟩ : Nat) < 0
    · have h2 : left1 (1048576 - (szB ⟨wa, ra⟩ : Nat)) (szB ⟨wb, rb⟩) = -1 := left1_neg hb2
      have hd2 : decide ((-1 : Int) < 0) = true := rfl
      clear hb hb2 hrv hl hlimA hlimB
      apply Wp.last (C := cfg) (g := 5) cfg_hE cfg_hO
      · repeat' (first | with_reducible refine br_split (fun _ => ?_) (fun _ => ?_) | simp only [*, push_cast, Array.reduceGetElem?, Nat.reduceBEq, Nat.reduceLT, Nat.reduceAdd, Nat.reduceSub, Nat.reduceLeDiff, Nat.reduceMul, Nat.reduceEqDiff, reduceCtorEq, Int.reduceAdd, Int.reduceLT, Int.reduceLE, Int.reduceToNat, Int.reduceNeg, Int.reduceSub, Int.reduceBEq, Int.reduceBNe, Int.reduceNe, Int.reduceGT, Int.reduceGE, Nat.reduceGT] | (rw [drawC_ok]; rotate_left; decide +kernel; exact cfg_mixed))
        rfl
      · exact HQ.out _ rfl
    · have h2 : left1 (1048576 - (szB ⟨wa, ra⟩ : Nat)) (szB ⟨wb, rb⟩) = 1048576 - (szB ⟨wa, ra⟩ : Nat) - (szB ⟨wb, rb⟩ : Nat) := left1_pos hb2
      have hd2 : decide ((1048576 : Int) - (szB ⟨wa, ra⟩ : Nat) - (szB ⟨wb, rb⟩ : Nat) < 0) = false := decide_eq_false hb2
      have hleA : szB ⟨wa, ra⟩ ≤ 1048576 := by omega
      have hleB : szB ⟨wb, rb⟩ ≤ 1048576 := by omega
      obtain ⟨c1, c2⟩ := szB_all hleA
      obtain ⟨b1, b2⟩ := szB_all hleB
      have hlen : ra.length + rb.length ≤ 1048576 := by
        have l1 : ra.length ≤ szB ⟨wa, ra⟩ := by simp [szB, szCs]
        have l2 : rb.length ≤ szB ⟨wb, rb⟩ := by simp [szB, szCs]
        omega
      have htoA := ev_toBag wa ra hleA
      have htoB := ev_toBag wb rb hleB
      have hsp := ev_sAddBag wa wb ra rb hlen c2 b2
      have him := ev_AddBag wa wb ra rb hlen c2 b2
      obtain ⟨m1, m2⟩ := addBag_small (a := ⟨wa, ra⟩) (b := ⟨wb, rb⟩) hlen c2 b2
      have m3 := addBag_lim (a := ⟨wa, ra⟩) (b := ⟨wb, rb⟩) hlen c2 b2 hlimA hlimB
      generalize hM : (addBag ⟨wa, ra⟩ ⟨wb, rb⟩).rows = M at *
      have hq1 := ev_eqBag wa M wa M m3
      have hq2 := ev_eqBag wa ra wa ra hlimA
      have hq3 := ev_eqBag wb rb wb rb hlimB
      have hd3 : decide ((⟨wa, M⟩ : B) = ⟨wa, M⟩) = true := decide_eq_true rfl
      have hd4 : decide ((⟨wa, ra⟩ : B) = ⟨wa, ra⟩) = true := decide_eq_true rfl
      have hd5 : decide ((⟨wb, rb⟩ : B) = ⟨wb, rb⟩) = true := decide_eq_true rfl
      have hmk1 := mcall_BagP (p := [2, 0, 1]) (by simp) c1 c2 wa
      have sA := cells_small c1 c2
      have sB := cells_small b1 b2
      have hK1v : qAt ra 1 ra.length = 1 + cellsC ra := qAt_in ra 1 (by omega) sA
      have hmk2 := mcall_Bag txtOk (p := [3, 0, 1]) (by simp) (l := rb) (by omega) (fun c hc => by have := b2 c hc; omega) wb (qAt ra 1 ra.length)
      simp only [mkEs_cC] at hmk2
      have hmk3 := mcall_BagP (p := [4, 0, 1]) (by simp) m1 m2 wa
      have hhe := ev_heldBagP wa m1 m2
      have k3 := qAt_pos m1 m2
      have cA := cellsC_le c2
      have cB := cellsC_le b2
      have hcA : ra.length * (3 * 1048576 + 1) ≤ 1048576 * (3 * 1048576 + 1) := Nat.mul_le_mul_right _ c1
      have hcB : rb.length * (3 * 1048576 + 1) ≤ 1048576 * (3 * 1048576 + 1) := Nat.mul_le_mul_right _ b1
      have hK2v : qAt rb (qAt ra 1 ra.length) rb.length = qAt ra 1 ra.length + cellsC rb := qAt_in rb _ (by omega) (by omega)
      generalize hK1 : qAt ra 1 ra.length = K1 at *
      generalize hK2 : qAt rb K1 rb.length = K2 at *
      generalize hK3 : qAt M 1 M.length = K3 at *
      have hkk2 : decide (K2 < 0) = false := decide_eq_false (by omega)
      have hkk3 : decide (K3 < 0) = false := decide_eq_false (by omega)
      have hkn : (K3 != K3) = false := bne_self_eq_false _
      have er1 := er_age ra
      have er2 := er_age rb
      have er3 := er_age M
      clear hb hb2 hrv hl hlimA hlimB hleA hleB c1 c2 b1 b2 hlen m1 m2 m3 sA sB hK1v hK2v cA cB hcA hcB hK1 hK2 hK3 k3 hM
      iterate 7
        apply Wp.seq (C := cfg) (g := 5) cfg_hE cfg_hO
        · repeat' (first | with_reducible refine br_split (fun _ => ?_) (fun _ => ?_) | simp only [*, push_cast, Array.reduceGetElem?, Nat.reduceBEq, Nat.reduceLT, Nat.reduceAdd, Nat.reduceSub, Nat.reduceLeDiff, Nat.reduceMul, Nat.reduceEqDiff, reduceCtorEq, Int.reduceAdd, Int.reduceLT, Int.reduceLE, Int.reduceToNat, Int.reduceNeg, Int.reduceSub, Int.reduceBEq, Int.reduceBNe, Int.reduceNe, Int.reduceGT, Int.reduceGE, Nat.reduceGT] | (rw [drawC_ok]; rotate_left; decide +kernel; exact cfg_mixed))
          rfl
      apply Wp.age (n := 2) rfl rfl
      simp only [ageSt, ageT, ageO, ageTV, ageL, T.ann]
      iterate 7
        apply Wp.seq (C := cfg) (g := 5) cfg_hE cfg_hO
        · repeat' (first | with_reducible refine br_split (fun _ => ?_) (fun _ => ?_) | simp only [*, push_cast, Array.reduceGetElem?, Nat.reduceBEq, Nat.reduceLT, Nat.reduceAdd, Nat.reduceSub, Nat.reduceLeDiff, Nat.reduceMul, Nat.reduceEqDiff, reduceCtorEq, Int.reduceAdd, Int.reduceLT, Int.reduceLE, Int.reduceToNat, Int.reduceNeg, Int.reduceSub, Int.reduceBEq, Int.reduceBNe, Int.reduceNe, Int.reduceGT, Int.reduceGE, Nat.reduceGT] | (rw [drawC_ok]; rotate_left; decide +kernel; exact cfg_mixed))
          rfl
      apply Wp.mark4 (C := cfg) (n := (10, true)) (p := [2, 0, 1]) (f := 13) (k := K1) (t0 := .sl (.tok [2, 0, 1]) (cnEs [2, 0, 1] 0 (ra.map cC))) (t1 := .sl (.tok [2, 0, 1]) (cnEs [2, 0, 1] 0 ((markCs mtOf ra 1).map cC)))
        (args := [.agg [.d (.i .i64 wa), .d (.sl (.tok [2, 0, 1]) (cnEs [2, 0, 1] 0 (ra.map cC)))], .d (.i .i64 1)])
        (tm := [(9, .ptr 109 0), (8, .ptr 108 0), (6, .ptr 106 0), (4, .d (.b false)), (3, .ptr 103 0), (2, .ptr 102 0)])
        (ob := [(109, .box [.d (.i .i64 wa), .d (.sl (.tok [4, 0, 1]) (cnEs [4, 0, 1] 0 (M.map cC)))]), (108, .box [.d (.i .i64 wb), .d (.sl (.tok [3, 0, 1]) (cnEs [3, 0, 1] 0 (rb.map cC)))]), (106, .box [.d (.i .i64 wa), .d (.sl (.tok []) (annEs (.tok []) (M.map cC)))]), (103, .box [.d (.i .i64 wb), .d (.sl (.tok []) (annEs (.tok []) (rb.map cC)))]), (102, .box [.d (.i .i64 wa), .d (.sl (.tok []) (annEs (.tok []) (ra.map cC)))])]) cfg_hE cfg_hO (fun _ _ _ h => h)
      case e1 => repeat' (first | with_reducible refine br_split (fun _ => ?_) (fun _ => ?_) | simp only [*, push_cast, Array.reduceGetElem?, Nat.reduceBEq, Nat.reduceLT, Nat.reduceAdd, Nat.reduceSub, Nat.reduceLeDiff, Nat.reduceMul, Nat.reduceEqDiff, reduceCtorEq, Int.reduceAdd, Int.reduceLT, Int.reduceLE, Int.reduceToNat, Int.reduceNeg, Int.reduceSub, Int.reduceBEq, Int.reduceBNe, Int.reduceNe, Int.reduceGT, Int.reduceGE, Nat.reduceGT] | (rw [drawC_ok]; rotate_left; decide +kernel; exact cfg_mixed)); rfl
      case hg => rfl
      case hp => simp
      case hgd => rfl
      case ho => rfl
      case hf => rfl
      case hpl => exact plain_markBag
      case hargs => rfl
      case hc => exact hmk1
      case h1 => exact .cons rfl .ptr (.cons rfl .ptr (.cons rfl .ptr (.cons rfl (.leaf rfl) (.cons rfl .ptr (.cons rfl .ptr .nil)))))
      case h2 => exact .cons rfl (.cons (.leaf rfl) (.cons (.keep (SafeT.sl (by decide) _)) .nil)) (.cons rfl (.cons (.leaf rfl) (.cons (.keep (SafeT.sl (by decide) _)) .nil)) (.cons rfl (.cons (.leaf rfl) (.cons (.keep (SafeT.age _)) .nil)) (.cons rfl (.cons (.leaf rfl) (.cons (.keep (SafeT.age _)) .nil)) (.cons rfl (.cons (.leaf rfl) (.cons (.keep (SafeT.age _)) .nil)) .nil))))
      case hput => rfl
      case e2 => repeat' (first | with_reducible refine br_split (fun _ => ?_) (fun _ => ?_) | simp only [*, push_cast, Array.reduceGetElem?, Nat.reduceBEq, Nat.reduceLT, Nat.reduceAdd, Nat.reduceSub, Nat.reduceLeDiff, Nat.reduceMul, Nat.reduceEqDiff, reduceCtorEq, Int.reduceAdd, Int.reduceLT, Int.reduceLE, Int.reduceToNat, Int.reduceNeg, Int.reduceSub, Int.reduceBEq, Int.reduceBNe, Int.reduceNe, Int.reduceGT, Int.reduceGE, Nat.reduceGT] | (rw [drawC_ok]; rotate_left; decide +kernel; exact cfg_mixed)); rfl
      apply Wp.mark4 (C := cfg) (n := (10, true)) (p := [3, 0, 1]) (f := 13) (k := K2) (t0 := .sl (.tok [3, 0, 1]) (cnEs [3, 0, 1] 0 (rb.map cC))) (t1 := .sl (.tok [3, 0, 1]) (cnEs [3, 0, 1] 0 ((markCs mtOf rb K1).map cC)))
        (args := [.agg [.d (.i .i64 wb), .d (.sl (.tok [3, 0, 1]) (cnEs [3, 0, 1] 0 (rb.map cC)))], .d (.i .i64 K1)])
        (tm := [(10, .unk), (9, .ptr 109 0), (6, .ptr 106 0), (4, .d (.b false)), (3, .ptr 103 0), (2, .ptr 102 0)])
        (ob := [(109, .box [.d (.i .i64 wa), .d (.sl (.tok [4, 0, 1]) (cnEs [4, 0, 1] 0 (M.map cC)))]), (106, .box [.d (.i .i64 wa), .d (.sl (.tok []) (annEs (.tok []) (M.map cC)))]), (103, .box [.d (.i .i64 wb), .d (.sl (.tok []) (annEs (.tok []) (rb.map cC)))]), (102, .box [.d (.i .i64 wa), .d (.sl (.tok []) (annEs (.tok []) (ra.map cC)))])]) cfg_hE cfg_hO (fun _ _ _ h => h)
      case e1 => repeat' (first | with_reducible refine br_split (fun _ => ?_) (fun _ => ?_) | simp only [*, push_cast, Array.reduceGetElem?, Nat.reduceBEq, Nat.reduceLT, Nat.reduceAdd, Nat.reduceSub, Nat.reduceLeDiff, Nat.reduceMul, Nat.reduceEqDiff, reduceCtorEq, Int.reduceAdd, Int.reduceLT, Int.reduceLE, Int.reduceToNat, Int.reduceNeg, Int.reduceSub, Int.reduceBEq, Int.reduceBNe, Int.reduceNe, Int.reduceGT, Int.reduceGE, Nat.reduceGT] | (rw [drawC_ok]; rotate_left; decide +kernel; exact cfg_mixed)); rfl
      case hg => rfl
      case hp => simp
      case hgd => rfl
      case ho => rfl
      case hf => rfl
      case hpl => exact plain_markBag
      case hargs => rfl
      case hc => exact hmk2
      case h1 => exact .cons rfl trivial (.cons rfl .ptr (.cons rfl .ptr (.cons rfl (.leaf rfl) (.cons rfl .ptr (.cons rfl .ptr .nil)))))
      case h2 => exact .cons rfl (.cons (.leaf rfl) (.cons (.keep (SafeT.sl (by decide) _)) .nil)) (.cons rfl (.cons (.leaf rfl) (.cons (.keep (SafeT.age _)) .nil)) (.cons rfl (.cons (.leaf rfl) (.cons (.keep (SafeT.age _)) .nil)) (.cons rfl (.cons (.leaf rfl) (.cons (.keep (SafeT.age _)) .nil)) .nil)))
      case hput => rfl
      case e2 => repeat' (first | with_reducible refine br_split (fun _ => ?_) (fun _ => ?_) | simp only [*, push_cast, Array.reduceGetElem?, Nat.reduceBEq, Nat.reduceLT, Nat.reduceAdd, Nat.reduceSub, Nat.reduceLeDiff, Nat.reduceMul, Nat.reduceEqDiff, reduceCtorEq, Int.reduceAdd, Int.reduceLT, Int.reduceLE, Int.reduceToNat, Int.reduceNeg, Int.reduceSub, Int.reduceBEq, Int.reduceBNe, Int.reduceNe, Int.reduceGT, Int.reduceGE, Nat.reduceGT] | (rw [drawC_ok]; rotate_left; decide +kernel; exact cfg_mixed)); rfl
      iterate 2
        apply Wp.seq (C := cfg) (g := 5) cfg_hE cfg_hO
        · repeat' (first | with_reducible refine br_split (fun _ => ?_) (fun _ => ?_) | simp only [*, push_cast, Array.reduceGetElem?, Nat.reduceBEq, Nat.reduceLT, Nat.reduceAdd, Nat.reduceSub, Nat.reduceLeDiff, Nat.reduceMul, Nat.reduceEqDiff, reduceCtorEq, Int.reduceAdd, Int.reduceLT, Int.reduceLE, Int.reduceToNat, Int.reduceNeg, Int.reduceSub, Int.reduceBEq, Int.reduceBNe, Int.reduceNe, Int.reduceGT, Int.reduceGE, Nat.reduceGT] | (rw [drawC_ok]; rotate_left; decide +kernel; exact cfg_mixed))
          rfl
      apply Wp.mark4 (C := cfg) (n := (11, true)) (p := [4, 0, 1]) (f := 13) (k := K3) (t0 := .sl (.tok [4, 0, 1]) (cnEs [4, 0, 1] 0 (M.map cC))) (t1 := .sl (.tok [4, 0, 1]) (cnEs [4, 0, 1] 0 ((markCs mtOf M 1).map cC)))
        (args := [.agg [.d (.i .i64 wa), .d (.sl (.tok [4, 0, 1]) (cnEs [4, 0, 1] 0 (M.map cC)))], .d (.i .i64 1)])
        (tm := [(9, .ptr 109 0), (6, .ptr 106 0), (4, .d (.b false)), (3, .ptr 103 0), (2, .ptr 102 0)])
        (ob := [(109, .box [.d (.i .i64 wa), .d (.sl (.tok [4, 0, 1]) (cnEs [4, 0, 1] 0 ((markCs mtOf M 1).map cC)))]), (106, .box [.d (.i .i64 wa), .d (.sl (.tok []) (annEs (.tok []) (M.map cC)))]), (103, .box [.d (.i .i64 wb), .d (.sl (.tok []) (annEs (.tok []) (rb.map cC)))]), (102, .box [.d (.i .i64 wa), .d (.sl (.tok []) (annEs (.tok []) (ra.map cC)))])]) cfg_hE cfg_hO (fun _ _ _ h => h)
      case e1 => repeat' (first | with_reducible refine br_split (fun _ => ?_) (fun _ => ?_) | simp only [*, push_cast, Array.reduceGetElem?, Nat.reduceBEq, Nat.reduceLT, Nat.reduceAdd, Nat.reduceSub, Nat.reduceLeDiff, Nat.reduceMul, Nat.reduceEqDiff, reduceCtorEq, Int.reduceAdd, Int.reduceLT, Int.reduceLE, Int.reduceToNat, Int.reduceNeg, Int.reduceSub, Int.reduceBEq, Int.reduceBNe, Int.reduceNe, Int.reduceGT, Int.reduceGE, Nat.reduceGT] | (rw [drawC_ok]; rotate_left; decide +kernel; exact cfg_mixed)); rfl
      case hg => rfl
      case hp => simp
      case hgd => rfl
      case ho => rfl
      case hf => rfl
      case hpl => exact plain_markBag
      case hargs => rfl
      case hc => exact hmk3
      case h1 => exact .cons rfl .ptr (.cons rfl .ptr (.cons rfl (.leaf rfl) (.cons rfl .ptr (.cons rfl .ptr .nil))))
      case h2 => exact .cons rfl (.cons (.leaf rfl) (.cons .root .nil)) (.cons rfl (.cons (.leaf rfl) (.cons (.keep (SafeT.age _)) .nil)) (.cons rfl (.cons (.leaf rfl) (.cons (.keep (SafeT.age _)) .nil)) (.cons rfl (.cons (.leaf rfl) (.cons (.keep (SafeT.age _)) .nil)) .nil)))
      case hput => rfl
      case e2 => repeat' (first | with_reducible refine br_split (fun _ => ?_) (fun _ => ?_) | simp only [*, push_cast, Array.reduceGetElem?, Nat.reduceBEq, Nat.reduceLT, Nat.reduceAdd, Nat.reduceSub, Nat.reduceLeDiff, Nat.reduceMul, Nat.reduceEqDiff, reduceCtorEq, Int.reduceAdd, Int.reduceLT, Int.reduceLE, Int.reduceToNat, Int.reduceNeg, Int.reduceSub, Int.reduceBEq, Int.reduceBNe, Int.reduceNe, Int.reduceGT, Int.reduceGE, Nat.reduceGT] | (rw [drawC_ok]; rotate_left; decide +kernel; exact cfg_mixed)); rfl
      apply Wp.last (C := cfg) (g := 5) cfg_hE cfg_hO
      · repeat' (first | with_reducible refine br_split (fun _ => ?_) (fun _ => ?_) | simp only [*, push_cast, Array.reduceGetElem?, Nat.reduceBEq, Nat.reduceLT, Nat.reduceAdd, Nat.reduceSub, Nat.reduceLeDiff, Nat.reduceMul, Nat.reduceEqDiff, reduceCtorEq, Int.reduceAdd, Int.reduceLT, Int.reduceLE, Int.reduceToNat, Int.reduceNeg, Int.reduceSub, Int.reduceBEq, Int.reduceBNe, Int.reduceNe, Int.reduceGT, Int.reduceGE, Nat.reduceGT] | (rw [drawC_ok]; rotate_left; decide +kernel; exact cfg_mixed))
        rfl
      · exact HQ.out _ rfl
end Go.Av
end

section
namespace Go.Av
open Go.Proofs
theorem law_FnExactAddBag {w : World} {cs cs' : Array Value} {ts ts' : List T} (h : Reads w ts [.i .i64, .sl [.sl [.i .i64, .i .i64, .s], .i .i64]] cs.toList) (h' : Reads w ts' [.i .i64, .sl [.sl [.i .i64, .i .i64, .s], .i .i64]] cs'.toList) :
    Calls Try.prog 5 #[.agg cs, .agg cs'] w fun e w' => e = .returned (.bool true) ∧ Go.RowKit.Below w.heap.size w w' := by
  letI := noKn
  match ts, h, h.1, ts', h', h'.1 with
  | [t0, t1], h, _, [u0, u1], h', _ =>
    have i0 := h.is (j := 0) rfl rfl
    obtain ⟨x0, rfl⟩ := (i0).int
    have i1 := h.is (j := 1) rfl rfl
    obtain ⟨x1, rfl⟩ := is_counteds i1
    have j0 := h'.is (j := 0) rfl rfl
    obtain ⟨y0, rfl⟩ := (j0).int
    have j1 := h'.is (j := 1) rfl rfl
    obtain ⟨y1, rfl⟩ := is_counteds j1
    refine law_AddBag (wa := x0) (wb := y0) (ra := x1) (rb := y1) (by simp only [bC, limCs]; exact ⟨trivial, i1.lim, trivial⟩) (by simp only [bC, limCs]; exact ⟨trivial, j1.lim, trivial⟩) rfl ?_
    intro i h1 h2
    match i, h1 with
    | 0, _ => exact rv_agg h
    | 1, _ => exact rv_agg h'
end Go.Av
namespace Go.Proofs.Ytflkffnelppigaa.fnExactAddBag
open Go.ChangeShapes Go.WideShapes Go.ChangeAt Go.RowKit
open Go.ChangeMaps (open_string shut_string)
set_option linter.unusedVariables false
theorem own : ownKnob Try.prog.godebug = none := by kernel_rfl
set_option maxRecDepth 100000 in
theorem lifted (os : Os) (started : os.Started) (H : Type) (enc : TypeId × Value → H) :
    ReturnsInHanded {} Try.checked os 5 .any (Rows.fnExactAddBagSpec.pre6 enc Try.prog Try.f5 Rows.fnExactAddBagRow.domain false) (Rows.fnExactAddBagSpec.post enc Try.prog Try.f5 false true false false) := by
  refine returnsInHanded_of_change_sized (C := Try.checked) own started (by kernel_rfl) Try.func5
    (ChangeSpec.witness6 (enc := enc) (C := Try.checked) false ⟨#[], #[.agg #[.int .i64 0, .slice none 0 0], .agg #[.int .i64 0, .slice none 0 0]], []⟩ 8 (by kernel_rfl) (by kernel_rfl) (by kernel_rfl) (by kernel_rfl)) ?_
  intro W base args ds gs before hval0 hW hcnd hsz0 _
  have hsz : (DataW.weightsEach Try.prog (Try.f5.params.toList ++ Rows.fnExactAddBagSpec.plain.varTypes Try.prog) (ds ++ gs)).all (· ≤ reachBytes) = true := hsz0
  have hval : ∀ (j : Nat) t v, Try.f5.params[j]? = some t → args[j]? = some v → Value.okWide Try.prog W .any base t v := hval0
  have hW' := hW
  obtain ⟨p, q, hA0, hV, rfl, hfz, hnd⟩ := hW
  have hA : DataW.TrodAll enc Try.prog W 0 (fun _ => true) true Try.f5.params.toList args.toList ds p := hA0
  rw [Try.params5] at hA hval hsz
  have hA1 := hA
  obtain ⟨u0, us0, e0, es0, z0, y0, hargs0, rfl, rfl, g0, r1⟩ := trodAll_cons hA
  obtain ⟨v0, vs0, d0, ds0, p0, q0, rfl, rfl, rfl, h0, r0⟩ := trodAll_cons r1
  obtain ⟨rfl, rfl, rfl⟩ := trodAll_nil r0
  obtain rfl : args = #[u0, v0] := by cases args; simp_all
  obtain ⟨rfl, rfl⟩ := trodVars_none hV
  obtain ⟨cs, ts, rfl, hr⟩ := Go.Av.arg_agg (n := 9) (l := [.i .i64, .sl [.sl [.i .i64, .i .i64, .s], .i .i64]]) Try.underlying24 (by kernel_rfl) (hval 0 24 u0 rfl rfl) g0 (by
    intro y hy
    have := List.all_eq_true.1 hsz y (by
      refine Go.Av.weightsEach_mem (i := 0) (t := 24) (d := e0) rfl rfl hy)
    exact of_decide_eq_true this)
  obtain ⟨cs', ts', rfl, hr'⟩ := Go.Av.arg_agg (n := 9) (l := [.i .i64, .sl [.sl [.i .i64, .i .i64, .s], .i .i64]]) Try.underlying24 (by kernel_rfl) (hval 1 24 v0 rfl rfl) h0 (by
    intro y hy
    have := List.all_eq_true.1 hsz y (by
      refine Go.Av.weightsEach_mem (i := 1) (t := 24) (d := d0) rfl rfl hy)
    exact of_decide_eq_true this)
  clear hA0 hval0 hsz0 hsz
  refine (Go.Av.law_FnExactAddBag hr hr').mono fun e W' ⟨he, bel⟩ => ?_
  subst he
  exact ⟨_, rfl, _, _, _, [], _, [], hW', trodAll_mk1 (shut_bool Try.underlying4 _), Go.Av.trodAll_stays (by kernel_rfl) bel (by
    intro t ht
    obtain rfl : t = 24 := by simpa using ht
    exact ⟨by kernel_rfl, by decide⟩) hA1, rfl, bel.frame _, fun h => by cases h⟩
theorem over : Rows.fnExactAddBagRow.holds Try.pinned (OpenSpec.ofChange Rows.fnExactAddBagSpec) :=
  OpenClaim.holds_of_wide 5 Try.f5 rfl rfl rfl rfl rfl rfl rfl ⟨rfl, rfl, rfl, rfl, rfl⟩ rfl rfl rfl rfl rfl (by kernel_rfl) Try.func5 (by kernel_rfl)
    (of_decide_eq_true (by kernel_rfl)) (by unfold Func.isWrapper; first | (rw [if_pos (by decide +kernel)]; kernel_rfl) | (rw [if_neg (by decide +kernel)]; exact ⟨rfl, rfl⟩))
    (fun os started H enc _ => lifted os started H enc)
end Go.Proofs.Ytflkffnelppigaa.fnExactAddBag
namespace Go.Proofs.Ytflkffnelppigaa
/-- The row, under a short name, for the claim. -/
theorem fnExactAddBag_holds : Rows.FnExactAddBagSaid := fnExactAddBag.over
#print axioms fnExactAddBag_holds
end Go.Proofs.Ytflkffnelppigaa
end
