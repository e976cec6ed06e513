/- Texts that the last one goes by: H10, L17, L15, L16, L18. -/
import Derived.Test.YtnbdlncbfjkpcaaGreatAvA8
set_option linter.all false
set_option linter.unusedVariables false
set_option linter.unusedSimpArgs false
section
namespace Go.Av
open Go.Proofs Go.RowKit
set_option linter.unusedSimpArgs false
set_option linter.unusedVariables false
attribute [local instance] noKn
structure LsB (l : List Sp) : Prop where
  len : l.length ≤ 100000
  st : ∀ x ∈ l, StB x
theorem LsB.cells {l : List Sp} (b : LsB l) : ∀ x ∈ l, cellsT x ≤ 4000000 := fun x hx => by
  have h := b.st x hx
  have hcc : ∀ r ∈ x.change, cellsC r.bag.rows ≤ 400 * (3 * 12 + 1) := fun r hr => by
    have := cellsC_le (h.rel r hr).2
    exact Nat.le_trans this (Nat.mul_le_mul_right _ (h.rel r hr).1)
  have hcr := cellsR_le hcc
  have hcr2 : x.change.length * (400 * (3 * 12 + 1) + 2) ≤ 256 * (400 * (3 * 12 + 1) + 2) := Nat.mul_le_mul_right _ h.nrel
  have := h.ncol
  simp only [cellsT]
  omega
theorem LsB.at {l : List Sp} (b : LsB l) {i : Nat} (hi : i ≤ l.length) : 0 ≤ tAt l 1 i ∧ tAt l 1 i ≤ 500000000000 := by
  have h1 : (l.length : Int) * (4000000 : Nat) ≤ 100000 * 4000000 := Int.mul_le_mul_of_nonneg_right (by have := b.len; omega) (by omega)
  have h2 : (i : Int) * (4000000 : Nat) ≤ (l.length : Int) * (4000000 : Nat) := Int.mul_le_mul_of_nonneg_right (by omega) (by omega)
  have := tAt_le b.cells (k := 1) (by omega) (by omega) i hi
  omega
theorem LsB.kt {l : List Sp} (b : LsB l) {i : Nat} (hi : i < l.length) : KT l[i] (tAt l 1 i) := by
  have h1 := b.at (Nat.le_of_lt hi)
  have h2 := b.cells _ (List.getElem_mem hi)
  exact kT_in h1.1 (by omega)
theorem ev_heldStepS (l : List Sp) (b : LsB l) : evF cfg 15 [] [.d (.sl .any ((markTs mtOf l 1).map spC)), .d (.i .i64 1)] = some (.d (.i .i64 (tAt l 1 l.length)), []) := by
  have H := Hd.mk b
  have hml := markTs_len mtOf l 1
  clear b
  (refine (evF_codeZ (C := cfg) (g := 15) (fn := Tryz.f15) rfl Tryz.func15 rfl (by rw [Tryz.ntmps15]; simp) (by kernel_rfl)).trans ?_; rw [Tryz.results15, Tryz.ntmps15])
  repeat' (first | with_reducible refine br_split (fun _ => ?_) (fun _ => ?_) | simp only [*, push_cast, simprocAttr] | (rw [drawC_ok]; rotate_left; decide +kernel; exact cfg_mixed))
  rw [show ({ t := [(0, .d (.sl .any ((markTs mtOf l 1).map spC))), (1, .d (.i .i64 1)), (5, .d (.i .i64 0))], o := [], ks := [], n := 0, sz := 60, u := noU, g := some (0, false) } : St) = { t := [(0, .d (.sl .any ((markTs mtOf l 1).map spC))), (1, .d (.i .i64 (tAt l 1 0))), (5, .d (.i .i64 0))], o := [], ks := [], n := 0, sz := 60, u := noU, g := some (0, false) } from by rw [tAt_zero]]
  rw [evM_for0 l.length (fun i j => { t := [(0, .d (.sl .any ((markTs mtOf l 1).map spC))), (1, .d (.i .i64 (tAt l 1 i))), (5, .d (.i .i64 j))], o := [], ks := [], n := 0, sz := 60, u := noU, g := some (i, false) }) (fun i => some (.exit 0, { t := [(1, .d (.i .i64 (tAt l 1 l.length)))], o := [], ks := [], n := 0, sz := 60, u := noU, g := some (l.length, false) })) ?step ?last]
  case step =>
    intro i hi ih
    have b := H.out
    have d1 := dec_lt hi
    have d2 := dec_ltN hi
    have hb := b.st _ (List.getElem_mem hi)
    have hn := hb.ncol
    have hr := hb.nrel
    have hrr := hb.rel
    have hk := b.kt hi
    have ha := b.at (Nat.le_of_lt hi)
    have hcl := b.cells _ (List.getElem_mem hi)
    have g0 := tAt_succ (k := 1) hi
    rw [g0, hk.e] at ih
    have g1 : ((markTs mtOf l 1).map spC)[i]? = some (spC (markT mtOf l[i] (tAt l 1 i))) := by
      rw [List.getElem?_map, markTs_get mtOf l 1 i hi]; rfl
    have hln := b.len
    clear g0
    generalize l[i] = x at *
    generalize tAt l 1 i = k at *
    obtain ⟨kind, name, cols, query, change⟩ := x
    obtain ⟨ka, kb, kc, kd, ke⟩ := hk
    simp only [cellsT] at hcl
    simp only at hn hr hrr kc kd ke
    simp only [spC, markT, ka, kb, kc, kd] at g1
    have e1 := ev_heldStringS (markSs mtOf cols (k + 2)) (k + 2) (by rw [markSs_len]; omega) (markSs_mkd mtOf cols _)
    rw [markSs_len, sIt_in _ _ (by omega) (by omega)] at e1
    have e2 := ev_heldRelS (markRs mtOf change (k + 3 + cols.length)) (k + 3 + cols.length) (by rw [markRs_len]; omega) (fun r hr' => by
      obtain ⟨i, hi, rfl⟩ := List.mem_iff_getElem.1 hr'
      have hi' : i < change.length := by rwa [markRs_len] at hi
      obtain ⟨k', hk⟩ := markRs_rows mtOf change (k + 3 + cols.length) i hi' hi
      obtain ⟨g1, g2⟩ := hrr _ (List.getElem_mem hi')
      rw [hk]
      refine ⟨by rw [markCs_len]; omega, fun c hc => ?_⟩
      obtain ⟨j, hj, rfl⟩ := List.mem_iff_getElem.1 hc
      have hj' : j < change[i].bag.rows.length := by rwa [markCs_len] at hj
      rw [markCs_row mtOf _ _ j hj' hj]
      have := g2 _ (List.getElem_mem hj')
      omega) (markRs_mkd mtOf change _ (by omega) (by omega))
    rw [rAt_mark, markRs_len, rAt_in _ _ (by omega) (by omega)] at e2
    have c1 : decide (k + 2 + (cols.length : Int) < 0) = false := decide_eq_false (by omega)
    have c2 : decide (k + 3 + (cols.length : Int) + (cellsR change : Int) < 0) = false := decide_eq_false (by omega)
    have w1 : IntKind.i64.wrap (k + 1) = k + 1 := i64_in (by omega) (by omega)
    have w2 : IntKind.i64.wrap (k + 1 + 1) = k + 2 := by rw [i64_in (by omega) (by omega)]; omega
    have w3 : IntKind.i64.wrap (k + 2 + (cols.length : Int) + 1) = k + 3 + cols.length := by rw [i64_in (by omega) (by omega)]; omega
    have w4 : IntKind.i64.wrap ((i : Int) + 1) = (i : Int) + 1 := wrap_succ (by omega)
    have n1 : (k != k) = false := bne_self_eq_false _
    have m1 := ev_markText (k + 1)
    have m2 := ev_markText (k + 2 + (cols.length : Int))
    clear b hb hn hr hrr ha hcl ka kb kc kd ke hln H hi
    repeat' (first | with_reducible refine br_split (fun _ => ?_) (fun _ => ?_) | simp only [*, push_cast, simprocAttr] | (rw [drawC_ok]; rotate_left; decide +kernel; exact cfg_mixed))
  case last =>
    clear H
    repeat' (first | with_reducible refine br_split (fun _ => ?_) (fun _ => ?_) | simp only [*, push_cast, simprocAttr] | (rw [drawC_ok]; rotate_left; decide +kernel; exact cfg_mixed))
  repeat' (first | with_reducible refine br_split (fun _ => ?_) (fun _ => ?_) | simp only [*, push_cast, simprocAttr] | (rw [drawC_ok]; rotate_left; decide +kernel; exact cfg_mixed))
end Go.Av
end
section
namespace Go.Av
open Go.Proofs Go.RowKit
set_option linter.unusedSimpArgs false
set_option linter.unusedVariables false
attribute [local instance] noKn
theorem ev_eqStepS1 (l : List Sp) (hl : l.length ≤ 100000) (hlim : ∀ x ∈ l, limCs (spC x)) : evF cfg 13 [] [.d (.sl .any (l.map spC)), .d (.sl .any (l.map spC))] = some (.d (.b true), []) := by
  have hd0 : ((l.length : Int) != (l.length : Int)) = false := bne_self_eq_false _
  have H := Hd.mk (And.intro hl hlim)
  clear hl hlim
  (refine (evF_codeZ (C := cfg) (g := 13) (fn := Tryz.f13) rfl Tryz.func13 rfl (by rw [Tryz.ntmps13]; simp) (by kernel_rfl)).trans ?_; rw [Tryz.results13, Tryz.ntmps13])
  repeat' (first | with_reducible refine br_split (fun _ => ?_) (fun _ => ?_) | simp only [*, push_cast, simprocAttr] | (rw [drawC_ok]; rotate_left; decide +kernel; exact cfg_mixed))
  rw [evM_for0 l.length (fun i j => { t := [(0, .d (.sl .any (l.map spC))), (1, .d (.sl .any (l.map spC))), (5, .d (.i .i64 j))], o := [], ks := [], n := 0, sz := 27, u := noU, g := some (i, false) }) (fun i => some (.exit 0, { t := [], o := [], ks := [], n := 0, sz := 27, u := noU, g := some (l.length, false) })) ?step ?last]
  case step =>
    intro i hi ih
    obtain ⟨hl, hlim⟩ := H.out
    have hc : (l.map spC)[i]? = some (spC l[i]) := get_map spC l i hi
    have hd := dec_lt hi
    have hw : IntKind.i64.wrap ((i : Int) + 1) = (i : Int) + 1 := wrap_succ (by omega)
    have hx := hlim _ (List.getElem_mem hi)
    generalize l[i] = x at *
    obtain ⟨kind, name, cols, query, change⟩ := x
    have ee := ev_eqStep kind name cols query change kind name cols query change hx
    rw [show decide ((⟨kind, name, cols, query, change⟩ : Sp) = ⟨kind, name, cols, query, change⟩) = true from decide_eq_true rfl] at ee
    simp only [spC] at hc
    clear hl hlim hx H
    repeat' (first | with_reducible refine br_split (fun _ => ?_) (fun _ => ?_) | simp only [*, push_cast, simprocAttr] | (rw [drawC_ok]; rotate_left; decide +kernel; exact cfg_mixed))
  case last =>
    clear H
    repeat' (first | with_reducible refine br_split (fun _ => ?_) (fun _ => ?_) | simp only [*, push_cast, simprocAttr] | (rw [drawC_ok]; rotate_left; decide +kernel; exact cfg_mixed))
  repeat' (first | with_reducible refine br_split (fun _ => ?_) (fun _ => ?_) | simp only [*, push_cast, simprocAttr] | (rw [drawC_ok]; rotate_left; decide +kernel; exact cfg_mixed))
theorem plain_markStepS : Plainly cfg.P 14 := ⟨_, Tryz.func14, rfl, by kernel_rfl⟩
theorem mcall_StepS {p : Tok} (hp : p ≠ []) {l : List Sp} (b : LsB l) :
    MCall Tryz.prog 14 p (.sl (.tok p) (cnEs p 0 (l.map spC))) (.sl (.tok p) (cnEs p 0 ((markTs mtOf l 1).map spC))) [.d (.sl (.tok p) (cnEs p 0 (l.map spC))), .d (.i .i64 1)] (tAt l 1 l.length) := by
  intro w S β vs hn hlt hnm hl hrv
  have h0 := hrv 0 (by simp) (by rw [← hl]; simp)
  have h1 := hrv 1 (by simp) (by rw [← hl]; simp)
  obtain ⟨v0, v1, rfl⟩ := two_of (vs := vs) (by rw [← hl]; rfl)
  simp only [List.getElem_cons_zero, List.getElem_cons_succ, List.getElem_toArray] at h0 h1
  cases h1 with | d h1 => cases h1 with | i =>
  cases h0 with | d h0 =>
  refine (mok_StepS txtOk w S p (l.map spC) v0 1 hp hn hlt hnm ⟨l, rfl, by have := b.len; omega, fun x hx => ⟨by have := (b.st x hx).ncol; omega, by have := (b.st x hx).nrel; omega, fun r hr => ⟨by have := ((b.st x hx).rel r hr).1; omega, fun c hc => by have := ((b.st x hx).rel r hr).2 c hc; omega⟩⟩⟩ h0).mono ?_
  rintro e w' ⟨rfl, h2, h3⟩
  have h4 := root_all hn hp (mkEs_len _ _ _) h0 h2
  simp only [mkEs_tC] at h4
  exact ⟨by rw [mkEs_tC], h3, h4⟩
theorem law_ReadLog1 {w : World} {l : List UInt8} {vs : Array Value} (hl : 1 = vs.size) (hrv : ∀ i (hi : i < 1) (hj : i < vs.size), RV Tryz.prog w (inHeap w) noPl ([TV.d (.s (bs l))][i]) vs[i])
    (hlen : l.length ≤ 1048576) {xs : List Sp} {at' : Int} (b : LsB xs)
    (hsp : evF cfg 11 [] [.d (.s (bs l))] = some (.tup [.d (.sl .any (xs.map spC)), .d (.i .i64 at')], []))
    (him : evF cfg 12 [] [.d (.s (bs l))] = some (.tup [.d (.sl (.tok [0, 0]) (cnEs [0, 0] 0 (xs.map spC))), .d (.i .i64 at')], [])) :
    Calls Tryz.prog 4 vs w fun e w' => e = .returned (.bool true) ∧ Go.RowKit.Below w.heap.size w w' := by
  refine law_true (fn := Tryz.f4) (args := [TV.d (.s (bs l))]) (t := 2) Tryz.func4 rfl (by rw [Tryz.ntmps4]; simp) Tryz.results4 (fun b o v h => h.elim) hl hrv (by simp [okL, TV.ok]) ?_
  rw [Tryz.ntmps4]
  intro Q hQ
  simp only [initL, argT]
  have HQ := Hd.mk hQ
  clear hQ
  have hz := bs_size l
  have c1 : decide ((l.length : Int) > 1048576) = false := decide_eq_false (by omega)
  have heq := ev_eqStepS1 xs b.len (fun x hx => (b.st x hx).lim)
  have hok : (at' != at') = false := bne_self_eq_false _
  have hhe := ev_heldStepS xs b
  have hmk := mcall_StepS (p := [0, 0, 0]) (by simp) b
  have hK2 := (b.at (Nat.le_refl _)).1
  generalize hK : tAt xs 1 xs.length = K at *
  have hkk : decide (K < 0) = false := decide_eq_false (by omega)
  have hkn : (K != K) = false := bne_self_eq_false _
  have er1 : annEs .any (annEs (.tok []) (xs.map spC)) = xs.map spC := by rw [annEs_annEs, er_spC]
  clear hrv hl hlen b hK2 hK
  iterate 3
    apply Wp.seq (C := cfg) (g := 4) cfg_hE cfg_hO
    · repeat' (first | with_reducible refine br_split (fun _ => ?_) (fun _ => ?_) | simp only [*, push_cast, simprocAttr] | (rw [drawC_ok]; rotate_left; decide +kernel; exact cfg_mixed))
      rfl
  apply Wp.age (n := 0) rfl rfl
  simp only [ageSt, ageT, ageO, ageTV, ageL, T.ann]
  iterate 3
    apply Wp.seq (C := cfg) (g := 4) cfg_hE cfg_hO
    · repeat' (first | with_reducible refine br_split (fun _ => ?_) (fun _ => ?_) | simp only [*, push_cast, simprocAttr] | (rw [drawC_ok]; rotate_left; decide +kernel; exact cfg_mixed))
      rfl
  apply Wp.mark4 (C := cfg) (n := (2, true)) (p := [0, 0, 0]) (f := 14) (k := K) (t0 := .sl (.tok [0, 0, 0]) (cnEs [0, 0, 0] 0 (xs.map spC))) (t1 := .sl (.tok [0, 0, 0]) (cnEs [0, 0, 0] 0 ((markTs mtOf xs 1).map spC)))
    (args := [.d (.sl (.tok [0, 0, 0]) (cnEs [0, 0, 0] 0 (xs.map spC))), .d (.i .i64 1)])
    (tm := [(6, .d (.i .i64 at')), (5, .d (.sl (.tok [0, 0, 0]) (cnEs [0, 0, 0] 0 ((markTs mtOf xs 1).map spC)))), (4, .d (.i .i64 at')), (3, .d (.sl (.tok []) (annEs (.tok []) (xs.map spC)))), (2, .d (.b false)), (0, .d (.s (bs l)))])
    (ob := []) cfg_hE cfg_hO (fun _ _ _ h => h)
  case e1 => repeat' (first | with_reducible refine br_split (fun _ => ?_) (fun _ => ?_) | simp only [*, push_cast, simprocAttr] | (rw [drawC_ok]; rotate_left; decide +kernel; exact cfg_mixed)); rfl
  case hg => rfl
  case hp => simp
  case hgd => rfl
  case ho => rfl
  case hf => rfl
  case hpl => exact plain_markStepS
  case hargs => rfl
  case hc => exact hmk
  case h1 => exact .cons rfl (.leaf rfl) (.cons rfl .root (.cons rfl (.leaf rfl) (.cons rfl (.keep (SafeT.age _)) (.cons rfl (.leaf rfl) (.cons rfl (.leaf rfl) .nil)))))
  case h2 => exact .nil
  case hput => rfl
  case e2 => repeat' (first | with_reducible refine br_split (fun _ => ?_) (fun _ => ?_) | simp only [*, push_cast, simprocAttr] | (rw [drawC_ok]; rotate_left; decide +kernel; exact cfg_mixed)); rfl
  apply Wp.last (C := cfg) (g := 4) cfg_hE cfg_hO
  · repeat' (first | with_reducible refine br_split (fun _ => ?_) (fun _ => ?_) | simp only [*, push_cast, simprocAttr] | (rw [drawC_ok]; rotate_left; decide +kernel; exact cfg_mixed))
    rfl
  · exact HQ.out _ rfl
end Go.Av
end
section
namespace Go.Av
open Go.Proofs Go.RowKit
set_option linter.unusedSimpArgs false
set_option linter.unusedVariables false
attribute [local instance] noKn
@[push_cast] theorem pre_sC (n : Nat) (l : List ByteArray) : preEs n (l.map sC) = l.map sC := by
  induction l with
  | nil => rfl
  | cons x l ih => simp only [List.map_cons, preEs, ih]; rfl
end Go.Av
end
section
namespace Go.Av
open Go.Proofs Go.RowKit
set_option linter.unusedSimpArgs false
set_option linter.unusedVariables false
attribute [local instance] noKn
theorem OkS.stb {x : Sp} (h : OkS x) (hl : (psL x).length ≤ 1048576) : StB x := by
  have hsz := szSp_enc h
  simp only [szSp] at hsz
  obtain ⟨c1, c2⟩ := szSs_mem (l := x.cols) (n := 1048576) (by omega)
  obtain ⟨d1, d2⟩ := szRs_mem (l := x.change) (n := 1048576) (by omega)
  refine ⟨by have := h.ncol; omega, by have := h.nrel; omega, fun r hr => ?_, ?_⟩
  · obtain ⟨e1, e2⟩ := bagOk_len (h.rels r hr).2.1.ok
    exact ⟨e1, fun c hc => (e2 c hc).1⟩
  · simp only [spC, limCs, T.lim, limEs_map, List.length_map]
    refine ⟨trivial, by omega, ⟨by omega, fun c hc => ?_⟩, by omega, ⟨by omega, fun r hr => ?_⟩, trivial⟩
    · have := c2 c hc
      simp only [sC, limCs, T.lim]
      exact ⟨by omega, trivial⟩
    · have hr2 := d2 r hr
      simp only [szR, Go.Av.szB] at hr2
      obtain ⟨e1, e2⟩ := szCs_mem (l := r.bag.rows) (n := 1048576) (by omega)
      simp only [rC, limCs, T.lim, limEs_map, List.length_map]
      refine ⟨by omega, trivial, ⟨by omega, fun c hc => ?_⟩, trivial⟩
      have hc2 := e2 c hc
      simp only [szC] at hc2
      obtain ⟨f1, f2⟩ := szVs_mem (l := c.row) (n := 1048576) (by omega)
      simp only [cC, limCs, T.lim, limEs_map, List.length_map]
      refine ⟨⟨by omega, fun v hv => ?_⟩, trivial, trivial⟩
      have := f2 v hv
      simp only [szV] at this
      simp only [vC, limCs, T.lim]
      exact ⟨trivial, trivial, by omega, trivial⟩
end Go.Av
end
section
namespace Go.Av
open Go.Proofs Go.RowKit
set_option linter.unusedSimpArgs false
set_option linter.unusedVariables false
attribute [local instance] noKn
theorem LogD.lsb {l xs r} (h : LogD l xs r) (hl : l.length ≤ 100000) : LsB xs := by
  refine ⟨by have := h.len; omega, fun x hx => (h.ok x hx).stb ?_⟩
  obtain ⟨i, hi, rfl⟩ := List.mem_iff_getElem.1 hx
  obtain ⟨hd, hp⟩ := h.drop (Nat.le_of_lt hi)
  rw [flat_cons hi] at hd
  have := congrArg List.length hd
  rw [List.length_drop, List.length_append, recB_len] at this
  omega
theorem ev_sReadLog_long (l : List UInt8) (hl : ¬ l.length ≤ 100000) : evF cfg 11 [] [.d (.s (bs l))] = some (.tup [.d (.sl .any (([] : List Sp).map spC)), .d (.i .i64 0)], []) := by
  have hz := bs_size l
  have c0 : decide ((l.length : Int) ≤ 100000) = false := decide_eq_false (by omega)
  (refine (evF_code (C := cfg) (g := 11) (fn := Tryz.f11) rfl Tryz.func11 rfl (by rw [Tryz.ntmps11]; simp) (by kernel_rfl) (by first | decide | simp [keysOf])).trans ?_; rw [Tryz.results11, Tryz.ntmps11])
  repeat' (first | with_reducible refine br_split (fun _ => ?_) (fun _ => ?_) | simp only [*, push_cast, simprocAttr] | (rw [drawC_ok]; rotate_left; decide +kernel; exact cfg_mixed))
  rw [evM_eq]
  repeat' (first | with_reducible refine br_split (fun _ => ?_) (fun _ => ?_) | simp only [*, push_cast, simprocAttr] | (rw [drawC_ok]; rotate_left; decide +kernel; exact cfg_mixed))
theorem ev_ReadLog_long (l : List UInt8) (hl : ¬ l.length ≤ 100000) : evF cfg 12 [] [.d (.s (bs l))] = some (.tup [.d (.sl (.tok [0, 0]) (cnEs [0, 0] 0 (([] : List Sp).map spC))), .d (.i .i64 0)], []) := by
  have hz := bs_size l
  have c0 : decide ((l.length : Int) > 100000) = true := decide_eq_true (by omega)
  have hcan : canOk (.tup [.d (.sl .any []), .d (.i .i64 0)]) [] := by simp [canOk, tkTV, tkL, tkT, tkO, flatTV, flatL, arrO, keysOf, tkEs, annTok]
  (refine (evF_codeZ (C := cfg) (g := 12) (fn := Tryz.f12) rfl Tryz.func12 rfl (by rw [Tryz.ntmps12]; simp) (by kernel_rfl)).trans ?_; rw [Tryz.results12, Tryz.ntmps12])
  repeat' (first | with_reducible refine br_split (fun _ => ?_) (fun _ => ?_) | simp only [*, push_cast, simprocAttr] | (rw [drawC_ok]; rotate_left; decide +kernel; exact cfg_mixed))
theorem law_ReadLog {w : World} {l : List UInt8} {vs : Array Value} (hl : 1 = vs.size) (hrv : ∀ i (hi : i < 1) (hj : i < vs.size), RV Tryz.prog w (inHeap w) noPl ([TV.d (.s (bs l))][i]) vs[i]) :
    Calls Tryz.prog 4 vs w fun e w' => e = .returned (.bool true) ∧ Go.RowKit.Below w.heap.size w w' := by
  by_cases hlen : l.length ≤ 1048576
  · by_cases hx : l.length ≤ 100000
    · obtain ⟨xs, r, h⟩ := logD l.length l (Nat.le_refl _)
      exact law_ReadLog1 hl hrv hlen (h.lsb hx) (ev_sReadLog l hx h) (ev_ReadLog l hx h)
    · exact law_ReadLog1 hl hrv hlen ⟨by simp, fun x hx => absurd hx List.not_mem_nil⟩ (ev_sReadLog_long l hx) (ev_ReadLog_long l hx)
  · refine law_true (fn := Tryz.f4) (args := [TV.d (.s (bs l))]) (t := 2) Tryz.func4 rfl (by rw [Tryz.ntmps4]; simp) Tryz.results4 (fun b o v h => h.elim) hl hrv (by simp [okL, TV.ok]) ?_
    rw [Tryz.ntmps4]
    intro Q hQ
    simp only [initL, argT]
    have HQ := Hd.mk hQ
    clear hQ
    have hz := bs_size l
    have c1 : decide ((l.length : Int) > 1048576) = true := decide_eq_true (by omega)
    clear hlen hrv hl
    apply Wp.last (C := cfg) (g := 4) cfg_hE cfg_hO
    · repeat' (first | with_reducible refine br_split (fun _ => ?_) (fun _ => ?_) | simp only [*, push_cast, simprocAttr] | (rw [drawC_ok]; rotate_left; decide +kernel; exact cfg_mixed))
      rfl
    · exact HQ.out _ rfl
end Go.Av
end
