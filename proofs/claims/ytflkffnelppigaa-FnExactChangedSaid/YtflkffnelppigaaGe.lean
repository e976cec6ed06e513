/- What functions of this seat give. -/
import Derived.Test.YtflkffnelppigaaGd
import Derived.Test.YtflkffnelppigaaGc
import Derived.Test.YtflkffnelppigaaAvE
import Derived.Test.YtflkffnelppigaaAvCfg
import Derived.Test.YtflkffnelppigaaAvF
import Derived.Test.YtflkffnelppigaaGa
set_option linter.all false
set_option linter.unusedVariables false
set_option linter.unusedSimpArgs false

section
namespace Go.Av
open Go.Proofs Go.RowKit
set_option linter.unusedSimpArgs false
set_option linter.unusedVariables false
abbrev noKn : Known := ⟨fun _ _ _ => False⟩
attribute [local instance] noKn

theorem txtOk : TxtOk mtOf := by
  intro w k
  have hs := (evF_sound (C := cfg) cfg_hE cfg_hO (ev_markText k)).2
  refine (hs w (inHeap w) noPl #[.int .i64 k] (fun _ q b h => h) (fun b x h => h) (fun b o v h => h.elim) rfl ?_ (by simp [okL, TV.ok]) (There.mk (fun k ob hk => by cases hk) (fun k k' ob ob' hk => by cases hk) (fun k ob hk => by cases hk))).mono ?_
  · intro i h1 h2
    have : i = 0 := by simpa using h1
    subst this
    exact .d (.i _ _)
  · rintro e w' ⟨r, v, S', β', outs, rfl, ⟨rfl, rfl⟩, hr, _, _, _, _, _, hx⟩
    refine ⟨?_, ⟨hx.below.os, hx.below.tape, hx.below.output, hx.below.size, fun k hk => hx.below.block k hk (by rintro ⟨k', ob, hk', _⟩; cases hk')⟩⟩
    cases hr with
    | d h => cases h; rfl
theorem szB_all {wt : Int} {rows : List C} (h : szB ⟨wt, rows⟩ ≤ 1048576) : rows.length ≤ 1048576 ∧ ∀ c ∈ rows, c.row.length ≤ 1048576 := by
  simp only [szB] at h
  obtain ⟨h1, h2⟩ := szCs_mem (l := rows) (n := 1048576) (by omega)
  exact ⟨h1, fun c hc => (szVs_mem (h2 c hc)).1⟩
theorem timesBag_small {wt : Int} {rows : List C} (n : Int) (h1 : rows.length ≤ 1048576) (h2 : ∀ c ∈ rows, c.row.length ≤ 1048576) : (timesBag ⟨wt, rows⟩ n).rows.length ≤ 1048576 ∧ ∀ c ∈ (timesBag ⟨wt, rows⟩ n).rows, c.row.length ≤ 1048576 := by
  unfold timesBag right
  split
  · split
    · refine ⟨by simpa using h1, fun c hc => ?_⟩
      obtain ⟨d, hd, rfl⟩ := List.mem_map.1 hc
      exact h2 d hd
    · exact ⟨Nat.zero_le _, fun c hc => (by cases hc)⟩
  · exact ⟨Nat.zero_le _, fun c hc => (by cases hc)⟩
theorem bC_lim {wt : Int} {rows : List C} (n : Int) (h : limCs (bC ⟨wt, rows⟩)) : limCs (bC ⟨wt, (timesBag ⟨wt, rows⟩ n).rows⟩) := by
  simp only [bC, limCs, T.lim, limEs_map, List.length_map] at h ⊢
  unfold timesBag right
  split
  · split
    · refine ⟨h.1, ⟨by simpa using h.2.1.1, fun c hc => ?_⟩, trivial⟩
      obtain ⟨d, hd, rfl⟩ := List.mem_map.1 hc
      exact h.2.1.2 d hd
    · exact ⟨h.1, ⟨Nat.zero_le _, fun c hc => (by cases hc)⟩, trivial⟩
  · exact ⟨h.1, ⟨Nat.zero_le _, fun c hc => (by cases hc)⟩, trivial⟩
theorem cells_small {l : List C} (h1 : l.length ≤ 1048576) (h2 : ∀ c ∈ l, c.row.length ≤ 1048576) : (1 : Int) + cellsC l ≤ 9223372036854775807 := by
  have := cellsC_le h2
  have h3 : l.length * (3 * 1048576 + 1) ≤ 1048576 * (3 * 1048576 + 1) := Nat.mul_le_mul_right _ h1
  omega
theorem qAt_pos {l : List C} (h1 : l.length ≤ 1048576) (h2 : ∀ c ∈ l, c.row.length ≤ 1048576) : 0 ≤ qAt l 1 l.length := by
  rw [qAt_in l 1 (by omega) (cells_small h1 h2)]; omega
theorem mcall_BagP {p : Tok} (hp : p ≠ []) {l : List C} (h1 : l.length ≤ 1048576) (h2 : ∀ c ∈ l, c.row.length ≤ 1048576) (wt : Int) :
    MCall Try.prog 13 p (.sl (.tok p) (cnEs p 0 (l.map cC))) (.sl (.tok p) (cnEs p 0 ((markCs mtOf l 1).map cC))) [.agg [.d (.i .i64 wt), .d (.sl (.tok p) (cnEs p 0 (l.map cC)))], .d (.i .i64 1)] (qAt l 1 l.length) := by
  have := mcall_Bag txtOk hp (l := l) (by omega) (fun c hc => by have := h2 c hc; omega) wt 1
  simpa only [mkEs_cC] using this
theorem ev_heldBagP (wt : Int) {l : List C} (h1 : l.length ≤ 1048576) (h2 : ∀ c ∈ l, c.row.length ≤ 1048576) :
    evF cfg 14 [] [.agg [.d (.i .i64 wt), .d (.sl .any ((markCs mtOf l 1).map cC))], .d (.i .i64 1)] = some (.d (.i .i64 (qAt l 1 l.length)), []) := by
  have hp := qAt_pos h1 h2
  have := ev_heldBag wt (markCs mtOf l 1) 1 (by rw [markCs_len]; omega) (fun c hc => by
    obtain ⟨i, hi, rfl⟩ := List.mem_iff_getElem.1 hc
    have hi' : i < l.length := by rwa [markCs_len] at hi
    rw [markCs_row mtOf l 1 i hi' hi]
    have := h2 _ (List.getElem_mem hi')
    omega) (markCs_mkd mtOf l 1 (by omega) (cells_small h1 h2)) (by rw [qAt_mark, markCs_len]; exact hp)
  rwa [qAt_mark, markCs_len] at this
theorem plain_markBag : Plainly cfg.P 13 := ⟨_, Try.func13, rfl, by kernel_rfl⟩
theorem er_age (l : List C) : annEs .any (annEs (.tok []) (l.map cC)) = l.map cC := by
  rw [annEs_annEs, er_cC]
theorem law_TimesBag {w : World} {wt n : Int} {rows : List C} {vs : Array Value} (hlim : limCs (bC ⟨wt, rows⟩))
    (hl : 2 = vs.size) (hrv : ∀ i (hi : i < 2) (hj : i < vs.size), RV Try.prog w (inHeap w) noPl ([TV.agg [.d (.i .i64 wt), .d (.sl .any (rows.map cC))], .d (.i .i64 n)][i]) vs[i]) :
    Calls Try.prog 3 vs w fun e w' => e = .returned (.bool true) ∧ Go.RowKit.Below w.heap.size w w' := by
  refine law_true (fn := Try.f3) (args := [TV.agg [.d (.i .i64 wt), .d (.sl .any (rows.map cC))], .d (.i .i64 n)]) (t := 4) Try.func3 rfl (by rw [Try.ntmps3]; simp) Try.results3 (fun b o v h => h.elim) hl hrv (by simp [okL, TV.ok]) ?_
  rw [Try.ntmps3]
  intro Q hQ
  have hsz := ev_szBag wt rows 1048576 (by omega) (by omega) hlim
  simp only [initL, argT]
  by_cases hb : (1048576 : Int) - (szB ⟨wt, rows⟩ : Nat) < 0
  · have h1 : left1 1048576 (szB ⟨wt, rows⟩) = -1 := left1_neg hb
    have hd : decide ((-1 : Int) < 0) = true := rfl
    have HQ := Hd.mk hQ
    clear hb hrv hl hlim hQ
    apply Wp.last (C := cfg) (g := 3) cfg_hE cfg_hO
    · repeat' (first | with_reducible refine br_split (fun _ => ?_) (fun _ => ?_) | simp only [*, push_cast, Array.reduceGetElem?, Nat.reduceBEq, Nat.reduceLT, Nat.reduceAdd, Nat.reduceSub, Nat.reduceLeDiff, Nat.reduceMul, Nat.reduceEqDiff, reduceCtorEq, Int.reduceAdd, Int.reduceLT, Int.reduceLE, Int.reduceToNat, Int.reduceNeg, Int.reduceSub, Int.reduceBEq, Int.reduceBNe, Int.reduceNe, Int.reduceGT, Int.reduceGE, Nat.reduceGT] | (rw [drawC_ok]; rotate_left; decide +kernel; exact cfg_mixed))
      rfl
    · exact HQ.out _ rfl
  · have h1 : left1 1048576 (szB ⟨wt, rows⟩) = 1048576 - (szB ⟨wt, rows⟩ : Nat) := left1_pos hb
    have hd : decide ((1048576 : Int) - (szB ⟨wt, rows⟩ : Nat) < 0) = false := decide_eq_false hb
    have hle : szB ⟨wt, rows⟩ ≤ 1048576 := by omega
    have HQ := Hd.mk hQ
    obtain ⟨c1, c2⟩ := szB_all hle
    have hto := ev_toBag wt rows hle
    have hsp := ev_sTimesBag wt rows n c1 c2
    have him := ev_TimesBag wt rows n c1 c2
    obtain ⟨m1, m2⟩ := timesBag_small (wt := wt) n c1 c2
    have m3 := bC_lim n hlim
    have hmk1 := mcall_BagP (p := [1, 0, 1]) (by simp) c1 c2 wt
    have k1 := qAt_pos c1 c2
    generalize hM : (timesBag ⟨wt, rows⟩ n).rows = M at *
    have hq1 := ev_eqBag wt M wt M m3
    have hq2 := ev_eqBag wt rows wt rows hlim
    have hd1 : decide ((⟨wt, M⟩ : B) = ⟨wt, M⟩) = true := decide_eq_true rfl
    have hd2 : decide ((⟨wt, rows⟩ : B) = ⟨wt, rows⟩) = true := decide_eq_true rfl
    clear hb hQ hrv hl hlim hle
    have hmk2 := mcall_BagP (p := [2, 0, 1]) (by simp) m1 m2 wt
    have k2 := qAt_pos m1 m2
    have hhe := ev_heldBagP wt m1 m2
    generalize hK1 : qAt rows 1 rows.length = K1 at *
    generalize hK2 : qAt M 1 M.length = K2 at *
    have hkk1 : decide (K1 < 0) = false := decide_eq_false (by omega)
    have hkk2 : decide (K2 < 0) = false := decide_eq_false (by omega)
    have hkn : (K2 != K2) = false := bne_self_eq_false _
    have er1 := er_age rows
    have er2 := er_age M
    clear c1 c2 m1 m2 m3 k1 k2 hK1 hK2
    iterate 5
      apply Wp.seq (C := cfg) (g := 3) cfg_hE cfg_hO
      · repeat' (first | with_reducible refine br_split (fun _ => ?_) (fun _ => ?_) | simp only [*, push_cast, Array.reduceGetElem?, Nat.reduceBEq, Nat.reduceLT, Nat.reduceAdd, Nat.reduceSub, Nat.reduceLeDiff, Nat.reduceMul, Nat.reduceEqDiff, reduceCtorEq, Int.reduceAdd, Int.reduceLT, Int.reduceLE, Int.reduceToNat, Int.reduceNeg, Int.reduceSub, Int.reduceBEq, Int.reduceBNe, Int.reduceNe, Int.reduceGT, Int.reduceGE, Nat.reduceGT] | (rw [drawC_ok]; rotate_left; decide +kernel; exact cfg_mixed))
        rfl
    apply Wp.age (n := 1) rfl rfl
    simp only [ageSt, ageT, ageO, ageTV, ageL, T.ann]
    iterate 5
      apply Wp.seq (C := cfg) (g := 3) cfg_hE cfg_hO
      · repeat' (first | with_reducible refine br_split (fun _ => ?_) (fun _ => ?_) | simp only [*, push_cast, Array.reduceGetElem?, Nat.reduceBEq, Nat.reduceLT, Nat.reduceAdd, Nat.reduceSub, Nat.reduceLeDiff, Nat.reduceMul, Nat.reduceEqDiff, reduceCtorEq, Int.reduceAdd, Int.reduceLT, Int.reduceLE, Int.reduceToNat, Int.reduceNeg, Int.reduceSub, Int.reduceBEq, Int.reduceBNe, Int.reduceNe, Int.reduceGT, Int.reduceGE, Nat.reduceGT] | (rw [drawC_ok]; rotate_left; decide +kernel; exact cfg_mixed))
        rfl
    apply Wp.mark4 (C := cfg) (n := (6, true)) (p := [1, 0, 1]) (f := 13) (k := K1) (t0 := .sl (.tok [1, 0, 1]) (cnEs [1, 0, 1] 0 (rows.map cC))) (t1 := .sl (.tok [1, 0, 1]) (cnEs [1, 0, 1] 0 ((markCs mtOf rows 1).map cC)))
      (args := [.agg [.d (.i .i64 wt), .d (.sl (.tok [1, 0, 1]) (cnEs [1, 0, 1] 0 (rows.map cC)))], .d (.i .i64 1)])
      (tm := [(8, .ptr 108 0), (6, .ptr 106 0), (4, .d (.b false)), (2, .ptr 102 0), (1, .d (.i .i64 n))])
      (ob := [(108, .box [.d (.i .i64 wt), .d (.sl (.tok [2, 0, 1]) (cnEs [2, 0, 1] 0 (M.map cC)))]), (106, .box [.d (.i .i64 wt), .d (.sl (.tok []) (annEs (.tok []) (M.map cC)))]), (102, .box [.d (.i .i64 wt), .d (.sl (.tok []) (annEs (.tok []) (rows.map cC)))])]) cfg_hE cfg_hO (fun _ _ _ h => h)
    case e1 => repeat' (first | with_reducible refine br_split (fun _ => ?_) (fun _ => ?_) | simp only [*, push_cast, Array.reduceGetElem?, Nat.reduceBEq, Nat.reduceLT, Nat.reduceAdd, Nat.reduceSub, Nat.reduceLeDiff, Nat.reduceMul, Nat.reduceEqDiff, reduceCtorEq, Int.reduceAdd, Int.reduceLT, Int.reduceLE, Int.reduceToNat, Int.reduceNeg, Int.reduceSub, Int.reduceBEq, Int.reduceBNe, Int.reduceNe, Int.reduceGT, Int.reduceGE, Nat.reduceGT] | (rw [drawC_ok]; rotate_left; decide +kernel; exact cfg_mixed)); rfl
    case hg => rfl
    case hp => simp
    case hgd => rfl
    case ho => rfl
    case hf => rfl
    case hpl => exact plain_markBag
    case hargs => rfl
    case hc => exact hmk1
    case h1 => exact .cons rfl .ptr (.cons rfl .ptr (.cons rfl (.leaf rfl) (.cons rfl .ptr (.cons rfl (.leaf rfl) .nil))))
    case h2 => exact .cons rfl (.cons (.leaf rfl) (.cons (.keep (SafeT.sl (by decide) _)) .nil)) (.cons rfl (.cons (.leaf rfl) (.cons (.keep (SafeT.age _)) .nil)) (.cons rfl (.cons (.leaf rfl) (.cons (.keep (SafeT.age _)) .nil)) .nil))
    case hput => rfl
    case e2 => repeat' (first | with_reducible refine br_split (fun _ => ?_) (fun _ => ?_) | simp only [*, push_cast, Array.reduceGetElem?, Nat.reduceBEq, Nat.reduceLT, Nat.reduceAdd, Nat.reduceSub, Nat.reduceLeDiff, Nat.reduceMul, Nat.reduceEqDiff, reduceCtorEq, Int.reduceAdd, Int.reduceLT, Int.reduceLE, Int.reduceToNat, Int.reduceNeg, Int.reduceSub, Int.reduceBEq, Int.reduceBNe, Int.reduceNe, Int.reduceGT, Int.reduceGE, Nat.reduceGT] | (rw [drawC_ok]; rotate_left; decide +kernel; exact cfg_mixed)); rfl
    iterate 2
      apply Wp.seq (C := cfg) (g := 3) cfg_hE cfg_hO
      · repeat' (first | with_reducible refine br_split (fun _ => ?_) (fun _ => ?_) | simp only [*, push_cast, Array.reduceGetElem?, Nat.reduceBEq, Nat.reduceLT, Nat.reduceAdd, Nat.reduceSub, Nat.reduceLeDiff, Nat.reduceMul, Nat.reduceEqDiff, reduceCtorEq, Int.reduceAdd, Int.reduceLT, Int.reduceLE, Int.reduceToNat, Int.reduceNeg, Int.reduceSub, Int.reduceBEq, Int.reduceBNe, Int.reduceNe, Int.reduceGT, Int.reduceGE, Nat.reduceGT] | (rw [drawC_ok]; rotate_left; decide +kernel; exact cfg_mixed))
        rfl
    apply Wp.mark4 (C := cfg) (n := (7, true)) (p := [2, 0, 1]) (f := 13) (k := K2) (t0 := .sl (.tok [2, 0, 1]) (cnEs [2, 0, 1] 0 (M.map cC))) (t1 := .sl (.tok [2, 0, 1]) (cnEs [2, 0, 1] 0 ((markCs mtOf M 1).map cC)))
      (args := [.agg [.d (.i .i64 wt), .d (.sl (.tok [2, 0, 1]) (cnEs [2, 0, 1] 0 (M.map cC)))], .d (.i .i64 1)])
      (tm := [(8, .ptr 108 0), (6, .ptr 106 0), (4, .d (.b false)), (2, .ptr 102 0), (1, .d (.i .i64 n))])
      (ob := [(108, .box [.d (.i .i64 wt), .d (.sl (.tok [2, 0, 1]) (cnEs [2, 0, 1] 0 ((markCs mtOf M 1).map cC)))]), (106, .box [.d (.i .i64 wt), .d (.sl (.tok []) (annEs (.tok []) (M.map cC)))]), (102, .box [.d (.i .i64 wt), .d (.sl (.tok []) (annEs (.tok []) (rows.map cC)))])]) cfg_hE cfg_hO (fun _ _ _ h => h)
    case e1 => repeat' (first | with_reducible refine br_split (fun _ => ?_) (fun _ => ?_) | simp only [*, push_cast, Array.reduceGetElem?, Nat.reduceBEq, Nat.reduceLT, Nat.reduceAdd, Nat.reduceSub, Nat.reduceLeDiff, Nat.reduceMul, Nat.reduceEqDiff, reduceCtorEq, Int.reduceAdd, Int.reduceLT, Int.reduceLE, Int.reduceToNat, Int.reduceNeg, Int.reduceSub, Int.reduceBEq, Int.reduceBNe, Int.reduceNe, Int.reduceGT, Int.reduceGE, Nat.reduceGT] | (rw [drawC_ok]; rotate_left; decide +kernel; exact cfg_mixed)); rfl
    case hg => rfl
    case hp => simp
    case hgd => rfl
    case ho => rfl
    case hf => rfl
    case hpl => exact plain_markBag
    case hargs => rfl
    case hc => exact hmk2
    case h1 => exact .cons rfl .ptr (.cons rfl .ptr (.cons rfl (.leaf rfl) (.cons rfl .ptr (.cons rfl (.leaf rfl) .nil))))
    case h2 => exact .cons rfl (.cons (.leaf rfl) (.cons .root .nil)) (.cons rfl (.cons (.leaf rfl) (.cons (.keep (SafeT.age _)) .nil)) (.cons rfl (.cons (.leaf rfl) (.cons (.keep (SafeT.age _)) .nil)) .nil))
    case hput => rfl
    case e2 => repeat' (first | with_reducible refine br_split (fun _ => ?_) (fun _ => ?_) | simp only [*, push_cast, Array.reduceGetElem?, Nat.reduceBEq, Nat.reduceLT, Nat.reduceAdd, Nat.reduceSub, Nat.reduceLeDiff, Nat.reduceMul, Nat.reduceEqDiff, reduceCtorEq, Int.reduceAdd, Int.reduceLT, Int.reduceLE, Int.reduceToNat, Int.reduceNeg, Int.reduceSub, Int.reduceBEq, Int.reduceBNe, Int.reduceNe, Int.reduceGT, Int.reduceGE, Nat.reduceGT] | (rw [drawC_ok]; rotate_left; decide +kernel; exact cfg_mixed)); rfl
    apply Wp.last (C := cfg) (g := 3) cfg_hE cfg_hO
    · repeat' (first | with_reducible refine br_split (fun _ => ?_) (fun _ => ?_) | simp only [*, push_cast, Array.reduceGetElem?, Nat.reduceBEq, Nat.reduceLT, Nat.reduceAdd, Nat.reduceSub, Nat.reduceLeDiff, Nat.reduceMul, Nat.reduceEqDiff, reduceCtorEq, Int.reduceAdd, Int.reduceLT, Int.reduceLE, Int.reduceToNat, Int.reduceNeg, Int.reduceSub, Int.reduceBEq, Int.reduceBNe, Int.reduceNe, Int.reduceGT, Int.reduceGE, Nat.reduceGT] | (rw [drawC_ok]; rotate_left; decide +kernel; exact cfg_mixed))
      rfl
    · exact HQ.out _ rfl
end Go.Av
end

section
namespace Go.Av
theorem Is.lim {t : T} {sh : Sh} (h : Is t sh) : t.lim := by
  induction h with
  | b _ => trivial
  | i _ _ _ => trivial
  | s x h => simp only [T.lim]; omega
  | sl es m h hl hs ih =>
    simp only [T.lim]
    refine ⟨by omega, ?_⟩
    have hcs : ∀ e : List T, (∀ t ∈ e, t.lim) → limCs e := by
      intro e
      induction e with
      | nil => intro _; trivial
      | cons a l ihl => intro h; exact ⟨h a (List.mem_cons_self ..), ihl fun t ht => h t (List.mem_cons_of_mem _ ht)⟩
    have hes : ∀ es : List (List T), (∀ e ∈ es, limCs e) → limEs es := by
      intro es
      induction es with
      | nil => intro _; trivial
      | cons a l ihl => intro h; exact ⟨h a (List.mem_cons_self ..), ihl fun t ht => h t (List.mem_cons_of_mem _ ht)⟩
    refine hes es fun e he => hcs e fun t ht => ?_
    obtain ⟨j, hj⟩ := List.getElem?_of_mem ht
    have hjl : j < m.length := by rw [← hl e he]; exact (List.getElem?_eq_some_iff.1 hj).1
    exact ih e he j t m[j] hj (by rw [List.getElem?_eq_getElem hjl])
theorem is_strs {t : T} (h : Is t (.sl [.s])) : ∃ l : List ByteArray, t = .sl .any (l.map sC) :=
  h.list fun e hl hs => by
    match e, hl with
    | [a], _ =>
      obtain ⟨x, rfl⟩ := (hs 0 a .s rfl rfl).str
      exact ⟨x, rfl⟩
theorem is_schemas {t : T} (h : Is t (.sl [.s, .sl [.s]])) : ∃ l : List Sc, t = .sl .any (l.map scC) :=
  h.list fun e hl hs => by
    match e, hl with
    | [a, b], _ =>
      obtain ⟨x, rfl⟩ := (hs 0 a .s rfl rfl).str
      obtain ⟨y, rfl⟩ := is_strs (hs 1 b _ rfl rfl)
      exact ⟨⟨x, y⟩, rfl⟩
theorem is_values {t : T} (h : Is t (.sl [.i .i64, .i .i64, .s])) : ∃ l : List V, t = .sl .any (l.map vC) :=
  h.list fun e hl hs => by
    match e, hl with
    | [a, b, c], _ =>
      obtain ⟨x, rfl⟩ := (hs 0 a _ rfl rfl).int
      obtain ⟨y, rfl⟩ := (hs 1 b _ rfl rfl).int
      obtain ⟨z, rfl⟩ := (hs 2 c _ rfl rfl).str
      exact ⟨⟨x, y, z⟩, rfl⟩
theorem is_counteds {t : T} (h : Is t (.sl [.sl [.i .i64, .i .i64, .s], .i .i64])) : ∃ l : List C, t = .sl .any (l.map cC) :=
  h.list fun e hl hs => by
    match e, hl with
    | [a, b], _ =>
      obtain ⟨x, rfl⟩ := is_values (hs 0 a _ rfl rfl)
      obtain ⟨y, rfl⟩ := (hs 1 b _ rfl rfl).int
      exact ⟨⟨x, y⟩, rfl⟩
theorem is_rels {t : T} (h : Is t (.sl [.s, .i .i64, .sl [.sl [.i .i64, .i .i64, .s], .i .i64]])) : ∃ l : List R, t = .sl .any (l.map rC) :=
  h.list fun e hl hs => by
    match e, hl with
    | [a, b, c], _ =>
      obtain ⟨x, rfl⟩ := (hs 0 a _ rfl rfl).str
      obtain ⟨y, rfl⟩ := (hs 1 b _ rfl rfl).int
      obtain ⟨z, rfl⟩ := is_counteds (hs 2 c _ rfl rfl)
      exact ⟨⟨x, ⟨y, z⟩⟩, rfl⟩
/-- The cells of a struct that is handed over. -/
theorem rv_agg [Known] {P : Program} {w : World} {ts : List T} {l : List Sh} {cs : Array Value} (h : Reads w ts l cs.toList) : RV P w (inHeap w) noPl (.agg (ts.map TV.d)) (.agg cs) := by
  obtain ⟨h1, h2, h3⟩ := h
  refine .agg (by simp at h2 ⊢; omega) fun i hi hj => ?_
  have hi' : i < ts.length := by simpa using hi
  have := (h3 i ts[i] l[i] cs[i] (by rw [List.getElem?_eq_getElem hi']) (by rw [List.getElem?_eq_getElem (by omega)]) (by simp [hj])).2
  simpa using RV.d this
theorem Reads.is {w : World} {ts : List T} {l : List Sh} {cs : List Value} (h : Reads w ts l cs) {j : Nat} {t : T} {sh : Sh} (h1 : ts[j]? = some t) (h2 : l[j]? = some sh) : Is t sh := by
  obtain ⟨a, b, c⟩ := h
  have hj : j < cs.length := by rw [b]; exact (List.getElem?_eq_some_iff.1 h2).1
  exact (c j t sh cs[j] h1 h2 (by rw [List.getElem?_eq_getElem hj])).1
end Go.Av
end

section
set_option linter.unusedVariables false
namespace Go.Av
def kR (k : Int) : Int := w6 (w6 (k + 1) + 1)
/-- The number before the relation i. -/
def rAt (L : List R) (k : Int) (i : Nat) : Int := (L.take i).foldl (fun k r => qAt r.bag.rows (kR k) r.bag.rows.length) k
structure MkdR (mt : Int → ByteArray) (L : List R) (k : Int) : Prop where
  name : ∀ i (h : i < L.length), L[i].name = mt (rAt L k i)
  w : ∀ i (h : i < L.length), L[i].bag.w = w6 (rAt L k i + 1)
  rows : ∀ i (h : i < L.length), MkdC mt L[i].bag.rows (kR (rAt L k i))
  pos : ∀ i (h : i < L.length), 0 ≤ qAt L[i].bag.rows (kR (rAt L k i)) L[i].bag.rows.length
theorem rAt_zero (L : List R) (k : Int) : rAt L k 0 = k := by simp [rAt]
theorem rAt_succ {L : List R} {k : Int} {i : Nat} (h : i < L.length) : rAt L k (i + 1) = qAt L[i].bag.rows (kR (rAt L k i)) L[i].bag.rows.length := by
  simp only [rAt]
  rw [List.take_succ_eq_append_getElem h, List.foldl_append]; rfl
theorem rAt_cons (c : R) (L : List R) (k : Int) (i : Nat) : rAt (c :: L) k (i + 1) = rAt L (qAt c.bag.rows (kR k) c.bag.rows.length) i := by
  simp [rAt]
def markRs (mt : Int → ByteArray) : List R → Int → List R
  | [], _ => []
  | r :: l, k => ⟨mt k, ⟨w6 (k + 1), markCs mt r.bag.rows (kR k)⟩⟩ :: markRs mt l (qAt r.bag.rows (kR k) r.bag.rows.length)
theorem markRs_len (mt : Int → ByteArray) : ∀ (l : List R) (k : Int), (markRs mt l k).length = l.length
  | [], _ => rfl
  | _ :: l, k => by simp [markRs, markRs_len mt l]
theorem markRs_rows (mt : Int → ByteArray) : ∀ (l : List R) (k : Int) i (h : i < l.length) (h' : i < (markRs mt l k).length), ∃ k', (markRs mt l k)[i].bag.rows = markCs mt l[i].bag.rows k'
  | [], _, i, h, _ => by cases h
  | c :: l, k, i, h, h' => by
    cases i with
    | zero => exact ⟨_, rfl⟩
    | succ i => exact markRs_rows mt l _ i (by simpa using h) (by simpa [markRs] using h')
theorem mkEs_rC (mt : Int → ByteArray) : ∀ (l : List R) (k : Int), mkEs mt (l.map rC) k = ((markRs mt l k).map rC, rAt l k l.length)
  | [], k => rfl
  | c :: l, k => by
    have := mkEs_rC mt l (qAt c.bag.rows (kR k) c.bag.rows.length)
    simp only [List.map_cons, mkEs, rC, mkCs, mkT, mkEs_cC, markRs, List.length_cons, rAt_cons]
    rw [show IntKind.i64.wrap (IntKind.i64.wrap (k + 1) + 1) = kR k from rfl, this]
theorem rAt_mark (mt : Int → ByteArray) : ∀ (l : List R) (k : Int) (i : Nat), rAt (markRs mt l k) k i = rAt l k i
  | [], k, i => rfl
  | c :: l, k, 0 => by simp [rAt]
  | c :: l, k, i + 1 => by
    have := rAt_mark mt l (qAt c.bag.rows (kR k) c.bag.rows.length) i
    simp only [markRs, rAt_cons, qAt_mark, markCs_len]; exact this
/-- The cells of relations. -/
def cellsR (l : List R) : Nat := (l.map fun c => cellsC c.bag.rows + 2).sum
theorem cellsR_cons (c : R) (l : List R) : cellsR (c :: l) = cellsC c.bag.rows + 2 + cellsR l := by simp [cellsR]
theorem kR_in {k : Int} (h0 : 0 ≤ k) (h1 : k + 2 ≤ 9223372036854775807) : kR k = k + 2 := by
  unfold kR w6
  rw [i64_in (n := k + 1) (by omega) (by omega), i64_in (n := k + 1 + 1) (by omega) (by omega)]; omega
theorem markRs_mkd (mt : Int → ByteArray) : ∀ (l : List R) (k : Int), 0 ≤ k → k + cellsR l ≤ 9223372036854775807 → MkdR mt (markRs mt l k) k
  | [], k, _, _ => ⟨fun i h => (by cases h), fun i h => (by cases h), fun i h => (by cases h), fun i h => (by cases h)⟩
  | c :: l, k, h0, h1 => by
    rw [cellsR_cons] at h1
    have e1 : kR k = k + 2 := kR_in h0 (by omega)
    have e2 : qAt c.bag.rows (kR k) c.bag.rows.length = k + 2 + cellsC c.bag.rows := by rw [e1]; exact qAt_in _ _ (by omega) (by omega)
    have ih := markRs_mkd mt l (qAt c.bag.rows (kR k) c.bag.rows.length) (by omega) (by omega)
    refine ⟨fun i h => ?_, fun i h => ?_, fun i h => ?_, fun i h => ?_⟩
    · cases i with
      | zero => simp only [markRs, List.getElem_cons_zero, rAt_zero]
      | succ i => simp only [markRs, List.getElem_cons_succ, rAt_cons, qAt_mark, markCs_len]; exact ih.name i (by simpa [markRs] using h)
    · cases i with
      | zero => simp only [markRs, List.getElem_cons_zero, rAt_zero]
      | succ i => simp only [markRs, List.getElem_cons_succ, rAt_cons, qAt_mark, markCs_len]; exact ih.w i (by simpa [markRs] using h)
    · cases i with
      | zero => simp only [markRs, List.getElem_cons_zero, rAt_zero]; exact markCs_mkd mt _ _ (by omega) (by omega)
      | succ i => simp only [markRs, List.getElem_cons_succ, rAt_cons, qAt_mark, markCs_len]; exact ih.rows i (by simpa [markRs] using h)
    · cases i with
      | zero => simp only [markRs, List.getElem_cons_zero, rAt_zero, qAt_mark, markCs_len]; omega
      | succ i => simp only [markRs, List.getElem_cons_succ, rAt_cons, qAt_mark, markCs_len]; exact ih.pos i (by simpa [markRs] using h)
theorem rAt_in : ∀ (l : List R) (k : Int), 0 ≤ k → k + cellsR l ≤ 9223372036854775807 → rAt l k l.length = k + cellsR l
  | [], k, _, _ => by simp [rAt, cellsR]
  | c :: l, k, h0, h1 => by
    rw [cellsR_cons] at h1
    have e1 : kR k = k + 2 := kR_in h0 (by omega)
    have e2 : qAt c.bag.rows (kR k) c.bag.rows.length = k + 2 + cellsC c.bag.rows := by rw [e1]; exact qAt_in _ _ (by omega) (by omega)
    rw [List.length_cons, rAt_cons, e2, rAt_in l _ (by omega) (by omega), cellsR_cons]; omega
theorem cellsR_le {l : List R} {m : Nat} : (∀ r ∈ l, cellsC r.bag.rows ≤ m) → cellsR l ≤ l.length * (m + 2) := by
  induction l with
  | nil => intro _; simp [cellsR]
  | cons c l ih =>
    intro h
    have := ih fun d hd => h d (List.mem_cons_of_mem _ hd)
    have h1 := h c (by simp)
    rw [cellsR_cons, List.length_cons, Nat.add_mul]
    omega
end Go.Av
end

section
namespace Go.Av
open Go.Proofs
set_option linter.unusedSimpArgs false
@[push_cast] theorem ev_toRel (name : ByteArray) (w : Int) (rows : List C) (h : szR ⟨name, ⟨w, rows⟩⟩ ≤ 1048576) : evF cfg 56 [] [.agg [.d (.s name), .d (.i .i64 w), .d (.sl .any (rows.map cC))]] =
    some (.agg [.d (.s name), .d (.i .i64 w), .d (.sl (.tok [0, 2]) (cnEs [0, 2] 0 (rows.map cC)))], []) := by
  simp only [szR] at h
  have ebag := ev_toBag w rows (by omega)
  have hcan : canOk (.agg [.d (.s name), .d (.i .i64 w), .d (.sl (.tok [0, 0, 1]) (cnEs [0, 0, 1] 0 (rows.map cC)))]) [] := canOk_one _ [0, 0, 1] (.sl .any (rows.map cC)) (by simp [tkTV, tkL, tkT, T.cn]) rfl
  (refine (evF_codeZ (C := cfg) (g := 56) (fn := Try.f56) rfl Try.func56 rfl (by rw [Try.ntmps56]; simp) (by kernel_rfl)).trans ?_; rw [Try.results56, Try.ntmps56])
  repeat' (first | with_reducible refine br_split (fun _ => ?_) (fun _ => ?_) | simp only [*, push_cast, Array.reduceGetElem?, Nat.reduceBEq, Nat.reduceLT, Nat.reduceAdd, Nat.reduceSub, Nat.reduceLeDiff, Nat.reduceMul, Nat.reduceEqDiff, reduceCtorEq, Int.reduceAdd, Int.reduceLT, Int.reduceLE, Int.reduceToNat, Int.reduceNeg, Int.reduceSub, Int.reduceBEq, Int.reduceBNe, Int.reduceNe, Int.reduceGT, Int.reduceGE, Nat.reduceGT] | (rw [drawC_ok]; rotate_left; decide +kernel; exact cfg_mixed))

/-- A relation whose blocks are named. -/
def rZ (p : Nat → Tok) (i : Nat) (r : R) : List T := [.s r.name, .i .i64 r.bag.w, .sl (.tok (p i)) (cnEs (p i) 0 (r.bag.rows.map cC))]
theorem rZ_nm {p : Nat → Tok} (hp : ∀ i, ∃ q, p i = [i] ++ q) (i : Nat) (r : R) : Nm [i] (tkCs (rZ p i r)) := by
  obtain ⟨q, hq⟩ := hp i
  have h := tk_cn (.sl .any (r.bag.rows.map cC)) (p i)
  rw [hq] at h
  have e : tkCs (rZ p i r) = tkT (T.cn ([i] ++ q) (.sl .any (r.bag.rows.map cC))) := by
    simp [rZ, tkCs, tkT, T.cn, hq]
  rw [e]
  exact h.weak
@[push_cast] theorem cn_rZ (f : Nat → Tok) (l : List R) (p : Tok) (i : Nat) : cnEs p i (l.mapIdx (rZ f)) = cnEs p i (l.map rC) := by
  refine cnEs_same ?_
  rw [annEs_mapIdx (g := rC) (fun i x => by simp only [rZ, annCs, T.ann, er_cnEs, er_cC]; rfl) l, er_rC]

theorem ev_toRelS (l : List R) (h : szRs l ≤ 1048576) : evF cfg 17 [] [.d (.sl .any (l.map rC))] = some (.d (.sl (.tok [0]) (cnEs [0] 0 (l.map rC))), []) := by
  obtain ⟨hl, hm⟩ := szRs_mem h
  have hb := mk_ok 48 hl (by omega)
  have hcan := canOk_top (rZ fun i => [i, 0, 2]) l (rZ_nm fun i => ⟨[0, 2], rfl⟩)
  (refine (evF_codeZ (C := cfg) (g := 17) (fn := Try.f17) rfl Try.func17 rfl (by rw [Try.ntmps17]; simp) (by kernel_rfl)).trans ?_; rw [Try.results17, Try.ntmps17])
  repeat' (first | with_reducible refine br_split (fun _ => ?_) (fun _ => ?_) | simp only [*, push_cast, Array.reduceGetElem?, Nat.reduceBEq, Nat.reduceLT, Nat.reduceAdd, Nat.reduceSub, Nat.reduceLeDiff, Nat.reduceMul, Nat.reduceEqDiff, reduceCtorEq, Int.reduceAdd, Int.reduceLT, Int.reduceLE, Int.reduceToNat, Int.reduceNeg, Int.reduceSub, Int.reduceBEq, Int.reduceBNe, Int.reduceNe, Int.reduceGT, Int.reduceGE, Nat.reduceGT] | (rw [drawC_ok]; rotate_left; decide +kernel; exact cfg_mixed))
  rw [← madeI_zero (rZ fun i => [i, 0, 2]) [.s ⟨#[]⟩, .i .i64 0, .sl .any []] l]
  rw [evM_for0 l.length (fun i j => { t := [(0, .d (.sl .any (l.map rC))), (3, .own 50), (4, .d (.i .i64 j))], o := [(50, .arr .any 3 (madeI (rZ fun i => [i, 0, 2]) [.s ⟨#[]⟩, .i .i64 0, .sl .any []] l i))], ks := [50], n := 0, sz := 23, u := noU, g := some (i, false) })
    (fun i => some (.exit 0, { t := [(3, .own 50)], o := [(50, .arr .any 3 (l.mapIdx (rZ fun i => [i, 0, 2])))], ks := [50], n := 0, sz := 23, u := noU, g := some (l.length, false) })) ?step ?last]
  case step =>
    intro i hi ih
    have hc : (l.map rC)[i]? = some [.s l[i].name, .i .i64 l[i].bag.w, .sl .any (l[i].bag.rows.map cC)] := get_map rC l i hi
    have hp := madeI_get (rZ fun i => [i, 0, 2]) [.s ⟨#[]⟩, .i .i64 0, .sl .any []] l i hi
    have hpl := madeI_len (rZ fun i => [i, 0, 2]) [.s ⟨#[]⟩, .i .i64 0, .sl .any []] l i (by omega)
    have hs : (madeI (rZ fun i => [i, 0, 2]) [.s ⟨#[]⟩, .i .i64 0, .sl .any []] l i).set i [.s l[i].name, .i .i64 l[i].bag.w, .sl (.tok [i, 0, 2]) (cnEs [i, 0, 2] 0 (l[i].bag.rows.map cC))] = _ := madeI_set (rZ fun i => [i, 0, 2]) [.s ⟨#[]⟩, .i .i64 0, .sl .any []] l i hi
    have hd := dec_lt hi
    have hdn := dec_ltN hi
    have hw : IntKind.i64.wrap ((i : Int) + 1) = (i : Int) + 1 := wrap_succ (by omega)
    have ee := ev_toRel l[i].name l[i].bag.w l[i].bag.rows (show szR l[i] ≤ 1048576 from hm _ (List.getElem_mem hi))
    repeat' (first | with_reducible refine br_split (fun _ => ?_) (fun _ => ?_) | simp only [*, push_cast, Array.reduceGetElem?, Nat.reduceBEq, Nat.reduceLT, Nat.reduceAdd, Nat.reduceSub, Nat.reduceLeDiff, Nat.reduceMul, Nat.reduceEqDiff, reduceCtorEq, Int.reduceAdd, Int.reduceLT, Int.reduceLE, Int.reduceToNat, Int.reduceNeg, Int.reduceSub, Int.reduceBEq, Int.reduceBNe, Int.reduceNe, Int.reduceGT, Int.reduceGE, Nat.reduceGT] | (rw [drawC_ok]; rotate_left; decide +kernel; exact cfg_mixed))
  case last =>
    have hf := madeI_full (rZ fun i => [i, 0, 2]) [.s ⟨#[]⟩, .i .i64 0, .sl .any []] l
    repeat' (first | with_reducible refine br_split (fun _ => ?_) (fun _ => ?_) | simp only [*, push_cast, Array.reduceGetElem?, Nat.reduceBEq, Nat.reduceLT, Nat.reduceAdd, Nat.reduceSub, Nat.reduceLeDiff, Nat.reduceMul, Nat.reduceEqDiff, reduceCtorEq, Int.reduceAdd, Int.reduceLT, Int.reduceLE, Int.reduceToNat, Int.reduceNeg, Int.reduceSub, Int.reduceBEq, Int.reduceBNe, Int.reduceNe, Int.reduceGT, Int.reduceGE, Nat.reduceGT] | (rw [drawC_ok]; rotate_left; decide +kernel; exact cfg_mixed))
  · repeat' (first | with_reducible refine br_split (fun _ => ?_) (fun _ => ?_) | simp only [*, push_cast, Array.reduceGetElem?, Nat.reduceBEq, Nat.reduceLT, Nat.reduceAdd, Nat.reduceSub, Nat.reduceLeDiff, Nat.reduceMul, Nat.reduceEqDiff, reduceCtorEq, Int.reduceAdd, Int.reduceLT, Int.reduceLE, Int.reduceToNat, Int.reduceNeg, Int.reduceSub, Int.reduceBEq, Int.reduceBNe, Int.reduceNe, Int.reduceGT, Int.reduceGE, Nat.reduceGT] | (rw [drawC_ok]; rotate_left; decide +kernel; exact cfg_mixed))
end Go.Av
end

section
namespace Go.Av
open Go.Proofs
set_option linter.unusedSimpArgs false
def negR (r : R) : R := ⟨r.name, ⟨r.bag.w, (timesBag r.bag (-1)).rows⟩⟩
theorem ev_sNegate (l : List R) (hl : l.length ≤ 1048576) (hr : ∀ r ∈ l, r.bag.rows.length ≤ 1048576 ∧ ∀ c ∈ r.bag.rows, c.row.length ≤ 1048576) : evF cfg 16 [] [.d (.sl .any (l.map rC))] =
    some (.d (.sl .any ((l.map negR).map rC)), []) := by
  have H := Hd.mk (And.intro hl hr)
  clear hl hr
  (refine (evF_code (C := cfg) (g := 16) (fn := Try.f16) rfl Try.func16 rfl (by rw [Try.ntmps16]; simp) (by kernel_rfl) (by first | decide | simp [keysOf])).trans ?_; rw [Try.results16, Try.ntmps16])
  repeat' (first | with_reducible refine br_split (fun _ => ?_) (fun _ => ?_) | simp only [*, push_cast, Array.reduceGetElem?, Nat.reduceBEq, Nat.reduceLT, Nat.reduceAdd, Nat.reduceSub, Nat.reduceLeDiff, Nat.reduceMul, Nat.reduceEqDiff, reduceCtorEq, Int.reduceAdd, Int.reduceLT, Int.reduceLE, Int.reduceToNat, Int.reduceNeg, Int.reduceSub, Int.reduceBEq, Int.reduceBNe, Int.reduceNe, Int.reduceGT, Int.reduceGE, Nat.reduceGT] | (rw [drawC_ok]; rotate_left; decide +kernel; exact cfg_mixed))
  rw [show ([] : List (List T)) = ((l.map negR).take 0).map rC from rfl]
  rw [evM_for0 l.length (fun i j => { t := [(0, .d (.sl .any (l.map rC))), (3, .own 50), (4, .d (.i .i64 j))], o := [(50, .arr .any 3 (((l.map negR).take i).map rC))], ks := [50], n := 0, sz := 28, u := noU }) (fun i => some (.exit 0, { t := [(3, .own 50)], o := [(50, .arr .any 3 ((l.map negR).map rC))], ks := [50], n := 0, sz := 28, u := noU })) ?step ?last]
  case step =>
    intro i hi ih
    obtain ⟨hl, hr⟩ := H.out
    have hc : (l.map rC)[i]? = some [.s l[i].name, .i .i64 l[i].bag.w, .sl .any (l[i].bag.rows.map cC)] := get_map rC l i hi
    have hd := dec_lt hi
    have hdn := dec_ltN hi
    have hw : IntKind.i64.wrap ((i : Int) + 1) = (i : Int) + 1 := wrap_succ (by omega)
    have h1 := ev_sTimesBag l[i].bag.w l[i].bag.rows (-1) (hr _ (List.getElem_mem hi)).1 (hr _ (List.getElem_mem hi)).2
    have h2 := len_ok (n := ((l.map negR).take i).length + 1) 48 (by simp; omega) (by omega)
    have h3 : ((l.map negR).take i).map rC ++ [[.s l[i].name, .i .i64 l[i].bag.w, .sl .any ((timesBag ⟨l[i].bag.w, l[i].bag.rows⟩ (-1)).rows.map cC)]] = ((l.map negR).take (i + 1)).map rC := by
      have := take_snoc rC (l := l.map negR) (i := i) (by simpa using hi)
      simpa [rC, negR] using this
    clear hl hr H
    repeat' (first | with_reducible refine br_split (fun _ => ?_) (fun _ => ?_) | simp only [*, push_cast, Array.reduceGetElem?, Nat.reduceBEq, Nat.reduceLT, Nat.reduceAdd, Nat.reduceSub, Nat.reduceLeDiff, Nat.reduceMul, Nat.reduceEqDiff, reduceCtorEq, Int.reduceAdd, Int.reduceLT, Int.reduceLE, Int.reduceToNat, Int.reduceNeg, Int.reduceSub, Int.reduceBEq, Int.reduceBNe, Int.reduceNe, Int.reduceGT, Int.reduceGE, Nat.reduceGT] | (rw [drawC_ok]; rotate_left; decide +kernel; exact cfg_mixed))
  case last =>
    have hl := H.out.1
    have hf : (l.map negR).take l.length = l.map negR := by rw [List.take_of_length_le]; simp
    clear H
    repeat' (first | with_reducible refine br_split (fun _ => ?_) (fun _ => ?_) | simp only [*, push_cast, Array.reduceGetElem?, Nat.reduceBEq, Nat.reduceLT, Nat.reduceAdd, Nat.reduceSub, Nat.reduceLeDiff, Nat.reduceMul, Nat.reduceEqDiff, reduceCtorEq, Int.reduceAdd, Int.reduceLT, Int.reduceLE, Int.reduceToNat, Int.reduceNeg, Int.reduceSub, Int.reduceBEq, Int.reduceBNe, Int.reduceNe, Int.reduceGT, Int.reduceGE, Nat.reduceGT] | (rw [drawC_ok]; rotate_left; decide +kernel; exact cfg_mixed))
  repeat' (first | with_reducible refine br_split (fun _ => ?_) (fun _ => ?_) | simp only [*, push_cast, Array.reduceGetElem?, Nat.reduceBEq, Nat.reduceLT, Nat.reduceAdd, Nat.reduceSub, Nat.reduceLeDiff, Nat.reduceMul, Nat.reduceEqDiff, reduceCtorEq, Int.reduceAdd, Int.reduceLT, Int.reduceLE, Int.reduceToNat, Int.reduceNeg, Int.reduceSub, Int.reduceBEq, Int.reduceBNe, Int.reduceNe, Int.reduceGT, Int.reduceGE, Nat.reduceGT] | (rw [drawC_ok]; rotate_left; decide +kernel; exact cfg_mixed))
end Go.Av
end

section
namespace Go.Av
open Go.Proofs
set_option linter.unusedSimpArgs false
theorem ev_Negate (l : List R) (hl : l.length ≤ 1048576) (hr : ∀ r ∈ l, r.bag.rows.length ≤ 1048576 ∧ ∀ c ∈ r.bag.rows, c.row.length ≤ 1048576) : evF cfg 18 [] [.d (.sl .any (l.map rC))] =
    some (.d (.sl (.tok [0]) (cnEs [0] 0 ((l.map negR).map rC))), []) := by
  have H := Hd.mk (And.intro hl hr)
  clear hl hr
  have hcan := canOk_top (rZ fun i => [i, 0, 1]) (l.map negR) (rZ_nm fun i => ⟨[0, 1], rfl⟩)
  rw [List.length_map] at hcan
  (refine (evF_codeZ (C := cfg) (g := 18) (fn := Try.f18) rfl Try.func18 rfl (by rw [Try.ntmps18]; simp) (by kernel_rfl)).trans ?_; rw [Try.results18, Try.ntmps18])
  repeat' (first | with_reducible refine br_split (fun _ => ?_) (fun _ => ?_) | simp only [*, push_cast, Array.reduceGetElem?, Nat.reduceBEq, Nat.reduceLT, Nat.reduceAdd, Nat.reduceSub, Nat.reduceLeDiff, Nat.reduceMul, Nat.reduceEqDiff, reduceCtorEq, Int.reduceAdd, Int.reduceLT, Int.reduceLE, Int.reduceToNat, Int.reduceNeg, Int.reduceSub, Int.reduceBEq, Int.reduceBNe, Int.reduceNe, Int.reduceGT, Int.reduceGE, Nat.reduceGT] | (rw [drawC_ok]; rotate_left; decide +kernel; exact cfg_mixed))
  rw [show ([] : List (List T)) = ((l.map negR).take 0).mapIdx (rZ fun i => [i, 0, 1]) from rfl]
  rw [evM_for0 l.length (fun i j => { t := [(3, .own 50), (6, .d (.sl .any (l.map rC))), (7, .d (.i .i64 l.length)), (8, .d (.i .i64 j))], o := [(50, .arr .any 3 (((l.map negR).take i).mapIdx (rZ fun i => [i, 0, 1])))], ks := [50], n := 0, sz := 23, u := noU, g := some (i, false) }) (fun i => some (.exit 0, { t := [(3, .own 50)], o := [(50, .arr .any 3 ((l.map negR).mapIdx (rZ fun i => [i, 0, 1])))], ks := [50], n := 0, sz := 23, u := noU, g := some (l.length, false) })) ?step ?last]
  case step =>
    intro i hi ih
    obtain ⟨hl, hr⟩ := H.out
    have hc : (l.map rC)[i]? = some [.s l[i].name, .i .i64 l[i].bag.w, .sl .any (l[i].bag.rows.map cC)] := get_map rC l i hi
    have hd := dec_lt hi
    have hdn := dec_ltN hi
    have hw : IntKind.i64.wrap ((i : Int) + 1) = (i : Int) + 1 := wrap_succ (by omega)
    have h1 := ev_TimesBag l[i].bag.w l[i].bag.rows (-1) (hr _ (List.getElem_mem hi)).1 (hr _ (List.getElem_mem hi)).2
    have h2 := len_ok (n := (((l.map negR).take i).mapIdx (rZ fun i => [i, 0, 1])).length + 1) 48 (by simp; omega) (by omega)
    have h3 : ((l.map negR).take i).mapIdx (rZ fun i => [i, 0, 1]) ++ [[.s l[i].name, .i .i64 l[i].bag.w, .sl (.tok [i, 0, 1]) (cnEs [i, 0, 1] 0 ((timesBag ⟨l[i].bag.w, l[i].bag.rows⟩ (-1)).rows.map cC))]] = ((l.map negR).take (i + 1)).mapIdx (rZ fun i => [i, 0, 1]) := by
      have := take_snocI (rZ fun i => [i, 0, 1]) (l := l.map negR) (i := i) (by simpa using hi)
      rw [← this]
      simp [rZ, negR]
    clear hl hr H hcan
    repeat' (first | with_reducible refine br_split (fun _ => ?_) (fun _ => ?_) | simp only [*, push_cast, Array.reduceGetElem?, Nat.reduceBEq, Nat.reduceLT, Nat.reduceAdd, Nat.reduceSub, Nat.reduceLeDiff, Nat.reduceMul, Nat.reduceEqDiff, reduceCtorEq, Int.reduceAdd, Int.reduceLT, Int.reduceLE, Int.reduceToNat, Int.reduceNeg, Int.reduceSub, Int.reduceBEq, Int.reduceBNe, Int.reduceNe, Int.reduceGT, Int.reduceGE, Nat.reduceGT] | (rw [drawC_ok]; rotate_left; decide +kernel; exact cfg_mixed))
  case last =>
    have hl := H.out.1
    have hf : (l.map negR).take l.length = l.map negR := by rw [List.take_of_length_le]; simp
    clear H
    repeat' (first | with_reducible refine br_split (fun _ => ?_) (fun _ => ?_) | simp only [*, push_cast, Array.reduceGetElem?, Nat.reduceBEq, Nat.reduceLT, Nat.reduceAdd, Nat.reduceSub, Nat.reduceLeDiff, Nat.reduceMul, Nat.reduceEqDiff, reduceCtorEq, Int.reduceAdd, Int.reduceLT, Int.reduceLE, Int.reduceToNat, Int.reduceNeg, Int.reduceSub, Int.reduceBEq, Int.reduceBNe, Int.reduceNe, Int.reduceGT, Int.reduceGE, Nat.reduceGT] | (rw [drawC_ok]; rotate_left; decide +kernel; exact cfg_mixed))
  clear H
  repeat' (first | with_reducible refine br_split (fun _ => ?_) (fun _ => ?_) | simp only [*, push_cast, Array.reduceGetElem?, Nat.reduceBEq, Nat.reduceLT, Nat.reduceAdd, Nat.reduceSub, Nat.reduceLeDiff, Nat.reduceMul, Nat.reduceEqDiff, reduceCtorEq, Int.reduceAdd, Int.reduceLT, Int.reduceLE, Int.reduceToNat, Int.reduceNeg, Int.reduceSub, Int.reduceBEq, Int.reduceBNe, Int.reduceNe, Int.reduceGT, Int.reduceGE, Nat.reduceGT] | (rw [drawC_ok]; rotate_left; decide +kernel; exact cfg_mixed))
end Go.Av
end

section
namespace Go.Av
open Go.Proofs Go.RowKit
set_option linter.unusedVariables false
theorem raw_RelS (w : World) (B off len cap : Nat) (hlen : len ≤ 1099511627776) (k : Int) (I : Nat → Int → World → Prop) (h0 : I 0 k w)
   (hc : ∀ j kk w, j < len → I j kk w → Calls Try.prog 58 #[.int .i64 kk] w fun e w' => ∃ s u0 u1 vr, e = .returned (.string s) ∧ w'.cell? ⟨B, off + j * 3, none⟩ = some u0 ∧ w'.frozen? ⟨B, off + j * 3, none⟩ = false ∧
      (w'.setCell ⟨B, off + j * 3, none⟩ (.string s)).cell? ⟨B, off + j * 3 + 1, none⟩ = some u1 ∧ (w'.setCell ⟨B, off + j * 3, none⟩ (.string s)).frozen? ⟨B, off + j * 3 + 1, none⟩ = false ∧
      ((w'.setCell ⟨B, off + j * 3, none⟩ (.string s)).setCell ⟨B, off + j * 3 + 1, none⟩ (.int .i64 (wrap64 (kk + 1)))).cell? ⟨B, off + j * 3 + 2, none⟩ = some vr ∧
      Calls Try.prog 53 #[vr, .int .i64 (wrap64 (wrap64 (kk + 1) + 1))] ((w'.setCell ⟨B, off + j * 3, none⟩ (.string s)).setCell ⟨B, off + j * 3 + 1, none⟩ (.int .i64 (wrap64 (kk + 1)))) fun e w3 => ∃ k', e = .returned (.int .i64 k') ∧ I (j + 1) k' w3) :
   Calls Try.prog 20 #[.slice (some ⟨B, off, none⟩) len cap, .int .i64 k] w fun e w' => ∃ k', e = .returned (.int .i64 k') ∧ I len k' w' := by
  go_enter Try.func20, Try.ntmps20
  go_wp2
  go_loopw [1, 5] (fun kv i wr => ∃ (j : Nat) (kk : Int), j ≤ len ∧ i = .int .i64 j ∧ kv = .int .i64 kk ∧ I j kk wr) (fun _ i _ => len - (intOf i).toNat)
  case atStart => exact ⟨0, k, Nat.zero_le _, rfl, rfl, h0⟩
  case round =>
    obtain ⟨j, kk, hj, rfl, rfl, hi⟩ := hrel
    rcases Nat.lt_or_ge j len with hjl | hjl
    · have h1 := hc j kk wr hjl hi
      clear hc hi h0
      go_wp2_with (first | (go_at_call 58; refine h1.mono ?_; rintro e w' ⟨s, u0, u1, vr, rfl, h2, h3, h4, h5, h6, h7⟩) | (go_at_call 53; refine h7.mono ?_; rintro e w3 ⟨k', rfl, h8⟩))
      refine ⟨⟨j + 1, _, hjl, by first | rfl | simp, rfl, h8⟩, by simp only [intOf]; omega⟩
    · obtain rfl : j = len := by omega
      clear hc h0
      go_wp2
      go_ret
      exact ⟨kk, rfl, hi⟩
theorem raw_nil3 (w : World) (a : Option Addr) (cap : Nat) (k : Int) : Calls Try.prog 20 #[.slice a 0 cap, .int .i64 k] w fun e w' => e = .returned (.int .i64 k) ∧ w' = w := by
  go_enter Try.func20, Try.ntmps20
  go_wp2
  go_loopw [1, 5] (fun kv i wr => i = .int .i64 0 ∧ kv = .int .i64 k ∧ wr = w) (fun _ i _ => 0)
  case atStart => exact ⟨rfl, rfl, rfl⟩
  case round =>
    obtain ⟨rfl, rfl, rfl⟩ := hrel
    go_wp2
    go_ret
    exact ⟨rfl, rfl⟩
end Go.Av
end

section
namespace Go.Av
open Go.Proofs Go.RowKit
set_option linter.unusedVariables false
theorem mok_RelS {mt : Int → ByteArray} (ht : TxtOk mt) : MOk mt Try.prog 20 fun es => ∃ l : List R, es = l.map rC ∧ l.length ≤ 1099511627776 ∧ ∀ r ∈ l, r.bag.rows.length ≤ 1099511627776 ∧ ∀ c ∈ r.bag.rows, c.row.length ≤ 1099511627776 := by
  intro w S p es v k hp hn hlt hnm ⟨l, hes, hll, hlr⟩ hr
  by_cases he : es = []
  · subst he
    have hv : ∃ a cap, v = .slice a 0 cap := by
      cases hr with
      | nil _ a cap => exact ⟨a, cap, rfl⟩
      | sl _ _ B off m cap vs => exact ⟨_, _, rfl⟩
    obtain ⟨a, cap, rfl⟩ := hv
    refine (raw_nil3 w a cap k).mono ?_
    rintro e w' ⟨rfl, rfl⟩
    exact ⟨rfl, hr, .refl hn⟩
  · obtain ⟨B, off, m, cap, vs0, rfl, hcap, h0, row⟩ := Row.of he hr
    have hel : es.length = l.length := by rw [hes]; simp
    have hpos : 0 < es.length := List.length_pos_iff.2 he
    obtain rfl : m = 3 := by
      have := row.hm 0 hpos
      rw [← this]
      simp [hes, rC]
    refine (raw_RelS w B off es.length cap (by omega) k (fun j kk wr => ∃ vs, Row wr S p B off 3 (mkUp mt es k j) vs ∧ kk = mkK mt es k j ∧ Mv p w S wr) ⟨vs0, by rw [mkUp_zero]; exact row, rfl, .refl hn⟩ ?_).mono ?_
    · rintro j kk wr hj ⟨vs, row, rfl, hmv⟩
      have hn1 := hmv.nmd hn
      have hlt1 : ∀ b x, S b x → b < wr.heap.size := fun b x h => Nat.lt_of_lt_of_le (hlt b x h) hmv.size
      have hul : j < (mkUp mt es k j).length := by rw [mkUp_len]; exact hj
      have hes' : es[j] = [.s l[j].name, .i .i64 l[j].bag.w, .sl .any (l[j].bag.rows.map cC)] := by simp [hes, rC]
      have hE : (mkUp mt es k j)[j] = [.s l[j].name, .i .i64 l[j].bag.w, .sl .any (l[j].bag.rows.map cC)] := by rw [mkUp_get hj, hes']
      generalize hkk : mkK mt es k j = kk
      refine (ht _ _).mono ?_
      rintro e w' ⟨rfl, hb⟩
      have r1 := row.below hlt1 hb
      have m1 : Mv p _ S w' := Mv.below hn1 hlt1 hnm hb
      have hn2 := m1.nmd hn1
      obtain ⟨a1, a2, r2, m2⟩ := r1.store (t' := .s (mt kk)) (v' := .string (mt kk)) hn2 hp hul (c := 0) (by omega) (fun w q => .s _)
      have hn3 := m2.nmd hn2
      obtain ⟨b1, b2, r3, m3⟩ := r2.store (t' := .i .i64 (wrap64 (kk + 1))) (v' := .int .i64 (wrap64 (kk + 1))) hn3 hp (i := j) (by simpa using hul) (c := 1) (by omega) (fun w q => .i _ _)
      have hn4 := m3.nmd hn3
      have mm := ((hmv.trans m1 (List.prefix_refl _)).trans m2 (List.prefix_refl _)).trans m3 (List.prefix_refl _)
      have hlt4 : ∀ b x, S b x → b < ((w'.setCell ⟨B, off + j * 3 + 0, none⟩ (.string (mt kk))).setCell ⟨B, off + j * 3 + 1, none⟩ (.int .i64 (wrap64 (kk + 1)))).heap.size := fun b x h => Nat.lt_of_lt_of_le (hlt b x h) mm.size
      simp only [List.getElem_set_self, List.set_set, hE, List.set_cons_zero, List.set_cons_succ] at r3
      have hul3 : j < ((mkUp mt es k j).set j [.s (mt kk), .i .i64 (wrap64 (kk + 1)), .sl .any (l[j].bag.rows.map cC)]).length := by simpa using hul
      have hrow := r3.rep j 2 hul3 (by simp)
      have hg : ((mkUp mt es k j).set j [.s (mt kk), .i .i64 (wrap64 (kk + 1)), .sl .any (l[j].bag.rows.map cC)])[j][2]'(by simp) = .sl .any (l[j].bag.rows.map cC) := by simp
      rw [hg] at hrow
      have hcell := r3.cell j 2 hul3 (by omega)
      refine ⟨_, _, _, _, rfl, a1, a2, b1, b2, hcell, ?_⟩
      have hsub := mok_CountedS ht _ S (p ++ [j] ++ [2]) (l[j].bag.rows.map cC) _ (wrap64 (wrap64 (kk + 1) + 1)) (by simp) hn4 hlt4 hnm ⟨_, rfl, (hlr _ (List.getElem_mem _)).1, (hlr _ (List.getElem_mem _)).2⟩ hrow
      refine hsub.mono ?_
      rintro e w3 ⟨rfl, hr3, m4⟩
      have r4 := r3.sub hn4 hp hul3 (c := 2) (by omega) (t' := .sl .any (mkEs mt (l[j].bag.rows.map cC) (wrap64 (wrap64 (kk + 1) + 1))).1) m4 hlt4 hnm hr3
      have hfin : mkUp mt es k (j + 1) = (mkUp mt es k j).set j [.s (mt kk), .i .i64 (wrap64 (kk + 1)), .sl .any (mkEs mt (l[j].bag.rows.map cC) (wrap64 (wrap64 (kk + 1) + 1))).1] := by
        rw [← mkUp_succ hj, hkk, hes']
        simp only [mkCs, mkT, wrap64_eq]
      simp only [List.getElem_set_self, List.set_set, List.set_cons_zero, List.set_cons_succ] at r4
      rw [← hfin] at r4
      exact ⟨_, rfl, _, r4, by rw [mkK_succ hj, hkk, hes']; simp only [mkCs, mkT, wrap64_eq], mm.trans m4 ((List.prefix_append p [j]).trans (List.prefix_append _ _))⟩
    · rintro e w' ⟨k', rfl, vs, row', rfl, hmv⟩
      rw [mkK_all]
      refine ⟨rfl, ?_, hmv⟩
      rw [mkUp_all] at row'
      have := row'.to (cap := cap) h0 (by rw [mkEs_len]; exact hcap)
      rwa [mkEs_len] at this
end Go.Av
end

section
namespace Go.Av
open Go.Proofs Go.RowKit
set_option linter.unusedSimpArgs false
set_option linter.unusedVariables false
theorem ev_heldRelS (L : List R) (k : Int) (hl : L.length ≤ 1099511627776) (hr : ∀ r ∈ L, r.bag.rows.length ≤ 1099511627776 ∧ ∀ c ∈ r.bag.rows, c.row.length ≤ 1099511627776) (h : MkdR mtOf L k) :
    evF cfg 21 [] [.d (.sl .any (L.map rC)), .d (.i .i64 k)] = some (.d (.i .i64 (rAt L k L.length)), []) := by
  have H := Hd.mk (And.intro hl (And.intro hr h))
  clear hl h hr
  (refine (evF_codeZ (C := cfg) (g := 21) (fn := Try.f21) rfl Try.func21 rfl (by rw [Try.ntmps21]; simp) (by kernel_rfl)).trans ?_; rw [Try.results21, Try.ntmps21])
  repeat' (first | with_reducible refine br_split (fun _ => ?_) (fun _ => ?_) | simp only [*, push_cast, Array.reduceGetElem?, Nat.reduceBEq, Nat.reduceLT, Nat.reduceAdd, Nat.reduceSub, Nat.reduceLeDiff, Nat.reduceMul, Nat.reduceEqDiff, reduceCtorEq, Int.reduceAdd, Int.reduceLT, Int.reduceLE, Int.reduceToNat, Int.reduceNeg, Int.reduceSub, Int.reduceBEq, Int.reduceBNe, Int.reduceNe, Int.reduceGT, Int.reduceGE, Nat.reduceGT] | (rw [drawC_ok]; rotate_left; decide +kernel; exact cfg_mixed))
  rw [show ({ t := [(0, .d (.sl .any (L.map rC))), (1, .d (.i .i64 k)), (5, .d (.i .i64 0))], o := [], ks := [], n := 0, sz := 43, u := noU, g := some (0, false) } : St) = { t := [(0, .d (.sl .any (L.map rC))), (1, .d (.i .i64 (rAt L k 0))), (5, .d (.i .i64 0))], o := [], ks := [], n := 0, sz := 43, u := noU, g := some (0, false) } from by rw [rAt_zero]]
  rw [evM_for0 L.length (fun i j => { t := [(0, .d (.sl .any (L.map rC))), (1, .d (.i .i64 (rAt L k i))), (5, .d (.i .i64 j))], o := [], ks := [], n := 0, sz := 43, u := noU, g := some (0, false) }) (fun i => some (.exit 0, { t := [(1, .d (.i .i64 (rAt L k L.length)))], o := [], ks := [], n := 0, sz := 43, u := noU, g := some (0, false) })) ?step ?last]
  case step =>
    intro i hi ih
    obtain ⟨hl, hr, h⟩ := H.out
    have d1 := dec_lt hi
    have d2 := dec_ltN hi
    have g1 : (L.map rC)[i]? = some [.s (mtOf (rAt L k i)), .i .i64 (w6 (rAt L k i + 1)), .sl .any (L[i].bag.rows.map cC)] := by
      rw [List.getElem?_map, List.getElem?_eq_getElem hi]
      show some [T.s L[i].name, .i .i64 L[i].bag.w, .sl .any (L[i].bag.rows.map cC)] = _
      rw [h.name i hi, h.w i hi]
    have w1 : IntKind.i64.wrap ((i : Int) + 1) = (i : Int) + 1 := wrap_succ (by omega)
    have e1 : (w6 (rAt L k i + 1) != w6 (rAt L k i + 1)) = false := bne_self_eq_false _
    have m0 := ev_markText (rAt L k i)
    have m1 := ev_heldCountedS L[i].bag.rows (kR (rAt L k i)) (hr _ (List.getElem_mem hi)).1 (hr _ (List.getElem_mem hi)).2 (h.rows i hi)
    rw [show kR (rAt L k i) = w6 (w6 (rAt L k i + 1) + 1) from rfl] at m1
    have d3 : decide (qAt L[i].bag.rows (w6 (w6 (rAt L k i + 1) + 1)) L[i].bag.rows.length < 0) = false := decide_eq_false (by have := h.pos i hi; unfold kR at this; omega)
    rw [rAt_succ hi, show kR (rAt L k i) = w6 (w6 (rAt L k i + 1) + 1) from rfl] at ih
    clear hl hr h H
    repeat' (first | with_reducible refine br_split (fun _ => ?_) (fun _ => ?_) | simp only [*, push_cast, Array.reduceGetElem?, Nat.reduceBEq, Nat.reduceLT, Nat.reduceAdd, Nat.reduceSub, Nat.reduceLeDiff, Nat.reduceMul, Nat.reduceEqDiff, reduceCtorEq, Int.reduceAdd, Int.reduceLT, Int.reduceLE, Int.reduceToNat, Int.reduceNeg, Int.reduceSub, Int.reduceBEq, Int.reduceBNe, Int.reduceNe, Int.reduceGT, Int.reduceGE, Nat.reduceGT] | (rw [drawC_ok]; rotate_left; decide +kernel; exact cfg_mixed))
  case last =>
    clear H
    repeat' (first | with_reducible refine br_split (fun _ => ?_) (fun _ => ?_) | simp only [*, push_cast, Array.reduceGetElem?, Nat.reduceBEq, Nat.reduceLT, Nat.reduceAdd, Nat.reduceSub, Nat.reduceLeDiff, Nat.reduceMul, Nat.reduceEqDiff, reduceCtorEq, Int.reduceAdd, Int.reduceLT, Int.reduceLE, Int.reduceToNat, Int.reduceNeg, Int.reduceSub, Int.reduceBEq, Int.reduceBNe, Int.reduceNe, Int.reduceGT, Int.reduceGE, Nat.reduceGT] | (rw [drawC_ok]; rotate_left; decide +kernel; exact cfg_mixed))
  repeat' (first | with_reducible refine br_split (fun _ => ?_) (fun _ => ?_) | simp only [*, push_cast, Array.reduceGetElem?, Nat.reduceBEq, Nat.reduceLT, Nat.reduceAdd, Nat.reduceSub, Nat.reduceLeDiff, Nat.reduceMul, Nat.reduceEqDiff, reduceCtorEq, Int.reduceAdd, Int.reduceLT, Int.reduceLE, Int.reduceToNat, Int.reduceNeg, Int.reduceSub, Int.reduceBEq, Int.reduceBNe, Int.reduceNe, Int.reduceGT, Int.reduceGE, Nat.reduceGT] | (rw [drawC_ok]; rotate_left; decide +kernel; exact cfg_mixed))
end Go.Av
end

section
namespace Go.Av
open Go.Proofs Go.RowKit
set_option linter.unusedSimpArgs false
set_option linter.unusedVariables false
attribute [local instance] noKn

/-- What the size of relations bounds. -/
def SmR (l : List R) : Prop := l.length ≤ 1048576 ∧ ∀ r ∈ l, r.bag.rows.length ≤ 1048576 ∧ ∀ c ∈ r.bag.rows, c.row.length ≤ 1048576
theorem szRs_all {l : List R} (h : szRs l ≤ 1048576) : SmR l := by
  obtain ⟨h1, h2⟩ := szRs_mem h
  refine ⟨h1, fun r hr => ?_⟩
  have := h2 r hr
  simp only [szR] at this
  exact szB_all (wt := r.bag.w) (by simp only [szB] at this ⊢; omega)
theorem SmR.neg {l : List R} (h : SmR l) : SmR (l.map negR) := by
  refine ⟨by simpa using h.1, fun r hr => ?_⟩
  obtain ⟨x, hx, rfl⟩ := List.mem_map.1 hr
  exact timesBag_small (wt := x.bag.w) (-1) (h.2 x hx).1 (h.2 x hx).2
theorem neg_lim {l : List R} (h : (T.sl .any (l.map rC)).lim) : (T.sl .any ((l.map negR).map rC)).lim := by
  simp only [T.lim, List.length_map, limEs_map] at h ⊢
  refine ⟨h.1, fun r hr => ?_⟩
  obtain ⟨x, hx, rfl⟩ := List.mem_map.1 hr
  have h2 := h.2 x hx
  simp only [rC, limCs] at h2
  have := bC_lim (wt := x.bag.w) (rows := x.bag.rows) (-1) (by simp only [bC, limCs]; exact ⟨trivial, h2.2.2.1, trivial⟩)
  simp only [bC, limCs] at this
  simp only [rC, limCs, negR]
  exact ⟨h2.1, trivial, this.2.1, trivial⟩
theorem cellsR_small {l : List R} (h : SmR l) : (1 : Int) + cellsR l ≤ 9223372036854775807 := by
  have h1 : ∀ r ∈ l, cellsC r.bag.rows ≤ 1048576 * (3 * 1048576 + 1) := fun r hr => by
    have := cellsC_le (h.2 r hr).2
    exact Nat.le_trans this (Nat.mul_le_mul_right _ (h.2 r hr).1)
  have := cellsR_le h1
  have h3 : l.length * (1048576 * (3 * 1048576 + 1) + 2) ≤ 1048576 * (1048576 * (3 * 1048576 + 1) + 2) := Nat.mul_le_mul_right _ h.1
  omega
theorem rAt_pos {l : List R} (h : SmR l) : 0 ≤ rAt l 1 l.length := by
  rw [rAt_in l 1 (by omega) (cellsR_small h)]; omega
theorem mcall_RelS {p : Tok} (hp : p ≠ []) {l : List R} (h : SmR l) :
    MCall Try.prog 20 p (.sl (.tok p) (cnEs p 0 (l.map rC))) (.sl (.tok p) (cnEs p 0 ((markRs mtOf l 1).map rC))) [.d (.sl (.tok p) (cnEs p 0 (l.map rC))), .d (.i .i64 1)] (rAt l 1 l.length) := by
  intro w S β vs hn hlt hnm hl hrv
  have h0 := hrv 0 (by simp) (by rw [← hl]; simp)
  have h1 := hrv 1 (by simp) (by rw [← hl]; simp)
  obtain ⟨v0, v1, rfl⟩ := two_of (vs := vs) (by rw [← hl]; rfl)
  simp only [List.getElem_cons_zero, List.getElem_cons_succ, List.getElem_toArray] at h0 h1
  cases h1 with | d h1 => cases h1 with | i =>
  cases h0 with | d h0 =>
  refine (mok_RelS txtOk w S p (l.map rC) v0 1 hp hn hlt hnm ⟨l, rfl, by have := h.1; omega, fun r hr => ⟨by have := (h.2 r hr).1; omega, fun c hc => by have := (h.2 r hr).2 c hc; omega⟩⟩ h0).mono ?_
  rintro e w' ⟨rfl, h2, h3⟩
  have h4 := root_all hn hp (mkEs_len _ _ _) h0 h2
  simp only [mkEs_rC] at h4
  exact ⟨by rw [mkEs_rC], h3, h4⟩
theorem ev_heldRelSP {l : List R} (h : SmR l) :
    evF cfg 21 [] [.d (.sl .any ((markRs mtOf l 1).map rC)), .d (.i .i64 1)] = some (.d (.i .i64 (rAt l 1 l.length)), []) := by
  have := ev_heldRelS (markRs mtOf l 1) 1 (by rw [markRs_len]; have := h.1; omega) (fun r hr => by
    obtain ⟨i, hi, rfl⟩ := List.mem_iff_getElem.1 hr
    have hi' : i < l.length := by rwa [markRs_len] at hi
    obtain ⟨k', hk⟩ := markRs_rows mtOf l 1 i hi' hi
    obtain ⟨g1, g2⟩ := h.2 _ (List.getElem_mem hi')
    rw [hk]
    refine ⟨by rw [markCs_len]; omega, fun c hc => ?_⟩
    obtain ⟨j, hj, rfl⟩ := List.mem_iff_getElem.1 hc
    have hj' : j < l[i].bag.rows.length := by rwa [markCs_len] at hj
    rw [markCs_row mtOf _ _ j hj' hj]
    have := g2 _ (List.getElem_mem hj')
    omega) (markRs_mkd mtOf l 1 (by omega) (cellsR_small h))
  rwa [rAt_mark, markRs_len] at this
theorem plain_markRelS : Plainly cfg.P 20 := ⟨_, Try.func20, rfl, by kernel_rfl⟩
theorem er_ageR (l : List R) : annEs .any (annEs (.tok []) (l.map rC)) = l.map rC := by
  rw [annEs_annEs, er_rC]
theorem law_Negate {w : World} {l : List R} {vs : Array Value} (hlim : (T.sl .any (l.map rC)).lim)
    (hl : 1 = vs.size) (hrv : ∀ i (hi : i < 1) (hj : i < vs.size), RV Try.prog w (inHeap w) noPl ([TV.d (.sl .any (l.map rC))][i]) vs[i]) :
    Calls Try.prog 4 vs w fun e w' => e = .returned (.bool true) ∧ Go.RowKit.Below w.heap.size w w' := by
  refine law_true (fn := Try.f4) (args := [TV.d (.sl .any (l.map rC))]) (t := 2) Try.func4 rfl (by rw [Try.ntmps4]; simp) Try.results4 (fun b o v h => h.elim) hl hrv (by simp [okL, TV.ok]) ?_
  rw [Try.ntmps4]
  intro Q hQ
  have hsz := ev_szRelS l 1048576 (by omega) (by omega) hlim
  simp only [initL, argT]
  by_cases hb : (1048576 : Int) - (szRs l : Nat) < 0
  · have h1 : left1 1048576 (szRs l) = -1 := left1_neg hb
    have hd : decide ((-1 : Int) < 0) = true := rfl
    have HQ := Hd.mk hQ
    clear hb hrv hl hlim hQ
    apply Wp.last (C := cfg) (g := 4) cfg_hE cfg_hO
    · repeat' (first | with_reducible refine br_split (fun _ => ?_) (fun _ => ?_) | simp only [*, push_cast, Array.reduceGetElem?, Nat.reduceBEq, Nat.reduceLT, Nat.reduceAdd, Nat.reduceSub, Nat.reduceLeDiff, Nat.reduceMul, Nat.reduceEqDiff, reduceCtorEq, Int.reduceAdd, Int.reduceLT, Int.reduceLE, Int.reduceToNat, Int.reduceNeg, Int.reduceSub, Int.reduceBEq, Int.reduceBNe, Int.reduceNe, Int.reduceGT, Int.reduceGE, Nat.reduceGT] | (rw [drawC_ok]; rotate_left; decide +kernel; exact cfg_mixed))
      rfl
    · exact HQ.out _ rfl
  · have h1 : left1 1048576 (szRs l) = 1048576 - (szRs l : Nat) := left1_pos hb
    have hd : decide ((1048576 : Int) - (szRs l : Nat) < 0) = false := decide_eq_false hb
    have hle : szRs l ≤ 1048576 := by omega
    have HQ := Hd.mk hQ
    have c1 := szRs_all hle
    have m1 := c1.neg
    have hto := ev_toRelS l hle
    have hsp := ev_sNegate l c1.1 c1.2
    have him := ev_Negate l c1.1 c1.2
    have m3 := neg_lim hlim
    have hmk1 := mcall_RelS (p := [1, 0]) (by simp) c1
    have k1 := rAt_pos c1
    generalize hN : l.map negR = N at *
    have hq1 := ev_eqRelS N N m3
    have hq2 := ev_eqRelS l l hlim
    have hd1 : decide (N = N) = true := decide_eq_true rfl
    have hd2 : decide (l = l) = true := decide_eq_true rfl
    have hmk2 := mcall_RelS (p := [2, 0]) (by simp) m1
    have k2 := rAt_pos m1
    have hhe := ev_heldRelSP m1
    generalize hK1 : rAt l 1 l.length = K1 at *
    generalize hK2 : rAt N 1 N.length = K2 at *
    have hkk1 : decide (K1 < 0) = false := decide_eq_false (by omega)
    have hkk2 : decide (K2 < 0) = false := decide_eq_false (by omega)
    have hkn : (K2 != K2) = false := bne_self_eq_false _
    have er1 := er_ageR l
    have er2 := er_ageR N
    clear hb hQ hrv hl hlim hle
    clear c1 m1 m3 k1 k2 hK1 hK2 hN
    iterate 5
      apply Wp.seq (C := cfg) (g := 4) cfg_hE cfg_hO
      · repeat' (first | with_reducible refine br_split (fun _ => ?_) (fun _ => ?_) | simp only [*, push_cast, Array.reduceGetElem?, Nat.reduceBEq, Nat.reduceLT, Nat.reduceAdd, Nat.reduceSub, Nat.reduceLeDiff, Nat.reduceMul, Nat.reduceEqDiff, reduceCtorEq, Int.reduceAdd, Int.reduceLT, Int.reduceLE, Int.reduceToNat, Int.reduceNeg, Int.reduceSub, Int.reduceBEq, Int.reduceBNe, Int.reduceNe, Int.reduceGT, Int.reduceGE, Nat.reduceGT] | (rw [drawC_ok]; rotate_left; decide +kernel; exact cfg_mixed))
        rfl
    apply Wp.age (n := 1) rfl rfl
    simp only [ageSt, ageT, ageO, ageTV, ageL, T.ann]
    iterate 5
      apply Wp.seq (C := cfg) (g := 4) cfg_hE cfg_hO
      · repeat' (first | with_reducible refine br_split (fun _ => ?_) (fun _ => ?_) | simp only [*, push_cast, Array.reduceGetElem?, Nat.reduceBEq, Nat.reduceLT, Nat.reduceAdd, Nat.reduceSub, Nat.reduceLeDiff, Nat.reduceMul, Nat.reduceEqDiff, reduceCtorEq, Int.reduceAdd, Int.reduceLT, Int.reduceLE, Int.reduceToNat, Int.reduceNeg, Int.reduceSub, Int.reduceBEq, Int.reduceBNe, Int.reduceNe, Int.reduceGT, Int.reduceGE, Nat.reduceGT] | (rw [drawC_ok]; rotate_left; decide +kernel; exact cfg_mixed))
        rfl
    apply Wp.mark4 (C := cfg) (n := (6, true)) (p := [1, 0]) (f := 20) (k := K1) (t0 := .sl (.tok [1, 0]) (cnEs [1, 0] 0 (l.map rC))) (t1 := .sl (.tok [1, 0]) (cnEs [1, 0] 0 ((markRs mtOf l 1).map rC)))
      (args := [.d (.sl (.tok [1, 0]) (cnEs [1, 0] 0 (l.map rC))), .d (.i .i64 1)])
      (tm := [(6, .d (.sl (.tok [2, 0]) (cnEs [2, 0] 0 (N.map rC)))), (4, .d (.sl (.tok []) (annEs (.tok []) (N.map rC)))), (2, .d (.b false)), (0, .d (.sl (.tok []) (annEs (.tok []) (l.map rC))))])
      (ob := []) cfg_hE cfg_hO (fun _ _ _ h => h)
    case e1 => repeat' (first | with_reducible refine br_split (fun _ => ?_) (fun _ => ?_) | simp only [*, push_cast, Array.reduceGetElem?, Nat.reduceBEq, Nat.reduceLT, Nat.reduceAdd, Nat.reduceSub, Nat.reduceLeDiff, Nat.reduceMul, Nat.reduceEqDiff, reduceCtorEq, Int.reduceAdd, Int.reduceLT, Int.reduceLE, Int.reduceToNat, Int.reduceNeg, Int.reduceSub, Int.reduceBEq, Int.reduceBNe, Int.reduceNe, Int.reduceGT, Int.reduceGE, Nat.reduceGT] | (rw [drawC_ok]; rotate_left; decide +kernel; exact cfg_mixed)); rfl
    case hg => rfl
    case hp => simp
    case hgd => rfl
    case ho => rfl
    case hf => rfl
    case hpl => exact plain_markRelS
    case hargs => rfl
    case hc => exact hmk1
    case h1 => exact .cons rfl (.keep (SafeT.sl (by decide) _)) (.cons rfl (.keep (SafeT.age _)) (.cons rfl (.leaf rfl) (.cons rfl (.keep (SafeT.age _)) .nil)))
    case h2 => exact .nil
    case hput => rfl
    case e2 => repeat' (first | with_reducible refine br_split (fun _ => ?_) (fun _ => ?_) | simp only [*, push_cast, Array.reduceGetElem?, Nat.reduceBEq, Nat.reduceLT, Nat.reduceAdd, Nat.reduceSub, Nat.reduceLeDiff, Nat.reduceMul, Nat.reduceEqDiff, reduceCtorEq, Int.reduceAdd, Int.reduceLT, Int.reduceLE, Int.reduceToNat, Int.reduceNeg, Int.reduceSub, Int.reduceBEq, Int.reduceBNe, Int.reduceNe, Int.reduceGT, Int.reduceGE, Nat.reduceGT] | (rw [drawC_ok]; rotate_left; decide +kernel; exact cfg_mixed)); rfl
    iterate 2
      apply Wp.seq (C := cfg) (g := 4) cfg_hE cfg_hO
      · repeat' (first | with_reducible refine br_split (fun _ => ?_) (fun _ => ?_) | simp only [*, push_cast, Array.reduceGetElem?, Nat.reduceBEq, Nat.reduceLT, Nat.reduceAdd, Nat.reduceSub, Nat.reduceLeDiff, Nat.reduceMul, Nat.reduceEqDiff, reduceCtorEq, Int.reduceAdd, Int.reduceLT, Int.reduceLE, Int.reduceToNat, Int.reduceNeg, Int.reduceSub, Int.reduceBEq, Int.reduceBNe, Int.reduceNe, Int.reduceGT, Int.reduceGE, Nat.reduceGT] | (rw [drawC_ok]; rotate_left; decide +kernel; exact cfg_mixed))
        rfl
    apply Wp.mark4 (C := cfg) (n := (7, true)) (p := [2, 0]) (f := 20) (k := K2) (t0 := .sl (.tok [2, 0]) (cnEs [2, 0] 0 (N.map rC))) (t1 := .sl (.tok [2, 0]) (cnEs [2, 0] 0 ((markRs mtOf N 1).map rC)))
      (args := [.d (.sl (.tok [2, 0]) (cnEs [2, 0] 0 (N.map rC))), .d (.i .i64 1)])
      (tm := [(6, .d (.sl (.tok [2, 0]) (cnEs [2, 0] 0 ((markRs mtOf N 1).map rC)))), (4, .d (.sl (.tok []) (annEs (.tok []) (N.map rC)))), (2, .d (.b false)), (0, .d (.sl (.tok []) (annEs (.tok []) (l.map rC))))])
      (ob := []) cfg_hE cfg_hO (fun _ _ _ h => h)
    case e1 => repeat' (first | with_reducible refine br_split (fun _ => ?_) (fun _ => ?_) | simp only [*, push_cast, Array.reduceGetElem?, Nat.reduceBEq, Nat.reduceLT, Nat.reduceAdd, Nat.reduceSub, Nat.reduceLeDiff, Nat.reduceMul, Nat.reduceEqDiff, reduceCtorEq, Int.reduceAdd, Int.reduceLT, Int.reduceLE, Int.reduceToNat, Int.reduceNeg, Int.reduceSub, Int.reduceBEq, Int.reduceBNe, Int.reduceNe, Int.reduceGT, Int.reduceGE, Nat.reduceGT] | (rw [drawC_ok]; rotate_left; decide +kernel; exact cfg_mixed)); rfl
    case hg => rfl
    case hp => simp
    case hgd => rfl
    case ho => rfl
    case hf => rfl
    case hpl => exact plain_markRelS
    case hargs => rfl
    case hc => exact hmk2
    case h1 => exact .cons rfl .root (.cons rfl (.keep (SafeT.age _)) (.cons rfl (.leaf rfl) (.cons rfl (.keep (SafeT.age _)) .nil)))
    case h2 => exact .nil
    case hput => rfl
    case e2 => repeat' (first | with_reducible refine br_split (fun _ => ?_) (fun _ => ?_) | simp only [*, push_cast, Array.reduceGetElem?, Nat.reduceBEq, Nat.reduceLT, Nat.reduceAdd, Nat.reduceSub, Nat.reduceLeDiff, Nat.reduceMul, Nat.reduceEqDiff, reduceCtorEq, Int.reduceAdd, Int.reduceLT, Int.reduceLE, Int.reduceToNat, Int.reduceNeg, Int.reduceSub, Int.reduceBEq, Int.reduceBNe, Int.reduceNe, Int.reduceGT, Int.reduceGE, Nat.reduceGT] | (rw [drawC_ok]; rotate_left; decide +kernel; exact cfg_mixed)); rfl
    apply Wp.last (C := cfg) (g := 4) cfg_hE cfg_hO
    · repeat' (first | with_reducible refine br_split (fun _ => ?_) (fun _ => ?_) | simp only [*, push_cast, Array.reduceGetElem?, Nat.reduceBEq, Nat.reduceLT, Nat.reduceAdd, Nat.reduceSub, Nat.reduceLeDiff, Nat.reduceMul, Nat.reduceEqDiff, reduceCtorEq, Int.reduceAdd, Int.reduceLT, Int.reduceLE, Int.reduceToNat, Int.reduceNeg, Int.reduceSub, Int.reduceBEq, Int.reduceBNe, Int.reduceNe, Int.reduceGT, Int.reduceGE, Nat.reduceGT] | (rw [drawC_ok]; rotate_left; decide +kernel; exact cfg_mixed))
      rfl
    · exact HQ.out _ rfl
end Go.Av
end
