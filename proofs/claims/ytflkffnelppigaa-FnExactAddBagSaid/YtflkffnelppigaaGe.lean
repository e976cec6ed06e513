/- What functions of this seat give. -/
import Derived.Test.YtflkffnelppigaaGd
import Derived.Test.YtflkffnelppigaaGc
import Derived.Test.YtflkffnelppigaaAvE
import Derived.Test.YtflkffnelppigaaAvCfg
set_option linter.all false
set_option linter.unusedVariables false
set_option linter.unusedSimpArgs false

section
namespace Go.Av
open Go.Proofs Go.RowKit
set_option linter.unusedSimpArgs false
set_option linter.unusedVariables false
abbrev noKn : Known := ⟨fun _ _ _ => False⟩
attribute [local instance] noKn

theorem txtOk : TxtOk mtOf := by
  intro w k
  have hs := (evF_sound (C := cfg) cfg_hE cfg_hO (ev_markText k)).2
  refine (hs w (inHeap w) noPl #[.int .i64 k] (fun _ q b h => h) (fun b x h => h) (fun b o v h => h.elim) rfl ?_ (by simp [okL, TV.ok]) (There.mk (fun k ob hk => by cases hk) (fun k k' ob ob' hk => by cases hk) (fun k ob hk => by cases hk))).mono ?_
  · intro i h1 h2
    have : i = 0 := by simpa using h1
    subst this
    exact .d (.i _ _)
  · rintro e w' ⟨r, v, S', β', outs, rfl, ⟨rfl, rfl⟩, hr, _, _, _, _, _, hx⟩
    refine ⟨?_, ⟨hx.below.os, hx.below.tape, hx.below.output, hx.below.size, fun k hk => hx.below.block k hk (by rintro ⟨k', ob, hk', _⟩; cases hk')⟩⟩
    cases hr with
    | d h => cases h; rfl
theorem szB_all {wt : Int} {rows : List C} (h : szB ⟨wt, rows⟩ ≤ 1048576) : rows.length ≤ 1048576 ∧ ∀ c ∈ rows, c.row.length ≤ 1048576 := by
  simp only [szB] at h
  obtain ⟨h1, h2⟩ := szCs_mem (l := rows) (n := 1048576) (by omega)
  exact ⟨h1, fun c hc => (szVs_mem (h2 c hc)).1⟩
theorem timesBag_small {wt : Int} {rows : List C} (n : Int) (h1 : rows.length ≤ 1048576) (h2 : ∀ c ∈ rows, c.row.length ≤ 1048576) : (timesBag ⟨wt, rows⟩ n).rows.length ≤ 1048576 ∧ ∀ c ∈ (timesBag ⟨wt, rows⟩ n).rows, c.row.length ≤ 1048576 := by
  unfold timesBag right
  split
  · split
    · refine ⟨by simpa using h1, fun c hc => ?_⟩
      obtain ⟨d, hd, rfl⟩ := List.mem_map.1 hc
      exact h2 d hd
    · exact ⟨Nat.zero_le _, fun c hc => (by cases hc)⟩
  · exact ⟨Nat.zero_le _, fun c hc => (by cases hc)⟩
theorem bC_lim {wt : Int} {rows : List C} (n : Int) (h : limCs (bC ⟨wt, rows⟩)) : limCs (bC ⟨wt, (timesBag ⟨wt, rows⟩ n).rows⟩) := by
  simp only [bC, limCs, T.lim, limEs_map, List.length_map] at h ⊢
  unfold timesBag right
  split
  · split
    · refine ⟨h.1, ⟨by simpa using h.2.1.1, fun c hc => ?_⟩, trivial⟩
      obtain ⟨d, hd, rfl⟩ := List.mem_map.1 hc
      exact h.2.1.2 d hd
    · exact ⟨h.1, ⟨Nat.zero_le _, fun c hc => (by cases hc)⟩, trivial⟩
  · exact ⟨h.1, ⟨Nat.zero_le _, fun c hc => (by cases hc)⟩, trivial⟩
theorem cells_small {l : List C} (h1 : l.length ≤ 1048576) (h2 : ∀ c ∈ l, c.row.length ≤ 1048576) : (1 : Int) + cellsC l ≤ 9223372036854775807 := by
  have := cellsC_le h2
  have h3 : l.length * (3 * 1048576 + 1) ≤ 1048576 * (3 * 1048576 + 1) := Nat.mul_le_mul_right _ h1
  omega
theorem qAt_pos {l : List C} (h1 : l.length ≤ 1048576) (h2 : ∀ c ∈ l, c.row.length ≤ 1048576) : 0 ≤ qAt l 1 l.length := by
  rw [qAt_in l 1 (by omega) (cells_small h1 h2)]; omega
theorem mcall_BagP {p : Tok} (hp : p ≠ []) {l : List C} (h1 : l.length ≤ 1048576) (h2 : ∀ c ∈ l, c.row.length ≤ 1048576) (wt : Int) :
    MCall Try.prog 13 p (.sl (.tok p) (cnEs p 0 (l.map cC))) (.sl (.tok p) (cnEs p 0 ((markCs mtOf l 1).map cC))) [.agg [.d (.i .i64 wt), .d (.sl (.tok p) (cnEs p 0 (l.map cC)))], .d (.i .i64 1)] (qAt l 1 l.length) := by
  have := mcall_Bag txtOk hp (l := l) (by omega) (fun c hc => by have := h2 c hc; omega) wt 1
  simpa only [mkEs_cC] using this
theorem ev_heldBagP (wt : Int) {l : List C} (h1 : l.length ≤ 1048576) (h2 : ∀ c ∈ l, c.row.length ≤ 1048576) :
    evF cfg 14 [] [.agg [.d (.i .i64 wt), .d (.sl .any ((markCs mtOf l 1).map cC))], .d (.i .i64 1)] = some (.d (.i .i64 (qAt l 1 l.length)), []) := by
  have hp := qAt_pos h1 h2
  have := ev_heldBag wt (markCs mtOf l 1) 1 (by rw [markCs_len]; omega) (fun c hc => by
    obtain ⟨i, hi, rfl⟩ := List.mem_iff_getElem.1 hc
    have hi' : i < l.length := by rwa [markCs_len] at hi
    rw [markCs_row mtOf l 1 i hi' hi]
    have := h2 _ (List.getElem_mem hi')
    omega) (markCs_mkd mtOf l 1 (by omega) (cells_small h1 h2)) (by rw [qAt_mark, markCs_len]; exact hp)
  rwa [qAt_mark, markCs_len] at this
theorem plain_markBag : Plainly cfg.P 13 := ⟨_, Try.func13, rfl, by kernel_rfl⟩
theorem er_age (l : List C) : annEs .any (annEs (.tok []) (l.map cC)) = l.map cC := by
  rw [annEs_annEs, er_cC]
theorem law_TimesBag {w : World} {wt n : Int} {rows : List C} {vs : Array Value} (hlim : limCs (bC ⟨wt, rows⟩))
    (hl : 2 = vs.size) (hrv : ∀ i (hi : i < 2) (hj : i < vs.size), RV Try.prog w (inHeap w) noPl ([TV.agg [.d (.i .i64 wt), .d (.sl .any (rows.map cC))], .d (.i .i64 n)][i]) vs[i]) :
    Calls Try.prog 3 vs w fun e w' => e = .returned (.bool true) ∧ Go.RowKit.Below w.heap.size w w' := by
  refine law_true (fn := Try.f3) (args := [TV.agg [.d (.i .i64 wt), .d (.sl .any (rows.map cC))], .d (.i .i64 n)]) (t := 4) Try.func3 rfl (by rw [Try.ntmps3]; simp) Try.results3 (fun b o v h => h.elim) hl hrv (by simp [okL, TV.ok]) ?_
  rw [Try.ntmps3]
  intro Q hQ
  have hsz := ev_szBag wt rows 1048576 (by omega) (by omega) hlim
  simp only [initL, argT]
  by_cases hb : (1048576 : Int) - (szB ⟨wt, rows⟩ : Nat) < 0
  · have h1 : left1 1048576 (szB ⟨wt, rows⟩) = -1 := left1_neg hb
    have hd : decide ((-1 : Int) < 0) = true := rfl
    have HQ := Hd.mk hQ
    clear hb hrv hl hlim hQ
    apply Wp.last (C := cfg) (g := 3) cfg_hE cfg_hO
    · repeat' (first | with_reducible refine br_split (fun _ => ?_) (fun _ => ?_) | simp only [*, push_cast, Array.reduceGetElem?, Nat.reduceBEq, Nat.reduceLT, Nat.reduceAdd, Nat.reduceSub, Nat.reduceLeDiff, Nat.reduceMul, Nat.reduceEqDiff, reduceCtorEq, Int.reduceAdd, Int.reduceLT, Int.reduceLE, Int.reduceToNat, Int.reduceNeg, Int.reduceSub, Int.reduceBEq, Int.reduceBNe, Int.reduceNe, Int.reduceGT, Int.reduceGE, Nat.reduceGT] | (rw [drawC_ok]; rotate_left; decide +kernel; exact cfg_mixed))
      rfl
    · exact HQ.out _ rfl
  · have h1 : left1 1048576 (szB ⟨wt, rows⟩) = 1048576 - (szB ⟨wt, rows⟩ : Nat) := left1_pos hb
    have hd : decide ((1048576 : Int) - (szB ⟨wt, rows⟩ : Nat) < 0) = false := decide_eq_false hb
    have hle : szB ⟨wt, rows⟩ ≤ 1048576 := by omega
    have HQ := Hd.mk hQ
    obtain ⟨c1, c2⟩ := szB_all hle
    have hto := ev_toBag wt rows hle
    have hsp := ev_sTimesBag wt rows n c1 c2
    have him := ev_TimesBag wt rows n c1 c2
    obtain ⟨m1, m2⟩ := timesBag_small (wt := wt) n c1 c2
    have m3 := bC_lim n hlim
    have hmk1 := mcall_BagP (p := [1, 0, 1]) (by simp) c1 c2 wt
    have k1 := qAt_pos c1 c2
    generalize hM : (timesBag ⟨wt, rows⟩ n).rows = M at *
    have hq1 := ev_eqBag wt M wt M m3
    have hq2 := ev_eqBag wt rows wt rows hlim
    have hd1 : decide ((⟨wt, M⟩ : B) = ⟨wt, M⟩) = true := decide_eq_true rfl
    have hd2 : decide ((⟨wt, rows⟩ : B) = ⟨wt, rows⟩) = true := decide_eq_true rfl
    clear hb hQ hrv hl hlim hle
    have hmk2 := mcall_BagP (p := [2, 0, 1]) (by simp) m1 m2 wt
    have k2 := qAt_pos m1 m2
    have hhe := ev_heldBagP wt m1 m2
    generalize hK1 : qAt rows 1 rows.length = K1 at *
    generalize hK2 : qAt M 1 M.length = K2 at *
    have hkk1 : decide (K1 < 0) = false := decide_eq_false (by omega)
    have hkk2 : decide (K2 < 0) = false := decide_eq_false (by omega)
    have hkn : (K2 != K2) = false := bne_self_eq_false _
    have er1 := er_age rows
    have er2 := er_age M
    clear c1 c2 m1 m2 m3 k1 k2 hK1 hK2
    iterate 5
      apply Wp.seq (C := cfg) (g := 3) cfg_hE cfg_hO
      · repeat' (first | with_reducible refine br_split (fun _ => ?_) (fun _ => ?_) | simp only [*, push_cast, Array.reduceGetElem?, Nat.reduceBEq, Nat.reduceLT, Nat.reduceAdd, Nat.reduceSub, Nat.reduceLeDiff, Nat.reduceMul, Nat.reduceEqDiff, reduceCtorEq, Int.reduceAdd, Int.reduceLT, Int.reduceLE, Int.reduceToNat, Int.reduceNeg, Int.reduceSub, Int.reduceBEq, Int.reduceBNe, Int.reduceNe, Int.reduceGT, Int.reduceGE, Nat.reduceGT] | (rw [drawC_ok]; rotate_left; decide +kernel; exact cfg_mixed))
        rfl
    apply Wp.age (n := 1) rfl rfl
    simp only [ageSt, ageT, ageO, ageTV, ageL, T.ann]
    iterate 5
      apply Wp.seq (C := cfg) (g := 3) cfg_hE cfg_hO
      · repeat' (first | with_reducible refine br_split (fun _ => ?_) (fun _ => ?_) | simp only [*, push_cast, Array.reduceGetElem?, Nat.reduceBEq, Nat.reduceLT, Nat.reduceAdd, Nat.reduceSub, Nat.reduceLeDiff, Nat.reduceMul, Nat.reduceEqDiff, reduceCtorEq, Int.reduceAdd, Int.reduceLT, Int.reduceLE, Int.reduceToNat, Int.reduceNeg, Int.reduceSub, Int.reduceBEq, Int.reduceBNe, Int.reduceNe, Int.reduceGT, Int.reduceGE, Nat.reduceGT] | (rw [drawC_ok]; rotate_left; decide +kernel; exact cfg_mixed))
        rfl
    apply Wp.mark4 (C := cfg) (n := (6, true)) (p := [1, 0, 1]) (f := 13) (k := K1) (t0 := .sl (.tok [1, 0, 1]) (cnEs [1, 0, 1] 0 (rows.map cC))) (t1 := .sl (.tok [1, 0, 1]) (cnEs [1, 0, 1] 0 ((markCs mtOf rows 1).map cC)))
      (args := [.agg [.d (.i .i64 wt), .d (.sl (.tok [1, 0, 1]) (cnEs [1, 0, 1] 0 (rows.map cC)))], .d (.i .i64 1)])
      (tm := [(8, .ptr 108 0), (6, .ptr 106 0), (4, .d (.b false)), (2, .ptr 102 0), (1, .d (.i .i64 n))])
      (ob := [(108, .box [.d (.i .i64 wt), .d (.sl (.tok [2, 0, 1]) (cnEs [2, 0, 1] 0 (M.map cC)))]), (106, .box [.d (.i .i64 wt), .d (.sl (.tok []) (annEs (.tok []) (M.map cC)))]), (102, .box [.d (.i .i64 wt), .d (.sl (.tok []) (annEs (.tok []) (rows.map cC)))])]) cfg_hE cfg_hO (fun _ _ _ h => h)
    case e1 => repeat' (first | with_reducible refine br_split (fun _ => ?_) (fun _ => ?_) | simp only [*, push_cast, Array.reduceGetElem?, Nat.reduceBEq, Nat.reduceLT, Nat.reduceAdd, Nat.reduceSub, Nat.reduceLeDiff, Nat.reduceMul, Nat.reduceEqDiff, reduceCtorEq, Int.reduceAdd, Int.reduceLT, Int.reduceLE, Int.reduceToNat, Int.reduceNeg, Int.reduceSub, Int.reduceBEq, Int.reduceBNe, Int.reduceNe, Int.reduceGT, Int.reduceGE, Nat.reduceGT] | (rw [drawC_ok]; rotate_left; decide +kernel; exact cfg_mixed)); rfl
    case hg => rfl
    case hp => simp
    case hgd => rfl
    case ho => rfl
    case hf => rfl
    case hpl => exact plain_markBag
    case hargs => rfl
    case hc => exact hmk1
    case h1 => exact .cons rfl .ptr (.cons rfl .ptr (.cons rfl (.leaf rfl) (.cons rfl .ptr (.cons rfl (.leaf rfl) .nil))))
    case h2 => exact .cons rfl (.cons (.leaf rfl) (.cons (.keep (SafeT.sl (by decide) _)) .nil)) (.cons rfl (.cons (.leaf rfl) (.cons (.keep (SafeT.age _)) .nil)) (.cons rfl (.cons (.leaf rfl) (.cons (.keep (SafeT.age _)) .nil)) .nil))
    case hput => rfl
    case e2 => repeat' (first | with_reducible refine br_split (fun _ => ?_) (fun _ => ?_) | simp only [*, push_cast, Array.reduceGetElem?, Nat.reduceBEq, Nat.reduceLT, Nat.reduceAdd, Nat.reduceSub, Nat.reduceLeDiff, Nat.reduceMul, Nat.reduceEqDiff, reduceCtorEq, Int.reduceAdd, Int.reduceLT, Int.reduceLE, Int.reduceToNat, Int.reduceNeg, Int.reduceSub, Int.reduceBEq, Int.reduceBNe, Int.reduceNe, Int.reduceGT, Int.reduceGE, Nat.reduceGT] | (rw [drawC_ok]; rotate_left; decide +kernel; exact cfg_mixed)); rfl
    iterate 2
      apply Wp.seq (C := cfg) (g := 3) cfg_hE cfg_hO
      · repeat' (first | with_reducible refine br_split (fun _ => ?_) (fun _ => ?_) | simp only [*, push_cast, Array.reduceGetElem?, Nat.reduceBEq, Nat.reduceLT, Nat.reduceAdd, Nat.reduceSub, Nat.reduceLeDiff, Nat.reduceMul, Nat.reduceEqDiff, reduceCtorEq, Int.reduceAdd, Int.reduceLT, Int.reduceLE, Int.reduceToNat, Int.reduceNeg, Int.reduceSub, Int.reduceBEq, Int.reduceBNe, Int.reduceNe, Int.reduceGT, Int.reduceGE, Nat.reduceGT] | (rw [drawC_ok]; rotate_left; decide +kernel; exact cfg_mixed))
        rfl
    apply Wp.mark4 (C := cfg) (n := (7, true)) (p := [2, 0, 1]) (f := 13) (k := K2) (t0 := .sl (.tok [2, 0, 1]) (cnEs [2, 0, 1] 0 (M.map cC))) (t1 := .sl (.tok [2, 0, 1]) (cnEs [2, 0, 1] 0 ((markCs mtOf M 1).map cC)))
      (args := [.agg [.d (.i .i64 wt), .d (.sl (.tok [2, 0, 1]) (cnEs [2, 0, 1] 0 (M.map cC)))], .d (.i .i64 1)])
      (tm := [(8, .ptr 108 0), (6, .ptr 106 0), (4, .d (.b false)), (2, .ptr 102 0), (1, .d (.i .i64 n))])
      (ob := [(108, .box [.d (.i .i64 wt), .d (.sl (.tok [2, 0, 1]) (cnEs [2, 0, 1] 0 ((markCs mtOf M 1).map cC)))]), (106, .box [.d (.i .i64 wt), .d (.sl (.tok []) (annEs (.tok []) (M.map cC)))]), (102, .box [.d (.i .i64 wt), .d (.sl (.tok []) (annEs (.tok []) (rows.map cC)))])]) cfg_hE cfg_hO (fun _ _ _ h => h)
    case e1 => repeat' (first | with_reducible refine br_split (fun _ => ?_) (fun _ => ?_) | simp only [*, push_cast, Array.reduceGetElem?, Nat.reduceBEq, Nat.reduceLT, Nat.reduceAdd, Nat.reduceSub, Nat.reduceLeDiff, Nat.reduceMul, Nat.reduceEqDiff, reduceCtorEq, Int.reduceAdd, Int.reduceLT, Int.reduceLE, Int.reduceToNat, Int.reduceNeg, Int.reduceSub, Int.reduceBEq, Int.reduceBNe, Int.reduceNe, Int.reduceGT, Int.reduceGE, Nat.reduceGT] | (rw [drawC_ok]; rotate_left; decide +kernel; exact cfg_mixed)); rfl
    case hg => rfl
    case hp => simp
    case hgd => rfl
    case ho => rfl
    case hf => rfl
    case hpl => exact plain_markBag
    case hargs => rfl
    case hc => exact hmk2
    case h1 => exact .cons rfl .ptr (.cons rfl .ptr (.cons rfl (.leaf rfl) (.cons rfl .ptr (.cons rfl (.leaf rfl) .nil))))
    case h2 => exact .cons rfl (.cons (.leaf rfl) (.cons .root .nil)) (.cons rfl (.cons (.leaf rfl) (.cons (.keep (SafeT.age _)) .nil)) (.cons rfl (.cons (.leaf rfl) (.cons (.keep (SafeT.age _)) .nil)) .nil))
    case hput => rfl
    case e2 => repeat' (first | with_reducible refine br_split (fun _ => ?_) (fun _ => ?_) | simp only [*, push_cast, Array.reduceGetElem?, Nat.reduceBEq, Nat.reduceLT, Nat.reduceAdd, Nat.reduceSub, Nat.reduceLeDiff, Nat.reduceMul, Nat.reduceEqDiff, reduceCtorEq, Int.reduceAdd, Int.reduceLT, Int.reduceLE, Int.reduceToNat, Int.reduceNeg, Int.reduceSub, Int.reduceBEq, Int.reduceBNe, Int.reduceNe, Int.reduceGT, Int.reduceGE, Nat.reduceGT] | (rw [drawC_ok]; rotate_left; decide +kernel; exact cfg_mixed)); rfl
    apply Wp.last (C := cfg) (g := 3) cfg_hE cfg_hO
    · repeat' (first | with_reducible refine br_split (fun _ => ?_) (fun _ => ?_) | simp only [*, push_cast, Array.reduceGetElem?, Nat.reduceBEq, Nat.reduceLT, Nat.reduceAdd, Nat.reduceSub, Nat.reduceLeDiff, Nat.reduceMul, Nat.reduceEqDiff, reduceCtorEq, Int.reduceAdd, Int.reduceLT, Int.reduceLE, Int.reduceToNat, Int.reduceNeg, Int.reduceSub, Int.reduceBEq, Int.reduceBNe, Int.reduceNe, Int.reduceGT, Int.reduceGE, Nat.reduceGT] | (rw [drawC_ok]; rotate_left; decide +kernel; exact cfg_mixed))
      rfl
    · exact HQ.out _ rfl
end Go.Av
end

section
namespace Go.Av
theorem Is.lim {t : T} {sh : Sh} (h : Is t sh) : t.lim := by
  induction h with
  | b _ => trivial
  | i _ _ _ => trivial
  | s x h => simp only [T.lim]; omega
  | sl es m h hl hs ih =>
    simp only [T.lim]
    refine ⟨by omega, ?_⟩
    have hcs : ∀ e : List T, (∀ t ∈ e, t.lim) → limCs e := by
      intro e
      induction e with
      | nil => intro _; trivial
      | cons a l ihl => intro h; exact ⟨h a (List.mem_cons_self ..), ihl fun t ht => h t (List.mem_cons_of_mem _ ht)⟩
    have hes : ∀ es : List (List T), (∀ e ∈ es, limCs e) → limEs es := by
      intro es
      induction es with
      | nil => intro _; trivial
      | cons a l ihl => intro h; exact ⟨h a (List.mem_cons_self ..), ihl fun t ht => h t (List.mem_cons_of_mem _ ht)⟩
    refine hes es fun e he => hcs e fun t ht => ?_
    obtain ⟨j, hj⟩ := List.getElem?_of_mem ht
    have hjl : j < m.length := by rw [← hl e he]; exact (List.getElem?_eq_some_iff.1 hj).1
    exact ih e he j t m[j] hj (by rw [List.getElem?_eq_getElem hjl])
theorem is_strs {t : T} (h : Is t (.sl [.s])) : ∃ l : List ByteArray, t = .sl .any (l.map sC) :=
  h.list fun e hl hs => by
    match e, hl with
    | [a], _ =>
      obtain ⟨x, rfl⟩ := (hs 0 a .s rfl rfl).str
      exact ⟨x, rfl⟩
theorem is_schemas {t : T} (h : Is t (.sl [.s, .sl [.s]])) : ∃ l : List Sc, t = .sl .any (l.map scC) :=
  h.list fun e hl hs => by
    match e, hl with
    | [a, b], _ =>
      obtain ⟨x, rfl⟩ := (hs 0 a .s rfl rfl).str
      obtain ⟨y, rfl⟩ := is_strs (hs 1 b _ rfl rfl)
      exact ⟨⟨x, y⟩, rfl⟩
theorem is_values {t : T} (h : Is t (.sl [.i .i64, .i .i64, .s])) : ∃ l : List V, t = .sl .any (l.map vC) :=
  h.list fun e hl hs => by
    match e, hl with
    | [a, b, c], _ =>
      obtain ⟨x, rfl⟩ := (hs 0 a _ rfl rfl).int
      obtain ⟨y, rfl⟩ := (hs 1 b _ rfl rfl).int
      obtain ⟨z, rfl⟩ := (hs 2 c _ rfl rfl).str
      exact ⟨⟨x, y, z⟩, rfl⟩
theorem is_counteds {t : T} (h : Is t (.sl [.sl [.i .i64, .i .i64, .s], .i .i64])) : ∃ l : List C, t = .sl .any (l.map cC) :=
  h.list fun e hl hs => by
    match e, hl with
    | [a, b], _ =>
      obtain ⟨x, rfl⟩ := is_values (hs 0 a _ rfl rfl)
      obtain ⟨y, rfl⟩ := (hs 1 b _ rfl rfl).int
      exact ⟨⟨x, y⟩, rfl⟩
theorem is_rels {t : T} (h : Is t (.sl [.s, .i .i64, .sl [.sl [.i .i64, .i .i64, .s], .i .i64]])) : ∃ l : List R, t = .sl .any (l.map rC) :=
  h.list fun e hl hs => by
    match e, hl with
    | [a, b, c], _ =>
      obtain ⟨x, rfl⟩ := (hs 0 a _ rfl rfl).str
      obtain ⟨y, rfl⟩ := (hs 1 b _ rfl rfl).int
      obtain ⟨z, rfl⟩ := is_counteds (hs 2 c _ rfl rfl)
      exact ⟨⟨x, ⟨y, z⟩⟩, rfl⟩
/-- The cells of a struct that is handed over. -/
theorem rv_agg [Known] {P : Program} {w : World} {ts : List T} {l : List Sh} {cs : Array Value} (h : Reads w ts l cs.toList) : RV P w (inHeap w) noPl (.agg (ts.map TV.d)) (.agg cs) := by
  obtain ⟨h1, h2, h3⟩ := h
  refine .agg (by simp at h2 ⊢; omega) fun i hi hj => ?_
  have hi' : i < ts.length := by simpa using hi
  have := (h3 i ts[i] l[i] cs[i] (by rw [List.getElem?_eq_getElem hi']) (by rw [List.getElem?_eq_getElem (by omega)]) (by simp [hj])).2
  simpa using RV.d this
theorem Reads.is {w : World} {ts : List T} {l : List Sh} {cs : List Value} (h : Reads w ts l cs) {j : Nat} {t : T} {sh : Sh} (h1 : ts[j]? = some t) (h2 : l[j]? = some sh) : Is t sh := by
  obtain ⟨a, b, c⟩ := h
  have hj : j < cs.length := by rw [b]; exact (List.getElem?_eq_some_iff.1 h2).1
  exact (c j t sh cs[j] h1 h2 (by rw [List.getElem?_eq_getElem hj])).1
end Go.Av
end
