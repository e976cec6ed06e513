/- What functions of this seat give. -/
import Derived.Test.YtflkffnelppigaaGq
import Derived.Test.YtflkffnelppigaaGp
import Derived.Test.YtflkffnelppigaaGo
import Derived.Test.YtflkffnelppigaaGc
set_option linter.all false
set_option linter.unusedVariables false
set_option linter.unusedSimpArgs false

section
namespace Go.Av
open Go.Proofs
set_option linter.unusedSimpArgs false

theorem ev_IndexFuncCounted_A0 {h : FuncId} {p : C → Bool} (l : List C) (hl : l.length ≤ 1099511627776) (hp : ∀ x ∈ l, evF cfg 99 [(0, .box [.clo h []])] [.agg [.d (.sl .any (x.row.map vC)), .d (.i .i64 x.n)], .ptr 0 0] = some (.d (.b (p x)), [(0, .box [.clo h []])])) :
    evF cfg 72 [(0, .box [.clo h []])] [.d (.sl .any (l.map cC)), .clo 99 [.ptr 0 0]] = some (.d (.i .i64 (idxOf p l)), [(0, .box [.clo h []])]) := by
  (refine (evF_code (C := cfg) (g := 72) (fn := Try.f72) rfl Try.func72 rfl (by rw [Try.ntmps72]; simp) (by kernel_rfl) (by first | decide | simp [keysOf])).trans ?_; rw [Try.results72, Try.ntmps72])
  repeat' (first | with_reducible refine br_split (fun _ => ?_) (fun _ => ?_) | simp only [*, push_cast, Array.reduceGetElem?, Nat.reduceBEq, Nat.reduceLT, Nat.reduceAdd, Nat.reduceSub, Nat.reduceLeDiff, Nat.reduceMul, Nat.reduceEqDiff, reduceCtorEq, Int.reduceAdd, Int.reduceLT, Int.reduceLE, Int.reduceToNat, Int.reduceNeg, Int.reduceSub, Int.reduceBEq, Int.reduceBNe, Int.reduceNe, Int.reduceGT, Int.reduceGE, Nat.reduceGT] | (rw [drawC_ok]; rotate_left; decide +kernel; exact cfg_mixed))
  rw [evM_for0 l.length (fun i j => { t := [(0, .d (.sl .any (l.map cC))), (1, .clo 99 [.ptr 0 0]), (7, .d (.i .i64 l.length)), (8, .d (.i .i64 j))], o := [(0, .box [.clo h []])], ks := [0], n := 0, sz := 19, u := noU })
    (fun i => br ((l.drop i).any p) (some (.ret, { t := [(4, .d (.i .i64 (i + (l.drop i).findIdx p : Nat)))], o := [(0, .box [.clo h []])], ks := [0], n := 0, sz := 19, u := noU })) (some (.exit 0, { t := [], o := [(0, .box [.clo h []])], ks := [0], n := 0, sz := 19, u := noU })) ⟨⟩) ?step ?last]
  case step =>
    intro i hi ih
    have hc : (l.map cC)[i]? = some [.sl .any (l[i].row.map vC), .i .i64 l[i].n] := get_map cC l i hi
    have hd := dec_lt hi
    have hw : IntKind.i64.wrap ((i : Int) + 1) = (i : Int) + 1 := wrap_succ (by omega)
    have he := hp _ (List.getElem_mem hi)
    have hx := List.drop_eq_getElem_cons hi
    cases hpi : p l[i] with
    | true =>
      have h1 : (l.drop i).any p = true := by rw [hx, List.any_cons, hpi, Bool.true_or]
      have h2 : (l.drop i).findIdx p = 0 := by rw [hx, List.findIdx_cons, hpi]; rfl
      rw [h1, h2]
      clear hx h1 h2
      repeat' (first | with_reducible refine br_split (fun _ => ?_) (fun _ => ?_) | simp only [*, push_cast, Array.reduceGetElem?, Nat.reduceBEq, Nat.reduceLT, Nat.reduceAdd, Nat.reduceSub, Nat.reduceLeDiff, Nat.reduceMul, Nat.reduceEqDiff, reduceCtorEq, Int.reduceAdd, Int.reduceLT, Int.reduceLE, Int.reduceToNat, Int.reduceNeg, Int.reduceSub, Int.reduceBEq, Int.reduceBNe, Int.reduceNe, Int.reduceGT, Int.reduceGE, Nat.reduceGT] | (rw [drawC_ok]; rotate_left; decide +kernel; exact cfg_mixed))
    | false =>
      have h1 : (l.drop i).any p = (l.drop (i + 1)).any p := by rw [hx, List.any_cons, hpi, Bool.false_or]
      have h2 : i + (l.drop i).findIdx p = i + 1 + (l.drop (i + 1)).findIdx p := by rw [hx, List.findIdx_cons, hpi, cond_false]; omega
      rw [h1, h2]
      clear hx h1 h2
      repeat' (first | with_reducible refine br_split (fun _ => ?_) (fun _ => ?_) | simp only [*, push_cast, Array.reduceGetElem?, Nat.reduceBEq, Nat.reduceLT, Nat.reduceAdd, Nat.reduceSub, Nat.reduceLeDiff, Nat.reduceMul, Nat.reduceEqDiff, reduceCtorEq, Int.reduceAdd, Int.reduceLT, Int.reduceLE, Int.reduceToNat, Int.reduceNeg, Int.reduceSub, Int.reduceBEq, Int.reduceBNe, Int.reduceNe, Int.reduceGT, Int.reduceGE, Nat.reduceGT] | (rw [drawC_ok]; rotate_left; decide +kernel; exact cfg_mixed))
  case last =>
    rw [List.drop_length, List.any_nil]
    repeat' (first | with_reducible refine br_split (fun _ => ?_) (fun _ => ?_) | simp only [*, push_cast, Array.reduceGetElem?, Nat.reduceBEq, Nat.reduceLT, Nat.reduceAdd, Nat.reduceSub, Nat.reduceLeDiff, Nat.reduceMul, Nat.reduceEqDiff, reduceCtorEq, Int.reduceAdd, Int.reduceLT, Int.reduceLE, Int.reduceToNat, Int.reduceNeg, Int.reduceSub, Int.reduceBEq, Int.reduceBNe, Int.reduceNe, Int.reduceGT, Int.reduceGE, Nat.reduceGT] | (rw [drawC_ok]; rotate_left; decide +kernel; exact cfg_mixed))
  · unfold idxOf
    rw [List.drop_zero, Nat.zero_add]
    cases l.any p <;> repeat' (first | with_reducible refine br_split (fun _ => ?_) (fun _ => ?_) | simp only [*, push_cast, Array.reduceGetElem?, Nat.reduceBEq, Nat.reduceLT, Nat.reduceAdd, Nat.reduceSub, Nat.reduceLeDiff, Nat.reduceMul, Nat.reduceEqDiff, reduceCtorEq, Int.reduceAdd, Int.reduceLT, Int.reduceLE, Int.reduceToNat, Int.reduceNeg, Int.reduceSub, Int.reduceBEq, Int.reduceBNe, Int.reduceNe, Int.reduceGT, Int.reduceGE, Nat.reduceGT] | (rw [drawC_ok]; rotate_left; decide +kernel; exact cfg_mixed))
theorem ev_ContainsFuncCounted_A0 {h : FuncId} {p : C → Bool} (l : List C) (hl : l.length ≤ 1099511627776) (hp : ∀ x ∈ l, evF cfg 99 [(0, .box [.clo h []])] [.agg [.d (.sl .any (x.row.map vC)), .d (.i .i64 x.n)], .ptr 0 0] = some (.d (.b (p x)), [(0, .box [.clo h []])])) :
    evF cfg 98 [(0, .box [.clo h []])] [.d (.sl .any (l.map cC)), .clo 99 [.ptr 0 0]] = some (.d (.b (l.any p)), [(0, .box [.clo h []])]) := by
  have hi := ev_IndexFuncCounted_A0  l hl hp
  have ha := idxOf_any p l
  clear hp
  (refine (evF_code (C := cfg) (g := 98) (fn := Try.f98) rfl Try.func98 rfl (by rw [Try.ntmps98]; simp) (by kernel_rfl) (by first | decide | simp [keysOf])).trans ?_; rw [Try.results98, Try.ntmps98])
  repeat' (first | with_reducible refine br_split (fun _ => ?_) (fun _ => ?_) | simp only [*, push_cast, Array.reduceGetElem?, Nat.reduceBEq, Nat.reduceLT, Nat.reduceAdd, Nat.reduceSub, Nat.reduceLeDiff, Nat.reduceMul, Nat.reduceEqDiff, reduceCtorEq, Int.reduceAdd, Int.reduceLT, Int.reduceLE, Int.reduceToNat, Int.reduceNeg, Int.reduceSub, Int.reduceBEq, Int.reduceBNe, Int.reduceNe, Int.reduceGT, Int.reduceGE, Nat.reduceGT] | (rw [drawC_ok]; rotate_left; decide +kernel; exact cfg_mixed))
theorem ev_areAll1Counted_0 {h : FuncId} {p : Bool} (x : C) (hx : cfg.E h = none) (hX : cfg.Y h = false) (hZ : cfg.Z h = false) (hp : evF cfg h [] [.agg [.d (.sl .any (x.row.map vC)), .d (.i .i64 x.n)]] = some (.d (.b p), [])) :
    evF cfg 99 [(0, .box [.clo h []])] [.agg [.d (.sl .any (x.row.map vC)), .d (.i .i64 x.n)], .ptr 0 0] = some (.d (.b (!p)), [(0, .box [.clo h []])]) := by
  simp only [push_cast, Array.reduceGetElem?, Nat.reduceBEq, Nat.reduceLT, Nat.reduceAdd, Nat.reduceSub, Nat.reduceLeDiff, Nat.reduceMul, Nat.reduceEqDiff, reduceCtorEq, Int.reduceAdd, Int.reduceLT, Int.reduceLE, Int.reduceToNat, Int.reduceNeg, Int.reduceSub, Int.reduceBEq, Int.reduceBNe, Int.reduceNe, Int.reduceGT, Int.reduceGE, Nat.reduceGT] at hx hX hZ
  (refine (evF_code (C := cfg) (g := 99) (fn := Try.f99) rfl Try.func99 rfl (by rw [Try.ntmps99]; simp) (by kernel_rfl) (by first | decide | simp [keysOf])).trans ?_; rw [Try.results99, Try.ntmps99])
  repeat' (first | with_reducible refine br_split (fun _ => ?_) (fun _ => ?_) | simp only [*, push_cast, Array.reduceGetElem?, Nat.reduceBEq, Nat.reduceLT, Nat.reduceAdd, Nat.reduceSub, Nat.reduceLeDiff, Nat.reduceMul, Nat.reduceEqDiff, reduceCtorEq, Int.reduceAdd, Int.reduceLT, Int.reduceLE, Int.reduceToNat, Int.reduceNeg, Int.reduceSub, Int.reduceBEq, Int.reduceBNe, Int.reduceNe, Int.reduceGT, Int.reduceGE, Nat.reduceGT] | (rw [drawC_ok]; rotate_left; decide +kernel; exact cfg_mixed))
theorem ev_areAllCounted_0 {h : FuncId} {p : C → Bool} (l : List C) (hl : l.length ≤ 1099511627776) (hx : cfg.E h = none) (hX : cfg.Y h = false) (hZ : cfg.Z h = false)
    (hp : ∀ x ∈ l, evF cfg h [] [.agg [.d (.sl .any (x.row.map vC)), .d (.i .i64 x.n)]] = some (.d (.b (p x)), [])) :
    evF cfg 75 [] [.d (.sl .any (l.map cC)), .clo h []] = some (.d (.b (l.all p)), []) := by
  have hc := ev_ContainsFuncCounted_A0 (h := h)  l hl (fun x hm => ev_areAll1Counted_0  x hx hX hZ (hp x hm))
  have ha : (!l.any fun x => !p x) = l.all p := not_any p l
  clear hp
  (refine (evF_code (C := cfg) (g := 75) (fn := Try.f75) rfl Try.func75 rfl (by rw [Try.ntmps75]; simp) (by kernel_rfl) (by first | decide | simp [keysOf])).trans ?_; rw [Try.results75, Try.ntmps75])
  repeat' (first | with_reducible refine br_split (fun _ => ?_) (fun _ => ?_) | simp only [*, push_cast, Array.reduceGetElem?, Nat.reduceBEq, Nat.reduceLT, Nat.reduceAdd, Nat.reduceSub, Nat.reduceLeDiff, Nat.reduceMul, Nat.reduceEqDiff, reduceCtorEq, Int.reduceAdd, Int.reduceLT, Int.reduceLE, Int.reduceToNat, Int.reduceNeg, Int.reduceSub, Int.reduceBEq, Int.reduceBNe, Int.reduceNe, Int.reduceGT, Int.reduceGE, Nat.reduceGT] | (rw [drawC_ok]; rotate_left; decide +kernel; exact cfg_mixed))

theorem ev_Plain1 (row : List V) (n : Int) : evF cfg 76 [] [.agg [.d (.sl .any (row.map vC)), .d (.i .i64 n)]] = some (.d (.b (decide (0 < n))), []) := by
  (refine (evF_code (C := cfg) (g := 76) (fn := Try.f76) rfl Try.func76 rfl (by rw [Try.ntmps76]; simp) (by kernel_rfl) (by first | decide | simp [keysOf])).trans ?_; rw [Try.results76, Try.ntmps76])
  repeat' (first | with_reducible refine br_split (fun _ => ?_) (fun _ => ?_) | simp only [*, push_cast, Array.reduceGetElem?, Nat.reduceBEq, Nat.reduceLT, Nat.reduceAdd, Nat.reduceSub, Nat.reduceLeDiff, Nat.reduceMul, Nat.reduceEqDiff, reduceCtorEq, Int.reduceAdd, Int.reduceLT, Int.reduceLE, Int.reduceToNat, Int.reduceNeg, Int.reduceSub, Int.reduceBEq, Int.reduceBNe, Int.reduceNe, Int.reduceGT, Int.reduceGE, Nat.reduceGT] | (rw [drawC_ok]; rotate_left; decide +kernel; exact cfg_mixed))
theorem ev_Plain (w : Int) (rows : List C) (hl : rows.length ≤ 1048576) (hr : ∀ c ∈ rows, c.row.length ≤ 1048576) : evF cfg 37 [] [.agg [.d (.i .i64 w), .d (.sl .any (rows.map cC))]] = some (.d (.b (plainB ⟨w, rows⟩)), []) := by
  have h1 := ev_BagOk w rows (by omega) (fun c hc => by have := hr c hc; omega)
  have h2 := ev_areAllCounted_0 (h := 76) (p := fun c => decide (0 < c.n)) rows (by omega) rfl rfl rfl (fun c _ => ev_Plain1 c.row c.n)
  clear hl hr
  cases hb : bagOk ⟨w, rows⟩ with
  | false =>
    rw [hb] at h1
    have h3 : plainB ⟨w, rows⟩ = false := by unfold plainB; rw [hb]; rfl
    rw [h3]
    clear h2 h3 hb
    (refine (evF_code (C := cfg) (g := 37) (fn := Try.f37) rfl Try.func37 rfl (by rw [Try.ntmps37]; simp) (by kernel_rfl) (by first | decide | simp [keysOf])).trans ?_; rw [Try.results37, Try.ntmps37])
    repeat' (first | with_reducible refine br_split (fun _ => ?_) (fun _ => ?_) | simp only [*, push_cast, Array.reduceGetElem?, Nat.reduceBEq, Nat.reduceLT, Nat.reduceAdd, Nat.reduceSub, Nat.reduceLeDiff, Nat.reduceMul, Nat.reduceEqDiff, reduceCtorEq, Int.reduceAdd, Int.reduceLT, Int.reduceLE, Int.reduceToNat, Int.reduceNeg, Int.reduceSub, Int.reduceBEq, Int.reduceBNe, Int.reduceNe, Int.reduceGT, Int.reduceGE, Nat.reduceGT] | (rw [drawC_ok]; rotate_left; decide +kernel; exact cfg_mixed))
  | true =>
    rw [hb] at h1
    have h3 : plainB ⟨w, rows⟩ = rows.all (fun c => decide (0 < c.n)) := by unfold plainB; rw [hb]; rfl
    rw [h3]
    clear h3 hb
    (refine (evF_code (C := cfg) (g := 37) (fn := Try.f37) rfl Try.func37 rfl (by rw [Try.ntmps37]; simp) (by kernel_rfl) (by first | decide | simp [keysOf])).trans ?_; rw [Try.results37, Try.ntmps37])
    repeat' (first | with_reducible refine br_split (fun _ => ?_) (fun _ => ?_) | simp only [*, push_cast, Array.reduceGetElem?, Nat.reduceBEq, Nat.reduceLT, Nat.reduceAdd, Nat.reduceSub, Nat.reduceLeDiff, Nat.reduceMul, Nat.reduceEqDiff, reduceCtorEq, Int.reduceAdd, Int.reduceLT, Int.reduceLE, Int.reduceToNat, Int.reduceNeg, Int.reduceSub, Int.reduceBEq, Int.reduceBNe, Int.reduceNe, Int.reduceGT, Int.reduceGE, Nat.reduceGT] | (rw [drawC_ok]; rotate_left; decide +kernel; exact cfg_mixed))
theorem ev_sPlain (w : Int) (rows : List C) (hl : rows.length ≤ 1048576) (hr : ∀ c ∈ rows, c.row.length ≤ 1048576) : evF cfg 38 [] [.agg [.d (.i .i64 w), .d (.sl .any (rows.map cC))]] = some (.d (.b (plainB ⟨w, rows⟩)), []) := by
  have h1 := ev_sBagOk w rows (by omega) (fun c hc => by have := hr c hc; omega)
  have H := Hd.mk hl
  clear hl hr
  generalize hp : (fun c : C => decide (c.n < 0)) = p
  have HP := Hd.mk hp
  clear hp
  (refine (evF_code (C := cfg) (g := 38) (fn := Try.f38) rfl Try.func38 rfl (by rw [Try.ntmps38]; simp) (by kernel_rfl) (by first | decide | simp [keysOf])).trans ?_; rw [Try.results38, Try.ntmps38])
  repeat' (first | with_reducible refine br_split (fun _ => ?_) (fun _ => ?_) | simp only [*, push_cast, Array.reduceGetElem?, Nat.reduceBEq, Nat.reduceLT, Nat.reduceAdd, Nat.reduceSub, Nat.reduceLeDiff, Nat.reduceMul, Nat.reduceEqDiff, reduceCtorEq, Int.reduceAdd, Int.reduceLT, Int.reduceLE, Int.reduceToNat, Int.reduceNeg, Int.reduceSub, Int.reduceBEq, Int.reduceBNe, Int.reduceNe, Int.reduceGT, Int.reduceGE, Nat.reduceGT] | (rw [drawC_ok]; rotate_left; decide +kernel; exact cfg_mixed))
  rw [evM_for0 rows.length (fun i j => { t := [(1, .ptr 50 0), (3, .d (.i .i64 j))], o := [(50, .box [.d (.i .i64 w), .d (.sl .any (rows.map cC))])], ks := [50], n := 0, sz := 20, u := noU }) (fun i => br ((rows.drop i).any p) (some (.ret, { t := [(2, .d (.b false))], o := [], ks := [], n := 0, sz := 20, u := noU })) (some (.exit 0, { t := [(1, .ptr 50 0)], o := [(50, .box [.d (.i .i64 w), .d (.sl .any (rows.map cC))])], ks := [50], n := 0, sz := 20, u := noU })) ⟨⟩) ?step ?last]
  case step =>
    intro i hi ih
    have hl := H.out
    have hp := HP.out
    have hc : (rows.map cC)[i]? = some [.sl .any (rows[i].row.map vC), .i .i64 rows[i].n] := get_map cC rows i hi
    have hd := dec_lt hi
    have hdn := dec_ltN hi
    have hw : IntKind.i64.wrap ((i : Int) + 1) = (i : Int) + 1 := wrap_succ (by omega)
    have hx := List.drop_eq_getElem_cons hi
    have hq : decide (rows[i].n < 0) = p rows[i] := by rw [← hp]
    clear hl hp H HP h1
    cases hpi : p rows[i] with
    | true =>
      have h1 : (rows.drop i).any p = true := by rw [hx, List.any_cons, hpi, Bool.true_or]
      rw [hpi] at hq
      rw [h1]
      clear hx h1 ih
      repeat' (first | with_reducible refine br_split (fun _ => ?_) (fun _ => ?_) | simp only [*, push_cast, Array.reduceGetElem?, Nat.reduceBEq, Nat.reduceLT, Nat.reduceAdd, Nat.reduceSub, Nat.reduceLeDiff, Nat.reduceMul, Nat.reduceEqDiff, reduceCtorEq, Int.reduceAdd, Int.reduceLT, Int.reduceLE, Int.reduceToNat, Int.reduceNeg, Int.reduceSub, Int.reduceBEq, Int.reduceBNe, Int.reduceNe, Int.reduceGT, Int.reduceGE, Nat.reduceGT] | (rw [drawC_ok]; rotate_left; decide +kernel; exact cfg_mixed))
    | false =>
      have h1 : (rows.drop i).any p = (rows.drop (i + 1)).any p := by rw [hx, List.any_cons, hpi, Bool.false_or]
      rw [hpi] at hq
      rw [h1]
      clear hx h1
      repeat' (first | with_reducible refine br_split (fun _ => ?_) (fun _ => ?_) | simp only [*, push_cast, Array.reduceGetElem?, Nat.reduceBEq, Nat.reduceLT, Nat.reduceAdd, Nat.reduceSub, Nat.reduceLeDiff, Nat.reduceMul, Nat.reduceEqDiff, reduceCtorEq, Int.reduceAdd, Int.reduceLT, Int.reduceLE, Int.reduceToNat, Int.reduceNeg, Int.reduceSub, Int.reduceBEq, Int.reduceBNe, Int.reduceNe, Int.reduceGT, Int.reduceGE, Nat.reduceGT] | (rw [drawC_ok]; rotate_left; decide +kernel; exact cfg_mixed))
  case last =>
    clear H HP
    rw [List.drop_length, List.any_nil]
    repeat' (first | with_reducible refine br_split (fun _ => ?_) (fun _ => ?_) | simp only [*, push_cast, Array.reduceGetElem?, Nat.reduceBEq, Nat.reduceLT, Nat.reduceAdd, Nat.reduceSub, Nat.reduceLeDiff, Nat.reduceMul, Nat.reduceEqDiff, reduceCtorEq, Int.reduceAdd, Int.reduceLT, Int.reduceLE, Int.reduceToNat, Int.reduceNeg, Int.reduceSub, Int.reduceBEq, Int.reduceBNe, Int.reduceNe, Int.reduceGT, Int.reduceGE, Nat.reduceGT] | (rw [drawC_ok]; rotate_left; decide +kernel; exact cfg_mixed))
  rw [List.drop_zero]
  cases ha : rows.any p with
  | true =>
    have h3 := plain_neg (b := ⟨w, rows⟩) (by rw [HP.out]; exact ha)
    rw [h3]
    clear H HP h3 ha
    repeat' (first | with_reducible refine br_split (fun _ => ?_) (fun _ => ?_) | simp only [*, push_cast, Array.reduceGetElem?, Nat.reduceBEq, Nat.reduceLT, Nat.reduceAdd, Nat.reduceSub, Nat.reduceLeDiff, Nat.reduceMul, Nat.reduceEqDiff, reduceCtorEq, Int.reduceAdd, Int.reduceLT, Int.reduceLE, Int.reduceToNat, Int.reduceNeg, Int.reduceSub, Int.reduceBEq, Int.reduceBNe, Int.reduceNe, Int.reduceGT, Int.reduceGE, Nat.reduceGT] | (rw [drawC_ok]; rotate_left; decide +kernel; exact cfg_mixed))
  | false =>
    have h3 := plain_pos (b := ⟨w, rows⟩) (by rw [HP.out]; exact ha)
    rw [h3]
    clear H HP h3 ha
    repeat' (first | with_reducible refine br_split (fun _ => ?_) (fun _ => ?_) | simp only [*, push_cast, Array.reduceGetElem?, Nat.reduceBEq, Nat.reduceLT, Nat.reduceAdd, Nat.reduceSub, Nat.reduceLeDiff, Nat.reduceMul, Nat.reduceEqDiff, reduceCtorEq, Int.reduceAdd, Int.reduceLT, Int.reduceLE, Int.reduceToNat, Int.reduceNeg, Int.reduceSub, Int.reduceBEq, Int.reduceBNe, Int.reduceNe, Int.reduceGT, Int.reduceGE, Nat.reduceGT] | (rw [drawC_ok]; rotate_left; decide +kernel; exact cfg_mixed))
theorem ev_SizeOf (w : Int) (rows : List C) (hl : rows.length ≤ 1048576) : evF cfg 35 [] [.agg [.d (.i .i64 w), .d (.sl .any (rows.map cC))]] = some (.d (.i .i64 (sizR rows)), []) := by
  have H := Hd.mk hl
  clear hl
  (refine (evF_code (C := cfg) (g := 35) (fn := Try.f35) rfl Try.func35 rfl (by rw [Try.ntmps35]; simp) (by kernel_rfl) (by first | decide | simp [keysOf])).trans ?_; rw [Try.results35, Try.ntmps35])
  repeat' (first | with_reducible refine br_split (fun _ => ?_) (fun _ => ?_) | simp only [*, push_cast, Array.reduceGetElem?, Nat.reduceBEq, Nat.reduceLT, Nat.reduceAdd, Nat.reduceSub, Nat.reduceLeDiff, Nat.reduceMul, Nat.reduceEqDiff, reduceCtorEq, Int.reduceAdd, Int.reduceLT, Int.reduceLE, Int.reduceToNat, Int.reduceNeg, Int.reduceSub, Int.reduceBEq, Int.reduceBNe, Int.reduceNe, Int.reduceGT, Int.reduceGE, Nat.reduceGT] | (rw [drawC_ok]; rotate_left; decide +kernel; exact cfg_mixed))
  rw [show ({ t := [(3, .d (.i .i64 0)), (7, .d (.sl .any (rows.map cC))), (8, .d (.i .i64 rows.length)), (9, .d (.i .i64 0))], o := [], ks := [], n := 0, sz := 19, u := noU } : St) = { t := [(3, .d (.i .i64 (sizR (rows.take 0)))), (7, .d (.sl .any (rows.map cC))), (8, .d (.i .i64 rows.length)), (9, .d (.i .i64 0))], o := [], ks := [], n := 0, sz := 19, u := noU } from rfl]
  rw [evM_for0 rows.length (fun i j => { t := [(3, .d (.i .i64 (sizR (rows.take i)))), (7, .d (.sl .any (rows.map cC))), (8, .d (.i .i64 rows.length)), (9, .d (.i .i64 j))], o := [], ks := [], n := 0, sz := 19, u := noU }) (fun i => some (.exit 0, { t := [(3, .d (.i .i64 (sizR rows)))], o := [], ks := [], n := 0, sz := 19, u := noU })) ?step ?last]
  case step =>
    intro i hi ih
    have hl := H.out
    have hc : (rows.map cC)[i]? = some [.sl .any (rows[i].row.map vC), .i .i64 rows[i].n] := get_map cC rows i hi
    have hd := dec_lt hi
    have hdn := dec_ltN hi
    have hw : IntKind.i64.wrap ((i : Int) + 1) = (i : Int) + 1 := wrap_succ (by omega)
    have hs : IntKind.i64.wrap (sizR (rows.take i) + rows[i].n) = sizR (rows.take (i + 1)) := sizR_snoc hi
    clear hl H
    repeat' (first | with_reducible refine br_split (fun _ => ?_) (fun _ => ?_) | simp only [*, push_cast, Array.reduceGetElem?, Nat.reduceBEq, Nat.reduceLT, Nat.reduceAdd, Nat.reduceSub, Nat.reduceLeDiff, Nat.reduceMul, Nat.reduceEqDiff, reduceCtorEq, Int.reduceAdd, Int.reduceLT, Int.reduceLE, Int.reduceToNat, Int.reduceNeg, Int.reduceSub, Int.reduceBEq, Int.reduceBNe, Int.reduceNe, Int.reduceGT, Int.reduceGE, Nat.reduceGT] | (rw [drawC_ok]; rotate_left; decide +kernel; exact cfg_mixed))
  case last =>
    have ht : rows.take rows.length = rows := List.take_length
    clear H
    repeat' (first | with_reducible refine br_split (fun _ => ?_) (fun _ => ?_) | simp only [*, push_cast, Array.reduceGetElem?, Nat.reduceBEq, Nat.reduceLT, Nat.reduceAdd, Nat.reduceSub, Nat.reduceLeDiff, Nat.reduceMul, Nat.reduceEqDiff, reduceCtorEq, Int.reduceAdd, Int.reduceLT, Int.reduceLE, Int.reduceToNat, Int.reduceNeg, Int.reduceSub, Int.reduceBEq, Int.reduceBNe, Int.reduceNe, Int.reduceGT, Int.reduceGE, Nat.reduceGT] | (rw [drawC_ok]; rotate_left; decide +kernel; exact cfg_mixed))
  clear H
  repeat' (first | with_reducible refine br_split (fun _ => ?_) (fun _ => ?_) | simp only [*, push_cast, Array.reduceGetElem?, Nat.reduceBEq, Nat.reduceLT, Nat.reduceAdd, Nat.reduceSub, Nat.reduceLeDiff, Nat.reduceMul, Nat.reduceEqDiff, reduceCtorEq, Int.reduceAdd, Int.reduceLT, Int.reduceLE, Int.reduceToNat, Int.reduceNeg, Int.reduceSub, Int.reduceBEq, Int.reduceBNe, Int.reduceNe, Int.reduceGT, Int.reduceGE, Nat.reduceGT] | (rw [drawC_ok]; rotate_left; decide +kernel; exact cfg_mixed))
theorem ev_sSizeOf (w : Int) (rows : List C) (hl : rows.length ≤ 1048576) : evF cfg 36 [] [.agg [.d (.i .i64 w), .d (.sl .any (rows.map cC))]] = some (.d (.i .i64 (sizR rows)), []) := by
  have H := Hd.mk hl
  clear hl
  (refine (evF_code (C := cfg) (g := 36) (fn := Try.f36) rfl Try.func36 rfl (by rw [Try.ntmps36]; simp) (by kernel_rfl) (by first | decide | simp [keysOf])).trans ?_; rw [Try.results36, Try.ntmps36])
  repeat' (first | with_reducible refine br_split (fun _ => ?_) (fun _ => ?_) | simp only [*, push_cast, Array.reduceGetElem?, Nat.reduceBEq, Nat.reduceLT, Nat.reduceAdd, Nat.reduceSub, Nat.reduceLeDiff, Nat.reduceMul, Nat.reduceEqDiff, reduceCtorEq, Int.reduceAdd, Int.reduceLT, Int.reduceLE, Int.reduceToNat, Int.reduceNeg, Int.reduceSub, Int.reduceBEq, Int.reduceBNe, Int.reduceNe, Int.reduceGT, Int.reduceGE, Nat.reduceGT] | (rw [drawC_ok]; rotate_left; decide +kernel; exact cfg_mixed))
  rw [show ({ t := [(1, .ptr 50 0), (3, .d (.i .i64 0)), (4, .d (.i .i64 0))], o := [(50, .box [.d (.i .i64 w), .d (.sl .any (rows.map cC))])], ks := [50], n := 0, sz := 21, u := noU } : St) = { t := [(1, .ptr 50 0), (3, .d (.i .i64 (sizR (rows.take 0)))), (4, .d (.i .i64 0))], o := [(50, .box [.d (.i .i64 w), .d (.sl .any (rows.map cC))])], ks := [50], n := 0, sz := 21, u := noU } from rfl]
  rw [evM_for0 rows.length (fun i j => { t := [(1, .ptr 50 0), (3, .d (.i .i64 (sizR (rows.take i)))), (4, .d (.i .i64 j))], o := [(50, .box [.d (.i .i64 w), .d (.sl .any (rows.map cC))])], ks := [50], n := 0, sz := 21, u := noU }) (fun i => some (.exit 0, { t := [(3, .d (.i .i64 (sizR rows)))], o := [], ks := [], n := 0, sz := 21, u := noU })) ?step ?last]
  case step =>
    intro i hi ih
    have hl := H.out
    have hc : (rows.map cC)[i]? = some [.sl .any (rows[i].row.map vC), .i .i64 rows[i].n] := get_map cC rows i hi
    have hd := dec_lt hi
    have hdn := dec_ltN hi
    have hw : IntKind.i64.wrap ((i : Int) + 1) = (i : Int) + 1 := wrap_succ (by omega)
    have hs : IntKind.i64.wrap (sizR (rows.take i) + rows[i].n) = sizR (rows.take (i + 1)) := sizR_snoc hi
    clear hl H
    repeat' (first | with_reducible refine br_split (fun _ => ?_) (fun _ => ?_) | simp only [*, push_cast, Array.reduceGetElem?, Nat.reduceBEq, Nat.reduceLT, Nat.reduceAdd, Nat.reduceSub, Nat.reduceLeDiff, Nat.reduceMul, Nat.reduceEqDiff, reduceCtorEq, Int.reduceAdd, Int.reduceLT, Int.reduceLE, Int.reduceToNat, Int.reduceNeg, Int.reduceSub, Int.reduceBEq, Int.reduceBNe, Int.reduceNe, Int.reduceGT, Int.reduceGE, Nat.reduceGT] | (rw [drawC_ok]; rotate_left; decide +kernel; exact cfg_mixed))
  case last =>
    have ht : rows.take rows.length = rows := List.take_length
    clear H
    repeat' (first | with_reducible refine br_split (fun _ => ?_) (fun _ => ?_) | simp only [*, push_cast, Array.reduceGetElem?, Nat.reduceBEq, Nat.reduceLT, Nat.reduceAdd, Nat.reduceSub, Nat.reduceLeDiff, Nat.reduceMul, Nat.reduceEqDiff, reduceCtorEq, Int.reduceAdd, Int.reduceLT, Int.reduceLE, Int.reduceToNat, Int.reduceNeg, Int.reduceSub, Int.reduceBEq, Int.reduceBNe, Int.reduceNe, Int.reduceGT, Int.reduceGE, Nat.reduceGT] | (rw [drawC_ok]; rotate_left; decide +kernel; exact cfg_mixed))
  clear H
  repeat' (first | with_reducible refine br_split (fun _ => ?_) (fun _ => ?_) | simp only [*, push_cast, Array.reduceGetElem?, Nat.reduceBEq, Nat.reduceLT, Nat.reduceAdd, Nat.reduceSub, Nat.reduceLeDiff, Nat.reduceMul, Nat.reduceEqDiff, reduceCtorEq, Int.reduceAdd, Int.reduceLT, Int.reduceLE, Int.reduceToNat, Int.reduceNeg, Int.reduceSub, Int.reduceBEq, Int.reduceBNe, Int.reduceNe, Int.reduceGT, Int.reduceGE, Nat.reduceGT] | (rw [drawC_ok]; rotate_left; decide +kernel; exact cfg_mixed))
theorem ev_CountOf1 (row : List V) (n : Int) (r : List V) (hl : row.length ≤ 1048576) : evF cfg 73 [(0, .box [.d (.sl .any (r.map vC))])] [.agg [.d (.sl .any (row.map vC)), .d (.i .i64 n)], .ptr 0 0] = some (.d (.b (cmpRow row r == 0)), [(0, .box [.d (.sl .any (r.map vC))])]) := by
  have h1 := ev_CompareRow row r (by omega)
  (refine (evF_code (C := cfg) (g := 73) (fn := Try.f73) rfl Try.func73 rfl (by rw [Try.ntmps73]; simp) (by kernel_rfl) (by first | decide | simp [keysOf])).trans ?_; rw [Try.results73, Try.ntmps73])
  repeat' (first | with_reducible refine br_split (fun _ => ?_) (fun _ => ?_) | simp only [*, push_cast, Array.reduceGetElem?, Nat.reduceBEq, Nat.reduceLT, Nat.reduceAdd, Nat.reduceSub, Nat.reduceLeDiff, Nat.reduceMul, Nat.reduceEqDiff, reduceCtorEq, Int.reduceAdd, Int.reduceLT, Int.reduceLE, Int.reduceToNat, Int.reduceNeg, Int.reduceSub, Int.reduceBEq, Int.reduceBNe, Int.reduceNe, Int.reduceGT, Int.reduceGE, Nat.reduceGT] | (rw [drawC_ok]; rotate_left; decide +kernel; exact cfg_mixed))
theorem ev_IndexFuncCount (l : List C) (r : List V) (hl : l.length ≤ 1048576) (hr : ∀ c ∈ l, c.row.length ≤ 1048576) :
    evF cfg 72 [(0, .box [.d (.sl .any (r.map vC))])] [.d (.sl .any (l.map cC)), .clo 73 [.ptr 0 0]] = some (.d (.i .i64 (idxOf (fun c => cmpRow c.row r == 0) l)), [(0, .box [.d (.sl .any (r.map vC))])]) := by
  generalize hp : (fun c : C => cmpRow c.row r == 0) = p
  have H := Hd.mk (And.intro hl (And.intro hr hp))
  clear hl hp hr
  (refine (evF_code (C := cfg) (g := 72) (fn := Try.f72) rfl Try.func72 rfl (by rw [Try.ntmps72]; simp) (by kernel_rfl) (by first | decide | simp [keysOf])).trans ?_; rw [Try.results72, Try.ntmps72])
  repeat' (first | with_reducible refine br_split (fun _ => ?_) (fun _ => ?_) | simp only [*, push_cast, Array.reduceGetElem?, Nat.reduceBEq, Nat.reduceLT, Nat.reduceAdd, Nat.reduceSub, Nat.reduceLeDiff, Nat.reduceMul, Nat.reduceEqDiff, reduceCtorEq, Int.reduceAdd, Int.reduceLT, Int.reduceLE, Int.reduceToNat, Int.reduceNeg, Int.reduceSub, Int.reduceBEq, Int.reduceBNe, Int.reduceNe, Int.reduceGT, Int.reduceGE, Nat.reduceGT] | (rw [drawC_ok]; rotate_left; decide +kernel; exact cfg_mixed))
  rw [evM_for0 l.length (fun i j => { t := [(0, .d (.sl .any (l.map cC))), (1, .clo 73 [.ptr 0 0]), (7, .d (.i .i64 l.length)), (8, .d (.i .i64 j))], o := [(0, .box [.d (.sl .any (r.map vC))])], ks := [0], n := 0, sz := 19, u := noU })
    (fun i => br ((l.drop i).any p) (some (.ret, { t := [(4, .d (.i .i64 (i + (l.drop i).findIdx p : Nat)))], o := [(0, .box [.d (.sl .any (r.map vC))])], ks := [0], n := 0, sz := 19, u := noU })) (some (.exit 0, { t := [], o := [(0, .box [.d (.sl .any (r.map vC))])], ks := [0], n := 0, sz := 19, u := noU })) ⟨⟩) ?step ?last]
  case step =>
    intro i hi ih
    obtain ⟨hl, hr, hp⟩ := H.out
    have hc : (l.map cC)[i]? = some [.sl .any (l[i].row.map vC), .i .i64 l[i].n] := get_map cC l i hi
    have hd := dec_lt hi
    have hw : IntKind.i64.wrap ((i : Int) + 1) = (i : Int) + 1 := wrap_succ (by omega)
    have he := ev_CountOf1 l[i].row l[i].n r (hr _ (List.getElem_mem hi))
    have hx := List.drop_eq_getElem_cons hi
    have hq : (cmpRow l[i].row r == 0) = p l[i] := by rw [← hp]
    rw [hq] at he
    clear hp hl hr H
    cases hpi : p l[i] with
    | true =>
      have h1 : (l.drop i).any p = true := by rw [hx, List.any_cons, hpi, Bool.true_or]
      have h2 : (l.drop i).findIdx p = 0 := by rw [hx, List.findIdx_cons, hpi]; rfl
      rw [h1, h2]
      clear hx h1 h2 hq
      repeat' (first | with_reducible refine br_split (fun _ => ?_) (fun _ => ?_) | simp only [*, push_cast, Array.reduceGetElem?, Nat.reduceBEq, Nat.reduceLT, Nat.reduceAdd, Nat.reduceSub, Nat.reduceLeDiff, Nat.reduceMul, Nat.reduceEqDiff, reduceCtorEq, Int.reduceAdd, Int.reduceLT, Int.reduceLE, Int.reduceToNat, Int.reduceNeg, Int.reduceSub, Int.reduceBEq, Int.reduceBNe, Int.reduceNe, Int.reduceGT, Int.reduceGE, Nat.reduceGT] | (rw [drawC_ok]; rotate_left; decide +kernel; exact cfg_mixed))
    | false =>
      have h1 : (l.drop i).any p = (l.drop (i + 1)).any p := by rw [hx, List.any_cons, hpi, Bool.false_or]
      have h2 : i + (l.drop i).findIdx p = i + 1 + (l.drop (i + 1)).findIdx p := by rw [hx, List.findIdx_cons, hpi, cond_false]; omega
      rw [h1, h2]
      clear hx h1 h2 hq
      repeat' (first | with_reducible refine br_split (fun _ => ?_) (fun _ => ?_) | simp only [*, push_cast, Array.reduceGetElem?, Nat.reduceBEq, Nat.reduceLT, Nat.reduceAdd, Nat.reduceSub, Nat.reduceLeDiff, Nat.reduceMul, Nat.reduceEqDiff, reduceCtorEq, Int.reduceAdd, Int.reduceLT, Int.reduceLE, Int.reduceToNat, Int.reduceNeg, Int.reduceSub, Int.reduceBEq, Int.reduceBNe, Int.reduceNe, Int.reduceGT, Int.reduceGE, Nat.reduceGT] | (rw [drawC_ok]; rotate_left; decide +kernel; exact cfg_mixed))
  case last =>
    clear H
    rw [List.drop_length, List.any_nil]
    repeat' (first | with_reducible refine br_split (fun _ => ?_) (fun _ => ?_) | simp only [*, push_cast, Array.reduceGetElem?, Nat.reduceBEq, Nat.reduceLT, Nat.reduceAdd, Nat.reduceSub, Nat.reduceLeDiff, Nat.reduceMul, Nat.reduceEqDiff, reduceCtorEq, Int.reduceAdd, Int.reduceLT, Int.reduceLE, Int.reduceToNat, Int.reduceNeg, Int.reduceSub, Int.reduceBEq, Int.reduceBNe, Int.reduceNe, Int.reduceGT, Int.reduceGE, Nat.reduceGT] | (rw [drawC_ok]; rotate_left; decide +kernel; exact cfg_mixed))
  · clear H
    unfold idxOf
    rw [List.drop_zero, Nat.zero_add]
    cases l.any p <;> repeat' (first | with_reducible refine br_split (fun _ => ?_) (fun _ => ?_) | simp only [*, push_cast, Array.reduceGetElem?, Nat.reduceBEq, Nat.reduceLT, Nat.reduceAdd, Nat.reduceSub, Nat.reduceLeDiff, Nat.reduceMul, Nat.reduceEqDiff, reduceCtorEq, Int.reduceAdd, Int.reduceLT, Int.reduceLE, Int.reduceToNat, Int.reduceNeg, Int.reduceSub, Int.reduceBEq, Int.reduceBNe, Int.reduceNe, Int.reduceGT, Int.reduceGE, Nat.reduceGT] | (rw [drawC_ok]; rotate_left; decide +kernel; exact cfg_mixed))
theorem ev_CountOf (w : Int) (l : List C) (r : List V) (hl : l.length ≤ 1048576) (hr : ∀ c ∈ l, c.row.length ≤ 1048576) : evF cfg 32 [] [.agg [.d (.i .i64 w), .d (.sl .any (l.map cC))], .d (.sl .any (r.map vC))] = some (.d (.i .i64 (cntOf l r)), []) := by
  have hi := ev_IndexFuncCount l r hl hr
  rw [cntOf_idx]
  unfold idxOf at hi
  cases ha : l.any (fun c => cmpRow c.row r == 0) with
  | false =>
    rw [ha] at hi
    simp only [Bool.false_eq_true, if_false] at hi ⊢
    clear ha hr
    have hm : decide ((-1 : Int) < 0) = true := rfl
    (refine (evF_code (C := cfg) (g := 32) (fn := Try.f32) rfl Try.func32 rfl (by rw [Try.ntmps32]; simp) (by kernel_rfl) (by first | decide | simp [keysOf])).trans ?_; rw [Try.results32, Try.ntmps32])
    repeat' (first | with_reducible refine br_split (fun _ => ?_) (fun _ => ?_) | simp only [*, push_cast, Array.reduceGetElem?, Nat.reduceBEq, Nat.reduceLT, Nat.reduceAdd, Nat.reduceSub, Nat.reduceLeDiff, Nat.reduceMul, Nat.reduceEqDiff, reduceCtorEq, Int.reduceAdd, Int.reduceLT, Int.reduceLE, Int.reduceToNat, Int.reduceNeg, Int.reduceSub, Int.reduceBEq, Int.reduceBNe, Int.reduceNe, Int.reduceGT, Int.reduceGE, Nat.reduceGT] | (rw [drawC_ok]; rotate_left; decide +kernel; exact cfg_mixed))
  | true =>
    rw [ha] at hi
    simp only [if_true] at hi ⊢
    have hlt : (l.findIdx fun c => cmpRow c.row r == 0) < l.length := List.findIdx_lt_length_of_exists (by simpa [List.any_eq_true] using ha)
    generalize (l.findIdx fun c => cmpRow c.row r == 0) = k at *
    rw [List.getElem?_eq_getElem hlt]
    have hc : (l.map cC)[k]? = some [.sl .any (l[k].row.map vC), .i .i64 l[k].n] := get_map cC l k hlt
    have hd := dec_lt hlt
    have hdn := dec_ltN hlt
    have hn : decide ((k : Int) < 0) = false := decide_eq_false (by omega)
    clear ha hr
    (refine (evF_code (C := cfg) (g := 32) (fn := Try.f32) rfl Try.func32 rfl (by rw [Try.ntmps32]; simp) (by kernel_rfl) (by first | decide | simp [keysOf])).trans ?_; rw [Try.results32, Try.ntmps32])
    repeat' (first | with_reducible refine br_split (fun _ => ?_) (fun _ => ?_) | simp only [*, push_cast, Array.reduceGetElem?, Nat.reduceBEq, Nat.reduceLT, Nat.reduceAdd, Nat.reduceSub, Nat.reduceLeDiff, Nat.reduceMul, Nat.reduceEqDiff, reduceCtorEq, Int.reduceAdd, Int.reduceLT, Int.reduceLE, Int.reduceToNat, Int.reduceNeg, Int.reduceSub, Int.reduceBEq, Int.reduceBNe, Int.reduceNe, Int.reduceGT, Int.reduceGE, Nat.reduceGT] | (rw [drawC_ok]; rotate_left; decide +kernel; exact cfg_mixed))
theorem ev_sCountOf (w : Int) (l : List C) (r : List V) (hl : l.length ≤ 1048576) (hr : ∀ c ∈ l, c.row.length ≤ 1048576) : evF cfg 33 [] [.agg [.d (.i .i64 w), .d (.sl .any (l.map cC))], .d (.sl .any (r.map vC))] = some (.d (.i .i64 (cntOf l r)), []) := by
  have H := Hd.mk (And.intro hl hr)
  clear hl hr
  (refine (evF_code (C := cfg) (g := 33) (fn := Try.f33) rfl Try.func33 rfl (by rw [Try.ntmps33]; simp) (by kernel_rfl) (by first | decide | simp [keysOf])).trans ?_; rw [Try.results33, Try.ntmps33])
  repeat' (first | with_reducible refine br_split (fun _ => ?_) (fun _ => ?_) | simp only [*, push_cast, Array.reduceGetElem?, Nat.reduceBEq, Nat.reduceLT, Nat.reduceAdd, Nat.reduceSub, Nat.reduceLeDiff, Nat.reduceMul, Nat.reduceEqDiff, reduceCtorEq, Int.reduceAdd, Int.reduceLT, Int.reduceLE, Int.reduceToNat, Int.reduceNeg, Int.reduceSub, Int.reduceBEq, Int.reduceBNe, Int.reduceNe, Int.reduceGT, Int.reduceGE, Nat.reduceGT] | (rw [drawC_ok]; rotate_left; decide +kernel; exact cfg_mixed))
  rw [evM_for0 l.length (fun i j => { t := [(1, .d (.sl .any (r.map vC))), (2, .ptr 50 0), (5, .d (.i .i64 j))], o := [(50, .box [.d (.i .i64 w), .d (.sl .any (l.map cC))])], ks := [50], n := 0, sz := 28, u := noU }) (fun i => br ((l.drop i).any (fun c => cmpRow c.row r == 0)) (some (.ret, { t := [(4, .d (.i .i64 (cntOf (l.drop i) r)))], o := [], ks := [], n := 0, sz := 28, u := noU })) (some (.exit 0, { t := [], o := [], ks := [], n := 0, sz := 28, u := noU })) ⟨⟩) ?step ?last]
  case step =>
    intro i hi ih
    obtain ⟨hl, hr⟩ := H.out
    have hc : (l.map cC)[i]? = some [.sl .any (l[i].row.map vC), .i .i64 l[i].n] := get_map cC l i hi
    have hd := dec_lt hi
    have hdn := dec_ltN hi
    have hw : IntKind.i64.wrap ((i : Int) + 1) = (i : Int) + 1 := wrap_succ (by omega)
    have he := ev_sCompareRow l[i].row r (by have := hr _ (List.getElem_mem hi); omega)
    have hx := List.drop_eq_getElem_cons hi
    have hg := cnt_go (r := r) hi
    clear hl hr H
    cases hpi : cmpRow l[i].row r == 0 with
    | true =>
      have h1 : ((l.drop i).any fun c => cmpRow c.row r == 0) = true := by rw [hx, List.any_cons, hpi, Bool.true_or]
      rw [hpi, cond_true] at hg
      rw [h1, hg]
      clear hx h1 hg ih
      repeat' (first | with_reducible refine br_split (fun _ => ?_) (fun _ => ?_) | simp only [*, push_cast, Array.reduceGetElem?, Nat.reduceBEq, Nat.reduceLT, Nat.reduceAdd, Nat.reduceSub, Nat.reduceLeDiff, Nat.reduceMul, Nat.reduceEqDiff, reduceCtorEq, Int.reduceAdd, Int.reduceLT, Int.reduceLE, Int.reduceToNat, Int.reduceNeg, Int.reduceSub, Int.reduceBEq, Int.reduceBNe, Int.reduceNe, Int.reduceGT, Int.reduceGE, Nat.reduceGT] | (rw [drawC_ok]; rotate_left; decide +kernel; exact cfg_mixed))
    | false =>
      have h1 : ((l.drop i).any fun c => cmpRow c.row r == 0) = (l.drop (i + 1)).any fun c => cmpRow c.row r == 0 := by rw [hx, List.any_cons, hpi, Bool.false_or]
      rw [hpi, cond_false] at hg
      rw [h1, hg]
      clear hx h1 hg
      repeat' (first | with_reducible refine br_split (fun _ => ?_) (fun _ => ?_) | simp only [*, push_cast, Array.reduceGetElem?, Nat.reduceBEq, Nat.reduceLT, Nat.reduceAdd, Nat.reduceSub, Nat.reduceLeDiff, Nat.reduceMul, Nat.reduceEqDiff, reduceCtorEq, Int.reduceAdd, Int.reduceLT, Int.reduceLE, Int.reduceToNat, Int.reduceNeg, Int.reduceSub, Int.reduceBEq, Int.reduceBNe, Int.reduceNe, Int.reduceGT, Int.reduceGE, Nat.reduceGT] | (rw [drawC_ok]; rotate_left; decide +kernel; exact cfg_mixed))
  case last =>
    clear H
    rw [List.drop_length, List.any_nil]
    repeat' (first | with_reducible refine br_split (fun _ => ?_) (fun _ => ?_) | simp only [*, push_cast, Array.reduceGetElem?, Nat.reduceBEq, Nat.reduceLT, Nat.reduceAdd, Nat.reduceSub, Nat.reduceLeDiff, Nat.reduceMul, Nat.reduceEqDiff, reduceCtorEq, Int.reduceAdd, Int.reduceLT, Int.reduceLE, Int.reduceToNat, Int.reduceNeg, Int.reduceSub, Int.reduceBEq, Int.reduceBNe, Int.reduceNe, Int.reduceGT, Int.reduceGE, Nat.reduceGT] | (rw [drawC_ok]; rotate_left; decide +kernel; exact cfg_mixed))
  clear H
  rw [List.drop_zero]
  cases ha : l.any (fun c => cmpRow c.row r == 0) with
  | true =>
    clear ha
    repeat' (first | with_reducible refine br_split (fun _ => ?_) (fun _ => ?_) | simp only [*, push_cast, Array.reduceGetElem?, Nat.reduceBEq, Nat.reduceLT, Nat.reduceAdd, Nat.reduceSub, Nat.reduceLeDiff, Nat.reduceMul, Nat.reduceEqDiff, reduceCtorEq, Int.reduceAdd, Int.reduceLT, Int.reduceLE, Int.reduceToNat, Int.reduceNeg, Int.reduceSub, Int.reduceBEq, Int.reduceBNe, Int.reduceNe, Int.reduceGT, Int.reduceGE, Nat.reduceGT] | (rw [drawC_ok]; rotate_left; decide +kernel; exact cfg_mixed))
  | false =>
    have h0 : cntOf l r = 0 := by rw [cntOf_idx, ha]; rfl
    rw [h0]
    clear ha h0
    repeat' (first | with_reducible refine br_split (fun _ => ?_) (fun _ => ?_) | simp only [*, push_cast, Array.reduceGetElem?, Nat.reduceBEq, Nat.reduceLT, Nat.reduceAdd, Nat.reduceSub, Nat.reduceLeDiff, Nat.reduceMul, Nat.reduceEqDiff, reduceCtorEq, Int.reduceAdd, Int.reduceLT, Int.reduceLE, Int.reduceToNat, Int.reduceNeg, Int.reduceSub, Int.reduceBEq, Int.reduceBNe, Int.reduceNe, Int.reduceGT, Int.reduceGE, Nat.reduceGT] | (rw [drawC_ok]; rotate_left; decide +kernel; exact cfg_mixed))
end Go.Av
end

section
namespace Go.Av
open Go.Proofs
set_option linter.unusedSimpArgs false
theorem V_of {a b : V} (h : a.k = b.k ∧ a.n = b.n ∧ a.s = b.s) : a = b := by
  cases a; cases b
  simp only at h
  obtain ⟨rfl, rfl, rfl⟩ := h
  rfl
theorem ev_sameRow (l m : List V) (hl : l.length ≤ 1048576) : evF cfg 71 [] [.d (.sl .any (l.map vC)), .d (.sl .any (m.map vC))] = some (.d (.b (decide (l = m))), []) := by
  have H := Hd.mk hl
  clear hl
  by_cases hlm : m.length = l.length
  · have hd0 : (((l.length : Int) != (m.length : Int))) = false := by simp [hlm]
    (refine (evF_code (C := cfg) (g := 71) (fn := Try.f71) rfl Try.func71 rfl (by rw [Try.ntmps71]; simp) (by kernel_rfl) (by first | decide | simp [keysOf])).trans ?_; rw [Try.results71, Try.ntmps71])
    repeat' (first | with_reducible refine br_split (fun _ => ?_) (fun _ => ?_) | simp only [*, push_cast, Array.reduceGetElem?, Nat.reduceBEq, Nat.reduceLT, Nat.reduceAdd, Nat.reduceSub, Nat.reduceLeDiff, Nat.reduceMul, Nat.reduceEqDiff, reduceCtorEq, Int.reduceAdd, Int.reduceLT, Int.reduceLE, Int.reduceToNat, Int.reduceNeg, Int.reduceSub, Int.reduceBEq, Int.reduceBNe, Int.reduceNe, Int.reduceGT, Int.reduceGE, Nat.reduceGT] | (rw [drawC_ok]; rotate_left; decide +kernel; exact cfg_mixed))
    rw [evM_for0 l.length (fun i j => { t := [(0, .d (.sl .any (l.map vC))), (1, .d (.sl .any (m.map vC))), (5, .d (.i .i64 j))], o := [], ks := [], n := 0, sz := 26, u := noU })
      (fun i => br (decide (l.drop i = m.drop i)) (some (.exit 0, { t := [], o := [], ks := [], n := 0, sz := 26, u := noU })) (some (.ret, { t := [(4, .d (.b false))], o := [], ks := [], n := 0, sz := 26, u := noU })) ⟨⟩) ?step ?last]
    case step =>
      intro i hi ih
      have hl := H.out
      have hi2 : i < m.length := by omega
      have hc : (l.map vC)[i]? = some [.i .i64 l[i].k, .i .i64 l[i].n, .s l[i].s] := get_map vC l i hi
      have hc2 : (m.map vC)[i]? = some [.i .i64 m[i].k, .i .i64 m[i].n, .s m[i].s] := get_map vC m i hi2
      have hd := dec_lt hi
      have hdn := dec_ltN hi
      have hdn2 := dec_ltN hi2
      have hd2 : decide ((i : Int) < (m.length : Int)) = true := dec_lt hi2
      have hw : IntKind.i64.wrap ((i : Int) + 1) = (i : Int) + 1 := i64_in (by omega) (by omega)
      rw [List.drop_eq_getElem_cons hi, List.drop_eq_getElem_cons hi2]
      clear H
      by_cases he : l[i] = m[i]
      · have h1 := dec_cons_t (l := l.drop (i + 1)) (m := m.drop (i + 1)) he
        rw [h1]
        rw [he] at hc
        clear h1 he hlm hl
        repeat' (first | with_reducible refine br_split (fun _ => ?_) (fun _ => ?_) | simp only [*, push_cast, Array.reduceGetElem?, Nat.reduceBEq, Nat.reduceLT, Nat.reduceAdd, Nat.reduceSub, Nat.reduceLeDiff, Nat.reduceMul, Nat.reduceEqDiff, reduceCtorEq, Int.reduceAdd, Int.reduceLT, Int.reduceLE, Int.reduceToNat, Int.reduceNeg, Int.reduceSub, Int.reduceBEq, Int.reduceBNe, Int.reduceNe, Int.reduceGT, Int.reduceGE, Nat.reduceGT] | (rw [drawC_ok]; rotate_left; decide +kernel; exact cfg_mixed))
      · have h1 := dec_cons_f (l := l.drop (i + 1)) (m := m.drop (i + 1)) he
        rw [h1]
        clear h1 hlm hl ih
        repeat' (first | with_reducible refine br_split (fun _ => ?_) (fun _ => ?_) | simp only [*, push_cast, Array.reduceGetElem?, Nat.reduceBEq, Nat.reduceLT, Nat.reduceAdd, Nat.reduceSub, Nat.reduceLeDiff, Nat.reduceMul, Nat.reduceEqDiff, reduceCtorEq, Int.reduceAdd, Int.reduceLT, Int.reduceLE, Int.reduceToNat, Int.reduceNeg, Int.reduceSub, Int.reduceBEq, Int.reduceBNe, Int.reduceNe, Int.reduceGT, Int.reduceGE, Nat.reduceGT] | (rw [drawC_ok]; rotate_left; decide +kernel; exact cfg_mixed))
        all_goals
          rename_i hx
          simp only [beq_iff_eq, Bool.and_eq_true, decide_eq_true_eq] at hx
          exact absurd (V_of hx) he
    case last =>
      have h1 : m.drop l.length = [] := by rw [← hlm]; simp
      have hdl : l.drop l.length = [] := by simp
      rw [h1, hdl]
      clear H
      repeat' (first | with_reducible refine br_split (fun _ => ?_) (fun _ => ?_) | simp only [*, push_cast, Array.reduceGetElem?, Nat.reduceBEq, Nat.reduceLT, Nat.reduceAdd, Nat.reduceSub, Nat.reduceLeDiff, Nat.reduceMul, Nat.reduceEqDiff, reduceCtorEq, Int.reduceAdd, Int.reduceLT, Int.reduceLE, Int.reduceToNat, Int.reduceNeg, Int.reduceSub, Int.reduceBEq, Int.reduceBNe, Int.reduceNe, Int.reduceGT, Int.reduceGE, Nat.reduceGT] | (rw [drawC_ok]; rotate_left; decide +kernel; exact cfg_mixed))
    · clear H
      repeat' (first | with_reducible refine br_split (fun _ => ?_) (fun _ => ?_) | simp only [*, push_cast, Array.reduceGetElem?, Nat.reduceBEq, Nat.reduceLT, Nat.reduceAdd, Nat.reduceSub, Nat.reduceLeDiff, Nat.reduceMul, Nat.reduceEqDiff, reduceCtorEq, Int.reduceAdd, Int.reduceLT, Int.reduceLE, Int.reduceToNat, Int.reduceNeg, Int.reduceSub, Int.reduceBEq, Int.reduceBNe, Int.reduceNe, Int.reduceGT, Int.reduceGE, Nat.reduceGT] | (rw [drawC_ok]; rotate_left; decide +kernel; exact cfg_mixed))
  · have hd0 : (((l.length : Int) != (m.length : Int))) = true := by simp; omega
    have hne : decide (l = m) = false := decide_eq_false (fun e => hlm (by rw [e]))
    clear H
    (refine (evF_code (C := cfg) (g := 71) (fn := Try.f71) rfl Try.func71 rfl (by rw [Try.ntmps71]; simp) (by kernel_rfl) (by first | decide | simp [keysOf])).trans ?_; rw [Try.results71, Try.ntmps71])
    repeat' (first | with_reducible refine br_split (fun _ => ?_) (fun _ => ?_) | simp only [*, push_cast, Array.reduceGetElem?, Nat.reduceBEq, Nat.reduceLT, Nat.reduceAdd, Nat.reduceSub, Nat.reduceLeDiff, Nat.reduceMul, Nat.reduceEqDiff, reduceCtorEq, Int.reduceAdd, Int.reduceLT, Int.reduceLE, Int.reduceToNat, Int.reduceNeg, Int.reduceSub, Int.reduceBEq, Int.reduceBNe, Int.reduceNe, Int.reduceGT, Int.reduceGE, Nat.reduceGT] | (rw [drawC_ok]; rotate_left; decide +kernel; exact cfg_mixed))
/-- Two bags are alike: as laws see it. -/
theorem ev_sameBag (w w' : Int) (l m : List C) (hl : l.length ≤ 1048576) (hr : ∀ c ∈ l, c.row.length ≤ 1048576) : evF cfg 31 [] [.agg [.d (.i .i64 w), .d (.sl .any (l.map cC))], .agg [.d (.i .i64 w'), .d (.sl .any (m.map cC))]] = some (.d (.b (decide (w = w') && decide (l = m))), []) := by
  have H := Hd.mk (And.intro hl hr)
  clear hl hr
  by_cases hww : w = w'
  · subst hww
    have hw0 : (w != w) = false := bne_self_eq_false _
    have hw1 : decide (w = w) = true := decide_eq_true rfl
    by_cases hlm : m.length = l.length
    · have hd0 : (((l.length : Int) != (m.length : Int))) = false := by simp [hlm]
      (refine (evF_code (C := cfg) (g := 31) (fn := Try.f31) rfl Try.func31 rfl (by rw [Try.ntmps31]; simp) (by kernel_rfl) (by first | decide | simp [keysOf])).trans ?_; rw [Try.results31, Try.ntmps31])
      repeat' (first | with_reducible refine br_split (fun _ => ?_) (fun _ => ?_) | simp only [*, push_cast, Array.reduceGetElem?, Nat.reduceBEq, Nat.reduceLT, Nat.reduceAdd, Nat.reduceSub, Nat.reduceLeDiff, Nat.reduceMul, Nat.reduceEqDiff, reduceCtorEq, Int.reduceAdd, Int.reduceLT, Int.reduceLE, Int.reduceToNat, Int.reduceNeg, Int.reduceSub, Int.reduceBEq, Int.reduceBNe, Int.reduceNe, Int.reduceGT, Int.reduceGE, Nat.reduceGT] | (rw [drawC_ok]; rotate_left; decide +kernel; exact cfg_mixed))
      rw [evM_for0 l.length (fun i j => { t := [(2, .ptr 50 0), (3, .ptr 51 0), (5, .d (.i .i64 j))], o := [(50, .box [.d (.i .i64 w), .d (.sl .any (l.map cC))]), (51, .box [.d (.i .i64 w), .d (.sl .any (m.map cC))])], ks := [50, 51], n := 0, sz := 56, u := noU })
        (fun i => br (decide (l.drop i = m.drop i)) (some (.exit 0, { t := [], o := [], ks := [], n := 0, sz := 56, u := noU })) (some (.ret, { t := [(4, .d (.b false))], o := [], ks := [], n := 0, sz := 56, u := noU })) ⟨⟩) ?step ?last]
      case step =>
        intro i hi ih
        obtain ⟨hl, hr⟩ := H.out
        have hi2 : i < m.length := by omega
        have hc : (l.map cC)[i]? = some [.sl .any (l[i].row.map vC), .i .i64 l[i].n] := get_map cC l i hi
        have hc2 : (m.map cC)[i]? = some [.sl .any (m[i].row.map vC), .i .i64 m[i].n] := get_map cC m i hi2
        have hd := dec_lt hi
        have hdn := dec_ltN hi
        have hdn2 := dec_ltN hi2
        have hd2 : decide ((i : Int) < (m.length : Int)) = true := dec_lt hi2
        have hw : IntKind.i64.wrap ((i : Int) + 1) = (i : Int) + 1 := i64_in (by omega) (by omega)
        have hsr := ev_sameRow l[i].row m[i].row (hr _ (List.getElem_mem hi))
        rw [List.drop_eq_getElem_cons hi, List.drop_eq_getElem_cons hi2]
        clear H
        by_cases he : l[i] = m[i]
        · have h1 := dec_cons_t (l := l.drop (i + 1)) (m := m.drop (i + 1)) he
          rw [h1]
          rw [he] at hc hsr
          have e1 : decide (m[i].row = m[i].row) = true := decide_eq_true rfl
          clear h1 he hlm hl hr
          repeat' (first | with_reducible refine br_split (fun _ => ?_) (fun _ => ?_) | simp only [*, push_cast, Array.reduceGetElem?, Nat.reduceBEq, Nat.reduceLT, Nat.reduceAdd, Nat.reduceSub, Nat.reduceLeDiff, Nat.reduceMul, Nat.reduceEqDiff, reduceCtorEq, Int.reduceAdd, Int.reduceLT, Int.reduceLE, Int.reduceToNat, Int.reduceNeg, Int.reduceSub, Int.reduceBEq, Int.reduceBNe, Int.reduceNe, Int.reduceGT, Int.reduceGE, Nat.reduceGT] | (rw [drawC_ok]; rotate_left; decide +kernel; exact cfg_mixed))
        · have h1 := dec_cons_f (l := l.drop (i + 1)) (m := m.drop (i + 1)) he
          rw [h1]
          by_cases hn : l[i].n = m[i].n
          · have e0 : (l[i].n != m[i].n) = false := by rw [hn]; exact bne_self_eq_false _
            have e1 : decide (l[i].row = m[i].row) = false := decide_eq_false fun hrow => he (by
              cases hA : l[i] with
              | mk a b =>
                cases hB : m[i] with
                | mk a' b' =>
                  rw [hA, hB] at hrow hn
                  simp only at hrow hn
                  rw [hrow, hn])
            clear h1 he hlm hl hr ih hn
            repeat' (first | with_reducible refine br_split (fun _ => ?_) (fun _ => ?_) | simp only [*, push_cast, Array.reduceGetElem?, Nat.reduceBEq, Nat.reduceLT, Nat.reduceAdd, Nat.reduceSub, Nat.reduceLeDiff, Nat.reduceMul, Nat.reduceEqDiff, reduceCtorEq, Int.reduceAdd, Int.reduceLT, Int.reduceLE, Int.reduceToNat, Int.reduceNeg, Int.reduceSub, Int.reduceBEq, Int.reduceBNe, Int.reduceNe, Int.reduceGT, Int.reduceGE, Nat.reduceGT] | (rw [drawC_ok]; rotate_left; decide +kernel; exact cfg_mixed))
          · have e0 : (l[i].n != m[i].n) = true := by simpa using hn
            clear h1 he hlm hl hr ih hn
            repeat' (first | with_reducible refine br_split (fun _ => ?_) (fun _ => ?_) | simp only [*, push_cast, Array.reduceGetElem?, Nat.reduceBEq, Nat.reduceLT, Nat.reduceAdd, Nat.reduceSub, Nat.reduceLeDiff, Nat.reduceMul, Nat.reduceEqDiff, reduceCtorEq, Int.reduceAdd, Int.reduceLT, Int.reduceLE, Int.reduceToNat, Int.reduceNeg, Int.reduceSub, Int.reduceBEq, Int.reduceBNe, Int.reduceNe, Int.reduceGT, Int.reduceGE, Nat.reduceGT] | (rw [drawC_ok]; rotate_left; decide +kernel; exact cfg_mixed))
      case last =>
        have h1 : m.drop l.length = [] := by rw [← hlm]; simp
        have hdl : l.drop l.length = [] := by simp
        rw [h1, hdl]
        clear H
        repeat' (first | with_reducible refine br_split (fun _ => ?_) (fun _ => ?_) | simp only [*, push_cast, Array.reduceGetElem?, Nat.reduceBEq, Nat.reduceLT, Nat.reduceAdd, Nat.reduceSub, Nat.reduceLeDiff, Nat.reduceMul, Nat.reduceEqDiff, reduceCtorEq, Int.reduceAdd, Int.reduceLT, Int.reduceLE, Int.reduceToNat, Int.reduceNeg, Int.reduceSub, Int.reduceBEq, Int.reduceBNe, Int.reduceNe, Int.reduceGT, Int.reduceGE, Nat.reduceGT] | (rw [drawC_ok]; rotate_left; decide +kernel; exact cfg_mixed))
      · clear H
        repeat' (first | with_reducible refine br_split (fun _ => ?_) (fun _ => ?_) | simp only [*, push_cast, Array.reduceGetElem?, Nat.reduceBEq, Nat.reduceLT, Nat.reduceAdd, Nat.reduceSub, Nat.reduceLeDiff, Nat.reduceMul, Nat.reduceEqDiff, reduceCtorEq, Int.reduceAdd, Int.reduceLT, Int.reduceLE, Int.reduceToNat, Int.reduceNeg, Int.reduceSub, Int.reduceBEq, Int.reduceBNe, Int.reduceNe, Int.reduceGT, Int.reduceGE, Nat.reduceGT] | (rw [drawC_ok]; rotate_left; decide +kernel; exact cfg_mixed))
    · have hd0 : (((l.length : Int) != (m.length : Int))) = true := by simp; omega
      have hne : decide (l = m) = false := decide_eq_false (fun e => hlm (by rw [e]))
      clear H
      (refine (evF_code (C := cfg) (g := 31) (fn := Try.f31) rfl Try.func31 rfl (by rw [Try.ntmps31]; simp) (by kernel_rfl) (by first | decide | simp [keysOf])).trans ?_; rw [Try.results31, Try.ntmps31])
      repeat' (first | with_reducible refine br_split (fun _ => ?_) (fun _ => ?_) | simp only [*, push_cast, Array.reduceGetElem?, Nat.reduceBEq, Nat.reduceLT, Nat.reduceAdd, Nat.reduceSub, Nat.reduceLeDiff, Nat.reduceMul, Nat.reduceEqDiff, reduceCtorEq, Int.reduceAdd, Int.reduceLT, Int.reduceLE, Int.reduceToNat, Int.reduceNeg, Int.reduceSub, Int.reduceBEq, Int.reduceBNe, Int.reduceNe, Int.reduceGT, Int.reduceGE, Nat.reduceGT] | (rw [drawC_ok]; rotate_left; decide +kernel; exact cfg_mixed))
  · have hw0 : (w != w') = true := by simpa using hww
    have hne : decide (w = w') = false := decide_eq_false hww
    clear H
    (refine (evF_code (C := cfg) (g := 31) (fn := Try.f31) rfl Try.func31 rfl (by rw [Try.ntmps31]; simp) (by kernel_rfl) (by first | decide | simp [keysOf])).trans ?_; rw [Try.results31, Try.ntmps31])
    repeat' (first | with_reducible refine br_split (fun _ => ?_) (fun _ => ?_) | simp only [*, push_cast, Array.reduceGetElem?, Nat.reduceBEq, Nat.reduceLT, Nat.reduceAdd, Nat.reduceSub, Nat.reduceLeDiff, Nat.reduceMul, Nat.reduceEqDiff, reduceCtorEq, Int.reduceAdd, Int.reduceLT, Int.reduceLE, Int.reduceToNat, Int.reduceNeg, Int.reduceSub, Int.reduceBEq, Int.reduceBNe, Int.reduceNe, Int.reduceGT, Int.reduceGE, Nat.reduceGT] | (rw [drawC_ok]; rotate_left; decide +kernel; exact cfg_mixed))
theorem rows_short {rows : List (List V)} (hr : ∀ r ∈ rows, r.length ≤ 1048576) : Short (rows.map fun r => (⟨r, 1⟩ : C)) := fun c hc => by
  obtain ⟨r, h, rfl⟩ := List.mem_map.1 hc
  exact hr r h
theorem rows_in {rows : List (List V)} : ∀ c ∈ rows.map fun r => (⟨r, 1⟩ : C), w64 c.n = c.n := fun c hc => by
  obtain ⟨r, h, rfl⟩ := List.mem_map.1 hc
  show w64 1 = 1
  decide
theorem norm_short {l : List C} (h : Short l) : ∀ c ∈ norm l, c.row.length ≤ 1048576 := fun c hc => by
  obtain ⟨d, hd, e⟩ := nrow hc
  rw [← e]
  exact h d hd
theorem foldl_len : ∀ (l a : List C), (l.foldl putC a).length ≤ a.length + l.length
  | [], a => by simp
  | x :: l, a => by
    have h1 := foldl_len l (putC a x)
    have h2 := putC_len a x
    simp only [List.foldl_cons, List.length_cons]
    omega
theorem norm_len (l : List C) : (norm l).length ≤ l.length := by
  have := foldl_len l []
  simpa [norm] using this
theorem ev_BagOf (w : Int) (rows : List (List V)) (hl : rows.length ≤ 1000) (hr : ∀ r ∈ rows, r.length ≤ 1000) : evF cfg 28 [] [.d (.i .i64 w), .d (.sl .any (rows.map roC))] = some (.agg [.d (.i .i64 w), .d (.sl .any ((bagOfR w rows).rows.map cC))], []) := by
  have hsh := rows_short (rows := rows) fun r h => Nat.le_trans (hr r h) (by omega)
  have hg := ev_gathered_norm w (rows.map fun r => (⟨r, 1⟩ : C)) (by simp; omega) hsh rows_in
  have hn := norm_len (rows.map fun r => (⟨r, 1⟩ : C))
  rw [List.length_map] at hn
  have hns := norm_short hsh
  have ho := ev_BagOk w (norm (rows.map fun r => (⟨r, 1⟩ : C))) (by omega) (fun c hc => by have := hns c hc; omega)
  have H := Hd.mk (And.intro hl hr)
  clear hl hr hsh hn hns
  unfold bagOfR right
  generalize hN : norm (rows.map fun r => (⟨r, 1⟩ : C)) = N at *
  have HN := Hd.mk hN
  clear hN
  (refine (evF_code (C := cfg) (g := 28) (fn := Try.f28) rfl Try.func28 rfl (by rw [Try.ntmps28]; simp) (by kernel_rfl) (by first | decide | simp [keysOf])).trans ?_; rw [Try.results28, Try.ntmps28])
  repeat' (first | with_reducible refine br_split (fun _ => ?_) (fun _ => ?_) | simp only [*, push_cast, Array.reduceGetElem?, Nat.reduceBEq, Nat.reduceLT, Nat.reduceAdd, Nat.reduceSub, Nat.reduceLeDiff, Nat.reduceMul, Nat.reduceEqDiff, reduceCtorEq, Int.reduceAdd, Int.reduceLT, Int.reduceLE, Int.reduceToNat, Int.reduceNeg, Int.reduceSub, Int.reduceBEq, Int.reduceBNe, Int.reduceNe, Int.reduceGT, Int.reduceGE, Nat.reduceGT] | (rw [drawC_ok]; rotate_left; decide +kernel; exact cfg_mixed))
  rw [show ([] : List (List T)) = ((rows.take 0).map fun r => (⟨r, 1⟩ : C)).map cC from rfl]
  rw [evM_for0 rows.length (fun i j => { t := [(0, .d (.i .i64 w)), (4, .ptr 50 0), (5, .own 51), (9, .d (.sl .any (rows.map roC))), (10, .d (.i .i64 rows.length)), (11, .d (.i .i64 j))], o := [(50, .box [.d (.i .i64 0), .nl]), (51, .arr .any 2 (((rows.take i).map fun r => (⟨r, 1⟩ : C)).map cC))], ks := [50, 51], n := 0, sz := 30, u := noU }) (fun i => some (.exit 0, { t := [(0, .d (.i .i64 w)), (4, .ptr 50 0), (5, .own 51)], o := [(50, .box [.d (.i .i64 0), .nl]), (51, .arr .any 2 ((rows.map fun r => (⟨r, 1⟩ : C)).map cC))], ks := [50, 51], n := 0, sz := 30, u := noU })) ?step ?last]
  case step =>
    intro i hi ih
    obtain ⟨hl, hr⟩ := H.out
    have hc : (rows.map roC)[i]? = some [.sl .any (rows[i].map vC)] := get_map roC rows i hi
    have hd := dec_lt hi
    have hdn := dec_ltN hi
    have hw : IntKind.i64.wrap ((i : Int) + 1) = (i : Int) + 1 := wrap_succ (by omega)
    have h2 := len_ok (n := (rows.take i).length + 1) 32 (by simp; omega) (by omega)
    have h3 : ((rows.take i).map fun r => (⟨r, 1⟩ : C)).map cC ++ [[.sl .any (rows[i].map vC), .i .i64 1]] = ((rows.take (i + 1)).map fun r => (⟨r, 1⟩ : C)).map cC := by
      rw [List.take_succ_eq_append_getElem hi, List.map_append, List.map_append]; rfl
    clear hl hr H hg ho HN
    repeat' (first | with_reducible refine br_split (fun _ => ?_) (fun _ => ?_) | simp only [*, push_cast, Array.reduceGetElem?, Nat.reduceBEq, Nat.reduceLT, Nat.reduceAdd, Nat.reduceSub, Nat.reduceLeDiff, Nat.reduceMul, Nat.reduceEqDiff, reduceCtorEq, Int.reduceAdd, Int.reduceLT, Int.reduceLE, Int.reduceToNat, Int.reduceNeg, Int.reduceSub, Int.reduceBEq, Int.reduceBNe, Int.reduceNe, Int.reduceGT, Int.reduceGE, Nat.reduceGT] | (rw [drawC_ok]; rotate_left; decide +kernel; exact cfg_mixed))
  case last =>
    have ht : rows.take rows.length = rows := List.take_length
    clear H hg ho HN
    repeat' (first | with_reducible refine br_split (fun _ => ?_) (fun _ => ?_) | simp only [*, push_cast, Array.reduceGetElem?, Nat.reduceBEq, Nat.reduceLT, Nat.reduceAdd, Nat.reduceSub, Nat.reduceLeDiff, Nat.reduceMul, Nat.reduceEqDiff, reduceCtorEq, Int.reduceAdd, Int.reduceLT, Int.reduceLE, Int.reduceToNat, Int.reduceNeg, Int.reduceSub, Int.reduceBEq, Int.reduceBNe, Int.reduceNe, Int.reduceGT, Int.reduceGE, Nat.reduceGT] | (rw [drawC_ok]; rotate_left; decide +kernel; exact cfg_mixed))
  clear H HN
  cases hb : bagOk ⟨w, N⟩ with
  | true =>
    rw [hb] at ho
    simp only [if_true]
    clear hb
    repeat' (first | with_reducible refine br_split (fun _ => ?_) (fun _ => ?_) | simp only [*, push_cast, Array.reduceGetElem?, Nat.reduceBEq, Nat.reduceLT, Nat.reduceAdd, Nat.reduceSub, Nat.reduceLeDiff, Nat.reduceMul, Nat.reduceEqDiff, reduceCtorEq, Int.reduceAdd, Int.reduceLT, Int.reduceLE, Int.reduceToNat, Int.reduceNeg, Int.reduceSub, Int.reduceBEq, Int.reduceBNe, Int.reduceNe, Int.reduceGT, Int.reduceGE, Nat.reduceGT] | (rw [drawC_ok]; rotate_left; decide +kernel; exact cfg_mixed))
  | false =>
    rw [hb] at ho
    simp only [Bool.false_eq_true, if_false]
    clear hb
    repeat' (first | with_reducible refine br_split (fun _ => ?_) (fun _ => ?_) | simp only [*, push_cast, Array.reduceGetElem?, Nat.reduceBEq, Nat.reduceLT, Nat.reduceAdd, Nat.reduceSub, Nat.reduceLeDiff, Nat.reduceMul, Nat.reduceEqDiff, reduceCtorEq, Int.reduceAdd, Int.reduceLT, Int.reduceLE, Int.reduceToNat, Int.reduceNeg, Int.reduceSub, Int.reduceBEq, Int.reduceBNe, Int.reduceNe, Int.reduceGT, Int.reduceGE, Nat.reduceGT] | (rw [drawC_ok]; rotate_left; decide +kernel; exact cfg_mixed))
theorem ev_sBagOf (w : Int) (rows : List (List V)) (hl : rows.length ≤ 1000) (hr : ∀ r ∈ rows, r.length ≤ 1000) : evF cfg 34 [] [.d (.i .i64 w), .d (.sl .any (rows.map roC))] = some (.agg [.d (.i .i64 w), .d (.sl .any ((bagOfR w rows).rows.map cC))], []) := by
  have hsh := rows_short (rows := rows) fun r h => Nat.le_trans (hr r h) (by omega)
  have hn := norm_len (rows.map fun r => (⟨r, 1⟩ : C))
  rw [List.length_map] at hn
  have hns := norm_short hsh
  have ho := ev_l02Right w (norm (rows.map fun r => (⟨r, 1⟩ : C))) (by omega) (fun c hc => by have := hns c hc; omega)
  have H := Hd.mk (And.intro hl hr)
  clear hl hr hsh hn hns
  rw [show right ⟨w, norm (rows.map fun r => (⟨r, 1⟩ : C))⟩ = bagOfR w rows from rfl] at ho
  (refine (evF_code (C := cfg) (g := 34) (fn := Try.f34) rfl Try.func34 rfl (by rw [Try.ntmps34]; simp) (by kernel_rfl) (by first | decide | simp [keysOf])).trans ?_; rw [Try.results34, Try.ntmps34])
  repeat' (first | with_reducible refine br_split (fun _ => ?_) (fun _ => ?_) | simp only [*, push_cast, Array.reduceGetElem?, Nat.reduceBEq, Nat.reduceLT, Nat.reduceAdd, Nat.reduceSub, Nat.reduceLeDiff, Nat.reduceMul, Nat.reduceEqDiff, reduceCtorEq, Int.reduceAdd, Int.reduceLT, Int.reduceLE, Int.reduceToNat, Int.reduceNeg, Int.reduceSub, Int.reduceBEq, Int.reduceBNe, Int.reduceNe, Int.reduceGT, Int.reduceGE, Nat.reduceGT] | (rw [drawC_ok]; rotate_left; decide +kernel; exact cfg_mixed))
  rw [show ([] : List (List T)) = (norm ((rows.take 0).map fun r => (⟨r, 1⟩ : C))).map cC from rfl]
  rw [evM_for0 rows.length (fun i j => { t := [(1, .d (.sl .any (rows.map roC))), (4, .ptr 50 0), (5, .ptr 51 0), (6, .d (.i .i64 j))], o := [(50, .box [.d (.i .i64 0), .nl]), (51, .box [.d (.i .i64 w), .own 52]), (52, .arr .any 2 ((norm ((rows.take i).map fun r => (⟨r, 1⟩ : C))).map cC))], ks := [50, 51, 52], n := 0, sz := 23, u := noU }) (fun i => some (.exit 0, { t := [(4, .ptr 50 0), (5, .ptr 51 0)], o := [(50, .box [.d (.i .i64 0), .nl]), (51, .box [.d (.i .i64 w), .own 52]), (52, .arr .any 2 ((norm (rows.map fun r => (⟨r, 1⟩ : C))).map cC))], ks := [50, 51, 52], n := 0, sz := 23, u := noU })) ?step ?last]
  case step =>
    intro i hi ih
    obtain ⟨hl, hr⟩ := H.out
    have hc : (rows.map roC)[i]? = some [.sl .any (rows[i].map vC)] := get_map roC rows i hi
    have hd := dec_lt hi
    have hdn := dec_ltN hi
    have hw : IntKind.i64.wrap ((i : Int) + 1) = (i : Int) + 1 := wrap_succ (by omega)
    have hs : putC (norm ((rows.take i).map fun r => (⟨r, 1⟩ : C))) ⟨rows[i], 1⟩ = norm ((rows.take (i + 1)).map fun r => (⟨r, 1⟩ : C)) := by
      rw [List.take_succ_eq_append_getElem hi, List.map_append]
      unfold norm
      rw [List.foldl_append]
      rfl
    have hn := norm_len ((rows.take i).map fun r => (⟨r, 1⟩ : C))
    rw [List.length_map, List.length_take] at hn
    have hsh := norm_short (rows_short (rows := rows.take i) fun r h => Nat.le_trans (hr r (List.mem_of_mem_take h)) (by omega))
    have hcan := (norm_canon (rows_in (rows := rows.take i))).1
    rcases ev_l02Put w 1 (norm ((rows.take i).map fun r => (⟨r, 1⟩ : C))) rows[i] (by omega) hsh (by have := hr _ (List.getElem_mem hi); omega) hcan with hput | hput
    · rw [hs] at hput
      clear hl hr H ho hs hn hsh hcan
      repeat' (first | with_reducible refine br_split (fun _ => ?_) (fun _ => ?_) | simp only [*, push_cast, Array.reduceGetElem?, Nat.reduceBEq, Nat.reduceLT, Nat.reduceAdd, Nat.reduceSub, Nat.reduceLeDiff, Nat.reduceMul, Nat.reduceEqDiff, reduceCtorEq, Int.reduceAdd, Int.reduceLT, Int.reduceLE, Int.reduceToNat, Int.reduceNeg, Int.reduceSub, Int.reduceBEq, Int.reduceBNe, Int.reduceNe, Int.reduceGT, Int.reduceGE, Nat.reduceGT] | (rw [drawC_ok]; rotate_left; decide +kernel; exact cfg_mixed))
    · rw [hs] at hput
      clear hl hr H ho hs hn hsh hcan
      repeat' (first | with_reducible refine br_split (fun _ => ?_) (fun _ => ?_) | simp only [*, push_cast, Array.reduceGetElem?, Nat.reduceBEq, Nat.reduceLT, Nat.reduceAdd, Nat.reduceSub, Nat.reduceLeDiff, Nat.reduceMul, Nat.reduceEqDiff, reduceCtorEq, Int.reduceAdd, Int.reduceLT, Int.reduceLE, Int.reduceToNat, Int.reduceNeg, Int.reduceSub, Int.reduceBEq, Int.reduceBNe, Int.reduceNe, Int.reduceGT, Int.reduceGE, Nat.reduceGT] | (rw [drawC_ok]; rotate_left; decide +kernel; exact cfg_mixed))
  case last =>
    have ht : rows.take rows.length = rows := List.take_length
    clear H ho
    repeat' (first | with_reducible refine br_split (fun _ => ?_) (fun _ => ?_) | simp only [*, push_cast, Array.reduceGetElem?, Nat.reduceBEq, Nat.reduceLT, Nat.reduceAdd, Nat.reduceSub, Nat.reduceLeDiff, Nat.reduceMul, Nat.reduceEqDiff, reduceCtorEq, Int.reduceAdd, Int.reduceLT, Int.reduceLE, Int.reduceToNat, Int.reduceNeg, Int.reduceSub, Int.reduceBEq, Int.reduceBNe, Int.reduceNe, Int.reduceGT, Int.reduceGE, Nat.reduceGT] | (rw [drawC_ok]; rotate_left; decide +kernel; exact cfg_mixed))
  clear H
  repeat' (first | with_reducible refine br_split (fun _ => ?_) (fun _ => ?_) | simp only [*, push_cast, Array.reduceGetElem?, Nat.reduceBEq, Nat.reduceLT, Nat.reduceAdd, Nat.reduceSub, Nat.reduceLeDiff, Nat.reduceMul, Nat.reduceEqDiff, reduceCtorEq, Int.reduceAdd, Int.reduceLT, Int.reduceLE, Int.reduceToNat, Int.reduceNeg, Int.reduceSub, Int.reduceBEq, Int.reduceBNe, Int.reduceNe, Int.reduceGT, Int.reduceGE, Nat.reduceGT] | (rw [drawC_ok]; rotate_left; decide +kernel; exact cfg_mixed))
end Go.Av
end
