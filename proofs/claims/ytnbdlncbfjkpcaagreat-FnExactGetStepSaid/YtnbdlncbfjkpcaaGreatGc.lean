/- What functions of this seat give. -/
import Derived.Test.YtnbdlncbfjkpcaaGreatGa
import Derived.Test.YtnbdlncbfjkpcaaGreatGb
set_option linter.all false
set_option linter.unusedVariables false
set_option linter.unusedSimpArgs false

section
namespace Go.Av
open Go.Proofs
set_option linter.unusedSimpArgs false

theorem ev_eqStringS (l m : List ByteArray) (hlim : (T.sl .any (l.map sC)).lim) : evF cfg 36 [] [.d (.sl .any (l.map sC)), .d (.sl .any (m.map sC))] = some (.d (.b (decide (l = m))), []) := by
  simp only [T.lim, List.length_map, limEs_map] at hlim
  obtain ⟨hl, hlm0⟩ := hlim
  by_cases hlm : m.length = l.length
  · have hd0 : (((l.length : Int) != (m.length : Int))) = false := by simp [hlm]
    (refine (evF_code (C := cfg) (g := 36) (fn := Tryz.f36) rfl Tryz.func36 rfl (by rw [Tryz.ntmps36]; simp) (by kernel_rfl) (by first | decide | simp [keysOf])).trans ?_; rw [Tryz.results36, Tryz.ntmps36])
    repeat' (first | with_reducible refine br_split (fun _ => ?_) (fun _ => ?_) | simp only [*, push_cast, Array.reduceGetElem?, Nat.reduceBEq, Nat.reduceLT, Nat.reduceAdd, Nat.reduceSub, Nat.reduceLeDiff, Nat.reduceMul, Nat.reduceEqDiff, reduceCtorEq, Int.reduceAdd, Int.reduceLT, Int.reduceLE, Int.reduceToNat, Int.reduceNeg, Int.reduceSub, Int.reduceBEq, Int.reduceBNe, Int.reduceNe, Int.reduceGT, Int.reduceGE, Nat.reduceGT] | (rw [drawC_ok]; rotate_left; decide +kernel; exact cfg_mixed))
    rw [evM_for0 l.length (fun i j => { t := [(0, .d (.sl .any (l.map sC))), (1, .d (.sl .any (m.map sC))), (5, .d (.i .i64 j))], o := [], ks := [], n := 0, sz := 26, u := noU })
      (fun i => br (decide (l.drop i = m.drop i)) (some (.exit 0, { t := [], o := [], ks := [], n := 0, sz := 26, u := noU })) (some (.ret, { t := [(4, .d (.b false))], o := [], ks := [], n := 0, sz := 26, u := noU })) ⟨⟩) ?step ?last]
    case step =>
      intro i hi ih
      have hi2 : i < m.length := by omega
      have hc : (l.map sC)[i]? = some [.s l[i]] := get_map sC l i hi
      have hc2 : (m.map sC)[i]? = some [.s m[i]] := get_map sC m i hi2
      have hd := dec_lt hi
      have hw : IntKind.i64.wrap ((i : Int) + 1) = (i : Int) + 1 := i64_in (by omega) (by omega)
      rw [List.drop_eq_getElem_cons hi, List.drop_eq_getElem_cons hi2]
      by_cases he : l[i] = m[i]
      · have h1 := dec_cons_t (l := l.drop (i + 1)) (m := m.drop (i + 1)) he
        have h3 : decide (l[i] = m[i]) = true := by simp [he]
        rw [h1]
        clear h1 he
        repeat' (first | with_reducible refine br_split (fun _ => ?_) (fun _ => ?_) | simp only [*, push_cast, Array.reduceGetElem?, Nat.reduceBEq, Nat.reduceLT, Nat.reduceAdd, Nat.reduceSub, Nat.reduceLeDiff, Nat.reduceMul, Nat.reduceEqDiff, reduceCtorEq, Int.reduceAdd, Int.reduceLT, Int.reduceLE, Int.reduceToNat, Int.reduceNeg, Int.reduceSub, Int.reduceBEq, Int.reduceBNe, Int.reduceNe, Int.reduceGT, Int.reduceGE, Nat.reduceGT] | (rw [drawC_ok]; rotate_left; decide +kernel; exact cfg_mixed))
      · have h1 := dec_cons_f (l := l.drop (i + 1)) (m := m.drop (i + 1)) he
        have h3 : decide (l[i] = m[i]) = false := by simp [he]
        rw [h1]
        clear h1 he
        repeat' (first | with_reducible refine br_split (fun _ => ?_) (fun _ => ?_) | simp only [*, push_cast, Array.reduceGetElem?, Nat.reduceBEq, Nat.reduceLT, Nat.reduceAdd, Nat.reduceSub, Nat.reduceLeDiff, Nat.reduceMul, Nat.reduceEqDiff, reduceCtorEq, Int.reduceAdd, Int.reduceLT, Int.reduceLE, Int.reduceToNat, Int.reduceNeg, Int.reduceSub, Int.reduceBEq, Int.reduceBNe, Int.reduceNe, Int.reduceGT, Int.reduceGE, Nat.reduceGT] | (rw [drawC_ok]; rotate_left; decide +kernel; exact cfg_mixed))
    case last =>
      have h1 : m.drop l.length = [] := by rw [← hlm]; simp
      have hdl : l.drop l.length = [] := by simp
      rw [h1, hdl]
      repeat' (first | with_reducible refine br_split (fun _ => ?_) (fun _ => ?_) | simp only [*, push_cast, Array.reduceGetElem?, Nat.reduceBEq, Nat.reduceLT, Nat.reduceAdd, Nat.reduceSub, Nat.reduceLeDiff, Nat.reduceMul, Nat.reduceEqDiff, reduceCtorEq, Int.reduceAdd, Int.reduceLT, Int.reduceLE, Int.reduceToNat, Int.reduceNeg, Int.reduceSub, Int.reduceBEq, Int.reduceBNe, Int.reduceNe, Int.reduceGT, Int.reduceGE, Nat.reduceGT] | (rw [drawC_ok]; rotate_left; decide +kernel; exact cfg_mixed))
    · repeat' (first | with_reducible refine br_split (fun _ => ?_) (fun _ => ?_) | simp only [*, push_cast, Array.reduceGetElem?, Nat.reduceBEq, Nat.reduceLT, Nat.reduceAdd, Nat.reduceSub, Nat.reduceLeDiff, Nat.reduceMul, Nat.reduceEqDiff, reduceCtorEq, Int.reduceAdd, Int.reduceLT, Int.reduceLE, Int.reduceToNat, Int.reduceNeg, Int.reduceSub, Int.reduceBEq, Int.reduceBNe, Int.reduceNe, Int.reduceGT, Int.reduceGE, Nat.reduceGT] | (rw [drawC_ok]; rotate_left; decide +kernel; exact cfg_mixed))
  · have hd0 : (((l.length : Int) != (m.length : Int))) = true := by simp; omega
    have hne : decide (l = m) = false := decide_eq_false (fun e => hlm (by rw [e]))
    (refine (evF_code (C := cfg) (g := 36) (fn := Tryz.f36) rfl Tryz.func36 rfl (by rw [Tryz.ntmps36]; simp) (by kernel_rfl) (by first | decide | simp [keysOf])).trans ?_; rw [Tryz.results36, Tryz.ntmps36])
    repeat' (first | with_reducible refine br_split (fun _ => ?_) (fun _ => ?_) | simp only [*, push_cast, Array.reduceGetElem?, Nat.reduceBEq, Nat.reduceLT, Nat.reduceAdd, Nat.reduceSub, Nat.reduceLeDiff, Nat.reduceMul, Nat.reduceEqDiff, reduceCtorEq, Int.reduceAdd, Int.reduceLT, Int.reduceLE, Int.reduceToNat, Int.reduceNeg, Int.reduceSub, Int.reduceBEq, Int.reduceBNe, Int.reduceNe, Int.reduceGT, Int.reduceGE, Nat.reduceGT] | (rw [drawC_ok]; rotate_left; decide +kernel; exact cfg_mixed))

end Go.Av
end

section
namespace Go.Av
open Go.Proofs
set_option linter.unusedSimpArgs false

theorem ev_IndexFuncbyte_A0 {h : FuncId} {p : UInt8 → Bool} (l : List UInt8) (hl : l.length ≤ 1099511627776) (hp : ∀ x ∈ l, evF cfg 113 [(0, .box [.clo h []])] [.d (.i .u8 x.toNat), .ptr 0 0] = some (.d (.b (p x)), [(0, .box [.clo h []])])) :
    evF cfg 127 [(0, .box [.clo h []])] [.d (.sl .any (l.map byC)), .clo 113 [.ptr 0 0]] = some (.d (.i .i64 (idxOf p l)), [(0, .box [.clo h []])]) := by
  (refine (evF_code (C := cfg) (g := 127) (fn := Tryz.f127) rfl Tryz.func127 rfl (by rw [Tryz.ntmps127]; simp) (by kernel_rfl) (by first | decide | simp [keysOf])).trans ?_; rw [Tryz.results127, Tryz.ntmps127])
  repeat' (first | with_reducible refine br_split (fun _ => ?_) (fun _ => ?_) | simp only [*, push_cast, Array.reduceGetElem?, Nat.reduceBEq, Nat.reduceLT, Nat.reduceAdd, Nat.reduceSub, Nat.reduceLeDiff, Nat.reduceMul, Nat.reduceEqDiff, reduceCtorEq, Int.reduceAdd, Int.reduceLT, Int.reduceLE, Int.reduceToNat, Int.reduceNeg, Int.reduceSub, Int.reduceBEq, Int.reduceBNe, Int.reduceNe, Int.reduceGT, Int.reduceGE, Nat.reduceGT] | (rw [drawC_ok]; rotate_left; decide +kernel; exact cfg_mixed))
  rw [evM_for0 l.length (fun i j => { t := [(0, .d (.sl .any (l.map byC))), (1, .clo 113 [.ptr 0 0]), (7, .d (.i .i64 l.length)), (8, .d (.i .i64 j))], o := [(0, .box [.clo h []])], ks := [0], n := 0, sz := 19, u := noU })
    (fun i => br ((l.drop i).any p) (some (.ret, { t := [(4, .d (.i .i64 (i + (l.drop i).findIdx p : Nat)))], o := [(0, .box [.clo h []])], ks := [0], n := 0, sz := 19, u := noU })) (some (.exit 0, { t := [], o := [(0, .box [.clo h []])], ks := [0], n := 0, sz := 19, u := noU })) ⟨⟩) ?step ?last]
  case step =>
    intro i hi ih
    have hc : (l.map byC)[i]? = some [.i .u8 l[i].toNat] := get_map byC l i hi
    have hd := dec_lt hi
    have hw : IntKind.i64.wrap ((i : Int) + 1) = (i : Int) + 1 := wrap_succ (by omega)
    have he := hp _ (List.getElem_mem hi)
    have hx := List.drop_eq_getElem_cons hi
    cases hpi : p l[i] with
    | true =>
      have h1 : (l.drop i).any p = true := by rw [hx, List.any_cons, hpi, Bool.true_or]
      have h2 : (l.drop i).findIdx p = 0 := by rw [hx, List.findIdx_cons, hpi]; rfl
      rw [h1, h2]
      clear hx h1 h2
      repeat' (first | with_reducible refine br_split (fun _ => ?_) (fun _ => ?_) | simp only [*, push_cast, Array.reduceGetElem?, Nat.reduceBEq, Nat.reduceLT, Nat.reduceAdd, Nat.reduceSub, Nat.reduceLeDiff, Nat.reduceMul, Nat.reduceEqDiff, reduceCtorEq, Int.reduceAdd, Int.reduceLT, Int.reduceLE, Int.reduceToNat, Int.reduceNeg, Int.reduceSub, Int.reduceBEq, Int.reduceBNe, Int.reduceNe, Int.reduceGT, Int.reduceGE, Nat.reduceGT] | (rw [drawC_ok]; rotate_left; decide +kernel; exact cfg_mixed))
    | false =>
      have h1 : (l.drop i).any p = (l.drop (i + 1)).any p := by rw [hx, List.any_cons, hpi, Bool.false_or]
      have h2 : i + (l.drop i).findIdx p = i + 1 + (l.drop (i + 1)).findIdx p := by rw [hx, List.findIdx_cons, hpi, cond_false]; omega
      rw [h1, h2]
      clear hx h1 h2
      repeat' (first | with_reducible refine br_split (fun _ => ?_) (fun _ => ?_) | simp only [*, push_cast, Array.reduceGetElem?, Nat.reduceBEq, Nat.reduceLT, Nat.reduceAdd, Nat.reduceSub, Nat.reduceLeDiff, Nat.reduceMul, Nat.reduceEqDiff, reduceCtorEq, Int.reduceAdd, Int.reduceLT, Int.reduceLE, Int.reduceToNat, Int.reduceNeg, Int.reduceSub, Int.reduceBEq, Int.reduceBNe, Int.reduceNe, Int.reduceGT, Int.reduceGE, Nat.reduceGT] | (rw [drawC_ok]; rotate_left; decide +kernel; exact cfg_mixed))
  case last =>
    rw [List.drop_length, List.any_nil]
    repeat' (first | with_reducible refine br_split (fun _ => ?_) (fun _ => ?_) | simp only [*, push_cast, Array.reduceGetElem?, Nat.reduceBEq, Nat.reduceLT, Nat.reduceAdd, Nat.reduceSub, Nat.reduceLeDiff, Nat.reduceMul, Nat.reduceEqDiff, reduceCtorEq, Int.reduceAdd, Int.reduceLT, Int.reduceLE, Int.reduceToNat, Int.reduceNeg, Int.reduceSub, Int.reduceBEq, Int.reduceBNe, Int.reduceNe, Int.reduceGT, Int.reduceGE, Nat.reduceGT] | (rw [drawC_ok]; rotate_left; decide +kernel; exact cfg_mixed))
  · unfold idxOf
    rw [List.drop_zero, Nat.zero_add]
    cases l.any p <;> repeat' (first | with_reducible refine br_split (fun _ => ?_) (fun _ => ?_) | simp only [*, push_cast, Array.reduceGetElem?, Nat.reduceBEq, Nat.reduceLT, Nat.reduceAdd, Nat.reduceSub, Nat.reduceLeDiff, Nat.reduceMul, Nat.reduceEqDiff, reduceCtorEq, Int.reduceAdd, Int.reduceLT, Int.reduceLE, Int.reduceToNat, Int.reduceNeg, Int.reduceSub, Int.reduceBEq, Int.reduceBNe, Int.reduceNe, Int.reduceGT, Int.reduceGE, Nat.reduceGT] | (rw [drawC_ok]; rotate_left; decide +kernel; exact cfg_mixed))
theorem ev_ContainsFuncbyte_A0 {h : FuncId} {p : UInt8 → Bool} (l : List UInt8) (hl : l.length ≤ 1099511627776) (hp : ∀ x ∈ l, evF cfg 113 [(0, .box [.clo h []])] [.d (.i .u8 x.toNat), .ptr 0 0] = some (.d (.b (p x)), [(0, .box [.clo h []])])) :
    evF cfg 112 [(0, .box [.clo h []])] [.d (.sl .any (l.map byC)), .clo 113 [.ptr 0 0]] = some (.d (.b (l.any p)), [(0, .box [.clo h []])]) := by
  have hi := ev_IndexFuncbyte_A0  l hl hp
  have ha := idxOf_any p l
  clear hp
  (refine (evF_code (C := cfg) (g := 112) (fn := Tryz.f112) rfl Tryz.func112 rfl (by rw [Tryz.ntmps112]; simp) (by kernel_rfl) (by first | decide | simp [keysOf])).trans ?_; rw [Tryz.results112, Tryz.ntmps112])
  repeat' (first | with_reducible refine br_split (fun _ => ?_) (fun _ => ?_) | simp only [*, push_cast, Array.reduceGetElem?, Nat.reduceBEq, Nat.reduceLT, Nat.reduceAdd, Nat.reduceSub, Nat.reduceLeDiff, Nat.reduceMul, Nat.reduceEqDiff, reduceCtorEq, Int.reduceAdd, Int.reduceLT, Int.reduceLE, Int.reduceToNat, Int.reduceNeg, Int.reduceSub, Int.reduceBEq, Int.reduceBNe, Int.reduceNe, Int.reduceGT, Int.reduceGE, Nat.reduceGT] | (rw [drawC_ok]; rotate_left; decide +kernel; exact cfg_mixed))
theorem ev_areAll1byte_0 {h : FuncId} {p : Bool} (x : UInt8) (hx : cfg.E h = none) (hX : cfg.Y h = false) (hZ : cfg.Z h = false) (hp : evF cfg h [] [.d (.i .u8 x.toNat)] = some (.d (.b p), [])) :
    evF cfg 113 [(0, .box [.clo h []])] [.d (.i .u8 x.toNat), .ptr 0 0] = some (.d (.b (!p)), [(0, .box [.clo h []])]) := by
  simp only [push_cast, Array.reduceGetElem?, Nat.reduceBEq, Nat.reduceLT, Nat.reduceAdd, Nat.reduceSub, Nat.reduceLeDiff, Nat.reduceMul, Nat.reduceEqDiff, reduceCtorEq, Int.reduceAdd, Int.reduceLT, Int.reduceLE, Int.reduceToNat, Int.reduceNeg, Int.reduceSub, Int.reduceBEq, Int.reduceBNe, Int.reduceNe, Int.reduceGT, Int.reduceGE, Nat.reduceGT] at hx hX hZ
  (refine (evF_code (C := cfg) (g := 113) (fn := Tryz.f113) rfl Tryz.func113 rfl (by rw [Tryz.ntmps113]; simp) (by kernel_rfl) (by first | decide | simp [keysOf])).trans ?_; rw [Tryz.results113, Tryz.ntmps113])
  repeat' (first | with_reducible refine br_split (fun _ => ?_) (fun _ => ?_) | simp only [*, push_cast, Array.reduceGetElem?, Nat.reduceBEq, Nat.reduceLT, Nat.reduceAdd, Nat.reduceSub, Nat.reduceLeDiff, Nat.reduceMul, Nat.reduceEqDiff, reduceCtorEq, Int.reduceAdd, Int.reduceLT, Int.reduceLE, Int.reduceToNat, Int.reduceNeg, Int.reduceSub, Int.reduceBEq, Int.reduceBNe, Int.reduceNe, Int.reduceGT, Int.reduceGE, Nat.reduceGT] | (rw [drawC_ok]; rotate_left; decide +kernel; exact cfg_mixed))
theorem ev_areAllbyte_0 {h : FuncId} {p : UInt8 → Bool} (l : List UInt8) (hl : l.length ≤ 1099511627776) (hx : cfg.E h = none) (hX : cfg.Y h = false) (hZ : cfg.Z h = false)
    (hp : ∀ x ∈ l, evF cfg h [] [.d (.i .u8 x.toNat)] = some (.d (.b (p x)), [])) :
    evF cfg 87 [] [.d (.sl .any (l.map byC)), .clo h []] = some (.d (.b (l.all p)), []) := by
  have hc := ev_ContainsFuncbyte_A0 (h := h)  l hl (fun x hm => ev_areAll1byte_0  x hx hX hZ (hp x hm))
  have ha : (!l.any fun x => !p x) = l.all p := not_any p l
  clear hp
  (refine (evF_code (C := cfg) (g := 87) (fn := Tryz.f87) rfl Tryz.func87 rfl (by rw [Tryz.ntmps87]; simp) (by kernel_rfl) (by first | decide | simp [keysOf])).trans ?_; rw [Tryz.results87, Tryz.ntmps87])
  repeat' (first | with_reducible refine br_split (fun _ => ?_) (fun _ => ?_) | simp only [*, push_cast, Array.reduceGetElem?, Nat.reduceBEq, Nat.reduceLT, Nat.reduceAdd, Nat.reduceSub, Nat.reduceLeDiff, Nat.reduceMul, Nat.reduceEqDiff, reduceCtorEq, Int.reduceAdd, Int.reduceLT, Int.reduceLE, Int.reduceToNat, Int.reduceNeg, Int.reduceSub, Int.reduceBEq, Int.reduceBNe, Int.reduceNe, Int.reduceGT, Int.reduceGE, Nat.reduceGT] | (rw [drawC_ok]; rotate_left; decide +kernel; exact cfg_mixed))

end Go.Av
end

section
namespace Go.Av
open Go.Proofs
set_option linter.unusedSimpArgs false

def smB (b : UInt8) : Bool := decide (97 ≤ (b.toNat : Int)) && decide ((b.toNat : Int) ≤ 122)
def dgB (b : UInt8) : Bool := decide (48 ≤ (b.toNat : Int)) && decide ((b.toNat : Int) ≤ 57)
@[push_cast] theorem ev_isSmall (b : UInt8) : evF cfg 86 [] [.d (.i .u8 b.toNat)] = some (.d (.b (smB b)), []) := by
  (refine (evF_code (C := cfg) (g := 86) (fn := Tryz.f86) rfl Tryz.func86 rfl (by rw [Tryz.ntmps86]; simp) (by kernel_rfl) (by first | decide | simp [keysOf])).trans ?_; rw [Tryz.results86, Tryz.ntmps86])
  repeat' (first | with_reducible refine br_split (fun _ => ?_) (fun _ => ?_) | simp only [*, push_cast, Array.reduceGetElem?, Nat.reduceBEq, Nat.reduceLT, Nat.reduceAdd, Nat.reduceSub, Nat.reduceLeDiff, Nat.reduceMul, Nat.reduceEqDiff, reduceCtorEq, Int.reduceAdd, Int.reduceLT, Int.reduceLE, Int.reduceToNat, Int.reduceNeg, Int.reduceSub, Int.reduceBEq, Int.reduceBNe, Int.reduceNe, Int.reduceGT, Int.reduceGE, Nat.reduceGT] | (rw [drawC_ok]; rotate_left; decide +kernel; exact cfg_mixed))
  all_goals simp_all [smB]
  all_goals omega
@[push_cast] theorem ev_isDigit (b : UInt8) : evF cfg 89 [] [.d (.i .u8 b.toNat)] = some (.d (.b (dgB b)), []) := by
  (refine (evF_code (C := cfg) (g := 89) (fn := Tryz.f89) rfl Tryz.func89 rfl (by rw [Tryz.ntmps89]; simp) (by kernel_rfl) (by first | decide | simp [keysOf])).trans ?_; rw [Tryz.results89, Tryz.ntmps89])
  repeat' (first | with_reducible refine br_split (fun _ => ?_) (fun _ => ?_) | simp only [*, push_cast, Array.reduceGetElem?, Nat.reduceBEq, Nat.reduceLT, Nat.reduceAdd, Nat.reduceSub, Nat.reduceLeDiff, Nat.reduceMul, Nat.reduceEqDiff, reduceCtorEq, Int.reduceAdd, Int.reduceLT, Int.reduceLE, Int.reduceToNat, Int.reduceNeg, Int.reduceSub, Int.reduceBEq, Int.reduceBNe, Int.reduceNe, Int.reduceGT, Int.reduceGE, Nat.reduceGT] | (rw [drawC_ok]; rotate_left; decide +kernel; exact cfg_mixed))
  all_goals simp_all [dgB]
  all_goals omega
@[push_cast] theorem ev_NameOk1 (b : UInt8) : evF cfg 88 [] [.d (.i .u8 b.toNat)] = some (.d (.b (smB b || dgB b)), []) := by
  (refine (evF_code (C := cfg) (g := 88) (fn := Tryz.f88) rfl Tryz.func88 rfl (by rw [Tryz.ntmps88]; simp) (by kernel_rfl) (by first | decide | simp [keysOf])).trans ?_; rw [Tryz.results88, Tryz.ntmps88])
  repeat' (first | with_reducible refine br_split (fun _ => ?_) (fun _ => ?_) | simp only [*, push_cast, Array.reduceGetElem?, Nat.reduceBEq, Nat.reduceLT, Nat.reduceAdd, Nat.reduceSub, Nat.reduceLeDiff, Nat.reduceMul, Nat.reduceEqDiff, reduceCtorEq, Int.reduceAdd, Int.reduceLT, Int.reduceLE, Int.reduceToNat, Int.reduceNeg, Int.reduceSub, Int.reduceBEq, Int.reduceBNe, Int.reduceNe, Int.reduceGT, Int.reduceGE, Nat.reduceGT] | (rw [drawC_ok]; rotate_left; decide +kernel; exact cfg_mixed))
  all_goals simp_all
def nmB (b : UInt8) : Bool := smB b || dgB b
def nameOk (s : ByteArray) : Bool := (decide (1 ≤ (s.size : Int)) && decide ((s.size : Int) ≤ 10)) && (smB (s.data.toList.headD 0) && s.data.toList.all nmB)
theorem ba_get (s : ByteArray) (i : Nat) : s[i]? = s.data.toList[i]? := by
  by_cases h : i < s.size
  · rw [getElem?_pos s i h, List.getElem?_eq_getElem (by simpa using h)]
    rfl
  · rw [getElem?_neg s i h, List.getElem?_eq_none (by simpa using h)]
theorem ev_NameOk (s : ByteArray) : evF cfg 56 [] [.d (.s s)] = some (.d (.b (nameOk s)), []) := by
  unfold nameOk
  cases hr : (decide (1 ≤ (s.size : Int)) && decide ((s.size : Int) ≤ 10)) with
  | false =>
    (refine (evF_code (C := cfg) (g := 56) (fn := Tryz.f56) rfl Tryz.func56 rfl (by rw [Tryz.ntmps56]; simp) (by kernel_rfl) (by first | decide | simp [keysOf])).trans ?_; rw [Tryz.results56, Tryz.ntmps56])
    repeat' (first | with_reducible refine br_split (fun _ => ?_) (fun _ => ?_) | simp only [*, push_cast, Array.reduceGetElem?, Nat.reduceBEq, Nat.reduceLT, Nat.reduceAdd, Nat.reduceSub, Nat.reduceLeDiff, Nat.reduceMul, Nat.reduceEqDiff, reduceCtorEq, Int.reduceAdd, Int.reduceLT, Int.reduceLE, Int.reduceToNat, Int.reduceNeg, Int.reduceSub, Int.reduceBEq, Int.reduceBNe, Int.reduceNe, Int.reduceGT, Int.reduceGE, Nat.reduceGT] | (rw [drawC_ok]; rotate_left; decide +kernel; exact cfg_mixed))
  | true =>
    have hsz : 1 ≤ s.size ∧ s.size ≤ 10 := by simp at hr; omega
    have h0 : s[0]? = some (s.data.toList.headD 0) := by
      rw [ba_get]
      have : s.data.toList.length = s.size := by simp
      revert this
      cases s.data.toList with
      | nil => intro h; simp at h; omega
      | cons a l => intro _; rfl
    have ha := ev_areAllbyte_0 (h := 88) (p := nmB) s.data.toList (by simp; omega) (by rfl) (by rfl) (by rfl) (fun x _ => ev_NameOk1 x)
    have hbt : bytesT s = s.data.toList.map byC := rfl
    cases hs : smB (s.data.toList.headD 0) with
    | false =>
      (refine (evF_code (C := cfg) (g := 56) (fn := Tryz.f56) rfl Tryz.func56 rfl (by rw [Tryz.ntmps56]; simp) (by kernel_rfl) (by first | decide | simp [keysOf])).trans ?_; rw [Tryz.results56, Tryz.ntmps56])
      repeat' (first | with_reducible refine br_split (fun _ => ?_) (fun _ => ?_) | simp only [*, push_cast, Array.reduceGetElem?, Nat.reduceBEq, Nat.reduceLT, Nat.reduceAdd, Nat.reduceSub, Nat.reduceLeDiff, Nat.reduceMul, Nat.reduceEqDiff, reduceCtorEq, Int.reduceAdd, Int.reduceLT, Int.reduceLE, Int.reduceToNat, Int.reduceNeg, Int.reduceSub, Int.reduceBEq, Int.reduceBNe, Int.reduceNe, Int.reduceGT, Int.reduceGE, Nat.reduceGT] | (rw [drawC_ok]; rotate_left; decide +kernel; exact cfg_mixed))
    | true =>
      (refine (evF_code (C := cfg) (g := 56) (fn := Tryz.f56) rfl Tryz.func56 rfl (by rw [Tryz.ntmps56]; simp) (by kernel_rfl) (by first | decide | simp [keysOf])).trans ?_; rw [Tryz.results56, Tryz.ntmps56])
      repeat' (first | with_reducible refine br_split (fun _ => ?_) (fun _ => ?_) | simp only [*, push_cast, Array.reduceGetElem?, Nat.reduceBEq, Nat.reduceLT, Nat.reduceAdd, Nat.reduceSub, Nat.reduceLeDiff, Nat.reduceMul, Nat.reduceEqDiff, reduceCtorEq, Int.reduceAdd, Int.reduceLT, Int.reduceLE, Int.reduceToNat, Int.reduceNeg, Int.reduceSub, Int.reduceBEq, Int.reduceBNe, Int.reduceNe, Int.reduceGT, Int.reduceGE, Nat.reduceGT] | (rw [drawC_ok]; rotate_left; decide +kernel; exact cfg_mixed))
theorem nm_sm {b : UInt8} (h : smB b = true) : nmB b = true := by simp [nmB, h]
theorem smB_def (b : UInt8) : (decide (97 ≤ (b.toNat : Int)) && decide ((b.toNat : Int) ≤ 122)) = smB b := rfl
theorem dgB_def (b : UInt8) : (decide (48 ≤ (b.toNat : Int)) && decide ((b.toNat : Int) ≤ 57)) = dgB b := rfl
theorem ev_sNameOk (s : ByteArray) (hsz : s.size ≤ 1099511627776) : evF cfg 65 [] [.d (.s s)] = some (.d (.b (nameOk s)), []) := by
  have hq : nameOk s = ((decide (1 ≤ (s.size : Int)) && decide ((s.size : Int) ≤ 10)) && (smB (s.data.toList.headD 0) && s.data.toList.all nmB)) := rfl
  have hg0 := ba_get s
  have hlen : s.data.toList.length = s.size := by simp
  rw [hq]
  clear hq
  generalize hL : s.data.toList = l at *
  clear hL
  (refine (evF_code (C := cfg) (g := 65) (fn := Tryz.f65) rfl Tryz.func65 rfl (by rw [Tryz.ntmps65]; simp) (by kernel_rfl) (by first | decide | simp [keysOf])).trans ?_; rw [Tryz.results65, Tryz.ntmps65])
  repeat' (first | with_reducible refine br_split (fun _ => ?_) (fun _ => ?_) | simp only [*, push_cast, Array.reduceGetElem?, Nat.reduceBEq, Nat.reduceLT, Nat.reduceAdd, Nat.reduceSub, Nat.reduceLeDiff, Nat.reduceMul, Nat.reduceEqDiff, reduceCtorEq, Int.reduceAdd, Int.reduceLT, Int.reduceLE, Int.reduceToNat, Int.reduceNeg, Int.reduceSub, Int.reduceBEq, Int.reduceBNe, Int.reduceNe, Int.reduceGT, Int.reduceGE, Nat.reduceGT] | (rw [drawC_ok]; rotate_left; decide +kernel; exact cfg_mixed))
  rw [evM_for0 s.size (fun i j => { t := [(0, .d (.s s)), (3, .d (.i .i64 j))], o := [], ks := [], n := 0, sz := 31, u := noU })
    (fun i => br ((l.drop i).all nmB && (decide (0 < i) || smB (l.headD 0) || decide (l.length = 0))) (some (.exit 0, { t := [(0, .d (.s s))], o := [], ks := [], n := 0, sz := 31, u := noU })) (some (.ret, { t := [(2, .d (.b false))], o := [], ks := [], n := 0, sz := 31, u := noU })) ⟨⟩) ?step ?last]
  case step =>
    intro i hi ih
    have hd := dec_lt hi
    have hg : s[i]? = some l[i] := by rw [hg0, List.getElem?_eq_getElem (by omega)]
    have hw := wrap_succ (i := i) (by omega)
    have hcw : IntKind.i64.wrap (l[i].toNat : Int) = (l[i].toNat : Int) := i64_in (by omega) (by have := l[i].toNat_lt; omega)
    have h97 := smB_def l[i]
    have h48 := dgB_def l[i]
    have hdr : (l.drop i).all nmB = (nmB l[i] && (l.drop (i + 1)).all nmB) := by rw [List.drop_eq_getElem_cons (by omega), List.all_cons]
    have hlast : decide (0 < i + 1) = true := by simp
    have hne : decide (l.length = 0) = false := decide_eq_false (by omega)
    rw [hlast, Bool.true_or, Bool.true_or, Bool.and_true] at ih
    rw [hdr, hne, Bool.or_false]
    clear hdr hlast hne hg0
    cases hs : smB l[i] with
    | true =>
      have hn := nm_sm hs
      by_cases h0 : i = 0
      · have hi0 : (((i : Nat) : Int) == 0) = true := by simp [h0]
        have hh : l.headD 0 = l[i] := by subst h0; cases l with
          | nil => simp at hlen; omega
          | cons a b => rfl
        rw [hn, hh, hs, Bool.true_and, Bool.or_true, Bool.and_true]
        clear hh h0
        repeat' (first | with_reducible refine br_split (fun _ => ?_) (fun _ => ?_) | simp only [*, push_cast, Array.reduceGetElem?, Nat.reduceBEq, Nat.reduceLT, Nat.reduceAdd, Nat.reduceSub, Nat.reduceLeDiff, Nat.reduceMul, Nat.reduceEqDiff, reduceCtorEq, Int.reduceAdd, Int.reduceLT, Int.reduceLE, Int.reduceToNat, Int.reduceNeg, Int.reduceSub, Int.reduceBEq, Int.reduceBNe, Int.reduceNe, Int.reduceGT, Int.reduceGE, Nat.reduceGT] | (rw [drawC_ok]; rotate_left; decide +kernel; exact cfg_mixed))
      · have hp : decide (0 < i) = true := decide_eq_true (by omega)
        rw [hn, hp, Bool.true_and, Bool.true_or, Bool.and_true]
        repeat' (first | with_reducible refine br_split (fun _ => ?_) (fun _ => ?_) | simp only [*, push_cast, Array.reduceGetElem?, Nat.reduceBEq, Nat.reduceLT, Nat.reduceAdd, Nat.reduceSub, Nat.reduceLeDiff, Nat.reduceMul, Nat.reduceEqDiff, reduceCtorEq, Int.reduceAdd, Int.reduceLT, Int.reduceLE, Int.reduceToNat, Int.reduceNeg, Int.reduceSub, Int.reduceBEq, Int.reduceBNe, Int.reduceNe, Int.reduceGT, Int.reduceGE, Nat.reduceGT] | (rw [drawC_ok]; rotate_left; decide +kernel; exact cfg_mixed))
    | false =>
      have hn : nmB l[i] = dgB l[i] := by simp [nmB, hs]
      by_cases h0 : i = 0
      · have hi0 : (((i : Nat) : Int) == 0) = true := by simp [h0]
        have hh : l.headD 0 = l[i] := by subst h0; cases l with
          | nil => simp at hlen; omega
          | cons a b => rfl
        have hz : decide (0 < i) = false := by simp [h0]
        rw [hh, hs, hz, Bool.or_false, Bool.and_false]
        clear hh hz hn h0
        repeat' (first | with_reducible refine br_split (fun _ => ?_) (fun _ => ?_) | simp only [*, push_cast, Array.reduceGetElem?, Nat.reduceBEq, Nat.reduceLT, Nat.reduceAdd, Nat.reduceSub, Nat.reduceLeDiff, Nat.reduceMul, Nat.reduceEqDiff, reduceCtorEq, Int.reduceAdd, Int.reduceLT, Int.reduceLE, Int.reduceToNat, Int.reduceNeg, Int.reduceSub, Int.reduceBEq, Int.reduceBNe, Int.reduceNe, Int.reduceGT, Int.reduceGE, Nat.reduceGT] | (rw [drawC_ok]; rotate_left; decide +kernel; exact cfg_mixed))
      · have hp : decide (0 < i) = true := decide_eq_true (by omega)
        have hi0 : (((i : Nat) : Int) == 0) = false := by simp [h0]
        rw [hp, Bool.true_or, Bool.and_true, hn]
        cases hdg : dgB l[i] with
        | true =>
          rw [Bool.true_and]
          repeat' (first | with_reducible refine br_split (fun _ => ?_) (fun _ => ?_) | simp only [*, push_cast, Array.reduceGetElem?, Nat.reduceBEq, Nat.reduceLT, Nat.reduceAdd, Nat.reduceSub, Nat.reduceLeDiff, Nat.reduceMul, Nat.reduceEqDiff, reduceCtorEq, Int.reduceAdd, Int.reduceLT, Int.reduceLE, Int.reduceToNat, Int.reduceNeg, Int.reduceSub, Int.reduceBEq, Int.reduceBNe, Int.reduceNe, Int.reduceGT, Int.reduceGE, Nat.reduceGT] | (rw [drawC_ok]; rotate_left; decide +kernel; exact cfg_mixed))
        | false =>
          rw [Bool.false_and]
          repeat' (first | with_reducible refine br_split (fun _ => ?_) (fun _ => ?_) | simp only [*, push_cast, Array.reduceGetElem?, Nat.reduceBEq, Nat.reduceLT, Nat.reduceAdd, Nat.reduceSub, Nat.reduceLeDiff, Nat.reduceMul, Nat.reduceEqDiff, reduceCtorEq, Int.reduceAdd, Int.reduceLT, Int.reduceLE, Int.reduceToNat, Int.reduceNeg, Int.reduceSub, Int.reduceBEq, Int.reduceBNe, Int.reduceNe, Int.reduceGT, Int.reduceGE, Nat.reduceGT] | (rw [drawC_ok]; rotate_left; decide +kernel; exact cfg_mixed))
  case last =>
    have h1 : (l.drop s.size).all nmB = true := by rw [← hlen]; simp
    have h2 : (decide (0 < s.size) || smB (l.headD 0) || decide (l.length = 0)) = true := by
      rw [hlen]
      by_cases h : s.size = 0
      · simp [h]
      · simp [Nat.pos_of_ne_zero h]
    rw [h1, h2]
    repeat' (first | with_reducible refine br_split (fun _ => ?_) (fun _ => ?_) | simp only [*, push_cast, Array.reduceGetElem?, Nat.reduceBEq, Nat.reduceLT, Nat.reduceAdd, Nat.reduceSub, Nat.reduceLeDiff, Nat.reduceMul, Nat.reduceEqDiff, reduceCtorEq, Int.reduceAdd, Int.reduceLT, Int.reduceLE, Int.reduceToNat, Int.reduceNeg, Int.reduceSub, Int.reduceBEq, Int.reduceBNe, Int.reduceNe, Int.reduceGT, Int.reduceGE, Nat.reduceGT] | (rw [drawC_ok]; rotate_left; decide +kernel; exact cfg_mixed))
  · rw [List.drop_zero]
    have hz : decide ((0 : Nat) < 0) = false := rfl
    rw [hz, Bool.false_or]
    by_cases hl0 : l.length = 0
    · have h1 : decide (1 ≤ (s.size : Int)) = false := decide_eq_false (by omega)
      have : l = [] := List.eq_nil_of_length_eq_zero hl0
      subst this
      simp only [h1, List.length_nil, decide_true, Bool.or_true, Bool.and_true, List.all_nil, Bool.false_and]
      rw [br]
      repeat' (first | with_reducible refine br_split (fun _ => ?_) (fun _ => ?_) | simp only [*, push_cast, Array.reduceGetElem?, Nat.reduceBEq, Nat.reduceLT, Nat.reduceAdd, Nat.reduceSub, Nat.reduceLeDiff, Nat.reduceMul, Nat.reduceEqDiff, reduceCtorEq, Int.reduceAdd, Int.reduceLT, Int.reduceLE, Int.reduceToNat, Int.reduceNeg, Int.reduceSub, Int.reduceBEq, Int.reduceBNe, Int.reduceNe, Int.reduceGT, Int.reduceGE, Nat.reduceGT] | (rw [drawC_ok]; rotate_left; decide +kernel; exact cfg_mixed))
    · have h1 : decide (l.length = 0) = false := decide_eq_false hl0
      rw [h1, Bool.or_false, Bool.and_comm (smB _)]
      cases hx : (l.all nmB && smB (l.headD 0)) with
      | true => 
        rw [Bool.and_true]
        repeat' (first | with_reducible refine br_split (fun _ => ?_) (fun _ => ?_) | simp only [*, push_cast, Array.reduceGetElem?, Nat.reduceBEq, Nat.reduceLT, Nat.reduceAdd, Nat.reduceSub, Nat.reduceLeDiff, Nat.reduceMul, Nat.reduceEqDiff, reduceCtorEq, Int.reduceAdd, Int.reduceLT, Int.reduceLE, Int.reduceToNat, Int.reduceNeg, Int.reduceSub, Int.reduceBEq, Int.reduceBNe, Int.reduceNe, Int.reduceGT, Int.reduceGE, Nat.reduceGT] | (rw [drawC_ok]; rotate_left; decide +kernel; exact cfg_mixed))
      | false =>
        rw [Bool.and_false]
        repeat' (first | with_reducible refine br_split (fun _ => ?_) (fun _ => ?_) | simp only [*, push_cast, Array.reduceGetElem?, Nat.reduceBEq, Nat.reduceLT, Nat.reduceAdd, Nat.reduceSub, Nat.reduceLeDiff, Nat.reduceMul, Nat.reduceEqDiff, reduceCtorEq, Int.reduceAdd, Int.reduceLT, Int.reduceLE, Int.reduceToNat, Int.reduceNeg, Int.reduceSub, Int.reduceBEq, Int.reduceBNe, Int.reduceNe, Int.reduceGT, Int.reduceGE, Nat.reduceGT] | (rw [drawC_ok]; rotate_left; decide +kernel; exact cfg_mixed))
end Go.Av
end

section
namespace Go.Av
open Go.Proofs
set_option linter.unusedSimpArgs false

/-- Names that rise, the one ahead of them known. -/
def risFrom : Option ByteArray → List ByteArray → Bool
  | _, [] => true
  | none, a :: l => nameOk a && risFrom (some a) l
  | some p, a :: l => (nameOk a && Op.bytesLess p.toList a.toList) && risFrom (some a) l
def rising (l : List ByteArray) : Bool := risFrom none l
def prevOf (l : List ByteArray) (i : Nat) : Option ByteArray := if i = 0 then none else l[i - 1]?

theorem ev_isRising (l : List ByteArray) (hl : l.length ≤ 1099511627776) : evF cfg 59 [] [.d (.sl .any (l.map sC))] = some (.d (.b (rising l)), []) := by
  (refine (evF_code (C := cfg) (g := 59) (fn := Tryz.f59) rfl Tryz.func59 rfl (by rw [Tryz.ntmps59]; simp) (by kernel_rfl) (by first | decide | simp [keysOf])).trans ?_; rw [Tryz.results59, Tryz.ntmps59])
  repeat' (first | with_reducible refine br_split (fun _ => ?_) (fun _ => ?_) | simp only [*, push_cast, Array.reduceGetElem?, Nat.reduceBEq, Nat.reduceLT, Nat.reduceAdd, Nat.reduceSub, Nat.reduceLeDiff, Nat.reduceMul, Nat.reduceEqDiff, reduceCtorEq, Int.reduceAdd, Int.reduceLT, Int.reduceLE, Int.reduceToNat, Int.reduceNeg, Int.reduceSub, Int.reduceBEq, Int.reduceBNe, Int.reduceNe, Int.reduceGT, Int.reduceGE, Nat.reduceGT] | (rw [drawC_ok]; rotate_left; decide +kernel; exact cfg_mixed))
  rw [evM_for0 l.length (fun i j => { t := [(0, .d (.sl .any (l.map sC))), (5, .d (.sl .any (l.map sC))), (6, .d (.i .i64 l.length)), (7, .d (.i .i64 j))], o := [], ks := [], n := 0, sz := 29, u := noU })
    (fun i => br (risFrom (prevOf l i) (l.drop i)) (some (.exit 0, { t := [], o := [], ks := [], n := 0, sz := 29, u := noU })) (some (.ret, { t := [(2, .d (.b false))], o := [], ks := [], n := 0, sz := 29, u := noU })) ⟨⟩) ?step ?last]
  case step =>
    intro i hi ih
    have hc : (l.map sC)[i]? = some [.s l[i]] := get_map sC l i hi
    have hd := dec_lt hi
    have hw := wrap_succ (i := i) (by omega)
    have hn := ev_NameOk l[i]
    have hdr : l.drop i = l[i] :: l.drop (i + 1) := List.drop_eq_getElem_cons hi
    have hnx : prevOf l (i + 1) = some l[i] := by simp [prevOf, hi]
    rw [hnx] at ih
    rw [hdr]
    clear hnx hdr
    by_cases h0 : i = 0
    · have hp : prevOf l i = none := by simp [prevOf, h0]
      have hg : decide ((i : Int) > 0) = false := decide_eq_false (by omega)
      rw [hp, risFrom]
      clear hp h0
      cases hno : nameOk l[i] with
      | false =>
        rw [Bool.false_and]
        repeat' (first | with_reducible refine br_split (fun _ => ?_) (fun _ => ?_) | simp only [*, push_cast, Array.reduceGetElem?, Nat.reduceBEq, Nat.reduceLT, Nat.reduceAdd, Nat.reduceSub, Nat.reduceLeDiff, Nat.reduceMul, Nat.reduceEqDiff, reduceCtorEq, Int.reduceAdd, Int.reduceLT, Int.reduceLE, Int.reduceToNat, Int.reduceNeg, Int.reduceSub, Int.reduceBEq, Int.reduceBNe, Int.reduceNe, Int.reduceGT, Int.reduceGE, Nat.reduceGT] | (rw [drawC_ok]; rotate_left; decide +kernel; exact cfg_mixed))
      | true =>
        rw [Bool.true_and]
        repeat' (first | with_reducible refine br_split (fun _ => ?_) (fun _ => ?_) | simp only [*, push_cast, Array.reduceGetElem?, Nat.reduceBEq, Nat.reduceLT, Nat.reduceAdd, Nat.reduceSub, Nat.reduceLeDiff, Nat.reduceMul, Nat.reduceEqDiff, reduceCtorEq, Int.reduceAdd, Int.reduceLT, Int.reduceLE, Int.reduceToNat, Int.reduceNeg, Int.reduceSub, Int.reduceBEq, Int.reduceBNe, Int.reduceNe, Int.reduceGT, Int.reduceGE, Nat.reduceGT] | (rw [drawC_ok]; rotate_left; decide +kernel; exact cfg_mixed))
    · obtain ⟨k, hk⟩ : ∃ k, k = i - 1 := ⟨_, rfl⟩
      have hki : k < l.length := by omega
      have hp : prevOf l i = some l[k] := by simp [prevOf, h0, hk, List.getElem?_eq_getElem (by omega : i - 1 < l.length)]
      have hg : decide ((i : Int) > 0) = true := decide_eq_true (by omega)
      have hwk : IntKind.i64.wrap ((i : Int) - 1) = (k : Int) := by rw [i64_in (by omega) (by omega)]; omega
      have hck : (l.map sC)[k]? = some [.s l[k]] := get_map sC l k hki
      have hdk := dec_lt hki
      rw [hp, risFrom]
      clear hp h0 hk
      cases hno : nameOk l[i] with
      | false =>
        rw [Bool.false_and, Bool.false_and]
        repeat' (first | with_reducible refine br_split (fun _ => ?_) (fun _ => ?_) | simp only [*, push_cast, Array.reduceGetElem?, Nat.reduceBEq, Nat.reduceLT, Nat.reduceAdd, Nat.reduceSub, Nat.reduceLeDiff, Nat.reduceMul, Nat.reduceEqDiff, reduceCtorEq, Int.reduceAdd, Int.reduceLT, Int.reduceLE, Int.reduceToNat, Int.reduceNeg, Int.reduceSub, Int.reduceBEq, Int.reduceBNe, Int.reduceNe, Int.reduceGT, Int.reduceGE, Nat.reduceGT] | (rw [drawC_ok]; rotate_left; decide +kernel; exact cfg_mixed))
      | true =>
        rw [Bool.true_and]
        cases hls : Op.bytesLess l[k].toList l[i].toList with
        | false =>
          rw [Bool.false_and]
          repeat' (first | with_reducible refine br_split (fun _ => ?_) (fun _ => ?_) | simp only [*, push_cast, Array.reduceGetElem?, Nat.reduceBEq, Nat.reduceLT, Nat.reduceAdd, Nat.reduceSub, Nat.reduceLeDiff, Nat.reduceMul, Nat.reduceEqDiff, reduceCtorEq, Int.reduceAdd, Int.reduceLT, Int.reduceLE, Int.reduceToNat, Int.reduceNeg, Int.reduceSub, Int.reduceBEq, Int.reduceBNe, Int.reduceNe, Int.reduceGT, Int.reduceGE, Nat.reduceGT] | (rw [drawC_ok]; rotate_left; decide +kernel; exact cfg_mixed))
        | true =>
          rw [Bool.true_and]
          repeat' (first | with_reducible refine br_split (fun _ => ?_) (fun _ => ?_) | simp only [*, push_cast, Array.reduceGetElem?, Nat.reduceBEq, Nat.reduceLT, Nat.reduceAdd, Nat.reduceSub, Nat.reduceLeDiff, Nat.reduceMul, Nat.reduceEqDiff, reduceCtorEq, Int.reduceAdd, Int.reduceLT, Int.reduceLE, Int.reduceToNat, Int.reduceNeg, Int.reduceSub, Int.reduceBEq, Int.reduceBNe, Int.reduceNe, Int.reduceGT, Int.reduceGE, Nat.reduceGT] | (rw [drawC_ok]; rotate_left; decide +kernel; exact cfg_mixed))
  case last =>
    have h1 : risFrom (prevOf l l.length) (l.drop l.length) = true := by
      rw [List.drop_length]
      unfold risFrom
      rfl
    rw [h1]
    repeat' (first | with_reducible refine br_split (fun _ => ?_) (fun _ => ?_) | simp only [*, push_cast, Array.reduceGetElem?, Nat.reduceBEq, Nat.reduceLT, Nat.reduceAdd, Nat.reduceSub, Nat.reduceLeDiff, Nat.reduceMul, Nat.reduceEqDiff, reduceCtorEq, Int.reduceAdd, Int.reduceLT, Int.reduceLE, Int.reduceToNat, Int.reduceNeg, Int.reduceSub, Int.reduceBEq, Int.reduceBNe, Int.reduceNe, Int.reduceGT, Int.reduceGE, Nat.reduceGT] | (rw [drawC_ok]; rotate_left; decide +kernel; exact cfg_mixed))
  · have h1 : risFrom (prevOf l 0) (l.drop 0) = rising l := by simp [prevOf, rising]
    rw [h1]
    repeat' (first | with_reducible refine br_split (fun _ => ?_) (fun _ => ?_) | simp only [*, push_cast, Array.reduceGetElem?, Nat.reduceBEq, Nat.reduceLT, Nat.reduceAdd, Nat.reduceSub, Nat.reduceLeDiff, Nat.reduceMul, Nat.reduceEqDiff, reduceCtorEq, Int.reduceAdd, Int.reduceLT, Int.reduceLE, Int.reduceToNat, Int.reduceNeg, Int.reduceSub, Int.reduceBEq, Int.reduceBNe, Int.reduceNe, Int.reduceGT, Int.reduceGE, Nat.reduceGT] | (rw [drawC_ok]; rotate_left; decide +kernel; exact cfg_mixed))

def hasS (l : List ByteArray) (s : ByteArray) : Bool := l.any fun x => decide (x = s)
theorem ev_l03Has (l : List ByteArray) (s : ByteArray) (hl : l.length ≤ 1099511627776) : evF cfg 96 [] [.d (.sl .any (l.map sC)), .d (.s s)] = some (.d (.b (hasS l s)), []) := by
  (refine (evF_code (C := cfg) (g := 96) (fn := Tryz.f96) rfl Tryz.func96 rfl (by rw [Tryz.ntmps96]; simp) (by kernel_rfl) (by first | decide | simp [keysOf])).trans ?_; rw [Tryz.results96, Tryz.ntmps96])
  repeat' (first | with_reducible refine br_split (fun _ => ?_) (fun _ => ?_) | simp only [*, push_cast, Array.reduceGetElem?, Nat.reduceBEq, Nat.reduceLT, Nat.reduceAdd, Nat.reduceSub, Nat.reduceLeDiff, Nat.reduceMul, Nat.reduceEqDiff, reduceCtorEq, Int.reduceAdd, Int.reduceLT, Int.reduceLE, Int.reduceToNat, Int.reduceNeg, Int.reduceSub, Int.reduceBEq, Int.reduceBNe, Int.reduceNe, Int.reduceGT, Int.reduceGE, Nat.reduceGT] | (rw [drawC_ok]; rotate_left; decide +kernel; exact cfg_mixed))
  rw [evM_for0 l.length (fun i j => { t := [(0, .d (.sl .any (l.map sC))), (1, .d (.s s)), (5, .d (.i .i64 j))], o := [], ks := [], n := 0, sz := 18, u := noU })
    (fun i => br (hasS (l.drop i) s) (some (.ret, { t := [(4, .d (.b true))], o := [], ks := [], n := 0, sz := 18, u := noU })) (some (.exit 0, { t := [], o := [], ks := [], n := 0, sz := 18, u := noU })) ⟨⟩) ?step ?last]
  case step =>
    intro i hi ih
    have hc : (l.map sC)[i]? = some [.s l[i]] := get_map sC l i hi
    have hd := dec_lt hi
    have hw := wrap_succ (i := i) (by omega)
    have hdr : hasS (l.drop i) s = (decide (l[i] = s) || hasS (l.drop (i + 1)) s) := by unfold hasS; rw [List.drop_eq_getElem_cons hi, List.any_cons]
    rw [hdr]
    clear hdr
    cases he : decide (l[i] = s) with
    | true => 
      rw [Bool.true_or]
      repeat' (first | with_reducible refine br_split (fun _ => ?_) (fun _ => ?_) | simp only [*, push_cast, Array.reduceGetElem?, Nat.reduceBEq, Nat.reduceLT, Nat.reduceAdd, Nat.reduceSub, Nat.reduceLeDiff, Nat.reduceMul, Nat.reduceEqDiff, reduceCtorEq, Int.reduceAdd, Int.reduceLT, Int.reduceLE, Int.reduceToNat, Int.reduceNeg, Int.reduceSub, Int.reduceBEq, Int.reduceBNe, Int.reduceNe, Int.reduceGT, Int.reduceGE, Nat.reduceGT] | (rw [drawC_ok]; rotate_left; decide +kernel; exact cfg_mixed))
    | false =>
      rw [Bool.false_or]
      repeat' (first | with_reducible refine br_split (fun _ => ?_) (fun _ => ?_) | simp only [*, push_cast, Array.reduceGetElem?, Nat.reduceBEq, Nat.reduceLT, Nat.reduceAdd, Nat.reduceSub, Nat.reduceLeDiff, Nat.reduceMul, Nat.reduceEqDiff, reduceCtorEq, Int.reduceAdd, Int.reduceLT, Int.reduceLE, Int.reduceToNat, Int.reduceNeg, Int.reduceSub, Int.reduceBEq, Int.reduceBNe, Int.reduceNe, Int.reduceGT, Int.reduceGE, Nat.reduceGT] | (rw [drawC_ok]; rotate_left; decide +kernel; exact cfg_mixed))
  case last =>
    rw [List.drop_length]
    have : hasS [] s = false := rfl
    repeat' (first | with_reducible refine br_split (fun _ => ?_) (fun _ => ?_) | simp only [*, push_cast, Array.reduceGetElem?, Nat.reduceBEq, Nat.reduceLT, Nat.reduceAdd, Nat.reduceSub, Nat.reduceLeDiff, Nat.reduceMul, Nat.reduceEqDiff, reduceCtorEq, Int.reduceAdd, Int.reduceLT, Int.reduceLE, Int.reduceToNat, Int.reduceNeg, Int.reduceSub, Int.reduceBEq, Int.reduceBNe, Int.reduceNe, Int.reduceGT, Int.reduceGE, Nat.reduceGT] | (rw [drawC_ok]; rotate_left; decide +kernel; exact cfg_mixed))
  · rw [List.drop_zero]
    cases hasS l s <;> repeat' (first | with_reducible refine br_split (fun _ => ?_) (fun _ => ?_) | simp only [*, push_cast, Array.reduceGetElem?, Nat.reduceBEq, Nat.reduceLT, Nat.reduceAdd, Nat.reduceSub, Nat.reduceLeDiff, Nat.reduceMul, Nat.reduceEqDiff, reduceCtorEq, Int.reduceAdd, Int.reduceLT, Int.reduceLE, Int.reduceToNat, Int.reduceNeg, Int.reduceSub, Int.reduceBEq, Int.reduceBNe, Int.reduceNe, Int.reduceGT, Int.reduceGE, Nat.reduceGT] | (rw [drawC_ok]; rotate_left; decide +kernel; exact cfg_mixed))

theorem ev_Values (es : List (List T)) : evF cfg 91 [] [.d (.sl .any es)] = some (.clo 116 [.ptr 40 0], [(40, .box [.d (.sl .any es)])]) := by
  (refine (evF_code (C := cfg) (g := 91) (fn := Tryz.f91) rfl Tryz.func91 rfl (by rw [Tryz.ntmps91]; simp) (by kernel_rfl) (by first | decide | simp [keysOf])).trans ?_; rw [Tryz.results91, Tryz.ntmps91])
  repeat' (first | with_reducible refine br_split (fun _ => ?_) (fun _ => ?_) | simp only [*, push_cast, Array.reduceGetElem?, Nat.reduceBEq, Nat.reduceLT, Nat.reduceAdd, Nat.reduceSub, Nat.reduceLeDiff, Nat.reduceMul, Nat.reduceEqDiff, reduceCtorEq, Int.reduceAdd, Int.reduceLT, Int.reduceLE, Int.reduceToNat, Int.reduceNeg, Int.reduceSub, Int.reduceBEq, Int.reduceBNe, Int.reduceNe, Int.reduceGT, Int.reduceGE, Nat.reduceGT] | (rw [drawC_ok]; rotate_left; decide +kernel; exact cfg_mixed))
def colsOk (l : List ByteArray) : Bool := (decide (1 ≤ (l.length : Int)) && decide ((l.length : Int) ≤ 12)) && rising (sStr l)
theorem sStr_length (l : List ByteArray) : (sStr l).length = l.length := by simp [sStr, List.length_mergeSort]
theorem ev_areCols (l : List ByteArray) (hl : l.length ≤ 1099511627776) : evF cfg 57 [] [.d (.sl .any (l.map sC))] = some (.d (.b (colsOk l)), []) := by
  have hv := ev_Values (l.map sC)
  have hs : evF cfg 90 [(0, .box [.d (.sl .any (l.map sC))])] [.clo 116 [.ptr 0 0]] = some (.own 40, [(40, .arr .any 1 ((sStr l).map sC))]) := ev_Sorted l hl
  have hr := ev_isRising (sStr l) (by rw [sStr_length]; exact hl)
  unfold colsOk
  (refine (evF_code (C := cfg) (g := 57) (fn := Tryz.f57) rfl Tryz.func57 rfl (by rw [Tryz.ntmps57]; simp) (by kernel_rfl) (by first | decide | simp [keysOf])).trans ?_; rw [Tryz.results57, Tryz.ntmps57])
  repeat' (first | with_reducible refine br_split (fun _ => ?_) (fun _ => ?_) | simp only [*, push_cast, Array.reduceGetElem?, Nat.reduceBEq, Nat.reduceLT, Nat.reduceAdd, Nat.reduceSub, Nat.reduceLeDiff, Nat.reduceMul, Nat.reduceEqDiff, reduceCtorEq, Int.reduceAdd, Int.reduceLT, Int.reduceLE, Int.reduceToNat, Int.reduceNeg, Int.reduceSub, Int.reduceBEq, Int.reduceBNe, Int.reduceNe, Int.reduceGT, Int.reduceGE, Nat.reduceGT] | (rw [drawC_ok]; rotate_left; decide +kernel; exact cfg_mixed))
end Go.Av
end
