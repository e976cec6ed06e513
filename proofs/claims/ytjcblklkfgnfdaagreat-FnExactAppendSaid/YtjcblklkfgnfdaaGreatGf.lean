/- What functions of this seat give. -/
import Derived.Test.YtjcblklkfgnfdaaGreatGe
set_option linter.all false
set_option linter.unusedVariables false
set_option linter.unusedSimpArgs false

section
namespace Go.Av
open Go.Proofs
set_option linter.unusedSimpArgs false
@[push_cast] theorem byC_all (l : List UInt8) : ((l.map byC).all fun e => e.length == 1) = true := by simp [byC]
attribute [push_cast] bytesT_bs
theorem map_app_by (a b : List UInt8) : a.map byC ++ b.map byC = (a ++ b).map byC := by simp
theorem pvL_len (v : V) : (pvL v).length ≤ 110 := by
  unfold pvL
  split
  · rename_i hv
    rw [List.length_append, beB_len]
    split
    · rw [beB_len]; omega
    · split
      · rw [beB_len]; omega
      · split
        · rename_i h3
          have := valueOk_size hv h3
          rw [List.length_append, beB_len, bl_size]; omega
        · simp
  · simp
theorem flat_len {α : Type} (f : α → List UInt8) (K : Nat) (hf : ∀ x, (f x).length ≤ K) : ∀ l : List α, (l.flatMap f).length ≤ l.length * K
  | [] => by simp
  | a :: l => by
    have h1 := flat_len f K hf l
    have h2 := hf a
    rw [List.flatMap_cons, List.length_append, List.length_cons, Nat.succ_mul]
    omega
def numV (n : Int) : V := ⟨1, n, ⟨#[]⟩⟩
def rowB (c : C) : List UInt8 := pvL (numV c.n) ++ c.row.flatMap pvL
def pbL (b : B) : List UInt8 := if bagOk b = true then kb b.w :: b.rows.flatMap rowB else []
def accR (w : Int) (rows : List C) (i : Nat) : List UInt8 := kb w :: (rows.take i).flatMap rowB
def accI (w : Int) (rows : List C) (i : Nat) (c : C) (j : Nat) : List UInt8 := (accR w rows i ++ pvL (numV c.n)) ++ (c.row.take j).flatMap pvL
theorem accR_zero (w : Int) (rows : List C) : [kb w] = accR w rows 0 := rfl
theorem accR_full (w : Int) (rows : List C) : accR w rows rows.length = kb w :: rows.flatMap rowB := by simp [accR]
theorem accI_zero (w : Int) (rows : List C) (i : Nat) (c : C) : accR w rows i ++ pvL (numV c.n) = accI w rows i c 0 := by simp [accI]
theorem accI_succ (w : Int) (rows : List C) (i : Nat) (c : C) {j : Nat} (h : j < c.row.length) : accI w rows i c j ++ pvL c.row[j] = accI w rows i c (j + 1) := by
  simp only [accI]
  rw [List.take_succ_eq_append_getElem h, List.flatMap_append]
  simp
theorem accI_full (w : Int) (rows : List C) {i : Nat} (h : i < rows.length) : accI w rows i rows[i] rows[i].row.length = accR w rows (i + 1) := by
  simp only [accI, accR]
  rw [List.take_succ_eq_append_getElem h, List.flatMap_append, List.take_length]
  simp [rowB]
theorem rowB_len {c : C} {M : Nat} (h : c.row.length ≤ M) : (rowB c).length ≤ 110 + M * 110 := by
  have h1 := pvL_len (numV c.n)
  have h2 := flat_len pvL 110 pvL_len c.row
  have h3 : c.row.length * 110 ≤ M * 110 := Nat.mul_le_mul_right _ h
  rw [rowB, List.length_append]
  omega
theorem rows_len {M : Nat} : ∀ {rows : List C}, (∀ c ∈ rows, c.row.length ≤ M) → (rows.flatMap rowB).length ≤ rows.length * (110 + M * 110)
  | [], _ => by simp
  | c :: rows, h => by
    have h1 := rows_len (M := M) (rows := rows) fun c hc => h c (List.mem_cons_of_mem _ hc)
    have h2 := rowB_len (h c (List.mem_cons_self ..))
    rw [List.flatMap_cons, List.length_append, List.length_cons, Nat.succ_mul]
    omega
theorem accR_len {w : Int} {rows : List C} {i : Nat} (hl : rows.length ≤ 400) (hr : ∀ c ∈ rows, c.row.length ≤ 1048576) : (accR w rows i).length ≤ 50000000000 := by
  have h1 := rows_len (M := 1048576) (rows := rows.take i) fun c hc => hr c (List.mem_of_mem_take hc)
  have h2 : (rows.take i).length ≤ 400 := by rw [List.length_take]; omega
  have h3 : (rows.take i).length * (110 + 1048576 * 110) ≤ 400 * (110 + 1048576 * 110) := Nat.mul_le_mul_right _ h2
  rw [accR, List.length_cons]
  omega
theorem accI_len {w : Int} {rows : List C} {i : Nat} {c : C} {j : Nat} (hl : rows.length ≤ 400) (hr : ∀ c ∈ rows, c.row.length ≤ 1048576) (hc : c.row.length ≤ 1048576) : (accI w rows i c j).length ≤ 60000000000 := by
  have h1 := accR_len (w := w) (i := i) hl hr
  have h2 := pvL_len (numV c.n)
  have h3 := flat_len pvL 110 pvL_len (c.row.take j)
  have h4 : (c.row.take j).length ≤ 1048576 := by rw [List.length_take]; omega
  have h5 : (c.row.take j).length * 110 ≤ 1048576 * 110 := Nat.mul_le_mul_right _ h4
  rw [accI, List.length_append, List.length_append]
  omega
theorem pbL_len {b : B} (hr : ∀ c ∈ b.rows, c.row.length ≤ 1048576) : (pbL b).length ≤ 50000000000 := by
  unfold pbL
  split
  · rename_i h
    have hl : b.rows.length ≤ 400 := by simp [bagOk] at h; omega
    have := accR_len (w := b.w) (i := b.rows.length) hl hr
    rwa [accR_full] at this
  · simp
theorem ev_sPutBag (w : Int) (rows : List C) (hl : rows.length ≤ 1048576) (hr : ∀ c ∈ rows, c.row.length ≤ 1048576) : evF cfg 38 [] [.agg [.d (.i .i64 w), .d (.sl .any (rows.map cC))]] = some (.d (.s (bs (pbL ⟨w, rows⟩))), []) := by
  have hb := ev_sBagOk w rows (by omega) (fun c hc => by have := hr c hc; omega)
  cases hv : bagOk ⟨w, rows⟩ with
  | false =>
    have hp : pbL ⟨w, rows⟩ = [] := by simp [pbL, hv]
    have he := strEmpty
    rw [hp, ← he]
    clear hp he
    (refine (evF_code (C := cfg) (g := 38) (fn := Tryz.f38) rfl Tryz.func38 rfl (by rw [Tryz.ntmps38]; simp) (by kernel_rfl) (by first | decide | simp [keysOf])).trans ?_; rw [Tryz.results38, Tryz.ntmps38])
    repeat' (first | with_reducible refine br_split (fun _ => ?_) (fun _ => ?_) | simp only [*, push_cast, Array.reduceGetElem?, Nat.reduceBEq, Nat.reduceLT, Nat.reduceAdd, Nat.reduceSub, Nat.reduceLeDiff, Nat.reduceMul, Nat.reduceEqDiff, reduceCtorEq, Int.reduceAdd, Int.reduceLT, Int.reduceLE, Int.reduceToNat, Int.reduceNeg, Int.reduceSub, Int.reduceBEq, Int.reduceBNe, Int.reduceGT, Int.reduceGE, Nat.reduceGT] | (rw [drawC_ok]; rotate_left; decide +kernel; exact cfg_mixed))
  | true =>
    have hp : pbL ⟨w, rows⟩ = kb w :: rows.flatMap rowB := by simp [pbL, hv]
    have h400 : rows.length ≤ 400 := by simp [bagOk] at hv; omega
    have hu := u8_kb w
    rw [hp, ← accR_full]
    clear hp
    (refine (evF_code (C := cfg) (g := 38) (fn := Tryz.f38) rfl Tryz.func38 rfl (by rw [Tryz.ntmps38]; simp) (by kernel_rfl) (by first | decide | simp [keysOf])).trans ?_; rw [Tryz.results38, Tryz.ntmps38])
    repeat' (first | with_reducible refine br_split (fun _ => ?_) (fun _ => ?_) | simp only [*, push_cast, Array.reduceGetElem?, Nat.reduceBEq, Nat.reduceLT, Nat.reduceAdd, Nat.reduceSub, Nat.reduceLeDiff, Nat.reduceMul, Nat.reduceEqDiff, reduceCtorEq, Int.reduceAdd, Int.reduceLT, Int.reduceLE, Int.reduceToNat, Int.reduceNeg, Int.reduceSub, Int.reduceBEq, Int.reduceBNe, Int.reduceGT, Int.reduceGE, Nat.reduceGT] | (rw [drawC_ok]; rotate_left; decide +kernel; exact cfg_mixed))
    have e0 : [byC (kb w)] = (accR w rows 0).map byC := rfl
    rw [e0]
    clear e0 hu
    rw [evM_for0 rows.length (fun i j => { t := [(1, .ptr 50 0), (3, .own 51), (4, .d (.i .i64 j))], o := [(50, .box [.d (.i .i64 w), .d (.sl .any (rows.map cC))]), (51, .arr (.u8 5) 1 ((accR w rows i).map byC))], ks := [50, 51], n := 0, sz := 57, u := noU })
      (fun i => some (.exit 0, { t := [(3, .own 50)], o := [(50, .arr (.u8 5) 1 ((accR w rows rows.length).map byC))], ks := [50], n := 0, sz := 57, u := noU })) ?step ?last]
    case step =>
      intro i hi ih
      have hd := dec_lt hi
      have hw := wrap_succ (i := i) (by omega)
      have hci : (rows.map cC)[i]? = some [.sl .any (rows[i].row.map vC), .i .i64 rows[i].n] := get_map cC rows i hi
      have hpn := ev_sPutValue 1 rows[i].n ⟨#[]⟩
      have hnv : (⟨1, rows[i].n, ⟨#[]⟩⟩ : V) = numV rows[i].n := rfl
      rw [hnv] at hpn
      have hz := accI_zero w rows i rows[i]
      have hrl := hr _ (List.getElem_mem hi)
      have ha := map_app_by (accR w rows i) (pvL (numV rows[i].n))
      have hln := accR_len (w := w) (i := i) h400 hr
      have hpl := pvL_len (numV rows[i].n)
      have hc := len_ok (n := (accR w rows i).length + (pvL (numV rows[i].n)).length) 1 (by omega) (by omega)
      have hf := accI_full w rows hi
      rw [hz] at ha
      clear hln hpl hz hnv
      repeat' (first | with_reducible refine br_split (fun _ => ?_) (fun _ => ?_) | simp only [*, push_cast, Array.reduceGetElem?, Nat.reduceBEq, Nat.reduceLT, Nat.reduceAdd, Nat.reduceSub, Nat.reduceLeDiff, Nat.reduceMul, Nat.reduceEqDiff, reduceCtorEq, Int.reduceAdd, Int.reduceLT, Int.reduceLE, Int.reduceToNat, Int.reduceNeg, Int.reduceSub, Int.reduceBEq, Int.reduceBNe, Int.reduceGT, Int.reduceGE, Nat.reduceGT] | (rw [drawC_ok]; rotate_left; decide +kernel; exact cfg_mixed))
      rw [evM_for0 rows[i].row.length (fun j k => { t := [(1, .ptr 50 0), (3, .own 51), (4, .d (.i .i64 i)), (5, .d (.i .i64 k))], o := [(50, .box [.d (.i .i64 w), .d (.sl .any (rows.map cC))]), (51, .arr (.u8 5) 1 ((accI w rows i rows[i] j).map byC))], ks := [50, 51], n := 0, sz := 57, u := noU })
        (fun j => some (.exit 2, { t := [(1, .ptr 50 0), (3, .own 51), (4, .d (.i .i64 i))], o := [(50, .box [.d (.i .i64 w), .d (.sl .any (rows.map cC))]), (51, .arr (.u8 5) 1 ((accR w rows (i + 1)).map byC))], ks := [50, 51], n := 0, sz := 57, u := noU })) ?step2 ?last2]
      case step2 =>
        intro j hj ih2
        have hd2 := dec_lt hj
        have hw2 := wrap_succ (i := j) (by omega)
        have hcj : (rows[i].row.map vC)[j]? = some [.i .i64 rows[i].row[j].k, .i .i64 rows[i].row[j].n, .s rows[i].row[j].s] := get_map vC _ j hj
        have hpv := ev_sPutValue rows[i].row[j].k rows[i].row[j].n rows[i].row[j].s
        have hss := accI_succ w rows i rows[i] hj
        have ha2 := map_app_by (accI w rows i rows[i] j) (pvL rows[i].row[j])
        have hln := accI_len (w := w) (i := i) (c := rows[i]) (j := j) h400 hr hrl
        have hpl := pvL_len rows[i].row[j]
        have hc2 := len_ok (n := (accI w rows i rows[i] j).length + (pvL rows[i].row[j]).length) 1 (by omega) (by omega)
        rw [hss] at ha2
        clear hln hpl hss ih hc ha hpn hf
        repeat' (first | with_reducible refine br_split (fun _ => ?_) (fun _ => ?_) | simp only [*, push_cast, Array.reduceGetElem?, Nat.reduceBEq, Nat.reduceLT, Nat.reduceAdd, Nat.reduceSub, Nat.reduceLeDiff, Nat.reduceMul, Nat.reduceEqDiff, reduceCtorEq, Int.reduceAdd, Int.reduceLT, Int.reduceLE, Int.reduceToNat, Int.reduceNeg, Int.reduceSub, Int.reduceBEq, Int.reduceBNe, Int.reduceGT, Int.reduceGE, Nat.reduceGT] | (rw [drawC_ok]; rotate_left; decide +kernel; exact cfg_mixed))
      case last2 =>
        clear ih
        repeat' (first | with_reducible refine br_split (fun _ => ?_) (fun _ => ?_) | simp only [*, push_cast, Array.reduceGetElem?, Nat.reduceBEq, Nat.reduceLT, Nat.reduceAdd, Nat.reduceSub, Nat.reduceLeDiff, Nat.reduceMul, Nat.reduceEqDiff, reduceCtorEq, Int.reduceAdd, Int.reduceLT, Int.reduceLE, Int.reduceToNat, Int.reduceNeg, Int.reduceSub, Int.reduceBEq, Int.reduceBNe, Int.reduceGT, Int.reduceGE, Nat.reduceGT] | (rw [drawC_ok]; rotate_left; decide +kernel; exact cfg_mixed))
      · repeat' (first | with_reducible refine br_split (fun _ => ?_) (fun _ => ?_) | simp only [*, push_cast, Array.reduceGetElem?, Nat.reduceBEq, Nat.reduceLT, Nat.reduceAdd, Nat.reduceSub, Nat.reduceLeDiff, Nat.reduceMul, Nat.reduceEqDiff, reduceCtorEq, Int.reduceAdd, Int.reduceLT, Int.reduceLE, Int.reduceToNat, Int.reduceNeg, Int.reduceSub, Int.reduceBEq, Int.reduceBNe, Int.reduceGT, Int.reduceGE, Nat.reduceGT] | (rw [drawC_ok]; rotate_left; decide +kernel; exact cfg_mixed))
    case last =>
      repeat' (first | with_reducible refine br_split (fun _ => ?_) (fun _ => ?_) | simp only [*, push_cast, Array.reduceGetElem?, Nat.reduceBEq, Nat.reduceLT, Nat.reduceAdd, Nat.reduceSub, Nat.reduceLeDiff, Nat.reduceMul, Nat.reduceEqDiff, reduceCtorEq, Int.reduceAdd, Int.reduceLT, Int.reduceLE, Int.reduceToNat, Int.reduceNeg, Int.reduceSub, Int.reduceBEq, Int.reduceBNe, Int.reduceGT, Int.reduceGE, Nat.reduceGT] | (rw [drawC_ok]; rotate_left; decide +kernel; exact cfg_mixed))
    · repeat' (first | with_reducible refine br_split (fun _ => ?_) (fun _ => ?_) | simp only [*, push_cast, Array.reduceGetElem?, Nat.reduceBEq, Nat.reduceLT, Nat.reduceAdd, Nat.reduceSub, Nat.reduceLeDiff, Nat.reduceMul, Nat.reduceEqDiff, reduceCtorEq, Int.reduceAdd, Int.reduceLT, Int.reduceLE, Int.reduceToNat, Int.reduceNeg, Int.reduceSub, Int.reduceBEq, Int.reduceBNe, Int.reduceGT, Int.reduceGE, Nat.reduceGT] | (rw [drawC_ok]; rotate_left; decide +kernel; exact cfg_mixed))
end Go.Av
end

section
namespace Go.Av
open Go.Proofs
set_option linter.unusedSimpArgs false
attribute [push_cast] tyV112
@[push_cast] theorem tyC5 : Tryz.prog.cellsOf 5 = 1 := by kernel_rfl
@[push_cast] theorem dec20 : decide ((2 : Nat) ≠ 0) = true := rfl
@[push_cast] theorem tt_eq : (true == true) = true := rfl
@[push_cast] theorem ft_eq : (false == true) = false := rfl
@[push_cast] theorem noesc_eq (k o : Nat) : noescE [.ptr k o] = some (.ptr k o) := rfl
/-- A builder that was never written. -/
@[push_cast] theorem ev_copyCheck0 : evF cfg 112 [(0, .box [.d (.raw (.pointer none)), .nl] (some 112))] [.ptr 0 0] = some (.tup [], [(0, .box [.ptr 0 0, .nl] (some 112))]) := by
  (refine (evF_code (C := cfg) (g := 112) (fn := Tryz.f112) rfl Tryz.func112 rfl (by rw [Tryz.ntmps112]; simp) (by kernel_rfl) (by first | decide | simp [keysOf])).trans ?_; rw [Tryz.results112, Tryz.ntmps112])
  repeat' (first | with_reducible refine br_split (fun _ => ?_) (fun _ => ?_) | simp only [*, push_cast, Array.reduceGetElem?, Nat.reduceBEq, Nat.reduceLT, Nat.reduceAdd, Nat.reduceSub, Nat.reduceLeDiff, Nat.reduceMul, Nat.reduceEqDiff, reduceCtorEq, Int.reduceAdd, Int.reduceLT, Int.reduceLE, Int.reduceToNat, Int.reduceNeg, Int.reduceSub, Int.reduceBEq, Int.reduceBNe, Int.reduceGT, Int.reduceGE, Nat.reduceGT] | (rw [drawC_ok]; rotate_left; decide +kernel; exact cfg_mixed))
@[push_cast] theorem ev_copyCheck1 (es : List (List T)) : evF cfg 112 [(0, .box [.ptr 0 0, .own 1] (some 112)), (1, .arr (.u8 5) 1 es)] [.ptr 0 0] = some (.tup [], [(0, .box [.ptr 0 0, .own 1] (some 112)), (1, .arr (.u8 5) 1 es)]) := by
  (refine (evF_code (C := cfg) (g := 112) (fn := Tryz.f112) rfl Tryz.func112 rfl (by rw [Tryz.ntmps112]; simp) (by kernel_rfl) (by first | decide | simp [keysOf])).trans ?_; rw [Tryz.results112, Tryz.ntmps112])
  repeat' (first | with_reducible refine br_split (fun _ => ?_) (fun _ => ?_) | simp only [*, push_cast, Array.reduceGetElem?, Nat.reduceBEq, Nat.reduceLT, Nat.reduceAdd, Nat.reduceSub, Nat.reduceLeDiff, Nat.reduceMul, Nat.reduceEqDiff, reduceCtorEq, Int.reduceAdd, Int.reduceLT, Int.reduceLE, Int.reduceToNat, Int.reduceNeg, Int.reduceSub, Int.reduceBEq, Int.reduceBNe, Int.reduceGT, Int.reduceGE, Nat.reduceGT] | (rw [drawC_ok]; rotate_left; decide +kernel; exact cfg_mixed))
theorem str_all (s : ByteArray) : ((bytesT s).all fun e => e.length == 1) = true := by
  rw [List.all_eq_true]
  intro e he
  unfold bytesT at he
  obtain ⟨b, _, rfl⟩ := List.mem_map.1 he
  rfl
theorem len_ok' {n : Nat} (h : n ≤ 140737488355328) : decide (n ≤ maxLen ∧ n * 1 ≤ 140737488355328) = true := by
  have hm : maxLen = 9223372036854775807 := by decide
  exact decide_eq_true ⟨by omega, by omega⟩
theorem str_len (s : ByteArray) : (bytesT s).length = s.size := by unfold bytesT; rw [List.length_map]; exact Array.length_toList
/-- A text written behind what a builder holds. -/
theorem ev_Write0 (s : ByteArray) (h : s.size ≤ 140737488355328) : evF cfg 80 [(0, .box [.d (.raw (.pointer none)), .nl] (some 112))] [.ptr 0 0, .d (.s s)] =
    some (.tup [.d (.i .i64 s.size), .unk], [(0, .box [.ptr 0 0, .own 40] (some 112)), (40, .arr (.u8 5) 1 (bytesT s))]) := by
  have h1 := str_all s
  have h2 := str_len s
  have h3 : decide (s.size ≤ maxLen ∧ s.size * 1 ≤ 140737488355328) = true := len_ok' h
  (refine (evF_codeU (C := cfg) (g := 80) (fn := Tryz.f80) rfl rfl Tryz.func80 rfl (by rw [Tryz.ntmps80]; simp) (by kernel_rfl) (by first | decide | simp [keysOf])).trans ?_; rw [Tryz.results80, Tryz.ntmps80])
  repeat' (first | with_reducible refine br_split (fun _ => ?_) (fun _ => ?_) | simp only [*, push_cast, Array.reduceGetElem?, Nat.reduceBEq, Nat.reduceLT, Nat.reduceAdd, Nat.reduceSub, Nat.reduceLeDiff, Nat.reduceMul, Nat.reduceEqDiff, reduceCtorEq, Int.reduceAdd, Int.reduceLT, Int.reduceLE, Int.reduceToNat, Int.reduceNeg, Int.reduceSub, Int.reduceBEq, Int.reduceBNe, Int.reduceGT, Int.reduceGE, Nat.reduceGT] | (rw [drawC_ok]; rotate_left; decide +kernel; exact cfg_mixed))
theorem ev_Write1 (es : List (List T)) (s : ByteArray) (h : es.length + s.size ≤ 140737488355328) : evF cfg 80 [(0, .box [.ptr 0 0, .own 1] (some 112)), (1, .arr (.u8 5) 1 es)] [.ptr 0 0, .d (.s s)] =
    some (.tup [.d (.i .i64 s.size), .unk], [(0, .box [.ptr 0 0, .own 40] (some 112)), (40, .arr (.u8 5) 1 (es ++ bytesT s))]) := by
  have h1 := str_all s
  have h2 := str_len s
  have h3 : decide (es.length + s.size ≤ maxLen ∧ (es.length + s.size) * 1 ≤ 140737488355328) = true := len_ok' h
  (refine (evF_codeU (C := cfg) (g := 80) (fn := Tryz.f80) rfl rfl Tryz.func80 rfl (by rw [Tryz.ntmps80]; simp) (by kernel_rfl) (by first | decide | simp [keysOf])).trans ?_; rw [Tryz.results80, Tryz.ntmps80])
  repeat' (first | with_reducible refine br_split (fun _ => ?_) (fun _ => ?_) | simp only [*, push_cast, Array.reduceGetElem?, Nat.reduceBEq, Nat.reduceLT, Nat.reduceAdd, Nat.reduceSub, Nat.reduceLeDiff, Nat.reduceMul, Nat.reduceEqDiff, reduceCtorEq, Int.reduceAdd, Int.reduceLT, Int.reduceLE, Int.reduceToNat, Int.reduceNeg, Int.reduceSub, Int.reduceBEq, Int.reduceBNe, Int.reduceGT, Int.reduceGE, Nat.reduceGT] | (rw [drawC_ok]; rotate_left; decide +kernel; exact cfg_mixed))
/-- What a builder holds, as a text. -/
theorem ev_BString (l : List UInt8) (h : 0 < l.length) : evF cfg 83 [(0, .box [.ptr 0 0, .own 1] (some 112)), (1, .arr (.u8 5) 1 (l.map byC))] [.ptr 0 0] =
    some (.d (.s (bs l)), [(0, .box [.ptr 0 0, .own 1] (some 112)), (1, .fz (.u8 5) 1 (l.map byC))]) := by
  have h1 : decide (0 < l.length) = true := decide_eq_true h
  (refine (evF_code (C := cfg) (g := 83) (fn := Tryz.f83) rfl Tryz.func83 rfl (by rw [Tryz.ntmps83]; simp) (by kernel_rfl) (by first | decide | simp [keysOf])).trans ?_; rw [Tryz.results83, Tryz.ntmps83])
  repeat' (first | with_reducible refine br_split (fun _ => ?_) (fun _ => ?_) | simp only [*, push_cast, Array.reduceGetElem?, Nat.reduceBEq, Nat.reduceLT, Nat.reduceAdd, Nat.reduceSub, Nat.reduceLeDiff, Nat.reduceMul, Nat.reduceEqDiff, reduceCtorEq, Int.reduceAdd, Int.reduceLT, Int.reduceLE, Int.reduceToNat, Int.reduceNeg, Int.reduceSub, Int.reduceBEq, Int.reduceBNe, Int.reduceGT, Int.reduceGE, Nat.reduceGT] | (rw [drawC_ok]; rotate_left; decide +kernel; exact cfg_mixed))
end Go.Av
end

section
namespace Go.Av
open Go.Proofs
set_option linter.unusedSimpArgs false
theorem map_app_bs (a b : List UInt8) : a.map byC ++ bytesT (bs b) = (a ++ b).map byC := by rw [bytesT_bs, map_app_by]
theorem ev_PutBag (w : Int) (rows : List C) (hl : rows.length ≤ 1048576) (hr : ∀ c ∈ rows, c.row.length ≤ 1048576) : evF cfg 43 [] [.agg [.d (.i .i64 w), .d (.sl .any (rows.map cC))]] = some (.d (.s (bs (pbL ⟨w, rows⟩))), []) := by
  have hb := ev_BagOk w rows (by omega) (fun c hc => by have := hr c hc; omega)
  cases hv : bagOk ⟨w, rows⟩ with
  | false =>
    have hp : pbL ⟨w, rows⟩ = [] := by simp [pbL, hv]
    have he := strEmpty
    rw [hp, ← he]
    clear hp he
    (refine (evF_code (C := cfg) (g := 43) (fn := Tryz.f43) rfl Tryz.func43 rfl (by rw [Tryz.ntmps43]; simp) (by kernel_rfl) (by first | decide | simp [keysOf])).trans ?_; rw [Tryz.results43, Tryz.ntmps43])
    repeat' (first | with_reducible refine br_split (fun _ => ?_) (fun _ => ?_) | simp only [*, push_cast, Array.reduceGetElem?, Nat.reduceBEq, Nat.reduceLT, Nat.reduceAdd, Nat.reduceSub, Nat.reduceLeDiff, Nat.reduceMul, Nat.reduceEqDiff, reduceCtorEq, Int.reduceAdd, Int.reduceLT, Int.reduceLE, Int.reduceToNat, Int.reduceNeg, Int.reduceSub, Int.reduceBEq, Int.reduceBNe, Int.reduceGT, Int.reduceGE, Nat.reduceGT] | (rw [drawC_ok]; rotate_left; decide +kernel; exact cfg_mixed))
  | true =>
    have hp : pbL ⟨w, rows⟩ = kb w :: rows.flatMap rowB := by simp [pbL, hv]
    have h400 : rows.length ≤ 400 := by simp [bagOk] at hv; omega
    rw [hp, ← accR_full]
    clear hp
    have h1 := ev_Write0 (bs (beB (u64 w) 1)) (by rw [bs_size, beB_len]; omega)
    have h2 : bytesT (bs (beB (u64 w) 1)) = (accR w rows 0).map byC := by rw [bytesT_bs]; rfl
    rw [h2] at h1
    clear h2
    (refine (evF_code (C := cfg) (g := 43) (fn := Tryz.f43) rfl Tryz.func43 rfl (by rw [Tryz.ntmps43]; simp) (by kernel_rfl) (by first | decide | simp [keysOf])).trans ?_; rw [Tryz.results43, Tryz.ntmps43])
    repeat' (first | with_reducible refine br_split (fun _ => ?_) (fun _ => ?_) | simp only [*, push_cast, Array.reduceGetElem?, Nat.reduceBEq, Nat.reduceLT, Nat.reduceAdd, Nat.reduceSub, Nat.reduceLeDiff, Nat.reduceMul, Nat.reduceEqDiff, reduceCtorEq, Int.reduceAdd, Int.reduceLT, Int.reduceLE, Int.reduceToNat, Int.reduceNeg, Int.reduceSub, Int.reduceBEq, Int.reduceBNe, Int.reduceGT, Int.reduceGE, Nat.reduceGT] | (rw [drawC_ok]; rotate_left; decide +kernel; exact cfg_mixed))
    rw [evM_for0 rows.length (fun i j => { t := [(3, .ptr 50 0), (16, .d (.sl .any (rows.map cC))), (17, .d (.i .i64 rows.length)), (18, .d (.i .i64 j))], o := [(50, .box [.ptr 50 0, .own 51] (some 112)), (51, .arr (.u8 5) 1 ((accR w rows i).map byC))], ks := [50, 51], n := 0, sz := 40, u := noU })
      (fun i => some (.exit 0, { t := [(3, .ptr 50 0)], o := [(50, .box [.ptr 50 0, .own 51] (some 112)), (51, .arr (.u8 5) 1 ((accR w rows rows.length).map byC))], ks := [50, 51], n := 0, sz := 40, u := noU })) ?step ?last]
    case step =>
      intro i hi ih
      have hd := dec_lt hi
      have hw := wrap_succ (i := i) (by omega)
      have hci : (rows.map cC)[i]? = some [.sl .any (rows[i].row.map vC), .i .i64 rows[i].n] := get_map cC rows i hi
      have hpn := ev_PutValue 1 rows[i].n ⟨#[]⟩
      have hnv : (⟨1, rows[i].n, ⟨#[]⟩⟩ : V) = numV rows[i].n := rfl
      rw [hnv] at hpn
      have hz := accI_zero w rows i rows[i]
      have hrl := hr _ (List.getElem_mem hi)
      have ha := map_app_bs (accR w rows i) (pvL (numV rows[i].n))
      have hln := accR_len (w := w) (i := i) h400 hr
      have hpl := pvL_len (numV rows[i].n)
      have hwr := ev_Write1 ((accR w rows i).map byC) (bs (pvL (numV rows[i].n))) (by rw [List.length_map, bs_size]; omega)
      have hf := accI_full w rows hi
      rw [hz] at ha
      rw [ha] at hwr
      clear hln hpl hz hnv ha h1
      repeat' (first | with_reducible refine br_split (fun _ => ?_) (fun _ => ?_) | simp only [*, push_cast, Array.reduceGetElem?, Nat.reduceBEq, Nat.reduceLT, Nat.reduceAdd, Nat.reduceSub, Nat.reduceLeDiff, Nat.reduceMul, Nat.reduceEqDiff, reduceCtorEq, Int.reduceAdd, Int.reduceLT, Int.reduceLE, Int.reduceToNat, Int.reduceNeg, Int.reduceSub, Int.reduceBEq, Int.reduceBNe, Int.reduceGT, Int.reduceGE, Nat.reduceGT] | (rw [drawC_ok]; rotate_left; decide +kernel; exact cfg_mixed))
      rw [evM_for0 rows[i].row.length (fun j k => { t := [(3, .ptr 50 0), (16, .d (.sl .any (rows.map cC))), (17, .d (.i .i64 rows.length)), (18, .d (.i .i64 i)), (28, .d (.sl .any (rows[i].row.map vC))), (29, .d (.i .i64 rows[i].row.length)), (30, .d (.i .i64 k))], o := [(50, .box [.ptr 50 0, .own 51] (some 112)), (51, .arr (.u8 5) 1 ((accI w rows i rows[i] j).map byC))], ks := [50, 51], n := 0, sz := 40, u := noU })
        (fun j => some (.exit 2, { t := [(3, .ptr 50 0), (16, .d (.sl .any (rows.map cC))), (17, .d (.i .i64 rows.length)), (18, .d (.i .i64 i))], o := [(50, .box [.ptr 50 0, .own 51] (some 112)), (51, .arr (.u8 5) 1 ((accR w rows (i + 1)).map byC))], ks := [50, 51], n := 0, sz := 40, u := noU })) ?step2 ?last2]
      case step2 =>
        intro j hj ih2
        have hd2 := dec_lt hj
        have hw2 := wrap_succ (i := j) (by omega)
        have hcj : (rows[i].row.map vC)[j]? = some [.i .i64 rows[i].row[j].k, .i .i64 rows[i].row[j].n, .s rows[i].row[j].s] := get_map vC _ j hj
        have hpv := ev_PutValue rows[i].row[j].k rows[i].row[j].n rows[i].row[j].s
        have hss := accI_succ w rows i rows[i] hj
        have ha2 := map_app_bs (accI w rows i rows[i] j) (pvL rows[i].row[j])
        have hln := accI_len (w := w) (i := i) (c := rows[i]) (j := j) h400 hr hrl
        have hpl := pvL_len rows[i].row[j]
        have hwr2 := ev_Write1 ((accI w rows i rows[i] j).map byC) (bs (pvL rows[i].row[j])) (by rw [List.length_map, bs_size]; omega)
        rw [hss] at ha2
        rw [ha2] at hwr2
        clear hln hpl hss ih hwr ha2 hpn hf
        repeat' (first | with_reducible refine br_split (fun _ => ?_) (fun _ => ?_) | simp only [*, push_cast, Array.reduceGetElem?, Nat.reduceBEq, Nat.reduceLT, Nat.reduceAdd, Nat.reduceSub, Nat.reduceLeDiff, Nat.reduceMul, Nat.reduceEqDiff, reduceCtorEq, Int.reduceAdd, Int.reduceLT, Int.reduceLE, Int.reduceToNat, Int.reduceNeg, Int.reduceSub, Int.reduceBEq, Int.reduceBNe, Int.reduceGT, Int.reduceGE, Nat.reduceGT] | (rw [drawC_ok]; rotate_left; decide +kernel; exact cfg_mixed))
      case last2 =>
        clear ih
        repeat' (first | with_reducible refine br_split (fun _ => ?_) (fun _ => ?_) | simp only [*, push_cast, Array.reduceGetElem?, Nat.reduceBEq, Nat.reduceLT, Nat.reduceAdd, Nat.reduceSub, Nat.reduceLeDiff, Nat.reduceMul, Nat.reduceEqDiff, reduceCtorEq, Int.reduceAdd, Int.reduceLT, Int.reduceLE, Int.reduceToNat, Int.reduceNeg, Int.reduceSub, Int.reduceBEq, Int.reduceBNe, Int.reduceGT, Int.reduceGE, Nat.reduceGT] | (rw [drawC_ok]; rotate_left; decide +kernel; exact cfg_mixed))
      · repeat' (first | with_reducible refine br_split (fun _ => ?_) (fun _ => ?_) | simp only [*, push_cast, Array.reduceGetElem?, Nat.reduceBEq, Nat.reduceLT, Nat.reduceAdd, Nat.reduceSub, Nat.reduceLeDiff, Nat.reduceMul, Nat.reduceEqDiff, reduceCtorEq, Int.reduceAdd, Int.reduceLT, Int.reduceLE, Int.reduceToNat, Int.reduceNeg, Int.reduceSub, Int.reduceBEq, Int.reduceBNe, Int.reduceGT, Int.reduceGE, Nat.reduceGT] | (rw [drawC_ok]; rotate_left; decide +kernel; exact cfg_mixed))
    case last =>
      repeat' (first | with_reducible refine br_split (fun _ => ?_) (fun _ => ?_) | simp only [*, push_cast, Array.reduceGetElem?, Nat.reduceBEq, Nat.reduceLT, Nat.reduceAdd, Nat.reduceSub, Nat.reduceLeDiff, Nat.reduceMul, Nat.reduceEqDiff, reduceCtorEq, Int.reduceAdd, Int.reduceLT, Int.reduceLE, Int.reduceToNat, Int.reduceNeg, Int.reduceSub, Int.reduceBEq, Int.reduceBNe, Int.reduceGT, Int.reduceGE, Nat.reduceGT] | (rw [drawC_ok]; rotate_left; decide +kernel; exact cfg_mixed))
    · have hbs := ev_BString (accR w rows rows.length) (by rw [accR]; exact Nat.succ_pos _)
      repeat' (first | with_reducible refine br_split (fun _ => ?_) (fun _ => ?_) | simp only [*, push_cast, Array.reduceGetElem?, Nat.reduceBEq, Nat.reduceLT, Nat.reduceAdd, Nat.reduceSub, Nat.reduceLeDiff, Nat.reduceMul, Nat.reduceEqDiff, reduceCtorEq, Int.reduceAdd, Int.reduceLT, Int.reduceLE, Int.reduceToNat, Int.reduceNeg, Int.reduceSub, Int.reduceBEq, Int.reduceBNe, Int.reduceGT, Int.reduceGE, Nat.reduceGT] | (rw [drawC_ok]; rotate_left; decide +kernel; exact cfg_mixed))
end Go.Av
end
