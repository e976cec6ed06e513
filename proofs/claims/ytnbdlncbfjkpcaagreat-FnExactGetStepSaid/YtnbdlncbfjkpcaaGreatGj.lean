/- What functions of this seat give. -/
import Derived.Test.YtnbdlncbfjkpcaaGreatGi
import Derived.Test.YtnbdlncbfjkpcaaGreatGa
set_option linter.all false
section
namespace Go.Av
open Go.Proofs
structure OkS (x : Sp) : Prop where
  ok : stepOk x = true
  name : x.name.size < 65536
  cols : ∀ c ∈ x.cols, c.size < 65536
  query : x.query.size < 65536
  rels : ∀ r ∈ x.change, r.name.size < 65536 ∧ OkB r.bag ∧ (pbL r.bag).length < 4294967296
theorem OkS.kind {x : Sp} (h : OkS x) : ∃ k : Nat, x.kind = k ∧ k ≤ 3 := by
  have ho := h.ok
  simp only [stepOk, Bool.and_eq_true, stepRest] at ho
  obtain ⟨_, h4⟩ := ho
  by_cases k0 : x.kind = 0
  · exact ⟨0, k0, by omega⟩
  by_cases k1 : x.kind = 1
  · exact ⟨1, k1, by omega⟩
  by_cases k2 : x.kind = 2
  · exact ⟨2, k2, by omega⟩
  by_cases k3 : x.kind = 3
  · exact ⟨3, k3, by omega⟩
  · simp [k0, k1, k2, k3] at h4
theorem OkS.nrel {x : Sp} (h : OkS x) : x.change.length ≤ 20 := by
  have ho := h.ok
  simp only [stepOk, Bool.and_eq_true, Bool.not_eq_true', stepBad, stepRest, Bool.or_eq_false_iff] at ho
  obtain ⟨⟨_, h3⟩, h4⟩ := ho
  by_cases k3 : x.kind = 3
  · simp [k3] at h4
    omega
  · simp [k3] at h3
    rw [h3]; simp
theorem OkS.ncol {x : Sp} (h : OkS x) : x.cols.length ≤ 12 := by
  have ho := h.ok
  simp only [stepOk, Bool.and_eq_true, Bool.not_eq_true', stepBad, stepRest, Bool.or_eq_false_iff] at ho
  obtain ⟨⟨⟨h3, _⟩, _⟩, h4⟩ := ho
  by_cases k0 : x.kind = 0
  · simp [k0, colsOk] at h4
    omega
  · simp [k0] at h3
    rw [h3]; simp
def tail2 (x : Sp) : List UInt8 := beB x.change.length 1 ++ x.change.flatMap relB
def tail1 (x : Sp) : List UInt8 := (beB x.query.size 2 ++ bl x.query) ++ tail2 x
theorem psL_eq {x : Sp} (h : OkS x) : psL x = beB (u64 x.kind) 1 ++ ((beB x.name.size 2 ++ bl x.name) ++ (beB x.cols.length 1 ++ (x.cols.flatMap col2 ++ tail1 x))) := by
  simp only [psL, h.ok, if_true, psR, psQ, psC, psH, List.take_length, txB, tail1, tail2, List.append_assoc]
theorem col_head {cols : List ByteArray} {q : Nat} (hq : q < cols.length) (X : List UInt8) : (cols.drop q).flatMap col2 ++ X = (beB cols[q].size 2 ++ bl cols[q]) ++ ((cols.drop (q + 1)).flatMap col2 ++ X) := by
  rw [List.drop_eq_getElem_cons hq, List.flatMap_cons, col2, txB, List.append_assoc]
theorem rel_head {ch : List R} {q : Nat} (hq : q < ch.length) : (ch.drop q).flatMap relB = (beB ch[q].name.size 2 ++ bl ch[q].name) ++ ((beB (bs (pbL ch[q].bag)).size 4 ++ bl (bs (pbL ch[q].bag))) ++ (ch.drop (q + 1)).flatMap relB) := by
  rw [List.drop_eq_getElem_cons hq, List.flatMap_cons, relB, txB, txB, List.append_assoc]
theorem pbL_of {b : B} (h : OkB b) : pbL b = kb b.w :: b.rows.flatMap rowB := by simp only [pbL, h.ok, if_true]
theorem szVs_enc : ∀ {row : List V}, (∀ v ∈ row, valueOk v = true) → szVs row ≤ (row.flatMap pvL).length
  | [], _ => by simp [szVs]
  | v :: row, h => by
    have ih := szVs_enc (row := row) fun x hx => h x (List.mem_cons_of_mem _ hx)
    have hv := h v (List.mem_cons_self ..)
    have h1 : v.s.size + 1 ≤ (pvL v).length := by
      have h2 := pvL_pos hv
      by_cases k3 : v.k = 3
      · simp only [pvL, hv, if_true, k3, show ¬ ((3 : Int) = 1) by decide, show ¬ ((3 : Int) = 2) by decide, if_false, List.length_append, beB_len, bl_size]
        omega
      · have h4 : v.s.size = 0 := by
          unfold valueOk at hv
          split at hv
          · simp only [Bool.and_eq_true, decide_eq_true_eq] at hv; rw [hv.2]; rfl
          · split at hv
            · simp only [decide_eq_true_eq] at hv; rw [hv]; rfl
            · split at hv
              · simp only [Bool.and_eq_true, decide_eq_true_eq] at hv; rw [hv.2]; rfl
              · cases hv
        omega
    simp only [szVs, List.length_cons, List.map_cons, List.sum_cons, List.flatMap_cons, List.length_append, szV] at ih ⊢
    omega
theorem szCs_enc : ∀ {rows : List C}, (∀ c ∈ rows, ∀ v ∈ c.row, valueOk v = true) → szCs rows ≤ (rows.flatMap rowB).length
  | [], _ => by simp [szCs]
  | c :: rows, h => by
    have ih := szCs_enc (rows := rows) fun x hx => h x (List.mem_cons_of_mem _ hx)
    have h1 := szVs_enc (h c (List.mem_cons_self ..))
    have h2 := pvL_pos (numV_ok c.n)
    simp only [szCs, List.length_cons, List.map_cons, List.sum_cons, List.flatMap_cons, List.length_append, szC, rowB] at ih ⊢
    omega
theorem szB_enc {b : B} (h : OkB b) : Go.Av.szB b ≤ (pbL b).length := by
  have := szCs_enc (rows := b.rows) fun c hc v hv => ((h.row hc).2.1 v hv).1
  rw [pbL_of h, List.length_cons]
  simp only [Go.Av.szB]
  omega
theorem szSs_enc : ∀ l : List ByteArray, szSs l ≤ (l.flatMap col2).length
  | [] => by simp [szSs]
  | s :: l => by
    have ih := szSs_enc l
    simp only [szSs, List.length_cons, List.map_cons, List.sum_cons, List.flatMap_cons, List.length_append, col2, txB_len] at ih ⊢
    omega
theorem szRs_enc : ∀ {l : List R}, (∀ r ∈ l, OkB r.bag) → szRs l ≤ (l.flatMap relB).length
  | [], _ => by simp [szRs]
  | r :: l, h => by
    have ih := szRs_enc (l := l) fun x hx => h x (List.mem_cons_of_mem _ hx)
    have h1 := szB_enc (h r (List.mem_cons_self ..))
    simp only [szRs, List.length_cons, List.map_cons, List.sum_cons, List.flatMap_cons, List.length_append, szR, relB, txB_len, bs_size] at ih ⊢
    omega
theorem szSp_enc {x : Sp} (h : OkS x) : szSp x ≤ (psL x).length := by
  have h1 := szSs_enc x.cols
  have h2 := szRs_enc (l := x.change) fun r hr => (h.rels r hr).2.1
  rw [psL_eq h]
  simp only [szSp, tail1, tail2, List.length_append, beB_len, bl_size]
  omega
end Go.Av
end
section
namespace Go.Av
open Go.Proofs
theorem ev_sGetStep_yes (kind : Int) (name : ByteArray) (cols : List ByteArray) (query : ByteArray) (change : List R) (h : OkS ⟨kind, name, cols, query, change⟩) (hl : (psL ⟨kind, name, cols, query, change⟩).length ≤ 1048576) :
    evF cfg 6 [] [.d (.s (bs (psL ⟨kind, name, cols, query, change⟩)))] = some (.tup [.agg [.d (.i .i64 kind), .d (.s name), .d (.sl .any (cols.map sC)), .d (.s query), .d (.sl .any (change.map rC))], .d (.b true)], []) := by
  have hsz : szSp ⟨kind, name, cols, query, change⟩ ≤ 1048576 := Nat.le_trans (szSp_enc h) hl
  have hps := ev_sPutStep kind name cols query change hsz
  have heq := psL_eq h
  simp only at heq
  generalize hL : psL ⟨kind, name, cols, query, change⟩ = l at *
  have hz := bs_size l
  obtain ⟨kn, hkn, hk3⟩ := h.kind
  simp only at hkn
  have hnc := h.ncol
  have hnr := h.nrel
  simp only at hnc hnr
  have hlp : 0 < l.length := by rw [heq]; simp [beB_len]; omega
  have hu : u64 kind = kn := by rw [hkn]; exact u64_nn (by omega)
  rw [hu] at heq
  have n0 : takeP 1 (l.drop 0) = some (beB kn 1, l.drop 1) := by
    have := takeP_app (n := 1) (a := beB kn 1) (b := ((beB name.size 2 ++ bl name) ++ (beB cols.length 1 ++ (cols.flatMap col2 ++ tail1 ⟨kind, name, cols, query, change⟩)))) (beB_len _ _)
    rw [← heq] at this
    have h2 := (takeP_at (i := 0) this (Nat.zero_le _)).2.2.1
    rw [h2] at this
    exact this
  have d1 : l.drop 1 = (beB name.size 2 ++ bl name) ++ (beB cols.length 1 ++ (cols.flatMap col2 ++ tail1 ⟨kind, name, cols, query, change⟩)) := by
    have := takeP_app (n := 1) (a := beB kn 1) (b := ((beB name.size 2 ++ bl name) ++ (beB cols.length 1 ++ (cols.flatMap col2 ++ tail1 ⟨kind, name, cols, query, change⟩)))) (beB_len _ _)
    rw [← heq] at this
    exact ((takeP_at (i := 0) this (Nat.zero_le _)).2.2.1).symm
  have e0 := ev_l10Num_some l hl 0 1 1 (Nat.zero_le _) rfl (by omega) n0
  rw [beV_beB kn 1 (by omega), show ((0 : Nat) : Int) = 0 from rfl, show ((1 : Nat) : Int) = 1 from rfl, ← hkn] at e0
  have t1 : txtP 2 (l.drop 1) = some (name, (beB cols.length 1 ++ (cols.flatMap col2 ++ tail1 ⟨kind, name, cols, query, change⟩))) := by
    rw [d1]; exact txtP_app h.name
  obtain ⟨i2, a1, -, a3, e1⟩ := ev_l10Get_some l hl 1 2 (by omega) (by omega) t1
  rw [show ((1 : Nat) : Int) = 1 from rfl, show ((2 : Nat) : Int) = 2 from rfl] at e1
  have n1 : takeP 1 (l.drop i2) = some (beB cols.length 1, (cols.flatMap col2 ++ tail1 ⟨kind, name, cols, query, change⟩)) := by
    rw [← a3]; exact takeP_app (beB_len _ _)
  obtain ⟨b1, -, b3, -⟩ := takeP_at n1 a1
  obtain ⟨j, hj⟩ : ∃ j, i2 + 1 = j := ⟨_, rfl⟩
  have e2 := ev_l10Num_some l hl i2 1 j a1 hj (by omega) n1
  rw [beV_beB _ 1 (by omega), show ((1 : Nat) : Int) = 1 from rfl] at e2
  rw [hj] at b1 b3
  have H := Hd.mk (And.intro h (And.intro hl (And.intro b1 (And.intro b3.symm (And.intro hnc (And.intro hnr hlp))))))
  clear h hl b1 b3 hnc hnr hlp hsz heq hL hkn hk3 hu n0 d1 t1 a1 a3 n1 hj
  (refine (evF_code (C := cfg) (g := 6) (fn := Tryz.f6) rfl Tryz.func6 rfl (by rw [Tryz.ntmps6]; simp) (by kernel_rfl) (by first | decide | simp [keysOf])).trans ?_; rw [Tryz.results6, Tryz.ntmps6])
  repeat' (first | with_reducible refine br_split (fun _ => ?_) (fun _ => ?_) | simp only [*, push_cast, Array.reduceGetElem?, Nat.reduceBEq, Nat.reduceLT, Nat.reduceAdd, Nat.reduceSub, Nat.reduceLeDiff, Nat.reduceMul, Nat.reduceEqDiff, reduceCtorEq, Int.reduceAdd, Int.reduceLT, Int.reduceLE, Int.reduceToNat, Int.reduceNeg, Int.reduceSub, Int.reduceBEq, Int.reduceBNe, Int.reduceNe, Int.reduceGT, Int.reduceGE, Nat.reduceGT] | (rw [drawC_ok]; rotate_left; decide +kernel; exact cfg_mixed))
  rw [show ([] : List (List T)) = (cols.take 0).map sC from rfl]
  generalize hE : evM cfg _ _ _ _ _ = RR
  have key : ∃ z, RR = some z ∧ ∃ i' : Nat, i' ≤ l.length ∧ l.drop i' = tail1 ⟨kind, name, cols, query, change⟩ ∧ z = (Exit.exit 0, { t := [(0, .d (.s (bs l))), (2, .ptr 50 0), (6, .ptr 51 0), (10, .d (.i .i64 (i' : Nat)))], o := [(50, .box [.d (.i .i64 0), .d (.s ⟨#[]⟩), .nl, .d (.s ⟨#[]⟩), .nl]), (51, .box [.d (.i .i64 kind), .d (.s name), .own 52, .d (.s ⟨#[]⟩), .nl]), (52, .arr .any 1 (cols.map sC))], ks := [50, 51, 52], n := 0, sz := 134, u := noU }) := by
    rw [← hE]
    refine evM_ex (α := Nat × Nat) (fun y => { t := [(0, .d (.s (bs l))), (2, .ptr 50 0), (6, .ptr 51 0), (9, .d (.i .i64 cols.length)), (10, .d (.i .i64 (y.2 : Nat))), (11, .d (.i .i64 (y.1 : Nat)))], o := [(50, .box [.d (.i .i64 0), .d (.s ⟨#[]⟩), .nl, .d (.s ⟨#[]⟩), .nl]), (51, .box [.d (.i .i64 kind), .d (.s name), .own 52, .d (.s ⟨#[]⟩), .nl]), (52, .arr .any 1 ((cols.take y.1).map sC))], ks := [50, 51, 52], n := 0, sz := 134, u := noU })
      (fun _ z => ∃ i' : Nat, i' ≤ l.length ∧ l.drop i' = tail1 ⟨kind, name, cols, query, change⟩ ∧ z = (Exit.exit 0, { t := [(0, .d (.s (bs l))), (2, .ptr 50 0), (6, .ptr 51 0), (10, .d (.i .i64 (i' : Nat)))], o := [(50, .box [.d (.i .i64 0), .d (.s ⟨#[]⟩), .nl, .d (.s ⟨#[]⟩), .nl]), (51, .box [.d (.i .i64 kind), .d (.s name), .own 52, .d (.s ⟨#[]⟩), .nl]), (52, .arr .any 1 (cols.map sC))], ks := [50, 51, 52], n := 0, sz := 134, u := noU }))
      (fun y => y.1 ≤ cols.length ∧ y.2 ≤ l.length ∧ l.drop y.2 = (cols.drop y.1).flatMap col2 ++ tail1 ⟨kind, name, cols, query, change⟩) (fun y => cols.length - y.1) ?_ (0, j) ⟨Nat.zero_le _, H.out.2.2.1, H.out.2.2.2.1⟩
    clear hE RR e0 e1 e2 hps
    rintro ⟨q, i⟩ ⟨hq, hi, hd⟩ ih
    simp only at hq hi hd ih ⊢
    obtain ⟨h, hl, -, -, hnc, -, -⟩ := H.out
    by_cases hqc : q < cols.length
    · have c1 := dec_lt hqc
      have c2 : decide ((i : Int) ≥ 0) = true := decide_eq_true (by omega)
      have w1 : IntKind.i64.wrap ((q : Int) + 1) = (q : Int) + 1 := wrap_succ (by omega)
      rw [col_head hqc] at hd
      have t1 : txtP 2 (l.drop i) = some (cols[q], (cols.drop (q + 1)).flatMap col2 ++ tail1 ⟨kind, name, cols, query, change⟩) := by
        rw [hd]; exact txtP_app (h.cols _ (List.getElem_mem hqc))
      obtain ⟨i2, a1, -, a3, e1⟩ := ev_l10Get_some l hl i 2 hi (by omega) t1
      rw [show ((2 : Nat) : Int) = 2 from rfl] at e1
      have h3 : (cols.take q).map sC ++ [[.s cols[q]]] = (cols.take (q + 1)).map sC := take_snoc sC hqc
      have h4 := len_ok (n := (cols.take q).length + 1) 16 (by rw [List.length_take]; omega) (by omega)
      obtain ⟨z, hz1, hz2⟩ := ih (q + 1, i2) ⟨hqc, a1, a3.symm⟩ (by simp only; omega)
      refine ⟨z, ?_, hz2⟩
      simp only at hz1
      rw [show ((q + 1 : Nat) : Int) = (q : Int) + 1 from rfl] at hz1
      clear ih hq hi hd h hl hnc t1 a1 a3 hz2
      repeat' (first | with_reducible refine br_split (fun _ => ?_) (fun _ => ?_) | simp only [*, push_cast, Array.reduceGetElem?, Nat.reduceBEq, Nat.reduceLT, Nat.reduceAdd, Nat.reduceSub, Nat.reduceLeDiff, Nat.reduceMul, Nat.reduceEqDiff, reduceCtorEq, Int.reduceAdd, Int.reduceLT, Int.reduceLE, Int.reduceToNat, Int.reduceNeg, Int.reduceSub, Int.reduceBEq, Int.reduceBNe, Int.reduceNe, Int.reduceGT, Int.reduceGE, Nat.reduceGT] | (rw [drawC_ok]; rotate_left; decide +kernel; exact cfg_mixed))
    · have c1 : decide ((q : Int) < (cols.length : Int)) = false := decide_eq_false (by omega)
      have hqe : q = cols.length := by omega
      have hd2 : l.drop i = tail1 ⟨kind, name, cols, query, change⟩ := by rw [hd, hqe, List.drop_length]; rfl
      have hrr : cols.take q = cols := by rw [hqe]; exact List.take_length
      refine ⟨_, ?_, i, hi, hd2, rfl⟩
      clear ih hq hi hd h hl hnc hqc hqe hd2
      repeat' (first | with_reducible refine br_split (fun _ => ?_) (fun _ => ?_) | simp only [*, push_cast, Array.reduceGetElem?, Nat.reduceBEq, Nat.reduceLT, Nat.reduceAdd, Nat.reduceSub, Nat.reduceLeDiff, Nat.reduceMul, Nat.reduceEqDiff, reduceCtorEq, Int.reduceAdd, Int.reduceLT, Int.reduceLE, Int.reduceToNat, Int.reduceNeg, Int.reduceSub, Int.reduceBEq, Int.reduceBNe, Int.reduceNe, Int.reduceGT, Int.reduceGE, Nat.reduceGT] | (rw [drawC_ok]; rotate_left; decide +kernel; exact cfg_mixed))
  obtain ⟨_, rfl, i4, p1, p2, rfl⟩ := key
  clear hE
  obtain ⟨h, hl, -, -, hnc, hnr, hlp⟩ := H.out
  have t2 : txtP 2 (l.drop i4) = some (query, tail2 ⟨kind, name, cols, query, change⟩) := by
    rw [p2]; exact txtP_app h.query
  obtain ⟨i5, a1, -, a3, e4⟩ := ev_l10Get_some l hl i4 2 p1 (by omega) t2
  rw [show ((2 : Nat) : Int) = 2 from rfl] at e4
  have n2 : takeP 1 (l.drop i5) = some (beB change.length 1, change.flatMap relB) := by
    rw [← a3]; exact takeP_app (beB_len _ _)
  obtain ⟨b1, -, b3, -⟩ := takeP_at n2 a1
  obtain ⟨j6, hj6⟩ : ∃ j, i5 + 1 = j := ⟨_, rfl⟩
  have e5 := ev_l10Num_some l hl i5 1 j6 a1 hj6 (by omega) n2
  rw [beV_beB _ 1 (by omega), show ((1 : Nat) : Int) = 1 from rfl] at e5
  rw [hj6] at b1 b3
  have H2 := Hd.mk (And.intro b1 b3.symm)
  clear h hl hnc hnr hlp t2 a1 a3 n2 b1 b3 p1 p2 hj6 e0 e1 e2
  repeat' (first | with_reducible refine br_split (fun _ => ?_) (fun _ => ?_) | simp only [*, push_cast, Array.reduceGetElem?, Nat.reduceBEq, Nat.reduceLT, Nat.reduceAdd, Nat.reduceSub, Nat.reduceLeDiff, Nat.reduceMul, Nat.reduceEqDiff, reduceCtorEq, Int.reduceAdd, Int.reduceLT, Int.reduceLE, Int.reduceToNat, Int.reduceNeg, Int.reduceSub, Int.reduceBEq, Int.reduceBNe, Int.reduceNe, Int.reduceGT, Int.reduceGE, Nat.reduceGT] | (rw [drawC_ok]; rotate_left; decide +kernel; exact cfg_mixed))
  rw [show ([] : List (List T)) = (change.take 0).map rC from rfl]
  generalize hE : evM cfg _ _ _ _ _ = RR
  have key : ∃ z, RR = some z ∧ ∃ i' : Nat, z = (Exit.exit 2, { t := [(0, .d (.s (bs l))), (2, .ptr 50 0), (6, .ptr 51 0), (17, .d (.i .i64 (i' : Nat)))], o := [(50, .box [.d (.i .i64 0), .d (.s ⟨#[]⟩), .nl, .d (.s ⟨#[]⟩), .nl]), (51, .box [.d (.i .i64 kind), .d (.s name), .own 52, .d (.s query), .own 53]), (52, .arr .any 1 (cols.map sC)), (53, .arr .any 3 (change.map rC))], ks := [50, 51, 52, 53], n := 0, sz := 134, u := noU }) := by
    rw [← hE]
    refine evM_ex (α := Nat × Nat) (fun y => { t := [(0, .d (.s (bs l))), (2, .ptr 50 0), (6, .ptr 51 0), (16, .d (.i .i64 change.length)), (17, .d (.i .i64 (y.2 : Nat))), (18, .d (.i .i64 (y.1 : Nat)))], o := [(50, .box [.d (.i .i64 0), .d (.s ⟨#[]⟩), .nl, .d (.s ⟨#[]⟩), .nl]), (51, .box [.d (.i .i64 kind), .d (.s name), .own 52, .d (.s query), .own 53]), (52, .arr .any 1 (cols.map sC)), (53, .arr .any 3 ((change.take y.1).map rC))], ks := [50, 51, 52, 53], n := 0, sz := 134, u := noU })
      (fun _ z => ∃ i' : Nat, z = (Exit.exit 2, { t := [(0, .d (.s (bs l))), (2, .ptr 50 0), (6, .ptr 51 0), (17, .d (.i .i64 (i' : Nat)))], o := [(50, .box [.d (.i .i64 0), .d (.s ⟨#[]⟩), .nl, .d (.s ⟨#[]⟩), .nl]), (51, .box [.d (.i .i64 kind), .d (.s name), .own 52, .d (.s query), .own 53]), (52, .arr .any 1 (cols.map sC)), (53, .arr .any 3 (change.map rC))], ks := [50, 51, 52, 53], n := 0, sz := 134, u := noU }))
      (fun y => y.1 ≤ change.length ∧ y.2 ≤ l.length ∧ l.drop y.2 = (change.drop y.1).flatMap relB) (fun y => change.length - y.1) ?_ (0, j6) ⟨Nat.zero_le _, H2.out.1, H2.out.2⟩
    clear hE RR e4 e5 hps
    rintro ⟨q, i⟩ ⟨hq, hi, hd⟩ ih
    simp only at hq hi hd ih ⊢
    obtain ⟨h, hl, -, -, -, hnr, -⟩ := H.out
    by_cases hqc : q < change.length
    · have c1 := dec_lt hqc
      have c2 : decide ((i : Int) ≥ 0) = true := decide_eq_true (by omega)
      have w1 : IntKind.i64.wrap ((q : Int) + 1) = (q : Int) + 1 := wrap_succ (by omega)
      rw [rel_head hqc] at hd
      obtain ⟨r1, r2, r3⟩ := h.rels _ (List.getElem_mem hqc)
      have t1 : txtP 2 (l.drop i) = some (change[q].name, (beB (bs (pbL change[q].bag)).size 4 ++ bl (bs (pbL change[q].bag))) ++ (change.drop (q + 1)).flatMap relB) := by
        rw [hd]; exact txtP_app r1
      obtain ⟨i2, a1, -, a3, e1⟩ := ev_l10Get_some l hl i 2 hi (by omega) t1
      rw [show ((2 : Nat) : Int) = 2 from rfl] at e1
      have t2 : txtP 4 (l.drop i2) = some (bs (pbL change[q].bag), (change.drop (q + 1)).flatMap relB) := by
        rw [← a3]; exact txtP_app (by rw [bs_size]; simpa using r3)
      obtain ⟨i3, b1, -, b3, e2⟩ := ev_l10Get_some l hl i2 4 a1 (by omega) t2
      rw [show ((4 : Nat) : Int) = 4 from rfl] at e2
      have hbl : (pbL change[q].bag).length ≤ 1048576 := by
        have h1 := congrArg List.length a3
        rw [List.length_append, List.length_append, bl_size, bs_size, List.length_drop] at h1
        omega
      have e3 := ev_sGetBag_yes change[q].bag.w change[q].bag.rows r2 (by rw [← pbL_of r2]; exact hbl)
      rw [show kb change[q].bag.w :: change[q].bag.rows.flatMap rowB = pbL change[q].bag from (pbL_of r2).symm] at e3
      have h3 : (change.take q).map rC ++ [[.s change[q].name, .i .i64 change[q].bag.w, .sl .any (change[q].bag.rows.map cC)]] = (change.take (q + 1)).map rC := take_snoc rC hqc
      have h4 := len_ok (n := (change.take q).length + 1) 48 (by rw [List.length_take]; omega) (by omega)
      obtain ⟨z, hz1, hz2⟩ := ih (q + 1, i3) ⟨hqc, b1, b3.symm⟩ (by simp only; omega)
      refine ⟨z, ?_, hz2⟩
      simp only at hz1
      rw [show ((q + 1 : Nat) : Int) = (q : Int) + 1 from rfl] at hz1
      clear ih hq hi hd h hl hnr t1 t2 a1 a3 b1 b3 hz2 r1 r2 r3 hbl
      repeat' (first | with_reducible refine br_split (fun _ => ?_) (fun _ => ?_) | simp only [*, push_cast, Array.reduceGetElem?, Nat.reduceBEq, Nat.reduceLT, Nat.reduceAdd, Nat.reduceSub, Nat.reduceLeDiff, Nat.reduceMul, Nat.reduceEqDiff, reduceCtorEq, Int.reduceAdd, Int.reduceLT, Int.reduceLE, Int.reduceToNat, Int.reduceNeg, Int.reduceSub, Int.reduceBEq, Int.reduceBNe, Int.reduceNe, Int.reduceGT, Int.reduceGE, Nat.reduceGT] | (rw [drawC_ok]; rotate_left; decide +kernel; exact cfg_mixed))
    · have c1 : decide ((q : Int) < (change.length : Int)) = false := decide_eq_false (by omega)
      have hqe : q = change.length := by omega
      have hrr : change.take q = change := by rw [hqe]; exact List.take_length
      refine ⟨_, ?_, i, rfl⟩
      clear ih hq hi hd h hl hnr hqc hqe
      repeat' (first | with_reducible refine br_split (fun _ => ?_) (fun _ => ?_) | simp only [*, push_cast, Array.reduceGetElem?, Nat.reduceBEq, Nat.reduceLT, Nat.reduceAdd, Nat.reduceSub, Nat.reduceLeDiff, Nat.reduceMul, Nat.reduceEqDiff, reduceCtorEq, Int.reduceAdd, Int.reduceLT, Int.reduceLE, Int.reduceToNat, Int.reduceNeg, Int.reduceSub, Int.reduceBEq, Int.reduceBNe, Int.reduceNe, Int.reduceGT, Int.reduceGE, Nat.reduceGT] | (rw [drawC_ok]; rotate_left; decide +kernel; exact cfg_mixed))
  obtain ⟨_, rfl, i7, rfl⟩ := key
  clear hE
  have hlp := H.out.2.2.2.2.2.2
  have c1 : decide ((i7 : Int) < 0) = false := decide_eq_false (by omega)
  have hne : decide (bs l = (⟨#[]⟩ : ByteArray)) = false := decide_eq_false fun e => by
    have := congrArg ByteArray.size e
    rw [bs_size] at this
    have : (⟨#[]⟩ : ByteArray).size = 0 := rfl
    omega
  have hpe : decide (bs l = bs l) = true := decide_eq_true rfl
  clear H H2 hlp e4 e5
  repeat' (first | with_reducible refine br_split (fun _ => ?_) (fun _ => ?_) | simp only [*, push_cast, Array.reduceGetElem?, Nat.reduceBEq, Nat.reduceLT, Nat.reduceAdd, Nat.reduceSub, Nat.reduceLeDiff, Nat.reduceMul, Nat.reduceEqDiff, reduceCtorEq, Int.reduceAdd, Int.reduceLT, Int.reduceLE, Int.reduceToNat, Int.reduceNeg, Int.reduceSub, Int.reduceBEq, Int.reduceBNe, Int.reduceNe, Int.reduceGT, Int.reduceGE, Nat.reduceGT] | (rw [drawC_ok]; rotate_left; decide +kernel; exact cfg_mixed))
end Go.Av
end
section
namespace Go.Av
open Go.Proofs
theorem ev_l10Num_any (l : List UInt8) (hl : l.length ≤ 1048576) (i : Int) (hp : i = -1 ∨ ∃ t : Nat, i = t ∧ t ≤ l.length) (n : Nat) (hn : n ≤ 7) : ∃ (x : Nat) (i' : Int), x < 256 ^ n ∧ ((x = 0 ∧ i' = -1) ∨ ∃ t t' : Nat, i = t ∧ i' = t' ∧ t + n = t' ∧ t' ≤ l.length) ∧
    evF cfg 30 [] [.d (.s (bs l)), .d (.i .i64 i), .d (.i .i64 (n : Nat))] = some (.tup [.d (.i .i64 (x : Nat)), .d (.i .i64 i')], []) := by
  rcases hp with rfl | ⟨t, rfl, ht⟩
  · exact ⟨0, -1, Nat.pow_pos (by omega), .inl ⟨rfl, rfl⟩, ev_l10Num_bad (bs l) n⟩
  · cases h0 : takeP n (l.drop t) with
    | none => exact ⟨0, -1, Nat.pow_pos (by omega), .inl ⟨rfl, rfl⟩, ev_l10Num_none l hl t n ht h0⟩
    | some p =>
      obtain ⟨a, b⟩ := p
      obtain ⟨h1, -, -, h4⟩ := takeP_at h0 ht
      have h5 := beV_lt a
      rw [h4] at h5
      exact ⟨beV a, (t + n : Nat), h5, .inr ⟨t, t + n, rfl, rfl, rfl, h1⟩, ev_l10Num_some l hl t n (t + n) ht rfl hn h0⟩
theorem ev_l10Get_any (l : List UInt8) (hl : l.length ≤ 1048576) (i : Int) (hp : i = -1 ∨ ∃ t : Nat, i = t ∧ t ≤ l.length) (m : Nat) (hm : m ≤ 7) : ∃ (s : ByteArray) (i' : Int), ((s = ⟨#[]⟩ ∧ i' = -1) ∨ ∃ t t' : Nat, i = t ∧ i' = t' ∧ t + m + s.size = t' ∧ t' ≤ l.length ∧ s.size < 256 ^ m) ∧
    evF cfg 31 [] [.d (.s (bs l)), .d (.i .i64 i), .d (.i .i64 (m : Nat))] = some (.tup [.d (.s s), .d (.i .i64 i')], []) := by
  rcases hp with rfl | ⟨t, rfl, ht⟩
  · exact ⟨⟨#[]⟩, -1, .inl ⟨rfl, rfl⟩, ev_l10Get_bad (bs l) m⟩
  · cases h0 : txtP m (l.drop t) with
    | none => exact ⟨⟨#[]⟩, -1, .inl ⟨rfl, rfl⟩, ev_l10Get_none l hl t m ht hm h0⟩
    | some p =>
      obtain ⟨s, b⟩ := p
      obtain ⟨k, h1, h2, h3, e⟩ := ev_l10Get_some l hl t m ht hm h0
      obtain ⟨g1, g2⟩ := txtP_some h0
      refine ⟨s, k, .inr ⟨t, k, rfl, rfl, ?_, h1, g2⟩, e⟩
      have := congrArg List.length g1
      rw [h3, List.length_append, List.length_append, beB_len, bl_size, List.length_drop, List.length_drop] at this
      omega
structure CS where
  cols : List ByteArray
  i : Int
structure RL where
  ch : List R
  i : Int
theorem ev_sGetStep_no (l : List UInt8) (hl : l.length ≤ 1048576) (h : ∀ x, OkS x → l ≠ psL x) :
    evF cfg 6 [] [.d (.s (bs l))] = some (.tup [.agg [.d (.i .i64 0), .d (.s ⟨#[]⟩), .d (.sl .any []), .d (.s ⟨#[]⟩), .d (.sl .any [])], .d (.b false)], []) := by
  have hz := bs_size l
  obtain ⟨kn, i1, hkn, p1, e0⟩ := ev_l10Num_any l hl 0 (.inr ⟨0, rfl, Nat.zero_le _⟩) 1 (by omega)
  rw [show ((1 : Nat) : Int) = 1 from rfl] at e0
  have q1 : i1 = -1 ∨ ∃ t : Nat, i1 = t ∧ t ≤ l.length := by
    rcases p1 with ⟨-, h⟩ | ⟨t, t', -, h, -, h'⟩
    · exact .inl h
    · exact .inr ⟨t', h, h'⟩
  obtain ⟨name, i2, p2, e1⟩ := ev_l10Get_any l hl i1 q1 2 (by omega)
  rw [show ((2 : Nat) : Int) = 2 from rfl] at e1
  have q2 : i2 = -1 ∨ ∃ t : Nat, i2 = t ∧ t ≤ l.length ∧ name.size ≤ t ∧ name.size < 65536 := by
    rcases p2 with ⟨-, h⟩ | ⟨t, t', -, h, h2, h', h3⟩
    · exact .inl h
    · exact .inr ⟨t', h, h', by omega, by simpa using h3⟩
  obtain ⟨nc, i3, hnc, p3, e2⟩ := ev_l10Num_any l hl i2 (by rcases q2 with h | ⟨t, h, h', -⟩; exact .inl h; exact .inr ⟨t, h, h'⟩) 1 (by omega)
  rw [show ((1 : Nat) : Int) = 1 from rfl] at e2
  have q3 : (nc = 0 ∧ i3 = -1) ∨ ∃ t : Nat, i3 = t ∧ t ≤ l.length ∧ name.size ≤ t ∧ name.size < 65536 := by
    rcases p3 with h | ⟨t, t', h0, h, h2, h'⟩
    · exact .inl h
    · rcases q2 with hq | ⟨t2, hq, a, b, c⟩
      · omega
      · exact .inr ⟨t', h, h', by omega, c⟩
  have H := Hd.mk (And.intro h (And.intro hl (And.intro hkn (And.intro (show nc < 256 by simpa using hnc) q3))))
  clear h hl hkn hnc p1 p2 p3 q1 q2 q3
  (refine (evF_code (C := cfg) (g := 6) (fn := Tryz.f6) rfl Tryz.func6 rfl (by rw [Tryz.ntmps6]; simp) (by kernel_rfl) (by first | decide | simp [keysOf])).trans ?_; rw [Tryz.results6, Tryz.ntmps6])
  repeat' (first | with_reducible refine br_split (fun _ => ?_) (fun _ => ?_) | simp only [*, push_cast, Array.reduceGetElem?, Nat.reduceBEq, Nat.reduceLT, Nat.reduceAdd, Nat.reduceSub, Nat.reduceLeDiff, Nat.reduceMul, Nat.reduceEqDiff, reduceCtorEq, Int.reduceAdd, Int.reduceLT, Int.reduceLE, Int.reduceToNat, Int.reduceNeg, Int.reduceSub, Int.reduceBEq, Int.reduceBNe, Int.reduceNe, Int.reduceGT, Int.reduceGE, Nat.reduceGT] | (rw [drawC_ok]; rotate_left; decide +kernel; exact cfg_mixed))
  rw [show ([] : List (List T)) = ([] : List ByteArray).map sC from rfl]
  generalize hE : evM cfg _ _ _ _ _ = RR
  have key : ∃ z, RR = some z ∧ ∃ (cols : List ByteArray) (i' : Int), cols.length ≤ 255 ∧ (i' = -1 ∨ ∃ t : Nat, i' = t ∧ t ≤ l.length ∧ name.size + szSs cols ≤ t ∧ name.size < 65536 ∧ ∀ c ∈ cols, c.size < 65536) ∧ z = (Exit.exit 0, { t := [(0, .d (.s (bs l))), (2, .ptr 50 0), (6, .ptr 51 0), (10, .d (.i .i64 i'))], o := [(50, .box [.d (.i .i64 0), .d (.s ⟨#[]⟩), .nl, .d (.s ⟨#[]⟩), .nl]), (51, .box [.d (.i .i64 (kn : Nat)), .d (.s name), .own 52, .d (.s ⟨#[]⟩), .nl]), (52, .arr .any 1 (cols.map sC))], ks := [50, 51, 52], n := 0, sz := 134, u := noU }) := by
    rw [← hE]
    refine evM_ex (α := CS) (fun y => { t := [(0, .d (.s (bs l))), (2, .ptr 50 0), (6, .ptr 51 0), (9, .d (.i .i64 (nc : Nat))), (10, .d (.i .i64 y.i)), (11, .d (.i .i64 (y.cols.length : Nat)))], o := [(50, .box [.d (.i .i64 0), .d (.s ⟨#[]⟩), .nl, .d (.s ⟨#[]⟩), .nl]), (51, .box [.d (.i .i64 (kn : Nat)), .d (.s name), .own 52, .d (.s ⟨#[]⟩), .nl]), (52, .arr .any 1 (y.cols.map sC))], ks := [50, 51, 52], n := 0, sz := 134, u := noU })
      (fun _ z => ∃ (cols : List ByteArray) (i' : Int), cols.length ≤ 255 ∧ (i' = -1 ∨ ∃ t : Nat, i' = t ∧ t ≤ l.length ∧ name.size + szSs cols ≤ t ∧ name.size < 65536 ∧ ∀ c ∈ cols, c.size < 65536) ∧ z = (Exit.exit 0, { t := [(0, .d (.s (bs l))), (2, .ptr 50 0), (6, .ptr 51 0), (10, .d (.i .i64 i'))], o := [(50, .box [.d (.i .i64 0), .d (.s ⟨#[]⟩), .nl, .d (.s ⟨#[]⟩), .nl]), (51, .box [.d (.i .i64 (kn : Nat)), .d (.s name), .own 52, .d (.s ⟨#[]⟩), .nl]), (52, .arr .any 1 (cols.map sC))], ks := [50, 51, 52], n := 0, sz := 134, u := noU }))
      (fun y => y.cols.length ≤ nc ∧ (y.i = -1 ∨ ∃ t : Nat, y.i = t ∧ t ≤ l.length ∧ name.size + szSs y.cols ≤ t ∧ name.size < 65536 ∧ ∀ c ∈ y.cols, c.size < 65536)) (fun y => nc - y.cols.length) ?_ ⟨[], i3⟩ ⟨Nat.zero_le _, by
        rcases H.out.2.2.2.2 with ⟨-, h⟩ | ⟨t, h1, h2, h3, h4⟩
        · exact .inl h
        · exact .inr ⟨t, h1, h2, by simpa [szSs] using h3, h4, fun _ h => (nomatch h)⟩⟩
    clear hE RR e0 e1 e2
    rintro ⟨cols, i⟩ ⟨hq, hp⟩ ih
    simp only at hq hp ih ⊢
    obtain ⟨h, hl, hkn, hnc, -⟩ := H.out
    by_cases hqc : cols.length < nc
    · have c1 : decide ((cols.length : Int) < (nc : Int)) = true := decide_eq_true (by omega)
      rcases hp with rfl | ⟨t, rfl, ht1, ht2, ht3, ht4⟩
      · have c2 : decide ((-1 : Int) ≥ 0) = false := rfl
        refine ⟨_, ?_, cols, -1, by omega, .inl rfl, rfl⟩
        clear ih hq h hl hkn hnc hqc
        repeat' (first | with_reducible refine br_split (fun _ => ?_) (fun _ => ?_) | simp only [*, push_cast, Array.reduceGetElem?, Nat.reduceBEq, Nat.reduceLT, Nat.reduceAdd, Nat.reduceSub, Nat.reduceLeDiff, Nat.reduceMul, Nat.reduceEqDiff, reduceCtorEq, Int.reduceAdd, Int.reduceLT, Int.reduceLE, Int.reduceToNat, Int.reduceNeg, Int.reduceSub, Int.reduceBEq, Int.reduceBNe, Int.reduceNe, Int.reduceGT, Int.reduceGE, Nat.reduceGT] | (rw [drawC_ok]; rotate_left; decide +kernel; exact cfg_mixed))
      · have c2 : decide ((t : Int) ≥ 0) = true := decide_eq_true (by omega)
        have w1 : IntKind.i64.wrap ((cols.length : Int) + 1) = (cols.length : Int) + 1 := wrap_succ (by omega)
        obtain ⟨c, i', p2, e1⟩ := ev_l10Get_any l hl t (.inr ⟨t, rfl, ht1⟩) 2 (by omega)
        rw [show ((2 : Nat) : Int) = 2 from rfl] at e1
        have h3 : cols.map sC ++ [[.s c]] = (cols ++ [c]).map sC := by rw [List.map_append]; rfl
        have h4 := len_ok (n := cols.length + 1) 16 (by omega) (by omega)
        obtain ⟨z, hz1, hz2⟩ := ih ⟨cols ++ [c], i'⟩ ⟨by simp; omega, by
          rcases p2 with ⟨-, hi⟩ | ⟨t1, t2, h0, hi, g2, g3, g4⟩
          · exact .inl hi
          · refine .inr ⟨t2, hi, g3, ?_, ht3, fun x hx => ?_⟩
            · have : szSs (cols ++ [c]) = szSs cols + 1 + c.size := by simp [szSs]; omega
              rw [this]; omega
            · rcases List.mem_append.1 hx with hx | hx
              · exact ht4 x hx
              · rw [List.mem_singleton.1 hx]; simpa using g4⟩ (by simp; omega)
        refine ⟨z, ?_, hz2⟩
        simp only [List.length_append, List.length_singleton] at hz1
        rw [show ((cols.length + 1 : Nat) : Int) = (cols.length : Int) + 1 from rfl] at hz1
        clear ih hq h hl hkn hnc hqc ht1 ht2 ht3 ht4 p2 hz2
        repeat' (first | with_reducible refine br_split (fun _ => ?_) (fun _ => ?_) | simp only [*, push_cast, Array.reduceGetElem?, Nat.reduceBEq, Nat.reduceLT, Nat.reduceAdd, Nat.reduceSub, Nat.reduceLeDiff, Nat.reduceMul, Nat.reduceEqDiff, reduceCtorEq, Int.reduceAdd, Int.reduceLT, Int.reduceLE, Int.reduceToNat, Int.reduceNeg, Int.reduceSub, Int.reduceBEq, Int.reduceBNe, Int.reduceNe, Int.reduceGT, Int.reduceGE, Nat.reduceGT] | (rw [drawC_ok]; rotate_left; decide +kernel; exact cfg_mixed))
    · have c1 : decide ((cols.length : Int) < (nc : Int)) = false := decide_eq_false (by omega)
      refine ⟨_, ?_, cols, i, by omega, hp, rfl⟩
      clear ih hq h hl hkn hnc hqc hp
      repeat' (first | with_reducible refine br_split (fun _ => ?_) (fun _ => ?_) | simp only [*, push_cast, Array.reduceGetElem?, Nat.reduceBEq, Nat.reduceLT, Nat.reduceAdd, Nat.reduceSub, Nat.reduceLeDiff, Nat.reduceMul, Nat.reduceEqDiff, reduceCtorEq, Int.reduceAdd, Int.reduceLT, Int.reduceLE, Int.reduceToNat, Int.reduceNeg, Int.reduceSub, Int.reduceBEq, Int.reduceBNe, Int.reduceNe, Int.reduceGT, Int.reduceGE, Nat.reduceGT] | (rw [drawC_ok]; rotate_left; decide +kernel; exact cfg_mixed))
  obtain ⟨_, rfl, cols, i4, p1, p2, rfl⟩ := key
  clear hE e0 e1 e2
  obtain ⟨h, hl, hkn, -, -⟩ := H.out
  obtain ⟨query, i5, p3, e3⟩ := ev_l10Get_any l hl i4 (by rcases p2 with h | ⟨t, h, h', -⟩; exact .inl h; exact .inr ⟨t, h, h'⟩) 2 (by omega)
  rw [show ((2 : Nat) : Int) = 2 from rfl] at e3
  have q5 : i5 = -1 ∨ ∃ t : Nat, i5 = t ∧ t ≤ l.length ∧ (name.size + szSs cols + query.size ≤ t ∧ name.size < 65536 ∧ (∀ c ∈ cols, c.size < 65536) ∧ query.size < 65536) := by
    rcases p3 with ⟨-, h⟩ | ⟨t, t', h0, h, h2, h', h3⟩
    · exact .inl h
    · rcases p2 with hq | ⟨t2, hq, a, b, c, d⟩
      · omega
      · exact .inr ⟨t', h, h', by omega, c, d, by simpa using h3⟩
  obtain ⟨k, i6, hk, p4, e4⟩ := ev_l10Num_any l hl i5 (by rcases q5 with h | ⟨t, h, h', -⟩; exact .inl h; exact .inr ⟨t, h, h'⟩) 1 (by omega)
  rw [show ((1 : Nat) : Int) = 1 from rfl] at e4
  have q6 : (k = 0 ∧ i6 = -1) ∨ ∃ t : Nat, i6 = t ∧ t ≤ l.length ∧ (name.size + szSs cols + query.size ≤ t ∧ name.size < 65536 ∧ (∀ c ∈ cols, c.size < 65536) ∧ query.size < 65536) := by
    rcases p4 with h | ⟨t, t', h0, h, h2, h'⟩
    · exact .inl h
    · rcases q5 with hq | ⟨t2, hq, a, b, c, d, e⟩
      · omega
      · exact .inr ⟨t', h, h', by omega, c, d, e⟩
  have H2 := Hd.mk (And.intro (show k < 256 by simpa using hk) (And.intro p1 q6))
  clear h hl hkn p1 p2 p3 p4 hk q5 q6
  repeat' (first | with_reducible refine br_split (fun _ => ?_) (fun _ => ?_) | simp only [*, push_cast, Array.reduceGetElem?, Nat.reduceBEq, Nat.reduceLT, Nat.reduceAdd, Nat.reduceSub, Nat.reduceLeDiff, Nat.reduceMul, Nat.reduceEqDiff, reduceCtorEq, Int.reduceAdd, Int.reduceLT, Int.reduceLE, Int.reduceToNat, Int.reduceNeg, Int.reduceSub, Int.reduceBEq, Int.reduceBNe, Int.reduceNe, Int.reduceGT, Int.reduceGE, Nat.reduceGT] | (rw [drawC_ok]; rotate_left; decide +kernel; exact cfg_mixed))
  rw [show ([] : List (List T)) = ([] : List R).map rC from rfl]
  generalize hE : evM cfg _ _ _ _ _ = RR
  have key : ∃ z, RR = some z ∧ (z = (Exit.ret, { t := [(2, .ptr 50 0), (3, .d (.b false))], o := [(50, .box [.d (.i .i64 0), .d (.s ⟨#[]⟩), .nl, .d (.s ⟨#[]⟩), .nl])], ks := [50], n := 0, sz := 134, u := noU }) ∨ ∃ (ch : List R) (i' : Int), ((k = 0 ∧ i' = -1) ∨ ∃ t : Nat, i' = t ∧ t ≤ l.length ∧ name.size + szSs cols + query.size + szRs ch ≤ t ∧ (name.size < 65536 ∧ (∀ c ∈ cols, c.size < 65536) ∧ query.size < 65536) ∧ ∀ r ∈ ch, r.name.size < 65536 ∧ OkB r.bag ∧ (pbL r.bag).length < 4294967296) ∧ z = (Exit.exit 2, { t := [(0, .d (.s (bs l))), (2, .ptr 50 0), (6, .ptr 51 0), (17, .d (.i .i64 i'))], o := [(50, .box [.d (.i .i64 0), .d (.s ⟨#[]⟩), .nl, .d (.s ⟨#[]⟩), .nl]), (51, .box [.d (.i .i64 (kn : Nat)), .d (.s name), .own 52, .d (.s query), .own 53]), (52, .arr .any 1 (cols.map sC)), (53, .arr .any 3 (ch.map rC))], ks := [50, 51, 52, 53], n := 0, sz := 134, u := noU })) := by
    rw [← hE]
    refine evM_ex (α := RL) (fun y => { t := [(0, .d (.s (bs l))), (2, .ptr 50 0), (6, .ptr 51 0), (16, .d (.i .i64 (k : Nat))), (17, .d (.i .i64 y.i)), (18, .d (.i .i64 (y.ch.length : Nat)))], o := [(50, .box [.d (.i .i64 0), .d (.s ⟨#[]⟩), .nl, .d (.s ⟨#[]⟩), .nl]), (51, .box [.d (.i .i64 (kn : Nat)), .d (.s name), .own 52, .d (.s query), .own 53]), (52, .arr .any 1 (cols.map sC)), (53, .arr .any 3 (y.ch.map rC))], ks := [50, 51, 52, 53], n := 0, sz := 134, u := noU })
      (fun _ z => z = (Exit.ret, { t := [(2, .ptr 50 0), (3, .d (.b false))], o := [(50, .box [.d (.i .i64 0), .d (.s ⟨#[]⟩), .nl, .d (.s ⟨#[]⟩), .nl])], ks := [50], n := 0, sz := 134, u := noU }) ∨ ∃ (ch : List R) (i' : Int), ((k = 0 ∧ i' = -1) ∨ ∃ t : Nat, i' = t ∧ t ≤ l.length ∧ name.size + szSs cols + query.size + szRs ch ≤ t ∧ (name.size < 65536 ∧ (∀ c ∈ cols, c.size < 65536) ∧ query.size < 65536) ∧ ∀ r ∈ ch, r.name.size < 65536 ∧ OkB r.bag ∧ (pbL r.bag).length < 4294967296) ∧ z = (Exit.exit 2, { t := [(0, .d (.s (bs l))), (2, .ptr 50 0), (6, .ptr 51 0), (17, .d (.i .i64 i'))], o := [(50, .box [.d (.i .i64 0), .d (.s ⟨#[]⟩), .nl, .d (.s ⟨#[]⟩), .nl]), (51, .box [.d (.i .i64 (kn : Nat)), .d (.s name), .own 52, .d (.s query), .own 53]), (52, .arr .any 1 (cols.map sC)), (53, .arr .any 3 (ch.map rC))], ks := [50, 51, 52, 53], n := 0, sz := 134, u := noU }))
      (fun y => y.ch.length ≤ k ∧ ((k = 0 ∧ y.i = -1) ∨ ∃ t : Nat, y.i = t ∧ t ≤ l.length ∧ name.size + szSs cols + query.size + szRs y.ch ≤ t ∧ (name.size < 65536 ∧ (∀ c ∈ cols, c.size < 65536) ∧ query.size < 65536) ∧ ∀ r ∈ y.ch, r.name.size < 65536 ∧ OkB r.bag ∧ (pbL r.bag).length < 4294967296)) (fun y => k - y.ch.length) ?_ ⟨[], i6⟩ ⟨Nat.zero_le _, by
        rcases H2.out.2.2 with h | ⟨t, h1, h2, h3, h4⟩
        · exact .inl h
        · exact .inr ⟨t, h1, h2, by simpa [szRs] using h3, h4, fun _ h => (nomatch h)⟩⟩
    clear hE RR e3 e4
    rintro ⟨ch, i⟩ ⟨hq, hp⟩ ih
    simp only at hq hp ih ⊢
    obtain ⟨h, hl, -, -, -⟩ := H.out
    obtain ⟨hk, -, -⟩ := H2.out
    by_cases hqc : ch.length < k
    · have c1 : decide ((ch.length : Int) < (k : Int)) = true := decide_eq_true (by omega)
      rcases hp with ⟨hk0, -⟩ | ⟨t, rfl, ht1, ht2, hst, ht3⟩
      · omega
      · have c2 : decide ((t : Int) ≥ 0) = true := decide_eq_true (by omega)
        have w1 : IntKind.i64.wrap ((ch.length : Int) + 1) = (ch.length : Int) + 1 := wrap_succ (by omega)
        obtain ⟨rn, i', p2, e1⟩ := ev_l10Get_any l hl t (.inr ⟨t, rfl, ht1⟩) 2 (by omega)
        rw [show ((2 : Nat) : Int) = 2 from rfl] at e1
        have q2 : i' = -1 ∨ ∃ u : Nat, i' = u ∧ u ≤ l.length := by
          rcases p2 with ⟨-, h⟩ | ⟨a, b, -, h, -, h', -⟩
          · exact .inl h
          · exact .inr ⟨b, h, h'⟩
        obtain ⟨by4, i'', p3, e2⟩ := ev_l10Get_any l hl i' q2 4 (by omega)
        rw [show ((4 : Nat) : Int) = 4 from rfl] at e2
        have hbs : by4.size ≤ l.length := by
          rcases p3 with ⟨h, -⟩ | ⟨a, b, -, -, h, h', -⟩
          · rw [h]; exact Nat.zero_le _
          · omega
        by_cases hb : ∃ b, OkB b ∧ bl by4 = pbL b
        · obtain ⟨⟨bw, brows⟩, hb1, hb2⟩ := hb
          have hbb : by4 = bs (pbL ⟨bw, brows⟩) := by rw [← hb2, bs_bl]
          have hlen : (pbL ⟨bw, brows⟩).length = by4.size := by rw [← hb2, bl_size]
          have e5 := ev_sGetBag_yes bw brows hb1 (by rw [← pbL_of (b := ⟨bw, brows⟩) hb1, hlen]; omega)
          rw [show kb bw :: brows.flatMap rowB = pbL ⟨bw, brows⟩ from (pbL_of (b := ⟨bw, brows⟩) hb1).symm, ← hbb] at e5
          have hpos : 0 < by4.size := by rw [← hlen, pbL_of (b := ⟨bw, brows⟩) hb1]; simp
          have h3 : ch.map rC ++ [[.s rn, .i .i64 bw, .sl .any (brows.map cC)]] = (ch ++ [(⟨rn, ⟨bw, brows⟩⟩ : R)]).map rC := by rw [List.map_append]; rfl
          have h4 := len_ok (n := ch.length + 1) 48 (by omega) (by omega)
          obtain ⟨z, hz1, hz2⟩ := ih ⟨ch ++ [(⟨rn, ⟨bw, brows⟩⟩ : R)], i''⟩ ⟨by simp; omega, by
            rcases p3 with ⟨h, -⟩ | ⟨a, b, f0, f1, f2, f3, f4⟩
            · rw [h] at hpos; exact absurd hpos (by decide)
            · rcases p2 with ⟨-, g⟩ | ⟨a2, b2, g0, g1, g2, g3, g4⟩
              · omega
              · have hsb := szB_enc hb1
                refine .inr ⟨b, f1, f3, ?_, hst, fun r hr => ?_⟩
                · have : szRs (ch ++ [(⟨rn, ⟨bw, brows⟩⟩ : R)]) = szRs ch + 1 + (rn.size + Go.Av.szB ⟨bw, brows⟩) := by simp [szRs, szR]; omega
                  rw [this]; omega
                · rcases List.mem_append.1 hr with hr | hr
                  · exact ht3 r hr
                  · rw [List.mem_singleton.1 hr]
                    refine ⟨by simpa using g4, hb1, ?_⟩
                    show (pbL ⟨bw, brows⟩).length < 4294967296
                    rw [hlen]
                    simpa using f4⟩ (by simp; omega)
          refine ⟨z, ?_, hz2⟩
          simp only [List.length_append, List.length_singleton] at hz1
          rw [show ((ch.length + 1 : Nat) : Int) = (ch.length : Int) + 1 from rfl] at hz1
          clear ih hq h hl hk hqc ht1 ht2 ht3 hst p2 q2 p3 hbs hb1 hb2 hbb hlen hpos hz2
          repeat' (first | with_reducible refine br_split (fun _ => ?_) (fun _ => ?_) | simp only [*, push_cast, Array.reduceGetElem?, Nat.reduceBEq, Nat.reduceLT, Nat.reduceAdd, Nat.reduceSub, Nat.reduceLeDiff, Nat.reduceMul, Nat.reduceEqDiff, reduceCtorEq, Int.reduceAdd, Int.reduceLT, Int.reduceLE, Int.reduceToNat, Int.reduceNeg, Int.reduceSub, Int.reduceBEq, Int.reduceBNe, Int.reduceNe, Int.reduceGT, Int.reduceGE, Nat.reduceGT] | (rw [drawC_ok]; rotate_left; decide +kernel; exact cfg_mixed))
        · have e5 := ev_sGetBag_no (bl by4) (by rw [bl_size]; omega) (fun b hb1 hb2 => hb ⟨b, hb1, hb2⟩)
          rw [bs_bl] at e5
          refine ⟨_, ?_, .inl rfl⟩
          clear ih hq h hl hk hqc ht1 ht2 ht3 hst p2 q2 p3 hbs hb
          repeat' (first | with_reducible refine br_split (fun _ => ?_) (fun _ => ?_) | simp only [*, push_cast, Array.reduceGetElem?, Nat.reduceBEq, Nat.reduceLT, Nat.reduceAdd, Nat.reduceSub, Nat.reduceLeDiff, Nat.reduceMul, Nat.reduceEqDiff, reduceCtorEq, Int.reduceAdd, Int.reduceLT, Int.reduceLE, Int.reduceToNat, Int.reduceNeg, Int.reduceSub, Int.reduceBEq, Int.reduceBNe, Int.reduceNe, Int.reduceGT, Int.reduceGE, Nat.reduceGT] | (rw [drawC_ok]; rotate_left; decide +kernel; exact cfg_mixed))
    · have c1 : decide ((ch.length : Int) < (k : Int)) = false := decide_eq_false (by omega)
      refine ⟨_, ?_, .inr ⟨ch, i, hp, rfl⟩⟩
      clear ih hq h hl hk hqc hp
      repeat' (first | with_reducible refine br_split (fun _ => ?_) (fun _ => ?_) | simp only [*, push_cast, Array.reduceGetElem?, Nat.reduceBEq, Nat.reduceLT, Nat.reduceAdd, Nat.reduceSub, Nat.reduceLeDiff, Nat.reduceMul, Nat.reduceEqDiff, reduceCtorEq, Int.reduceAdd, Int.reduceLT, Int.reduceLE, Int.reduceToNat, Int.reduceNeg, Int.reduceSub, Int.reduceBEq, Int.reduceBNe, Int.reduceNe, Int.reduceGT, Int.reduceGE, Nat.reduceGT] | (rw [drawC_ok]; rotate_left; decide +kernel; exact cfg_mixed))
  obtain ⟨_, rfl, rfl | ⟨ch, i7, p5, rfl⟩⟩ := key
  · clear hE H H2 e3 e4
    repeat' (first | with_reducible refine br_split (fun _ => ?_) (fun _ => ?_) | simp only [*, push_cast, Array.reduceGetElem?, Nat.reduceBEq, Nat.reduceLT, Nat.reduceAdd, Nat.reduceSub, Nat.reduceLeDiff, Nat.reduceMul, Nat.reduceEqDiff, reduceCtorEq, Int.reduceAdd, Int.reduceLT, Int.reduceLE, Int.reduceToNat, Int.reduceNeg, Int.reduceSub, Int.reduceBEq, Int.reduceBNe, Int.reduceNe, Int.reduceGT, Int.reduceGE, Nat.reduceGT] | (rw [drawC_ok]; rotate_left; decide +kernel; exact cfg_mixed))
  · clear hE e3 e4
    rcases p5 with ⟨-, rfl⟩ | ⟨t, rfl, ht1, ht2, hst, ht3⟩
    · have c1 : decide ((-1 : Int) < 0) = true := rfl
      clear H H2
      repeat' (first | with_reducible refine br_split (fun _ => ?_) (fun _ => ?_) | simp only [*, push_cast, Array.reduceGetElem?, Nat.reduceBEq, Nat.reduceLT, Nat.reduceAdd, Nat.reduceSub, Nat.reduceLeDiff, Nat.reduceMul, Nat.reduceEqDiff, reduceCtorEq, Int.reduceAdd, Int.reduceLT, Int.reduceLE, Int.reduceToNat, Int.reduceNeg, Int.reduceSub, Int.reduceBEq, Int.reduceBNe, Int.reduceNe, Int.reduceGT, Int.reduceGE, Nat.reduceGT] | (rw [drawC_ok]; rotate_left; decide +kernel; exact cfg_mixed))
    · have c1 : decide ((t : Int) < 0) = false := decide_eq_false (by omega)
      obtain ⟨h, hl, hkn, -, -⟩ := H.out
      obtain ⟨hk, hcl, q6⟩ := H2.out
      cases hle : decide (bs l = (⟨#[]⟩ : ByteArray)) with
      | true =>
        clear H H2 h hl hkn hk hcl q6 ht1 ht2 ht3 hst
        repeat' (first | with_reducible refine br_split (fun _ => ?_) (fun _ => ?_) | simp only [*, push_cast, Array.reduceGetElem?, Nat.reduceBEq, Nat.reduceLT, Nat.reduceAdd, Nat.reduceSub, Nat.reduceLeDiff, Nat.reduceMul, Nat.reduceEqDiff, reduceCtorEq, Int.reduceAdd, Int.reduceLT, Int.reduceLE, Int.reduceToNat, Int.reduceNeg, Int.reduceSub, Int.reduceBEq, Int.reduceBNe, Int.reduceNe, Int.reduceGT, Int.reduceGE, Nat.reduceGT] | (rw [drawC_ok]; rotate_left; decide +kernel; exact cfg_mixed))
      | false =>
        have hps := ev_sPutStep (kn : Nat) name cols query ch (by simp only [szSp]; omega)
        have hpe : decide (bs (psL ⟨(kn : Nat), name, cols, query, ch⟩) = bs l) = false := decide_eq_false fun e => by
          have e := bs_inj e
          cases ho : stepOk ⟨(kn : Nat), name, cols, query, ch⟩ with
          | false =>
            rw [psL_bad ho] at e
            rw [← e] at hle
            simp [bs] at hle
          | true =>
            exact h _ ⟨ho, hst.1, hst.2.1, hst.2.2, ht3⟩ e.symm
        clear H H2 h hl hkn hk hcl q6 ht1 ht2 ht3 hst
        repeat' (first | with_reducible refine br_split (fun _ => ?_) (fun _ => ?_) | simp only [*, push_cast, Array.reduceGetElem?, Nat.reduceBEq, Nat.reduceLT, Nat.reduceAdd, Nat.reduceSub, Nat.reduceLeDiff, Nat.reduceMul, Nat.reduceEqDiff, reduceCtorEq, Int.reduceAdd, Int.reduceLT, Int.reduceLE, Int.reduceToNat, Int.reduceNeg, Int.reduceSub, Int.reduceBEq, Int.reduceBNe, Int.reduceNe, Int.reduceGT, Int.reduceGE, Nat.reduceGT] | (rw [drawC_ok]; rotate_left; decide +kernel; exact cfg_mixed))
end Go.Av
end
section
namespace Go.Av
open Go.Proofs
def rZ (p : Nat → Tok) (i : Nat) (r : R) : List T := [.s r.name, .i .i64 r.bag.w, .sl (.tok (p i)) (cnEs (p i) 0 (r.bag.rows.map cC))]
theorem rZ_nm {p : Nat → Tok} (hp : ∀ i, ∃ q, p i = [i] ++ q) (i : Nat) (r : R) : Nm [i] (tkCs (rZ p i r)) := by
  obtain ⟨q, hq⟩ := hp i
  have h := tk_cn (.sl .any (r.bag.rows.map cC)) (p i)
  rw [hq] at h
  have e : tkCs (rZ p i r) = tkT (T.cn ([i] ++ q) (.sl .any (r.bag.rows.map cC))) := by
    simp [rZ, tkCs, tkT, T.cn, hq]
  rw [e]
  exact h.weak
@[push_cast] theorem cn_rZ (f : Nat → Tok) (l : List R) (p : Tok) (i : Nat) : cnEs p i (l.mapIdx (rZ f)) = cnEs p i (l.map rC) := by
  refine cnEs_same ?_
  rw [annEs_mapIdx (g := rC) (fun i x => by simp only [rZ, annCs, T.ann, er_cnEs, er_cC]; rfl) l, er_rC]
end Go.Av
end
section
namespace Go.Av
open Go.Proofs
theorem canOk_step (kind : Int) (name : ByteArray) (cols : List ByteArray) (query : ByteArray) (b : Bool) (f : Nat → R → List T) (l : List R) (h : ∀ k x, Nm [k] (tkCs (f k x))) :
    canOk (.tup [.agg [.d (.i .i64 kind), .d (.s name), .d (.sl (.tok [l.length]) (cols.map sC)), .d (.s query), .d (.sl (.tok [l.length + 1]) (l.mapIdx f))], .d (.b b)]) [] := by
  have h1 := tk_idx f l h
  have h2 := NmI.lt f l h
  have e : tkTV (.tup [.agg [.d (.i .i64 kind), .d (.s name), .d (.sl (.tok [l.length]) (cols.map sC)), .d (.s query), .d (.sl (.tok [l.length + 1]) (l.mapIdx f))], .d (.b b)]) ++ tkO [] = some [l.length] :: some [l.length + 1] :: tkEs (l.mapIdx f) := by
    simp [tkTV, tkL, tkT, annTok, tk_sC, tkO]
  refine ⟨⟨?_, ?_⟩, rfl, rfl, List.nodup_nil⟩
  · rw [e]
    intro hn
    rcases List.mem_cons.1 hn with hn | hn
    · cases hn
    rcases List.mem_cons.1 hn with hn | hn
    · cases hn
    obtain ⟨_, _, _, h3⟩ := h2 _ hn
    cases h3
  · rw [e]
    refine List.nodup_cons.2 ⟨fun hm => ?_, List.nodup_cons.2 ⟨fun hm => ?_, h1.nd⟩⟩
    · rcases List.mem_cons.1 hm with hm | hm
      · simp at hm
      · obtain ⟨k, r, h3, h4⟩ := h2 _ hm
        cases h4
        omega
    · obtain ⟨k, r, h3, h4⟩ := h2 _ hm
      cases h4
      omega
theorem ev_GetStep_yes (kind : Int) (name : ByteArray) (cols : List ByteArray) (query : ByteArray) (change : List R) (h : OkS ⟨kind, name, cols, query, change⟩) (hl : (psL ⟨kind, name, cols, query, change⟩).length ≤ 1048576) :
    evF cfg 7 [] [.d (.s (bs (psL ⟨kind, name, cols, query, change⟩)))] = some (.tup [.agg [.d (.i .i64 kind), .d (.s name), .d (.sl (.tok [0, 0, 2]) (cols.map sC)), .d (.s query), .d (.sl (.tok [0, 0, 4]) (cnEs [0, 0, 4] 0 (change.map rC)))], .d (.b true)], []) := by
  have hsz : szSp ⟨kind, name, cols, query, change⟩ ≤ 1048576 := Nat.le_trans (szSp_enc h) hl
  have hso := ev_StepOk kind name cols query change hsz
  rw [show stepOk ⟨kind, name, cols, query, change⟩ = true from h.ok] at hso
  have heq := psL_eq h
  simp only at heq
  generalize hL : psL ⟨kind, name, cols, query, change⟩ = l at *
  have hz := bs_size l
  obtain ⟨kn, hkn, hk3⟩ := h.kind
  simp only at hkn
  have hnc := h.ncol
  have hnr := h.nrel
  simp only at hnc hnr
  have hlp : 0 < l.length := by rw [heq]; simp [beB_len]; omega
  have hu : u64 kind = kn := by rw [hkn]; exact u64_nn (by omega)
  rw [hu] at heq
  have n0 : takeP 1 (l.drop 0) = some (beB kn 1, l.drop 1) := by
    have := takeP_app (n := 1) (a := beB kn 1) (b := ((beB name.size 2 ++ bl name) ++ (beB cols.length 1 ++ (cols.flatMap col2 ++ tail1 ⟨kind, name, cols, query, change⟩)))) (beB_len _ _)
    rw [← heq] at this
    have h2 := (takeP_at (i := 0) this (Nat.zero_le _)).2.2.1
    rw [h2] at this
    exact this
  have d1 : l.drop 1 = (beB name.size 2 ++ bl name) ++ (beB cols.length 1 ++ (cols.flatMap col2 ++ tail1 ⟨kind, name, cols, query, change⟩)) := by
    have := takeP_app (n := 1) (a := beB kn 1) (b := ((beB name.size 2 ++ bl name) ++ (beB cols.length 1 ++ (cols.flatMap col2 ++ tail1 ⟨kind, name, cols, query, change⟩)))) (beB_len _ _)
    rw [← heq] at this
    exact ((takeP_at (i := 0) this (Nat.zero_le _)).2.2.1).symm
  have e0 := ev_size_some l hl 0 1 1 (Nat.zero_le _) rfl n0
  rw [beV_in (beB_len _ _) (by omega), beV_beB kn 1 (by omega), show ((0 : Nat) : Int) = 0 from rfl, show ((1 : Nat) : Int) = 1 from rfl, ← hkn] at e0
  have t1 : txtP 2 (l.drop 1) = some (name, (beB cols.length 1 ++ (cols.flatMap col2 ++ tail1 ⟨kind, name, cols, query, change⟩))) := by
    rw [d1]; exact txtP_app h.name
  obtain ⟨i2, a1, -, a3, e1⟩ := ev_text_some l hl 1 2 (by omega) (by omega) t1
  rw [show ((1 : Nat) : Int) = 1 from rfl, show ((2 : Nat) : Int) = 2 from rfl] at e1
  have n1 : takeP 1 (l.drop i2) = some (beB cols.length 1, (cols.flatMap col2 ++ tail1 ⟨kind, name, cols, query, change⟩)) := by
    rw [← a3]; exact takeP_app (beB_len _ _)
  obtain ⟨b1, -, b3, -⟩ := takeP_at n1 a1
  obtain ⟨j, hj⟩ : ∃ j, i2 + 1 = j := ⟨_, rfl⟩
  have e2 := ev_size_some l hl i2 1 j a1 hj n1
  rw [beV_in (beB_len _ _) (by omega), beV_beB _ 1 (by omega), show ((1 : Nat) : Int) = 1 from rfl] at e2
  rw [hj] at b1 b3
  have H := Hd.mk (And.intro h (And.intro hl (And.intro b1 (And.intro b3.symm (And.intro hnc (And.intro hnr hlp))))))
  clear h hl b1 b3 hnc hnr hlp hsz heq hL hkn hk3 hu n0 d1 t1 a1 a3 n1 hj
  (refine (evF_codeZ (C := cfg) (g := 7) (fn := Tryz.f7) rfl Tryz.func7 rfl (by rw [Tryz.ntmps7]; simp) (by kernel_rfl)).trans ?_; rw [Tryz.results7, Tryz.ntmps7])
  repeat' (first | with_reducible refine br_split (fun _ => ?_) (fun _ => ?_) | simp only [*, push_cast, Array.reduceGetElem?, Nat.reduceBEq, Nat.reduceLT, Nat.reduceAdd, Nat.reduceSub, Nat.reduceLeDiff, Nat.reduceMul, Nat.reduceEqDiff, reduceCtorEq, Int.reduceAdd, Int.reduceLT, Int.reduceLE, Int.reduceToNat, Int.reduceNeg, Int.reduceSub, Int.reduceBEq, Int.reduceBNe, Int.reduceNe, Int.reduceGT, Int.reduceGE, Nat.reduceGT] | (rw [drawC_ok]; rotate_left; decide +kernel; exact cfg_mixed))
  rw [show ([] : List (List T)) = (cols.take 0).map sC from rfl]
  generalize hE : evM cfg _ _ _ _ _ = RR
  have key : ∃ z, RR = some z ∧ ∃ i' : Nat, i' ≤ l.length ∧ l.drop i' = tail1 ⟨kind, name, cols, query, change⟩ ∧ z = (Exit.exit 0, { t := [(0, .d (.s (bs l))), (2, .ptr 50 0), (4, .ptr 51 0), (5, .ptr 52 0)], o := [(50, .box [.d (.i .i64 0), .d (.s ⟨#[]⟩), .nl, .d (.s ⟨#[]⟩), .nl]), (51, .box [.d (.s (bs l)), .d (.i .i64 (i' : Nat)), .d (.b false)]), (52, .box [.d (.i .i64 kind), .d (.s name), .own 53, .d (.s ⟨#[]⟩), .nl]), (53, .arr .any 1 (cols.map sC))], ks := [50, 51, 52, 53], n := 0, sz := 84, u := noU, g := some (0, false) }) := by
    rw [← hE]
    refine evM_ex (α := Nat × Nat) (fun y => { t := [(0, .d (.s (bs l))), (2, .ptr 50 0), (4, .ptr 51 0), (5, .ptr 52 0), (18, .d (.i .i64 cols.length)), (19, .d (.i .i64 (y.1 : Nat)))], o := [(50, .box [.d (.i .i64 0), .d (.s ⟨#[]⟩), .nl, .d (.s ⟨#[]⟩), .nl]), (51, .box [.d (.s (bs l)), .d (.i .i64 (y.2 : Nat)), .d (.b false)]), (52, .box [.d (.i .i64 kind), .d (.s name), .own 53, .d (.s ⟨#[]⟩), .nl]), (53, .arr .any 1 ((cols.take y.1).map sC))], ks := [50, 51, 52, 53], n := 0, sz := 84, u := noU, g := some (0, false) })
      (fun _ z => ∃ i' : Nat, i' ≤ l.length ∧ l.drop i' = tail1 ⟨kind, name, cols, query, change⟩ ∧ z = (Exit.exit 0, { t := [(0, .d (.s (bs l))), (2, .ptr 50 0), (4, .ptr 51 0), (5, .ptr 52 0)], o := [(50, .box [.d (.i .i64 0), .d (.s ⟨#[]⟩), .nl, .d (.s ⟨#[]⟩), .nl]), (51, .box [.d (.s (bs l)), .d (.i .i64 (i' : Nat)), .d (.b false)]), (52, .box [.d (.i .i64 kind), .d (.s name), .own 53, .d (.s ⟨#[]⟩), .nl]), (53, .arr .any 1 (cols.map sC))], ks := [50, 51, 52, 53], n := 0, sz := 84, u := noU, g := some (0, false) }))
      (fun y => y.1 ≤ cols.length ∧ y.2 ≤ l.length ∧ l.drop y.2 = (cols.drop y.1).flatMap col2 ++ tail1 ⟨kind, name, cols, query, change⟩) (fun y => cols.length - y.1) ?_ (0, j) ⟨Nat.zero_le _, H.out.2.2.1, H.out.2.2.2.1⟩
    clear hE RR e0 e1 e2 hso
    rintro ⟨q, i⟩ ⟨hq, hi, hd⟩ ih
    simp only at hq hi hd ih ⊢
    obtain ⟨h, hl, -, -, hnc, -, -⟩ := H.out
    by_cases hqc : q < cols.length
    · have c1 := dec_lt hqc
      have w1 : IntKind.i64.wrap ((q : Int) + 1) = (q : Int) + 1 := wrap_succ (by omega)
      rw [col_head hqc] at hd
      have t1 : txtP 2 (l.drop i) = some (cols[q], (cols.drop (q + 1)).flatMap col2 ++ tail1 ⟨kind, name, cols, query, change⟩) := by
        rw [hd]; exact txtP_app (h.cols _ (List.getElem_mem hqc))
      obtain ⟨i2, a1, -, a3, e1⟩ := ev_text_some l hl i 2 hi (by omega) t1
      rw [show ((2 : Nat) : Int) = 2 from rfl] at e1
      have h3 : (cols.take q).map sC ++ [[.s cols[q]]] = (cols.take (q + 1)).map sC := take_snoc sC hqc
      have h4 := len_ok (n := (cols.take q).length + 1) 16 (by rw [List.length_take]; omega) (by omega)
      obtain ⟨z, hz1, hz2⟩ := ih (q + 1, i2) ⟨hqc, a1, a3.symm⟩ (by simp only; omega)
      refine ⟨z, ?_, hz2⟩
      simp only at hz1
      rw [show ((q + 1 : Nat) : Int) = (q : Int) + 1 from rfl] at hz1
      clear ih hq hi hd h hl hnc t1 a1 a3 hz2
      repeat' (first | with_reducible refine br_split (fun _ => ?_) (fun _ => ?_) | simp only [*, push_cast, Array.reduceGetElem?, Nat.reduceBEq, Nat.reduceLT, Nat.reduceAdd, Nat.reduceSub, Nat.reduceLeDiff, Nat.reduceMul, Nat.reduceEqDiff, reduceCtorEq, Int.reduceAdd, Int.reduceLT, Int.reduceLE, Int.reduceToNat, Int.reduceNeg, Int.reduceSub, Int.reduceBEq, Int.reduceBNe, Int.reduceNe, Int.reduceGT, Int.reduceGE, Nat.reduceGT] | (rw [drawC_ok]; rotate_left; decide +kernel; exact cfg_mixed))
    · have c1 : decide ((q : Int) < (cols.length : Int)) = false := decide_eq_false (by omega)
      have hqe : q = cols.length := by omega
      have hd2 : l.drop i = tail1 ⟨kind, name, cols, query, change⟩ := by rw [hd, hqe, List.drop_length]; rfl
      have hrr : cols.take q = cols := by rw [hqe]; exact List.take_length
      refine ⟨_, ?_, i, hi, hd2, rfl⟩
      clear ih hq hi hd h hl hnc hqc hqe hd2
      repeat' (first | with_reducible refine br_split (fun _ => ?_) (fun _ => ?_) | simp only [*, push_cast, Array.reduceGetElem?, Nat.reduceBEq, Nat.reduceLT, Nat.reduceAdd, Nat.reduceSub, Nat.reduceLeDiff, Nat.reduceMul, Nat.reduceEqDiff, reduceCtorEq, Int.reduceAdd, Int.reduceLT, Int.reduceLE, Int.reduceToNat, Int.reduceNeg, Int.reduceSub, Int.reduceBEq, Int.reduceBNe, Int.reduceNe, Int.reduceGT, Int.reduceGE, Nat.reduceGT] | (rw [drawC_ok]; rotate_left; decide +kernel; exact cfg_mixed))
  obtain ⟨_, rfl, i4, p1, p2, rfl⟩ := key
  clear hE
  obtain ⟨h, hl, -, -, hnc, hnr, hlp⟩ := H.out
  have t2 : txtP 2 (l.drop i4) = some (query, tail2 ⟨kind, name, cols, query, change⟩) := by
    rw [p2]; exact txtP_app h.query
  obtain ⟨i5, a1, -, a3, e4⟩ := ev_text_some l hl i4 2 p1 (by omega) t2
  rw [show ((2 : Nat) : Int) = 2 from rfl] at e4
  have n2 : takeP 1 (l.drop i5) = some (beB change.length 1, change.flatMap relB) := by
    rw [← a3]; exact takeP_app (beB_len _ _)
  obtain ⟨b1, -, b3, -⟩ := takeP_at n2 a1
  obtain ⟨j6, hj6⟩ : ∃ j, i5 + 1 = j := ⟨_, rfl⟩
  have e5 := ev_size_some l hl i5 1 j6 a1 hj6 n2
  rw [beV_in (beB_len _ _) (by omega), beV_beB _ 1 (by omega), show ((1 : Nat) : Int) = 1 from rfl] at e5
  rw [hj6] at b1 b3
  have H2 := Hd.mk (And.intro b1 b3.symm)
  clear h hl hnc hnr hlp t2 a1 a3 n2 b1 b3 p1 p2 hj6 e0 e1 e2
  repeat' (first | with_reducible refine br_split (fun _ => ?_) (fun _ => ?_) | simp only [*, push_cast, Array.reduceGetElem?, Nat.reduceBEq, Nat.reduceLT, Nat.reduceAdd, Nat.reduceSub, Nat.reduceLeDiff, Nat.reduceMul, Nat.reduceEqDiff, reduceCtorEq, Int.reduceAdd, Int.reduceLT, Int.reduceLE, Int.reduceToNat, Int.reduceNeg, Int.reduceSub, Int.reduceBEq, Int.reduceBNe, Int.reduceNe, Int.reduceGT, Int.reduceGE, Nat.reduceGT] | (rw [drawC_ok]; rotate_left; decide +kernel; exact cfg_mixed))
  rw [show ([] : List (List T)) = (change.take 0).mapIdx (rZ fun i => [i, 0, 0, 1]) from rfl]
  generalize hE : evM cfg _ _ _ _ _ = RR
  have key : ∃ z, RR = some z ∧ z = (Exit.exit 2, { t := [(0, .d (.s (bs l))), (2, .ptr 50 0), (4, .ptr 51 0), (5, .ptr 52 0)], o := [(50, .box [.d (.i .i64 0), .d (.s ⟨#[]⟩), .nl, .d (.s ⟨#[]⟩), .nl]), (51, .box [.d (.s (bs l)), .d (.i .i64 (l.length : Nat)), .d (.b false)]), (52, .box [.d (.i .i64 kind), .d (.s name), .own 53, .d (.s query), .own 54]), (53, .arr .any 1 (cols.map sC)), (54, .arr .any 3 (change.mapIdx (rZ fun i => [i, 0, 0, 1])))], ks := [50, 51, 52, 53, 54], n := 0, sz := 84, u := noU, g := some (change.length, false) }) := by
    rw [← hE]
    refine evM_ex (α := Nat × Nat) (fun y => { t := [(0, .d (.s (bs l))), (2, .ptr 50 0), (4, .ptr 51 0), (5, .ptr 52 0), (33, .d (.i .i64 change.length)), (34, .d (.i .i64 (y.1 : Nat)))], o := [(50, .box [.d (.i .i64 0), .d (.s ⟨#[]⟩), .nl, .d (.s ⟨#[]⟩), .nl]), (51, .box [.d (.s (bs l)), .d (.i .i64 (y.2 : Nat)), .d (.b false)]), (52, .box [.d (.i .i64 kind), .d (.s name), .own 53, .d (.s query), .own 54]), (53, .arr .any 1 (cols.map sC)), (54, .arr .any 3 ((change.take y.1).mapIdx (rZ fun i => [i, 0, 0, 1])))], ks := [50, 51, 52, 53, 54], n := 0, sz := 84, u := noU, g := some (y.1, false) })
      (fun _ z => z = (Exit.exit 2, { t := [(0, .d (.s (bs l))), (2, .ptr 50 0), (4, .ptr 51 0), (5, .ptr 52 0)], o := [(50, .box [.d (.i .i64 0), .d (.s ⟨#[]⟩), .nl, .d (.s ⟨#[]⟩), .nl]), (51, .box [.d (.s (bs l)), .d (.i .i64 (l.length : Nat)), .d (.b false)]), (52, .box [.d (.i .i64 kind), .d (.s name), .own 53, .d (.s query), .own 54]), (53, .arr .any 1 (cols.map sC)), (54, .arr .any 3 (change.mapIdx (rZ fun i => [i, 0, 0, 1])))], ks := [50, 51, 52, 53, 54], n := 0, sz := 84, u := noU, g := some (change.length, false) }))
      (fun y => y.1 ≤ change.length ∧ y.2 ≤ l.length ∧ l.drop y.2 = (change.drop y.1).flatMap relB) (fun y => change.length - y.1) ?_ (0, j6) ⟨Nat.zero_le _, H2.out.1, H2.out.2⟩
    clear hE RR e4 e5 hso
    rintro ⟨q, i⟩ ⟨hq, hi, hd⟩ ih
    simp only at hq hi hd ih ⊢
    obtain ⟨h, hl, -, -, -, hnr, -⟩ := H.out
    by_cases hqc : q < change.length
    · have c1 := dec_lt hqc
      have w1 : IntKind.i64.wrap ((q : Int) + 1) = (q : Int) + 1 := wrap_succ (by omega)
      rw [rel_head hqc] at hd
      obtain ⟨r1, r2, r3⟩ := h.rels _ (List.getElem_mem hqc)
      have t1 : txtP 2 (l.drop i) = some (change[q].name, (beB (bs (pbL change[q].bag)).size 4 ++ bl (bs (pbL change[q].bag))) ++ (change.drop (q + 1)).flatMap relB) := by
        rw [hd]; exact txtP_app r1
      obtain ⟨i2, a1, -, a3, e1⟩ := ev_text_some l hl i 2 hi (by omega) t1
      rw [show ((2 : Nat) : Int) = 2 from rfl] at e1
      have t2 : txtP 4 (l.drop i2) = some (bs (pbL change[q].bag), (change.drop (q + 1)).flatMap relB) := by
        rw [← a3]; exact txtP_app (by rw [bs_size]; simpa using r3)
      obtain ⟨i3, b1, -, b3, e2⟩ := ev_text_some l hl i2 4 a1 (by omega) t2
      rw [show ((4 : Nat) : Int) = 4 from rfl] at e2
      have hbl : (pbL change[q].bag).length ≤ 1048576 := by
        have h1 := congrArg List.length a3
        rw [List.length_append, List.length_append, bl_size, bs_size, List.length_drop] at h1
        omega
      have e3 := ev_GetBag_yes change[q].bag.w change[q].bag.rows r2 (by rw [← pbL_of r2]; exact hbl)
      rw [show kb change[q].bag.w :: change[q].bag.rows.flatMap rowB = pbL change[q].bag from (pbL_of r2).symm] at e3
      have h3 : (change.take q).mapIdx (rZ fun i => [i, 0, 0, 1]) ++ [[.s change[q].name, .i .i64 change[q].bag.w, .sl (.tok [q, 0, 0, 1]) (cnEs [q, 0, 0, 1] 0 (change[q].bag.rows.map cC))]] = (change.take (q + 1)).mapIdx (rZ fun i => [i, 0, 0, 1]) := take_snocI (rZ fun i => [i, 0, 0, 1]) hqc
      have h4 := len_ok (n := (change.take q).length + 1) 48 (by rw [List.length_take]; omega) (by omega)
      have h5 : ((change.take q).mapIdx (rZ fun i => [i, 0, 0, 1])).length = (change.take q).length := by simp
      obtain ⟨z, hz1, hz2⟩ := ih (q + 1, i3) ⟨hqc, b1, b3.symm⟩ (by simp only; omega)
      refine ⟨z, ?_, hz2⟩
      simp only at hz1
      rw [show ((q + 1 : Nat) : Int) = (q : Int) + 1 from rfl] at hz1
      clear ih hq hi hd h hl hnr t1 t2 a1 a3 b1 b3 hz2 r1 r2 r3 hbl
      repeat' (first | with_reducible refine br_split (fun _ => ?_) (fun _ => ?_) | simp only [*, push_cast, Array.reduceGetElem?, Nat.reduceBEq, Nat.reduceLT, Nat.reduceAdd, Nat.reduceSub, Nat.reduceLeDiff, Nat.reduceMul, Nat.reduceEqDiff, reduceCtorEq, Int.reduceAdd, Int.reduceLT, Int.reduceLE, Int.reduceToNat, Int.reduceNeg, Int.reduceSub, Int.reduceBEq, Int.reduceBNe, Int.reduceNe, Int.reduceGT, Int.reduceGE, Nat.reduceGT] | (rw [drawC_ok]; rotate_left; decide +kernel; exact cfg_mixed))
    · have hqe : q = change.length := by omega
      have hie : i = l.length := by
        rw [hqe, List.drop_length] at hd
        have := congrArg List.length hd
        rw [List.length_drop] at this
        simp at this
        omega
      subst hqe
      subst hie
      have c1 : decide ((change.length : Int) < (change.length : Int)) = false := decide_eq_false (by omega)
      have hrr : change.take change.length = change := List.take_length
      refine ⟨_, ?_, rfl⟩
      clear ih hq hi hd h hl hnr hqc
      repeat' (first | with_reducible refine br_split (fun _ => ?_) (fun _ => ?_) | simp only [*, push_cast, Array.reduceGetElem?, Nat.reduceBEq, Nat.reduceLT, Nat.reduceAdd, Nat.reduceSub, Nat.reduceLeDiff, Nat.reduceMul, Nat.reduceEqDiff, reduceCtorEq, Int.reduceAdd, Int.reduceLT, Int.reduceLE, Int.reduceToNat, Int.reduceNeg, Int.reduceSub, Int.reduceBEq, Int.reduceBNe, Int.reduceNe, Int.reduceGT, Int.reduceGE, Nat.reduceGT] | (rw [drawC_ok]; rotate_left; decide +kernel; exact cfg_mixed))
  obtain ⟨_, rfl, rfl⟩ := key
  clear hE
  have c1 : decide ((l.length : Int) < (l.length : Int)) = false := decide_eq_false (by omega)
  have hme : annEs .any (change.mapIdx (rZ fun i => [i, 0, 0, 1])) = change.map rC := by
    rw [annEs_mapIdx (g := rC) (fun i x => by simp only [rZ, annCs, T.ann, er_cnEs, er_cC]; rfl) change]
  have hcan := canOk_step kind name cols query true (rZ fun i => [i, 0, 0, 1]) change (rZ_nm fun i => ⟨[0, 0, 1], rfl⟩)
  clear H H2 e4 e5
  repeat' (first | with_reducible refine br_split (fun _ => ?_) (fun _ => ?_) | simp only [*, push_cast, Array.reduceGetElem?, Nat.reduceBEq, Nat.reduceLT, Nat.reduceAdd, Nat.reduceSub, Nat.reduceLeDiff, Nat.reduceMul, Nat.reduceEqDiff, reduceCtorEq, Int.reduceAdd, Int.reduceLT, Int.reduceLE, Int.reduceToNat, Int.reduceNeg, Int.reduceSub, Int.reduceBEq, Int.reduceBNe, Int.reduceNe, Int.reduceGT, Int.reduceGE, Nat.reduceGT] | (rw [drawC_ok]; rotate_left; decide +kernel; exact cfg_mixed))
end Go.Av
end
section
namespace Go.Av
open Go.Proofs
theorem ev_size_any (l : List UInt8) (hl : l.length ≤ 1048576) (i : Nat) (hi : i ≤ l.length) (b : Bool) (m : Nat) (hm : m ≤ 7) : ∃ (x i' : Nat) (b' : Bool), i' ≤ l.length ∧ x < 256 ^ m ∧ (b' = false → b = false ∧ l.drop i = beB x m ++ l.drop i') ∧
    evF cfg 33 [(0, .box [.d (.s (bs l)), .d (.i .i64 (i : Nat)), .d (.b b)])] [.ptr 0 0, .d (.i .i64 (m : Nat))] = some (.d (.i .i64 (x : Nat)), [(0, .box [.d (.s (bs l)), .d (.i .i64 (i' : Nat)), .d (.b b')])]) := by
  cases b with
  | true => exact ⟨0, i, true, hi, Nat.pow_pos (by omega), fun h => (by cases h), ev_size_bad (bs l) i m⟩
  | false =>
    cases h0 : takeP m (l.drop i) with
    | none => exact ⟨0, i, true, hi, Nat.pow_pos (by omega), fun h => (by cases h), ev_size_none l hl i m hi h0⟩
    | some p =>
      obtain ⟨a, r⟩ := p
      obtain ⟨h1, h2, h3, h4⟩ := takeP_at h0 hi
      have e := ev_size_some l hl i m (i + m) hi rfl h0
      rw [beV_in h4 hm] at e
      have h5 := beV_lt a
      rw [h4] at h5
      refine ⟨beV a, i + m, false, h1, h5, fun _ => ⟨rfl, ?_⟩, e⟩
      obtain ⟨g1, g2⟩ := takeP_some h0
      have := beB_beV a
      rw [h4] at this
      rw [this, ← h3]
      exact g1
theorem ev_text_any (l : List UInt8) (hl : l.length ≤ 1048576) (i : Nat) (hi : i ≤ l.length) (b : Bool) (m : Nat) (hm : m ≤ 7) : ∃ (s : ByteArray) (i' : Nat) (b' : Bool), i' ≤ l.length ∧ s.size ≤ l.length ∧ (b' = false → b = false ∧ l.drop i = (beB s.size m ++ bl s) ++ l.drop i' ∧ s.size < 256 ^ m) ∧
    evF cfg 34 [(0, .box [.d (.s (bs l)), .d (.i .i64 (i : Nat)), .d (.b b)])] [.ptr 0 0, .d (.i .i64 (m : Nat))] = some (.d (.s s), [(0, .box [.d (.s (bs l)), .d (.i .i64 (i' : Nat)), .d (.b b')])]) := by
  cases b with
  | true => exact ⟨⟨#[]⟩, i, true, hi, Nat.zero_le _, fun h => (by cases h), ev_text_bad (bs l) i m⟩
  | false =>
    cases h0 : txtP m (l.drop i) with
    | none =>
      obtain ⟨i', h1, e⟩ := ev_text_none l hl i m hi hm h0
      exact ⟨⟨#[]⟩, i', true, h1, Nat.zero_le _, fun h => (by cases h), e⟩
    | some p =>
      obtain ⟨s, r⟩ := p
      obtain ⟨k, h1, h2, h3, e⟩ := ev_text_some l hl i m hi hm h0
      obtain ⟨g1, g2⟩ := txtP_some h0
      refine ⟨s, k, false, h1, ?_, fun _ => ⟨rfl, by rw [← h3]; exact g1, g2⟩, e⟩
      have := congrArg List.length g1
      rw [List.length_append, List.length_append, beB_len, bl_size, List.length_drop] at this
      omega
structure CT where
  cols : List ByteArray
  i : Nat
  bad : Bool
structure RT where
  ch : List R
  i : Nat
  bad : Bool
theorem canNoS : canOk (.tup [.agg [.d (.i .i64 0), .d (.s ⟨#[]⟩), .d (.sl .any []), .d (.s ⟨#[]⟩), .d (.sl .any [])], .d (.b false)]) [] := by
  simp [canOk, tkTV, tkL, tkT, tkO, flatTV, flatL, arrO, keysOf, tkEs, annTok]
theorem ev_GetStep_no (l : List UInt8) (hl : l.length ≤ 1048576) (h : ∀ x, OkS x → l ≠ psL x) :
    evF cfg 7 [] [.d (.s (bs l))] = some (.tup [.agg [.d (.i .i64 0), .d (.s ⟨#[]⟩), .d (.sl (.tok [0, 0, 2]) []), .d (.s ⟨#[]⟩), .d (.sl (.tok [0, 0, 4]) [])], .d (.b false)], []) := by
  have hz := bs_size l
  have hcan := canNoS
  obtain ⟨kn, i1, b1, hi1, hkn, p1, e0⟩ := ev_size_any l hl 0 (Nat.zero_le _) false 1 (by omega)
  rw [show ((1 : Nat) : Int) = 1 from rfl, show ((0 : Nat) : Int) = 0 from rfl] at e0
  obtain ⟨name, i2, b2, hi2, hname, p2, e1⟩ := ev_text_any l hl i1 hi1 b1 2 (by omega)
  rw [show ((2 : Nat) : Int) = 2 from rfl] at e1
  obtain ⟨nc, i3, b3, hi3, hnc, p3, e2⟩ := ev_size_any l hl i2 hi2 b2 1 (by omega)
  rw [show ((1 : Nat) : Int) = 1 from rfl] at e2
  have q3 : b3 = false → l = beB kn 1 ++ ((beB name.size 2 ++ bl name) ++ (beB nc 1 ++ l.drop i3)) ∧ name.size < 65536 := fun h => by
    obtain ⟨g0, g1⟩ := p3 h
    obtain ⟨f0, f1, f2⟩ := p2 g0
    obtain ⟨-, d1⟩ := p1 f0
    rw [List.drop_zero, f1, g1] at d1
    exact ⟨d1, by simpa using f2⟩
  have H := Hd.mk (And.intro h (And.intro hl (And.intro (show kn < 256 by simpa using hkn) (And.intro (show nc < 256 by simpa using hnc) (And.intro hi3 q3)))))
  clear h hl hkn hnc p1 p2 p3 q3 hi1 hi2 hi3 hname
  (refine (evF_codeZ (C := cfg) (g := 7) (fn := Tryz.f7) rfl Tryz.func7 rfl (by rw [Tryz.ntmps7]; simp) (by kernel_rfl)).trans ?_; rw [Tryz.results7, Tryz.ntmps7])
  repeat' (first | with_reducible refine br_split (fun _ => ?_) (fun _ => ?_) | simp only [*, push_cast, Array.reduceGetElem?, Nat.reduceBEq, Nat.reduceLT, Nat.reduceAdd, Nat.reduceSub, Nat.reduceLeDiff, Nat.reduceMul, Nat.reduceEqDiff, reduceCtorEq, Int.reduceAdd, Int.reduceLT, Int.reduceLE, Int.reduceToNat, Int.reduceNeg, Int.reduceSub, Int.reduceBEq, Int.reduceBNe, Int.reduceNe, Int.reduceGT, Int.reduceGE, Nat.reduceGT] | (rw [drawC_ok]; rotate_left; decide +kernel; exact cfg_mixed))
  rw [show ([] : List (List T)) = ([] : List ByteArray).map sC from rfl]
  generalize hE : evM cfg _ _ _ _ _ = RR
  have key : ∃ z, RR = some z ∧ ∃ (cols : List ByteArray) (i' : Nat) (b' : Bool), cols.length = nc ∧ i' ≤ l.length ∧ (b' = false → b3 = false ∧ l.drop i3 = cols.flatMap col2 ++ l.drop i' ∧ ∀ c ∈ cols, c.size < 65536) ∧ z = (Exit.exit 0, { t := [(0, .d (.s (bs l))), (2, .ptr 50 0), (4, .ptr 51 0), (5, .ptr 52 0)], o := [(50, .box [.d (.i .i64 0), .d (.s ⟨#[]⟩), .nl, .d (.s ⟨#[]⟩), .nl]), (51, .box [.d (.s (bs l)), .d (.i .i64 (i' : Nat)), .d (.b b')]), (52, .box [.d (.i .i64 (kn : Nat)), .d (.s name), .own 53, .d (.s ⟨#[]⟩), .nl]), (53, .arr .any 1 (cols.map sC))], ks := [50, 51, 52, 53], n := 0, sz := 84, u := noU, g := some (0, false) }) := by
    rw [← hE]
    refine evM_ex (α := CT) (fun y => { t := [(0, .d (.s (bs l))), (2, .ptr 50 0), (4, .ptr 51 0), (5, .ptr 52 0), (18, .d (.i .i64 (nc : Nat))), (19, .d (.i .i64 (y.cols.length : Nat)))], o := [(50, .box [.d (.i .i64 0), .d (.s ⟨#[]⟩), .nl, .d (.s ⟨#[]⟩), .nl]), (51, .box [.d (.s (bs l)), .d (.i .i64 (y.i : Nat)), .d (.b y.bad)]), (52, .box [.d (.i .i64 (kn : Nat)), .d (.s name), .own 53, .d (.s ⟨#[]⟩), .nl]), (53, .arr .any 1 (y.cols.map sC))], ks := [50, 51, 52, 53], n := 0, sz := 84, u := noU, g := some (0, false) })
      (fun _ z => ∃ (cols : List ByteArray) (i' : Nat) (b' : Bool), cols.length = nc ∧ i' ≤ l.length ∧ (b' = false → b3 = false ∧ l.drop i3 = cols.flatMap col2 ++ l.drop i' ∧ ∀ c ∈ cols, c.size < 65536) ∧ z = (Exit.exit 0, { t := [(0, .d (.s (bs l))), (2, .ptr 50 0), (4, .ptr 51 0), (5, .ptr 52 0)], o := [(50, .box [.d (.i .i64 0), .d (.s ⟨#[]⟩), .nl, .d (.s ⟨#[]⟩), .nl]), (51, .box [.d (.s (bs l)), .d (.i .i64 (i' : Nat)), .d (.b b')]), (52, .box [.d (.i .i64 (kn : Nat)), .d (.s name), .own 53, .d (.s ⟨#[]⟩), .nl]), (53, .arr .any 1 (cols.map sC))], ks := [50, 51, 52, 53], n := 0, sz := 84, u := noU, g := some (0, false) }))
      (fun y => y.cols.length ≤ nc ∧ y.i ≤ l.length ∧ (y.bad = false → b3 = false ∧ l.drop i3 = y.cols.flatMap col2 ++ l.drop y.i ∧ ∀ c ∈ y.cols, c.size < 65536)) (fun y => nc - y.cols.length) ?_ ⟨[], i3, b3⟩ ⟨Nat.zero_le _, H.out.2.2.2.2.1, fun h => ⟨h, rfl, fun _ h => (nomatch h)⟩⟩
    clear hE RR e0 e1 e2 hcan
    rintro ⟨cols, i, bad⟩ ⟨hq, hi, hp⟩ ih
    simp only at hq hi hp ih ⊢
    obtain ⟨h, hl, hkn, hnc, -, -⟩ := H.out
    by_cases hqc : cols.length < nc
    · have c1 : decide ((cols.length : Int) < (nc : Int)) = true := decide_eq_true (by omega)
      have w1 : IntKind.i64.wrap ((cols.length : Int) + 1) = (cols.length : Int) + 1 := wrap_succ (by omega)
      obtain ⟨c, i', b', hi', -, p2, e1⟩ := ev_text_any l hl i hi bad 2 (by omega)
      rw [show ((2 : Nat) : Int) = 2 from rfl] at e1
      have h3 : cols.map sC ++ [[.s c]] = (cols ++ [c]).map sC := by rw [List.map_append]; rfl
      have h4 := len_ok (n := cols.length + 1) 16 (by omega) (by omega)
      obtain ⟨z, hz1, hz2⟩ := ih ⟨cols ++ [c], i', b'⟩ ⟨by simp; omega, hi', fun hb => by
        obtain ⟨g0, g1, g2⟩ := p2 hb
        obtain ⟨f0, f1, f2⟩ := hp g0
        refine ⟨f0, ?_, fun x hx => ?_⟩
        · rw [f1, g1]; simp [col2, txB]
        · rcases List.mem_append.1 hx with hx | hx
          · exact f2 x hx
          · rw [List.mem_singleton.1 hx]; simpa using g2⟩ (by simp; omega)
      refine ⟨z, ?_, hz2⟩
      simp only [List.length_append, List.length_singleton] at hz1
      rw [show ((cols.length + 1 : Nat) : Int) = (cols.length : Int) + 1 from rfl] at hz1
      clear ih hq hi hp h hl hkn hnc hqc hi' p2 hz2
      repeat' (first | with_reducible refine br_split (fun _ => ?_) (fun _ => ?_) | simp only [*, push_cast, Array.reduceGetElem?, Nat.reduceBEq, Nat.reduceLT, Nat.reduceAdd, Nat.reduceSub, Nat.reduceLeDiff, Nat.reduceMul, Nat.reduceEqDiff, reduceCtorEq, Int.reduceAdd, Int.reduceLT, Int.reduceLE, Int.reduceToNat, Int.reduceNeg, Int.reduceSub, Int.reduceBEq, Int.reduceBNe, Int.reduceNe, Int.reduceGT, Int.reduceGE, Nat.reduceGT] | (rw [drawC_ok]; rotate_left; decide +kernel; exact cfg_mixed))
    · have c1 : decide ((cols.length : Int) < (nc : Int)) = false := decide_eq_false (by omega)
      refine ⟨_, ?_, cols, i, bad, by omega, hi, hp, rfl⟩
      clear ih hq hi hp h hl hkn hnc hqc
      repeat' (first | with_reducible refine br_split (fun _ => ?_) (fun _ => ?_) | simp only [*, push_cast, Array.reduceGetElem?, Nat.reduceBEq, Nat.reduceLT, Nat.reduceAdd, Nat.reduceSub, Nat.reduceLeDiff, Nat.reduceMul, Nat.reduceEqDiff, reduceCtorEq, Int.reduceAdd, Int.reduceLT, Int.reduceLE, Int.reduceToNat, Int.reduceNeg, Int.reduceSub, Int.reduceBEq, Int.reduceBNe, Int.reduceNe, Int.reduceGT, Int.reduceGE, Nat.reduceGT] | (rw [drawC_ok]; rotate_left; decide +kernel; exact cfg_mixed))
  obtain ⟨_, rfl, cols, i4, b4, p1, p2, p3, rfl⟩ := key
  clear hE e0 e1 e2
  obtain ⟨h, hl, hkn, hnc, hi3, q3⟩ := H.out
  obtain ⟨query, i5, b5, hi5, hqr, p4, e3⟩ := ev_text_any l hl i4 p2 b4 2 (by omega)
  rw [show ((2 : Nat) : Int) = 2 from rfl] at e3
  obtain ⟨k, i6, b6, hi6, hk, p5, e4⟩ := ev_size_any l hl i5 hi5 b5 1 (by omega)
  rw [show ((1 : Nat) : Int) = 1 from rfl] at e4
  have q6 : b6 = false → l = beB kn 1 ++ ((beB name.size 2 ++ bl name) ++ (beB cols.length 1 ++ (cols.flatMap col2 ++ ((beB query.size 2 ++ bl query) ++ (beB k 1 ++ l.drop i6))))) ∧ name.size < 65536 ∧ (∀ c ∈ cols, c.size < 65536) ∧ query.size < 65536 := fun h => by
    obtain ⟨g0, g1⟩ := p5 h
    obtain ⟨f0, f1, f2⟩ := p4 g0
    obtain ⟨d0, d1, d2⟩ := p3 f0
    obtain ⟨c0, c1⟩ := q3 d0
    rw [d1, f1, g1] at c0
    rw [p1]
    exact ⟨c0, c1, d2, by simpa using f2⟩
  have H2 := Hd.mk (And.intro (show k < 256 by simpa using hk) (And.intro hi6 q6))
  clear h hl hkn hnc hi3 q3 p1 p2 p3 p4 p5 hi5 hi6 hk q6 hqr
  repeat' (first | with_reducible refine br_split (fun _ => ?_) (fun _ => ?_) | simp only [*, push_cast, Array.reduceGetElem?, Nat.reduceBEq, Nat.reduceLT, Nat.reduceAdd, Nat.reduceSub, Nat.reduceLeDiff, Nat.reduceMul, Nat.reduceEqDiff, reduceCtorEq, Int.reduceAdd, Int.reduceLT, Int.reduceLE, Int.reduceToNat, Int.reduceNeg, Int.reduceSub, Int.reduceBEq, Int.reduceBNe, Int.reduceNe, Int.reduceGT, Int.reduceGE, Nat.reduceGT] | (rw [drawC_ok]; rotate_left; decide +kernel; exact cfg_mixed))
  rw [show ([] : List (List T)) = ([] : List R).mapIdx (rZ fun i => [i, 0, 0, 1]) from rfl]
  generalize hE : evM cfg _ _ _ _ _ = RR
  have key : ∃ z, RR = some z ∧ ∃ (ch : List R) (i' : Nat) (b' : Bool), ch.length = k ∧ i' ≤ l.length ∧ (b' = false → b6 = false ∧ l.drop i6 = ch.flatMap relB ++ l.drop i' ∧ ∀ r ∈ ch, r.name.size < 65536 ∧ OkB r.bag ∧ (pbL r.bag).length < 4294967296) ∧ z = (Exit.exit 2, { t := [(0, .d (.s (bs l))), (2, .ptr 50 0), (4, .ptr 51 0), (5, .ptr 52 0)], o := [(50, .box [.d (.i .i64 0), .d (.s ⟨#[]⟩), .nl, .d (.s ⟨#[]⟩), .nl]), (51, .box [.d (.s (bs l)), .d (.i .i64 (i' : Nat)), .d (.b b')]), (52, .box [.d (.i .i64 (kn : Nat)), .d (.s name), .own 53, .d (.s query), .own 54]), (53, .arr .any 1 (cols.map sC)), (54, .arr .any 3 (ch.mapIdx (rZ fun i => [i, 0, 0, 1])))], ks := [50, 51, 52, 53, 54], n := 0, sz := 84, u := noU, g := some (ch.length, false) }) := by
    rw [← hE]
    refine evM_ex (α := RT) (fun y => { t := [(0, .d (.s (bs l))), (2, .ptr 50 0), (4, .ptr 51 0), (5, .ptr 52 0), (33, .d (.i .i64 (k : Nat))), (34, .d (.i .i64 (y.ch.length : Nat)))], o := [(50, .box [.d (.i .i64 0), .d (.s ⟨#[]⟩), .nl, .d (.s ⟨#[]⟩), .nl]), (51, .box [.d (.s (bs l)), .d (.i .i64 (y.i : Nat)), .d (.b y.bad)]), (52, .box [.d (.i .i64 (kn : Nat)), .d (.s name), .own 53, .d (.s query), .own 54]), (53, .arr .any 1 (cols.map sC)), (54, .arr .any 3 (y.ch.mapIdx (rZ fun i => [i, 0, 0, 1])))], ks := [50, 51, 52, 53, 54], n := 0, sz := 84, u := noU, g := some (y.ch.length, false) })
      (fun _ z => ∃ (ch : List R) (i' : Nat) (b' : Bool), ch.length = k ∧ i' ≤ l.length ∧ (b' = false → b6 = false ∧ l.drop i6 = ch.flatMap relB ++ l.drop i' ∧ ∀ r ∈ ch, r.name.size < 65536 ∧ OkB r.bag ∧ (pbL r.bag).length < 4294967296) ∧ z = (Exit.exit 2, { t := [(0, .d (.s (bs l))), (2, .ptr 50 0), (4, .ptr 51 0), (5, .ptr 52 0)], o := [(50, .box [.d (.i .i64 0), .d (.s ⟨#[]⟩), .nl, .d (.s ⟨#[]⟩), .nl]), (51, .box [.d (.s (bs l)), .d (.i .i64 (i' : Nat)), .d (.b b')]), (52, .box [.d (.i .i64 (kn : Nat)), .d (.s name), .own 53, .d (.s query), .own 54]), (53, .arr .any 1 (cols.map sC)), (54, .arr .any 3 (ch.mapIdx (rZ fun i => [i, 0, 0, 1])))], ks := [50, 51, 52, 53, 54], n := 0, sz := 84, u := noU, g := some (ch.length, false) }))
      (fun y => y.ch.length ≤ k ∧ y.i ≤ l.length ∧ (y.bad = false → b6 = false ∧ l.drop i6 = y.ch.flatMap relB ++ l.drop y.i ∧ ∀ r ∈ y.ch, r.name.size < 65536 ∧ OkB r.bag ∧ (pbL r.bag).length < 4294967296)) (fun y => k - y.ch.length) ?_ ⟨[], i6, b6⟩ ⟨Nat.zero_le _, H2.out.2.1, fun h => ⟨h, rfl, fun _ h => (nomatch h)⟩⟩
    clear hE RR e3 e4 hcan
    rintro ⟨ch, i, bad⟩ ⟨hq, hi, hp⟩ ih
    simp only at hq hi hp ih ⊢
    obtain ⟨h, hl, -, -, -, -⟩ := H.out
    obtain ⟨hk, -, -⟩ := H2.out
    by_cases hqc : ch.length < k
    · have c1 : decide ((ch.length : Int) < (k : Int)) = true := decide_eq_true (by omega)
      have w1 : IntKind.i64.wrap ((ch.length : Int) + 1) = (ch.length : Int) + 1 := wrap_succ (by omega)
      obtain ⟨rn, i', b', hi', -, p2, e1⟩ := ev_text_any l hl i hi bad 2 (by omega)
      rw [show ((2 : Nat) : Int) = 2 from rfl] at e1
      obtain ⟨by4, i'', b'', hi'', hbs, p3, e2⟩ := ev_text_any l hl i' hi' b' 4 (by omega)
      rw [show ((4 : Nat) : Int) = 4 from rfl] at e2
      have h5 : (ch.mapIdx (rZ fun i => [i, 0, 0, 1])).length = ch.length := by simp
      have h4 := len_ok (n := ch.length + 1) 48 (by omega) (by omega)
      by_cases hb : ∃ b, OkB b ∧ bl by4 = pbL b
      · obtain ⟨⟨bw, brows⟩, hb1, hb2⟩ := hb
        have hbb : by4 = bs (pbL ⟨bw, brows⟩) := by rw [← hb2, bs_bl]
        have hlen : (pbL ⟨bw, brows⟩).length = by4.size := by rw [← hb2, bl_size]
        have e5 := ev_GetBag_yes bw brows hb1 (by rw [← pbL_of (b := ⟨bw, brows⟩) hb1, hlen]; omega)
        rw [show kb bw :: brows.flatMap rowB = pbL ⟨bw, brows⟩ from (pbL_of (b := ⟨bw, brows⟩) hb1).symm, ← hbb] at e5
        have h3 : ch.mapIdx (rZ fun i => [i, 0, 0, 1]) ++ [[.s rn, .i .i64 bw, .sl (.tok [ch.length, 0, 0, 1]) (cnEs [ch.length, 0, 0, 1] 0 (brows.map cC))]] = (ch ++ [(⟨rn, ⟨bw, brows⟩⟩ : R)]).mapIdx (rZ fun i => [i, 0, 0, 1]) := by
          rw [List.mapIdx_append]; simp [rZ]
        obtain ⟨z, hz1, hz2⟩ := ih ⟨ch ++ [(⟨rn, ⟨bw, brows⟩⟩ : R)], i'', b''⟩ ⟨by simp; omega, hi'', fun hx => by
          obtain ⟨g0, g1, g2⟩ := p3 hx
          obtain ⟨f0, f1, f2⟩ := p2 g0
          obtain ⟨d0, d1, d2⟩ := hp f0
          refine ⟨d0, ?_, fun r hr => ?_⟩
          · rw [d1, f1, g1]; simp only [relB, txB, List.flatMap_append, List.flatMap_cons, List.flatMap_nil, List.append_nil, List.append_assoc, ← hbb]
          · rcases List.mem_append.1 hr with hr | hr
            · exact d2 r hr
            · rw [List.mem_singleton.1 hr]
              refine ⟨by simpa using f2, hb1, ?_⟩
              show (pbL ⟨bw, brows⟩).length < 4294967296
              rw [hlen]
              simpa using g2⟩ (by simp; omega)
        refine ⟨z, ?_, hz2⟩
        simp only [List.length_append, List.length_singleton] at hz1
        rw [show ((ch.length + 1 : Nat) : Int) = (ch.length : Int) + 1 from rfl] at hz1
        clear ih hq hi hp h hl hk hqc hi' hi'' p2 p3 hbs hb1 hb2 hbb hlen hz2
        cases b'' <;> repeat' (first | with_reducible refine br_split (fun _ => ?_) (fun _ => ?_) | simp only [*, push_cast, Array.reduceGetElem?, Nat.reduceBEq, Nat.reduceLT, Nat.reduceAdd, Nat.reduceSub, Nat.reduceLeDiff, Nat.reduceMul, Nat.reduceEqDiff, reduceCtorEq, Int.reduceAdd, Int.reduceLT, Int.reduceLE, Int.reduceToNat, Int.reduceNeg, Int.reduceSub, Int.reduceBEq, Int.reduceBNe, Int.reduceNe, Int.reduceGT, Int.reduceGE, Nat.reduceGT] | (rw [drawC_ok]; rotate_left; decide +kernel; exact cfg_mixed))
      · have e5 := ev_GetBag_no (bl by4) (by rw [bl_size]; omega) (fun b hb1 hb2 => hb ⟨b, hb1, hb2⟩)
        rw [bs_bl] at e5
        have h3 : ch.mapIdx (rZ fun i => [i, 0, 0, 1]) ++ [[.s rn, .i .i64 0, .sl (.tok [ch.length, 0, 0, 1]) []]] = (ch ++ [(⟨rn, ⟨0, []⟩⟩ : R)]).mapIdx (rZ fun i => [i, 0, 0, 1]) := by
          rw [List.mapIdx_append]; simp [rZ, cnEs]
        obtain ⟨z, hz1, hz2⟩ := ih ⟨ch ++ [(⟨rn, ⟨0, []⟩⟩ : R)], i'', true⟩ ⟨by simp; omega, hi'', fun hx => (by cases hx)⟩ (by simp; omega)
        refine ⟨z, ?_, hz2⟩
        simp only [List.length_append, List.length_singleton] at hz1
        rw [show ((ch.length + 1 : Nat) : Int) = (ch.length : Int) + 1 from rfl] at hz1
        clear ih hq hi hp h hl hk hqc hi' hi'' p2 p3 hbs hb hz2
        cases b'' <;> repeat' (first | with_reducible refine br_split (fun _ => ?_) (fun _ => ?_) | simp only [*, push_cast, Array.reduceGetElem?, Nat.reduceBEq, Nat.reduceLT, Nat.reduceAdd, Nat.reduceSub, Nat.reduceLeDiff, Nat.reduceMul, Nat.reduceEqDiff, reduceCtorEq, Int.reduceAdd, Int.reduceLT, Int.reduceLE, Int.reduceToNat, Int.reduceNeg, Int.reduceSub, Int.reduceBEq, Int.reduceBNe, Int.reduceNe, Int.reduceGT, Int.reduceGE, Nat.reduceGT] | (rw [drawC_ok]; rotate_left; decide +kernel; exact cfg_mixed))
    · have c1 : decide ((ch.length : Int) < (k : Int)) = false := decide_eq_false (by omega)
      refine ⟨_, ?_, ch, i, bad, by omega, hi, hp, rfl⟩
      clear ih hq hi hp h hl hk hqc
      repeat' (first | with_reducible refine br_split (fun _ => ?_) (fun _ => ?_) | simp only [*, push_cast, Array.reduceGetElem?, Nat.reduceBEq, Nat.reduceLT, Nat.reduceAdd, Nat.reduceSub, Nat.reduceLeDiff, Nat.reduceMul, Nat.reduceEqDiff, reduceCtorEq, Int.reduceAdd, Int.reduceLT, Int.reduceLE, Int.reduceToNat, Int.reduceNeg, Int.reduceSub, Int.reduceBEq, Int.reduceBNe, Int.reduceNe, Int.reduceGT, Int.reduceGE, Nat.reduceGT] | (rw [drawC_ok]; rotate_left; decide +kernel; exact cfg_mixed))
  obtain ⟨_, rfl, ch, i7, b7, p5, hi7, p6, rfl⟩ := key
  clear hE e3 e4
  rw [List.mapIdx_nil]
  cases b7 with
  | true =>
    clear H H2 p5 hi7 p6
    repeat' (first | with_reducible refine br_split (fun _ => ?_) (fun _ => ?_) | simp only [*, push_cast, Array.reduceGetElem?, Nat.reduceBEq, Nat.reduceLT, Nat.reduceAdd, Nat.reduceSub, Nat.reduceLeDiff, Nat.reduceMul, Nat.reduceEqDiff, reduceCtorEq, Int.reduceAdd, Int.reduceLT, Int.reduceLE, Int.reduceToNat, Int.reduceNeg, Int.reduceSub, Int.reduceBEq, Int.reduceBNe, Int.reduceNe, Int.reduceGT, Int.reduceGE, Nat.reduceGT] | (rw [drawC_ok]; rotate_left; decide +kernel; exact cfg_mixed))
  | false =>
    obtain ⟨h, hl, hkn, -, -, -⟩ := H.out
    obtain ⟨hk, -, q6⟩ := H2.out
    obtain ⟨f0, f1, f2⟩ := p6 rfl
    obtain ⟨g1, g2, g3, g4⟩ := q6 f0
    by_cases hc : i7 < l.length
    · have c1 := dec_lt hc
      clear H H2 h hl hkn hk p5 hi7 p6 q6 f0 f1 f2 g1 g2 g3 g4 hc
      repeat' (first | with_reducible refine br_split (fun _ => ?_) (fun _ => ?_) | simp only [*, push_cast, Array.reduceGetElem?, Nat.reduceBEq, Nat.reduceLT, Nat.reduceAdd, Nat.reduceSub, Nat.reduceLeDiff, Nat.reduceMul, Nat.reduceEqDiff, reduceCtorEq, Int.reduceAdd, Int.reduceLT, Int.reduceLE, Int.reduceToNat, Int.reduceNeg, Int.reduceSub, Int.reduceBEq, Int.reduceBNe, Int.reduceNe, Int.reduceGT, Int.reduceGE, Nat.reduceGT] | (rw [drawC_ok]; rotate_left; decide +kernel; exact cfg_mixed))
    · have c1 : decide ((i7 : Int) < (l.length : Int)) = false := decide_eq_false (by omega)
      rw [f1, show i7 = l.length by omega, List.drop_length, List.append_nil, ← p5] at g1
      have hlen := congrArg List.length g1
      have s1 := szSs_enc cols
      have s2 := szRs_enc (l := ch) fun r hr => (f2 r hr).2.1
      simp only [List.length_append, beB_len, bl_size] at hlen
      have hso := ev_StepOk (kn : Nat) name cols query ch (by simp only [szSp]; omega)
      cases ho : stepOk ⟨(kn : Nat), name, cols, query, ch⟩ with
      | true =>
        have hS : OkS ⟨(kn : Nat), name, cols, query, ch⟩ := ⟨ho, g2, g3, g4, f2⟩
        refine absurd ?_ (h _ hS)
        rw [psL_eq hS, u64_nn (by omega)]
        simp only [tail1, tail2]
        exact g1
      | false =>
        rw [ho] at hso
        have hme : annEs .any (ch.mapIdx (rZ fun i => [i, 0, 0, 1])) = ch.map rC := by
          rw [annEs_mapIdx (g := rC) (fun i x => by simp only [rZ, annCs, T.ann, er_cnEs, er_cC]; rfl) ch]
        clear H H2 h hl hkn hk p5 hi7 p6 q6 f0 f1 f2 g1 g2 g3 g4 hc hlen s1 s2 ho
        repeat' (first | with_reducible refine br_split (fun _ => ?_) (fun _ => ?_) | simp only [*, push_cast, Array.reduceGetElem?, Nat.reduceBEq, Nat.reduceLT, Nat.reduceAdd, Nat.reduceSub, Nat.reduceLeDiff, Nat.reduceMul, Nat.reduceEqDiff, reduceCtorEq, Int.reduceAdd, Int.reduceLT, Int.reduceLE, Int.reduceToNat, Int.reduceNeg, Int.reduceSub, Int.reduceBEq, Int.reduceBNe, Int.reduceNe, Int.reduceGT, Int.reduceGE, Nat.reduceGT] | (rw [drawC_ok]; rotate_left; decide +kernel; exact cfg_mixed))
end Go.Av
end
