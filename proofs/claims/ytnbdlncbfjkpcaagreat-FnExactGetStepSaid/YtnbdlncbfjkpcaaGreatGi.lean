/- What functions of this seat give. -/
import Derived.Test.YtnbdlncbfjkpcaaGreatGh
set_option linter.all false
set_option linter.unusedVariables false
set_option linter.unusedSimpArgs false

section
namespace Go.Av
open Go.Proofs
set_option linter.unusedSimpArgs false
theorem kb_nat {w : Int} (h0 : 0 ≤ w) (h1 : w ≤ 12) : ((kb w).toNat : Int) = w := by
  unfold kb
  rw [dv_zero]
  have e : u64 w = w.toNat := by unfold u64; omega
  rw [e]
  simp [UInt8.toNat_ofNat']
  omega
theorem ev_sGetBag_yes (w : Int) (rows : List C) (h : OkB ⟨w, rows⟩) (hl : (kb w :: rows.flatMap rowB).length ≤ 1048576) : evF cfg 32 [] [.d (.s (bs (kb w :: rows.flatMap rowB)))] = some (.tup [.agg [.d (.i .i64 w), .d (.sl .any (rows.map cC))], .d (.b true)], []) := by
  obtain ⟨l, hL⟩ : ∃ l, kb w :: rows.flatMap rowB = l := ⟨_, rfl⟩
  have h0 : l[0]? = some (kb w) := by rw [← hL]; rfl
  have hz := bs_size l
  have h1 : 0 < l.length := by rw [← hL]; simp
  have h1' : l.drop 1 = (rows.drop 0).flatMap rowB := by rw [← hL]; rfl
  have hpl : pbL ⟨w, rows⟩ = l := by rw [← hL]; simp only [pbL, h.ok, if_true]
  rw [hL] at hl ⊢
  clear hL
  obtain ⟨hb1, hb2⟩ := bagOk_len h.ok
  have hww : 0 ≤ w ∧ w ≤ 12 := by
    have := h.ok
    simp only [bagOk, Bool.and_eq_true, decide_eq_true_eq] at this
    exact this.1
  have hg0 : (bs l)[0]? = some (kb w) := by rw [ba_get, show (bs l).data.toList = l from by simp [bs]]; exact h0
  have hkb := kb_nat hww.1 hww.2
  have hw1 : IntKind.i64.wrap ((kb w).toNat : Int) = w := by rw [hkb]; exact i64_in (by omega) (by omega)
  have c1 : decide (w > 12) = false := decide_eq_false (by omega)
  have hne : decide (bs l = (⟨#[]⟩ : ByteArray)) = false := decide_eq_false fun e => by
    have := congrArg ByteArray.size e
    rw [bs_size] at this
    have : (⟨#[]⟩ : ByteArray).size = 0 := rfl
    omega
  have c0 : decide ((0 : Int) < (l.length : Int)) = true := decide_eq_true (by omega)
  have hpb := ev_sPutBag w rows (by have := hb1; simp only at this; omega) (fun c hc => by have := (hb2 c hc).1; omega)
  rw [hpl] at hpb
  have hpe : decide (bs l = bs l) = true := decide_eq_true rfl
  have H := Hd.mk (And.intro h (And.intro hl (And.intro h1' (And.intro hww hb1))))
  clear h hl h0 h1 h1' hpl hb1 hb2 hww hkb
  (refine (evF_code (C := cfg) (g := 32) (fn := Tryz.f32) rfl Tryz.func32 rfl (by rw [Tryz.ntmps32]; simp) (by kernel_rfl) (by first | decide | simp [keysOf])).trans ?_; rw [Tryz.results32, Tryz.ntmps32])
  repeat' (first | with_reducible refine br_split (fun _ => ?_) (fun _ => ?_) | simp only [*, push_cast, Array.reduceGetElem?, Nat.reduceBEq, Nat.reduceLT, Nat.reduceAdd, Nat.reduceSub, Nat.reduceLeDiff, Nat.reduceMul, Nat.reduceEqDiff, reduceCtorEq, Int.reduceAdd, Int.reduceLT, Int.reduceLE, Int.reduceToNat, Int.reduceNeg, Int.reduceSub, Int.reduceBEq, Int.reduceBNe, Int.reduceNe, Int.reduceGT, Int.reduceGE, Nat.reduceGT] | (rw [drawC_ok]; rotate_left; decide +kernel; exact cfg_mixed))
  rw [show ([] : List (List T)) = (rows.take 0).map cC from rfl]
  generalize hE : evM cfg _ _ _ _ _ = RR
  have key : ∃ r, RR = some r ∧ r = (Exit.exit 0, { t := [(0, .d (.s (bs l))), (2, .ptr 50 0), (4, .ptr 51 0)], o := [(50, .box [.d (.i .i64 0), .nl]), (51, .box [.d (.i .i64 w), .own 52]), (52, .arr .any 2 (rows.map cC))], ks := [50, 51, 52], n := 0, sz := 83, u := noU }) := by
    rw [← hE]
    refine evM_ex (α := Nat × Nat) (fun z => { t := [(0, .d (.s (bs l))), (2, .ptr 50 0), (4, .ptr 51 0), (5, .d (.i .i64 (z.2 : Nat)))], o := [(50, .box [.d (.i .i64 0), .nl]), (51, .box [.d (.i .i64 w), .own 52]), (52, .arr .any 2 ((rows.take z.1).map cC))], ks := [50, 51, 52], n := 0, sz := 83, u := noU })
      (fun _ r => r = (Exit.exit 0, { t := [(0, .d (.s (bs l))), (2, .ptr 50 0), (4, .ptr 51 0)], o := [(50, .box [.d (.i .i64 0), .nl]), (51, .box [.d (.i .i64 w), .own 52]), (52, .arr .any 2 (rows.map cC))], ks := [50, 51, 52], n := 0, sz := 83, u := noU }))
      (fun z => z.1 ≤ rows.length ∧ z.2 ≤ l.length ∧ l.drop z.2 = (rows.drop z.1).flatMap rowB) (fun z => rows.length - z.1) ?_ (0, 1) ⟨Nat.zero_le _, by have := of_decide_eq_true c0; show 1 ≤ l.length; omega, H.out.2.2.1⟩
    clear hE RR hpb hpe hne hg0 hw1 c1 c0
    rintro ⟨r, i⟩ ⟨hr, hi, hd⟩ ih
    simp only at hr hi hd ih ⊢
    obtain ⟨h, hl, h1, hww, hb1⟩ := H.out
    simp only at hb1
    have hmn : min r rows.length = r := Nat.min_eq_left hr
    have hat := rows_at hd hi hr
    have c4 : decide (((rows.take r).length : Int) ≤ 400) = true := decide_eq_true (by rw [List.length_take]; omega)
    by_cases hc : r < rows.length
    · have hil : i < l.length := hat.2 hc
      have c5 := dec_lt hil
      obtain ⟨g1, g2, g3⟩ := h.row (List.getElem_mem hc)
      have hh := rows_head hd hc
      obtain ⟨_, e1, ⟨v, k, hv, hik, hk, rfl⟩ | ⟨hv, -⟩⟩ := ev_GetValue l hl i hil
      · rw [hh, valP_num g3] at hv
        simp only [Option.some.injEq, Prod.mk.injEq] at hv
        obtain ⟨rfl, hv⟩ := hv
        simp only [numV] at e1
        refine exQ fun Q hQ => ?_
        have HQ := Hd.mk hQ; clear hQ
        have H2 := Hd.mk (And.intro hr (And.intro hi (And.intro hd (And.intro ih (And.intro hik (And.intro hk hv))))))
        have H3 := Hd.mk (And.intro g1 (And.intro g2 hc))
        clear hr hi hd ih hik hk hv h hl h1 hww hb1 hat g1 g2 g3 hh
        repeat' (first | with_reducible refine br_split (fun _ => ?_) (fun _ => ?_) | simp only [*, push_cast, Array.reduceGetElem?, Nat.reduceBEq, Nat.reduceLT, Nat.reduceAdd, Nat.reduceSub, Nat.reduceLeDiff, Nat.reduceMul, Nat.reduceEqDiff, reduceCtorEq, Int.reduceAdd, Int.reduceLT, Int.reduceLE, Int.reduceToNat, Int.reduceNeg, Int.reduceSub, Int.reduceBEq, Int.reduceBNe, Int.reduceNe, Int.reduceGT, Int.reduceGE, Nat.reduceGT] | (rw [drawC_ok]; rotate_left; decide +kernel; exact cfg_mixed))
        rw [show ([] : List (List T)) = (rows[r].row.take 0).map vC from rfl]
        generalize hE : evM cfg _ _ _ _ _ = RR
        have key : ∃ z, RR = some z ∧ ∃ i' : Nat, i' ≤ l.length ∧ l.drop i' = (rows.drop (r + 1)).flatMap rowB ∧ z = (Exit.exit 2, { t := [(0, .d (.s (bs l))), (2, .ptr 50 0), (4, .ptr 51 0), (5, .d (.i .i64 (i' : Nat))), (8, .ptr 52 0)], o := [(50, .box [.d (.i .i64 0), .nl]), (51, .box [.d (.i .i64 w), .own 53]), (52, .box [.own 54, .d (.i .i64 rows[r].n)]), (53, .arr .any 2 ((rows.take r).map cC)), (54, .arr .any 3 (rows[r].row.map vC))], ks := [50, 51, 52, 53, 54], n := 0, sz := 83, u := noU }) := by
          rw [← hE]
          refine evM_ex (α := Nat × Nat) (fun z => { t := [(0, .d (.s (bs l))), (2, .ptr 50 0), (4, .ptr 51 0), (5, .d (.i .i64 (z.2 : Nat))), (8, .ptr 52 0), (9, .d (.i .i64 (z.1 : Nat)))], o := [(50, .box [.d (.i .i64 0), .nl]), (51, .box [.d (.i .i64 w), .own 53]), (52, .box [.own 54, .d (.i .i64 rows[r].n)]), (53, .arr .any 2 ((rows.take r).map cC)), (54, .arr .any 3 ((rows[r].row.take z.1).map vC))], ks := [50, 51, 52, 53, 54], n := 0, sz := 83, u := noU })
            (fun _ z => ∃ i' : Nat, i' ≤ l.length ∧ l.drop i' = (rows.drop (r + 1)).flatMap rowB ∧ z = (Exit.exit 2, { t := [(0, .d (.s (bs l))), (2, .ptr 50 0), (4, .ptr 51 0), (5, .d (.i .i64 (i' : Nat))), (8, .ptr 52 0)], o := [(50, .box [.d (.i .i64 0), .nl]), (51, .box [.d (.i .i64 w), .own 53]), (52, .box [.own 54, .d (.i .i64 rows[r].n)]), (53, .arr .any 2 ((rows.take r).map cC)), (54, .arr .any 3 (rows[r].row.map vC))], ks := [50, 51, 52, 53, 54], n := 0, sz := 83, u := noU }))
            (fun z => z.1 ≤ rows[r].row.length ∧ z.2 ≤ l.length ∧ l.drop z.2 = (rows[r].row.drop z.1).flatMap pvL ++ (rows.drop (r + 1)).flatMap rowB) (fun z => rows[r].row.length - z.1) ?_ (0, k) ⟨Nat.zero_le _, H2.out.2.2.2.2.2.1, H2.out.2.2.2.2.2.2.symm⟩
          clear hE RR e1
          rintro ⟨q, i⟩ ⟨hq, hi, hd⟩ ih
          simp only at hq hi hd ih ⊢
          obtain ⟨g1, g2, hc⟩ := H3.out
          obtain ⟨h, hl, h1, hww, hb1⟩ := H.out
          simp only at g1
          have c7 : decide ((i : Int) ≥ 0) = true := decide_eq_true (by omega)
          by_cases hqc : q < rows[r].row.length
          · have c6 : decide ((q : Int) < w) = true := decide_eq_true (by omega)
            have hh := vals_head hqc ((rows.drop (r + 1)).flatMap rowB)
            rw [hh] at hd
            obtain ⟨v1, v2⟩ := g2 _ (List.getElem_mem hqc)
            have hil : i < l.length := by
              have := congrArg List.length hd
              rw [List.length_drop, List.length_append] at this
              have := pvL_pos v1
              omega
            have w1 : IntKind.i64.wrap ((q : Int) + 1) = (q : Int) + 1 := wrap_succ (by omega)
            obtain ⟨_, e1, ⟨v, k, hv, hik, hk, rfl⟩ | ⟨hv, -⟩⟩ := ev_GetValue l hl i hil
            · rw [hd, valP_app v1 v2] at hv
              simp only [Option.some.injEq, Prod.mk.injEq] at hv
              obtain ⟨rfl, hv⟩ := hv
              have h3 : (rows[r].row.take q).map vC ++ [[.i .i64 rows[r].row[q].k, .i .i64 rows[r].row[q].n, .s rows[r].row[q].s]] = (rows[r].row.take (q + 1)).map vC := take_snoc vC hqc
              have h4 := len_ok (n := (rows[r].row.take q).length + 1) 32 (by rw [List.length_take]; omega) (by omega)
              obtain ⟨z, hz1, hz2⟩ := ih (q + 1, k) ⟨hqc, hk, hv.symm⟩ (by simp only; omega)
              refine ⟨z, ?_, hz2⟩
              simp only at hz1
              rw [show ((q + 1 : Nat) : Int) = (q : Int) + 1 from rfl] at hz1
              clear ih hq hi hd g1 g2 h hl h1 hww hb1 hh v1 v2 hil hik hk hv hz2
              repeat' (first | with_reducible refine br_split (fun _ => ?_) (fun _ => ?_) | simp only [*, push_cast, Array.reduceGetElem?, Nat.reduceBEq, Nat.reduceLT, Nat.reduceAdd, Nat.reduceSub, Nat.reduceLeDiff, Nat.reduceMul, Nat.reduceEqDiff, reduceCtorEq, Int.reduceAdd, Int.reduceLT, Int.reduceLE, Int.reduceToNat, Int.reduceNeg, Int.reduceSub, Int.reduceBEq, Int.reduceBNe, Int.reduceNe, Int.reduceGT, Int.reduceGE, Nat.reduceGT] | (rw [drawC_ok]; rotate_left; decide +kernel; exact cfg_mixed))
            · rw [hd, valP_app v1 v2] at hv
              cases hv
          · have c6 : decide ((q : Int) < w) = false := decide_eq_false (by omega)
            have hqe : q = rows[r].row.length := by omega
            have hd2 : l.drop i = (rows.drop (r + 1)).flatMap rowB := by
              rw [hd, hqe, List.drop_length]; rfl
            have hrr : rows[r].row.take q = rows[r].row := by rw [hqe]; exact List.take_length
            refine ⟨_, ?_, i, hi, hd2, rfl⟩
            clear ih hq hi hd g1 g2 h hl h1 hww hb1 hqc hqe hd2
            repeat' (first | with_reducible refine br_split (fun _ => ?_) (fun _ => ?_) | simp only [*, push_cast, Array.reduceGetElem?, Nat.reduceBEq, Nat.reduceLT, Nat.reduceAdd, Nat.reduceSub, Nat.reduceLeDiff, Nat.reduceMul, Nat.reduceEqDiff, reduceCtorEq, Int.reduceAdd, Int.reduceLT, Int.reduceLE, Int.reduceToNat, Int.reduceNeg, Int.reduceSub, Int.reduceBEq, Int.reduceBNe, Int.reduceNe, Int.reduceGT, Int.reduceGE, Nat.reduceGT] | (rw [drawC_ok]; rotate_left; decide +kernel; exact cfg_mixed))
        obtain ⟨_, rfl, i', p1, p2, rfl⟩ := key
        obtain ⟨g1, g2, hc⟩ := H3.out
        obtain ⟨hr, hi, hd, ih, hik, hk, hv⟩ := H2.out
        have h3 : (rows.take r).map cC ++ [[.sl .any (rows[r].row.map vC), .i .i64 rows[r].n]] = (rows.take (r + 1)).map cC := take_snoc cC hc
        have hb1 := H.out.2.2.2.2
        simp only at hb1
        have h4 := len_ok (n := (rows.take r).length + 1) 32 (by rw [List.length_take]; omega) (by omega)
        have c8 : decide ((i' : Int) < 0) = false := decide_eq_false (by omega)
        obtain ⟨z, hz1, hz2⟩ := ih (r + 1, i') ⟨hc, p1, p2⟩ (by simp only; omega)
        simp only at hz1
        have HZ := Hd.mk hz2
        clear hE hr hi hd ih hik hk hv g1 g2 p1 p2 hz2 hb1
        repeat' (first | with_reducible refine br_split (fun _ => ?_) (fun _ => ?_) | simp only [*, push_cast, Array.reduceGetElem?, Nat.reduceBEq, Nat.reduceLT, Nat.reduceAdd, Nat.reduceSub, Nat.reduceLeDiff, Nat.reduceMul, Nat.reduceEqDiff, reduceCtorEq, Int.reduceAdd, Int.reduceLT, Int.reduceLE, Int.reduceToNat, Int.reduceNeg, Int.reduceSub, Int.reduceBEq, Int.reduceBNe, Int.reduceNe, Int.reduceGT, Int.reduceGE, Nat.reduceGT] | (rw [drawC_ok]; rotate_left; decide +kernel; exact cfg_mixed))
        exact HQ.out _ HZ.out
      · rw [hh, valP_num g3] at hv
        cases hv
    · have hil : ¬ i < l.length := fun h => hc (hat.1 h)
      have c5 : decide ((i : Int) < (l.length : Int)) = false := decide_eq_false (by omega)
      refine ⟨_, ?_, rfl⟩
      have hrr : rows.take r = rows := List.take_of_length_le (by omega)
      clear ih hr hi hd hat h hl h1 hww hb1 hil hc
      repeat' (first | with_reducible refine br_split (fun _ => ?_) (fun _ => ?_) | simp only [*, push_cast, Array.reduceGetElem?, Nat.reduceBEq, Nat.reduceLT, Nat.reduceAdd, Nat.reduceSub, Nat.reduceLeDiff, Nat.reduceMul, Nat.reduceEqDiff, reduceCtorEq, Int.reduceAdd, Int.reduceLT, Int.reduceLE, Int.reduceToNat, Int.reduceNeg, Int.reduceSub, Int.reduceBEq, Int.reduceBNe, Int.reduceNe, Int.reduceGT, Int.reduceGE, Nat.reduceGT] | (rw [drawC_ok]; rotate_left; decide +kernel; exact cfg_mixed))
  obtain ⟨_, rfl, rfl⟩ := key
  clear hE H
  repeat' (first | with_reducible refine br_split (fun _ => ?_) (fun _ => ?_) | simp only [*, push_cast, Array.reduceGetElem?, Nat.reduceBEq, Nat.reduceLT, Nat.reduceAdd, Nat.reduceSub, Nat.reduceLeDiff, Nat.reduceMul, Nat.reduceEqDiff, reduceCtorEq, Int.reduceAdd, Int.reduceLT, Int.reduceLE, Int.reduceToNat, Int.reduceNeg, Int.reduceSub, Int.reduceBEq, Int.reduceBNe, Int.reduceNe, Int.reduceGT, Int.reduceGE, Nat.reduceGT] | (rw [drawC_ok]; rotate_left; decide +kernel; exact cfg_mixed))
end Go.Av
end

section
namespace Go.Av
open Go.Proofs
set_option linter.unusedSimpArgs false
structure GS where
  rows : List C
  i : Nat
structure HS where
  vals : List V
  i : Int
theorem ev_GetValue_any (l : List UInt8) (hl : l.length ≤ 1048576) (i : Nat) (hi : i ≤ l.length) : ∃ r, evF cfg 68 [] [.d (.s (bs l)), .d (.i .i64 (i : Nat))] = some r ∧
    ∃ (v : V) (k : Int), w64 v.n = v.n ∧ (k = -1 ∨ ∃ t : Nat, k = t ∧ i < t ∧ t ≤ l.length) ∧ r = (.tup [.agg [.d (.i .i64 v.k), .d (.i .i64 v.n), .d (.s v.s)], .d (.i .i64 k)], []) := by
  by_cases hil : i < l.length
  · obtain ⟨_, e1, ⟨v, k, hv, hik, hk, rfl⟩ | ⟨hv, rfl⟩⟩ := ev_GetValue l hl i hil
    · exact ⟨_, e1, v, k, (valP_some hv).2.2, .inr ⟨k, rfl, hik, hk⟩, rfl⟩
    · exact ⟨_, e1, ⟨0, 0, ⟨#[]⟩⟩, -1, w64_0, .inl rfl, rfl⟩
  · obtain rfl : i = l.length := by omega
    exact ⟨_, ev_GetValue_end l hl, ⟨0, 0, ⟨#[]⟩⟩, -1, w64_0, .inl rfl, rfl⟩
theorem ev_sGetBag_no (l : List UInt8) (hl : l.length ≤ 1048576) (h : ∀ b, OkB b → l ≠ pbL b) : evF cfg 32 [] [.d (.s (bs l))] = some (.tup [.agg [.d (.i .i64 0), .d (.sl .any [])], .d (.b false)], []) := by
  cases l with
  | nil =>
    have hne : decide (bs [] = (⟨#[]⟩ : ByteArray)) = true := decide_eq_true rfl
    clear hl h
    (refine (evF_code (C := cfg) (g := 32) (fn := Tryz.f32) rfl Tryz.func32 rfl (by rw [Tryz.ntmps32]; simp) (by kernel_rfl) (by first | decide | simp [keysOf])).trans ?_; rw [Tryz.results32, Tryz.ntmps32])
    repeat' (first | with_reducible refine br_split (fun _ => ?_) (fun _ => ?_) | simp only [*, push_cast, Array.reduceGetElem?, Nat.reduceBEq, Nat.reduceLT, Nat.reduceAdd, Nat.reduceSub, Nat.reduceLeDiff, Nat.reduceMul, Nat.reduceEqDiff, reduceCtorEq, Int.reduceAdd, Int.reduceLT, Int.reduceLE, Int.reduceToNat, Int.reduceNeg, Int.reduceSub, Int.reduceBEq, Int.reduceBNe, Int.reduceNe, Int.reduceGT, Int.reduceGE, Nat.reduceGT] | (rw [drawC_ok]; rotate_left; decide +kernel; exact cfg_mixed))
  | cons x t =>
    obtain ⟨l, hL⟩ : ∃ l, x :: t = l := ⟨_, rfl⟩
    have h0 : l[0]? = some x := by rw [← hL]; rfl
    have h1 : 0 < l.length := by rw [← hL]; simp
    rw [hL] at hl h ⊢
    clear hL
    have hz := bs_size l
    have hg0 : (bs l)[0]? = some x := by rw [ba_get, show (bs l).data.toList = l from by simp [bs]]; exact h0
    have hx := x.toNat_lt
    have hw1 : IntKind.i64.wrap ((x.toNat : Nat) : Int) = ((x.toNat : Nat) : Int) := i64_in (by omega) (by omega)
    have hne : decide (bs l = (⟨#[]⟩ : ByteArray)) = false := decide_eq_false fun e => by
      have := congrArg ByteArray.size e
      rw [bs_size] at this
      have : (⟨#[]⟩ : ByteArray).size = 0 := rfl
      omega
    have c0 : decide ((0 : Int) < (l.length : Int)) = true := decide_eq_true (by omega)
    by_cases hx12 : x.toNat > 12
    · have c1 : decide (((x.toNat : Nat) : Int) > 12) = true := decide_eq_true (by omega)
      clear hl h h0 h1 hx hx12
      (refine (evF_code (C := cfg) (g := 32) (fn := Tryz.f32) rfl Tryz.func32 rfl (by rw [Tryz.ntmps32]; simp) (by kernel_rfl) (by first | decide | simp [keysOf])).trans ?_; rw [Tryz.results32, Tryz.ntmps32])
      repeat' (first | with_reducible refine br_split (fun _ => ?_) (fun _ => ?_) | simp only [*, push_cast, Array.reduceGetElem?, Nat.reduceBEq, Nat.reduceLT, Nat.reduceAdd, Nat.reduceSub, Nat.reduceLeDiff, Nat.reduceMul, Nat.reduceEqDiff, reduceCtorEq, Int.reduceAdd, Int.reduceLT, Int.reduceLE, Int.reduceToNat, Int.reduceNeg, Int.reduceSub, Int.reduceBEq, Int.reduceBNe, Int.reduceNe, Int.reduceGT, Int.reduceGE, Nat.reduceGT] | (rw [drawC_ok]; rotate_left; decide +kernel; exact cfg_mixed))
    · obtain ⟨W, hW⟩ : ∃ W, x.toNat = W := ⟨_, rfl⟩
      have hw2 : IntKind.i64.wrap ((x.toNat : Nat) : Int) = (W : Int) := by rw [hw1, hW]
      have c1 : decide ((W : Int) > 12) = false := decide_eq_false (by omega)
      have H := Hd.mk (And.intro h (And.intro hl (And.intro h1 (show W ≤ 12 by omega))))
      clear hl h h0 h1 hx hx12 hw1 hW
      (refine (evF_code (C := cfg) (g := 32) (fn := Tryz.f32) rfl Tryz.func32 rfl (by rw [Tryz.ntmps32]; simp) (by kernel_rfl) (by first | decide | simp [keysOf])).trans ?_; rw [Tryz.results32, Tryz.ntmps32])
      repeat' (first | with_reducible refine br_split (fun _ => ?_) (fun _ => ?_) | simp only [*, push_cast, Array.reduceGetElem?, Nat.reduceBEq, Nat.reduceLT, Nat.reduceAdd, Nat.reduceSub, Nat.reduceLeDiff, Nat.reduceMul, Nat.reduceEqDiff, reduceCtorEq, Int.reduceAdd, Int.reduceLT, Int.reduceLE, Int.reduceToNat, Int.reduceNeg, Int.reduceSub, Int.reduceBEq, Int.reduceBNe, Int.reduceNe, Int.reduceGT, Int.reduceGE, Nat.reduceGT] | (rw [drawC_ok]; rotate_left; decide +kernel; exact cfg_mixed))
      rw [show ([] : List (List T)) = ([] : List C).map cC from rfl]
      generalize hE : evM cfg _ _ _ _ _ = RR
      have key : ∃ r, RR = some r ∧ (r = (Exit.ret, { t := [(2, .ptr 50 0), (3, .d (.b false))], o := [(50, .box [.d (.i .i64 0), .nl])], ks := [50], n := 0, sz := 83, u := noU }) ∨ ∃ rows : List C, (rows.length ≤ 401 ∧ ∀ c ∈ rows, c.row.length ≤ 12 ∧ ∀ v ∈ c.row, w64 v.n = v.n) ∧ r = (Exit.exit 0, { t := [(0, .d (.s (bs l))), (2, .ptr 50 0), (4, .ptr 51 0)], o := [(50, .box [.d (.i .i64 0), .nl]), (51, .box [.d (.i .i64 (W : Nat)), .own 52]), (52, .arr .any 2 (rows.map cC))], ks := [50, 51, 52], n := 0, sz := 83, u := noU })) := by
        rw [← hE]
        refine evM_ex (α := GS) (fun z => { t := [(0, .d (.s (bs l))), (2, .ptr 50 0), (4, .ptr 51 0), (5, .d (.i .i64 (z.i : Nat)))], o := [(50, .box [.d (.i .i64 0), .nl]), (51, .box [.d (.i .i64 (W : Nat)), .own 52]), (52, .arr .any 2 (z.rows.map cC))], ks := [50, 51, 52], n := 0, sz := 83, u := noU })
          (fun _ r => r = (Exit.ret, { t := [(2, .ptr 50 0), (3, .d (.b false))], o := [(50, .box [.d (.i .i64 0), .nl])], ks := [50], n := 0, sz := 83, u := noU }) ∨ ∃ rows : List C, (rows.length ≤ 401 ∧ ∀ c ∈ rows, c.row.length ≤ 12 ∧ ∀ v ∈ c.row, w64 v.n = v.n) ∧ r = (Exit.exit 0, { t := [(0, .d (.s (bs l))), (2, .ptr 50 0), (4, .ptr 51 0)], o := [(50, .box [.d (.i .i64 0), .nl]), (51, .box [.d (.i .i64 (W : Nat)), .own 52]), (52, .arr .any 2 (rows.map cC))], ks := [50, 51, 52], n := 0, sz := 83, u := noU }))
          (fun z => z.i ≤ l.length ∧ z.rows.length ≤ 401 ∧ ∀ c ∈ z.rows, c.row.length ≤ 12 ∧ ∀ v ∈ c.row, w64 v.n = v.n) (fun z => l.length - z.i) ?_ ⟨[], 1⟩ ⟨by have := H.out.2.2.1; show 1 ≤ l.length; omega, by simp, fun _ h => (nomatch h)⟩
        clear hE RR hne hg0 hw2 c1 c0
        rintro ⟨rows, i⟩ ⟨hi, hr, hrow⟩ ih
        simp only at hi hr hrow ih ⊢
        obtain ⟨h, hl, h1, hW⟩ := H.out
        by_cases hc : i < l.length
        · have c5 := dec_lt hc
          by_cases hr4 : rows.length ≤ 400
          · have c4 : decide ((rows.length : Int) ≤ 400) = true := decide_eq_true (by omega)
            obtain ⟨_, e1, ⟨vk, vn, vs⟩, k, hvn, hk, rfl⟩ := ev_GetValue_any l hl i (by omega)
            refine exQ fun Q hQ => ?_
            have HQ := Hd.mk hQ; clear hQ
            have H2 := Hd.mk (And.intro hi (And.intro hr (And.intro hrow (And.intro ih (And.intro hvn (And.intro hk (And.intro hc hr4)))))))
            clear hi hr hrow ih hvn hk h hl h1 hW hc hr4
            repeat' (first | with_reducible refine br_split (fun _ => ?_) (fun _ => ?_) | simp only [*, push_cast, Array.reduceGetElem?, Nat.reduceBEq, Nat.reduceLT, Nat.reduceAdd, Nat.reduceSub, Nat.reduceLeDiff, Nat.reduceMul, Nat.reduceEqDiff, reduceCtorEq, Int.reduceAdd, Int.reduceLT, Int.reduceLE, Int.reduceToNat, Int.reduceNeg, Int.reduceSub, Int.reduceBEq, Int.reduceBNe, Int.reduceNe, Int.reduceGT, Int.reduceGE, Nat.reduceGT] | (rw [drawC_ok]; rotate_left; decide +kernel; exact cfg_mixed))
            rw [show ([] : List (List T)) = ([] : List V).map vC from rfl]
            generalize hE : evM cfg _ _ _ _ _ = RR
            have key : ∃ z, RR = some z ∧ ∃ (vals : List V) (i' : Int), vals.length ≤ 12 ∧ (∀ v ∈ vals, w64 v.n = v.n) ∧ (i' = -1 ∨ ∃ t : Nat, i' = t ∧ i < t ∧ t ≤ l.length) ∧ z = (Exit.exit 2, { t := [(0, .d (.s (bs l))), (2, .ptr 50 0), (4, .ptr 51 0), (5, .d (.i .i64 i')), (8, .ptr 52 0)], o := [(50, .box [.d (.i .i64 0), .nl]), (51, .box [.d (.i .i64 (W : Nat)), .own 53]), (52, .box [.own 54, .d (.i .i64 vn)]), (53, .arr .any 2 (rows.map cC)), (54, .arr .any 3 (vals.map vC))], ks := [50, 51, 52, 53, 54], n := 0, sz := 83, u := noU }) := by
              rw [← hE]
              refine evM_ex (α := HS) (fun y => { t := [(0, .d (.s (bs l))), (2, .ptr 50 0), (4, .ptr 51 0), (5, .d (.i .i64 y.i)), (8, .ptr 52 0), (9, .d (.i .i64 (y.vals.length : Nat)))], o := [(50, .box [.d (.i .i64 0), .nl]), (51, .box [.d (.i .i64 (W : Nat)), .own 53]), (52, .box [.own 54, .d (.i .i64 vn)]), (53, .arr .any 2 (rows.map cC)), (54, .arr .any 3 (y.vals.map vC))], ks := [50, 51, 52, 53, 54], n := 0, sz := 83, u := noU })
                (fun _ z => ∃ (vals : List V) (i' : Int), vals.length ≤ 12 ∧ (∀ v ∈ vals, w64 v.n = v.n) ∧ (i' = -1 ∨ ∃ t : Nat, i' = t ∧ i < t ∧ t ≤ l.length) ∧ z = (Exit.exit 2, { t := [(0, .d (.s (bs l))), (2, .ptr 50 0), (4, .ptr 51 0), (5, .d (.i .i64 i')), (8, .ptr 52 0)], o := [(50, .box [.d (.i .i64 0), .nl]), (51, .box [.d (.i .i64 (W : Nat)), .own 53]), (52, .box [.own 54, .d (.i .i64 vn)]), (53, .arr .any 2 (rows.map cC)), (54, .arr .any 3 (vals.map vC))], ks := [50, 51, 52, 53, 54], n := 0, sz := 83, u := noU }))
                (fun y => y.vals.length ≤ W ∧ (∀ v ∈ y.vals, w64 v.n = v.n) ∧ (y.i = -1 ∨ ∃ t : Nat, y.i = t ∧ i < t ∧ t ≤ l.length)) (fun y => W - y.vals.length) ?_ ⟨[], k⟩ ⟨Nat.zero_le _, fun _ h => (nomatch h), H2.out.2.2.2.2.2.1⟩
              clear hE RR e1
              rintro ⟨vals, i'⟩ ⟨hq, hvals, hp⟩ ih
              simp only at hq hvals hp ih ⊢
              obtain ⟨h, hl, h1, hW⟩ := H.out
              have hil := H2.out.1
              by_cases hqc : vals.length < W
              · have c6 : decide ((vals.length : Int) < (W : Int)) = true := decide_eq_true (by omega)
                rcases hp with rfl | ⟨t, rfl, ht1, ht2⟩
                · have c7 : decide ((-1 : Int) ≥ 0) = false := rfl
                  refine ⟨_, ?_, vals, -1, by omega, hvals, .inl rfl, rfl⟩
                  clear ih hq hvals h hl h1 hW hil hqc
                  repeat' (first | with_reducible refine br_split (fun _ => ?_) (fun _ => ?_) | simp only [*, push_cast, Array.reduceGetElem?, Nat.reduceBEq, Nat.reduceLT, Nat.reduceAdd, Nat.reduceSub, Nat.reduceLeDiff, Nat.reduceMul, Nat.reduceEqDiff, reduceCtorEq, Int.reduceAdd, Int.reduceLT, Int.reduceLE, Int.reduceToNat, Int.reduceNeg, Int.reduceSub, Int.reduceBEq, Int.reduceBNe, Int.reduceNe, Int.reduceGT, Int.reduceGE, Nat.reduceGT] | (rw [drawC_ok]; rotate_left; decide +kernel; exact cfg_mixed))
                · have c7 : decide ((t : Int) ≥ 0) = true := decide_eq_true (by omega)
                  have w1 : IntKind.i64.wrap ((vals.length : Int) + 1) = (vals.length : Int) + 1 := wrap_succ (by omega)
                  obtain ⟨_, e1, ⟨vk, vn', vs⟩, k', hvn, hk, rfl⟩ := ev_GetValue_any l hl t ht2
                  have h3 : vals.map vC ++ [[.i .i64 vk, .i .i64 vn', .s vs]] = (vals ++ [(⟨vk, vn', vs⟩ : V)]).map vC := by rw [List.map_append]; rfl
                  have h4 := len_ok (n := vals.length + 1) 32 (by omega) (by omega)
                  obtain ⟨z, hz1, hz2⟩ := ih ⟨vals ++ [(⟨vk, vn', vs⟩ : V)], k'⟩ ⟨by simp; omega, fun v hv => by
                    rcases List.mem_append.1 hv with hv | hv
                    · exact hvals v hv
                    · rw [List.mem_singleton.1 hv]; exact hvn, by
                    rcases hk with hk | ⟨t', hk, hk1, hk2⟩
                    · exact .inl hk
                    · exact .inr ⟨t', hk, by omega, hk2⟩⟩ (by simp; omega)
                  refine ⟨z, ?_, hz2⟩
                  simp only [List.length_append, List.length_singleton] at hz1
                  rw [show ((vals.length + 1 : Nat) : Int) = (vals.length : Int) + 1 from rfl] at hz1
                  clear ih hq hvals h hl h1 hW hil hqc hvn hk ht1 ht2 hz2
                  repeat' (first | with_reducible refine br_split (fun _ => ?_) (fun _ => ?_) | simp only [*, push_cast, Array.reduceGetElem?, Nat.reduceBEq, Nat.reduceLT, Nat.reduceAdd, Nat.reduceSub, Nat.reduceLeDiff, Nat.reduceMul, Nat.reduceEqDiff, reduceCtorEq, Int.reduceAdd, Int.reduceLT, Int.reduceLE, Int.reduceToNat, Int.reduceNeg, Int.reduceSub, Int.reduceBEq, Int.reduceBNe, Int.reduceNe, Int.reduceGT, Int.reduceGE, Nat.reduceGT] | (rw [drawC_ok]; rotate_left; decide +kernel; exact cfg_mixed))
              · have c6 : decide ((vals.length : Int) < (W : Int)) = false := decide_eq_false (by omega)
                refine ⟨_, ?_, vals, i', by omega, hvals, hp, rfl⟩
                clear ih hq hvals h hl h1 hW hil hqc hp
                repeat' (first | with_reducible refine br_split (fun _ => ?_) (fun _ => ?_) | simp only [*, push_cast, Array.reduceGetElem?, Nat.reduceBEq, Nat.reduceLT, Nat.reduceAdd, Nat.reduceSub, Nat.reduceLeDiff, Nat.reduceMul, Nat.reduceEqDiff, reduceCtorEq, Int.reduceAdd, Int.reduceLT, Int.reduceLE, Int.reduceToNat, Int.reduceNeg, Int.reduceSub, Int.reduceBEq, Int.reduceBNe, Int.reduceNe, Int.reduceGT, Int.reduceGE, Nat.reduceGT] | (rw [drawC_ok]; rotate_left; decide +kernel; exact cfg_mixed))
            obtain ⟨_, rfl, vals, i', p1, p2, p3, rfl⟩ := key
            obtain ⟨hi, hr, hrow, ih, hvn, hk, hc, hr4⟩ := H2.out
            clear hE
            rcases p3 with rfl | ⟨t, rfl, ht1, ht2⟩
            · have c8 : decide ((-1 : Int) < 0) = true := rfl
              clear hi hr hrow ih hvn hk hc hr4 p1 p2 H
              repeat' (first | with_reducible refine br_split (fun _ => ?_) (fun _ => ?_) | simp only [*, push_cast, Array.reduceGetElem?, Nat.reduceBEq, Nat.reduceLT, Nat.reduceAdd, Nat.reduceSub, Nat.reduceLeDiff, Nat.reduceMul, Nat.reduceEqDiff, reduceCtorEq, Int.reduceAdd, Int.reduceLT, Int.reduceLE, Int.reduceToNat, Int.reduceNeg, Int.reduceSub, Int.reduceBEq, Int.reduceBNe, Int.reduceNe, Int.reduceGT, Int.reduceGE, Nat.reduceGT] | (rw [drawC_ok]; rotate_left; decide +kernel; exact cfg_mixed))
              exact HQ.out _ (.inl rfl)
            · have c8 : decide ((t : Int) < 0) = false := decide_eq_false (by omega)
              have h3 : rows.map cC ++ [[.sl .any (vals.map vC), .i .i64 vn]] = (rows ++ [(⟨vals, vn⟩ : C)]).map cC := by rw [List.map_append]; rfl
              have h4 := len_ok (n := rows.length + 1) 32 (by omega) (by omega)
              obtain ⟨z, hz1, hz2⟩ := ih ⟨rows ++ [(⟨vals, vn⟩ : C)], t⟩ ⟨ht2, by simp; omega, fun c hc' => by
                rcases List.mem_append.1 hc' with hc' | hc'
                · exact hrow c hc'
                · rw [List.mem_singleton.1 hc']; exact ⟨p1, p2⟩⟩ (by simp only; omega)
              simp only at hz1
              have HZ := Hd.mk hz2
              clear hi hr hrow ih hvn hk hc hr4 p1 p2 ht1 ht2 hz2 H
              repeat' (first | with_reducible refine br_split (fun _ => ?_) (fun _ => ?_) | simp only [*, push_cast, Array.reduceGetElem?, Nat.reduceBEq, Nat.reduceLT, Nat.reduceAdd, Nat.reduceSub, Nat.reduceLeDiff, Nat.reduceMul, Nat.reduceEqDiff, reduceCtorEq, Int.reduceAdd, Int.reduceLT, Int.reduceLE, Int.reduceToNat, Int.reduceNeg, Int.reduceSub, Int.reduceBEq, Int.reduceBNe, Int.reduceNe, Int.reduceGT, Int.reduceGE, Nat.reduceGT] | (rw [drawC_ok]; rotate_left; decide +kernel; exact cfg_mixed))
              exact HQ.out _ HZ.out
          · have c4 : decide ((rows.length : Int) ≤ 400) = false := decide_eq_false (by omega)
            refine ⟨_, ?_, .inr ⟨rows, ⟨hr, hrow⟩, rfl⟩⟩
            clear ih hi hr hrow h hl h1 hW hc hr4
            repeat' (first | with_reducible refine br_split (fun _ => ?_) (fun _ => ?_) | simp only [*, push_cast, Array.reduceGetElem?, Nat.reduceBEq, Nat.reduceLT, Nat.reduceAdd, Nat.reduceSub, Nat.reduceLeDiff, Nat.reduceMul, Nat.reduceEqDiff, reduceCtorEq, Int.reduceAdd, Int.reduceLT, Int.reduceLE, Int.reduceToNat, Int.reduceNeg, Int.reduceSub, Int.reduceBEq, Int.reduceBNe, Int.reduceNe, Int.reduceGT, Int.reduceGE, Nat.reduceGT] | (rw [drawC_ok]; rotate_left; decide +kernel; exact cfg_mixed))
        · have c5 : decide ((i : Int) < (l.length : Int)) = false := decide_eq_false (by omega)
          refine ⟨_, ?_, .inr ⟨rows, ⟨hr, hrow⟩, rfl⟩⟩
          clear ih hi hr hrow h hl h1 hW hc
          repeat' (first | with_reducible refine br_split (fun _ => ?_) (fun _ => ?_) | simp only [*, push_cast, Array.reduceGetElem?, Nat.reduceBEq, Nat.reduceLT, Nat.reduceAdd, Nat.reduceSub, Nat.reduceLeDiff, Nat.reduceMul, Nat.reduceEqDiff, reduceCtorEq, Int.reduceAdd, Int.reduceLT, Int.reduceLE, Int.reduceToNat, Int.reduceNeg, Int.reduceSub, Int.reduceBEq, Int.reduceBNe, Int.reduceNe, Int.reduceGT, Int.reduceGE, Nat.reduceGT] | (rw [drawC_ok]; rotate_left; decide +kernel; exact cfg_mixed))
      obtain ⟨_, rfl, rfl | ⟨rows, ⟨p1, p2⟩, rfl⟩⟩ := key
      · clear hE H
        repeat' (first | with_reducible refine br_split (fun _ => ?_) (fun _ => ?_) | simp only [*, push_cast, Array.reduceGetElem?, Nat.reduceBEq, Nat.reduceLT, Nat.reduceAdd, Nat.reduceSub, Nat.reduceLeDiff, Nat.reduceMul, Nat.reduceEqDiff, reduceCtorEq, Int.reduceAdd, Int.reduceLT, Int.reduceLE, Int.reduceToNat, Int.reduceNeg, Int.reduceSub, Int.reduceBEq, Int.reduceBNe, Int.reduceNe, Int.reduceGT, Int.reduceGE, Nat.reduceGT] | (rw [drawC_ok]; rotate_left; decide +kernel; exact cfg_mixed))
      · obtain ⟨h, hl, h1, hW⟩ := H.out
        have hpb := ev_sPutBag (W : Nat) rows (by omega) (fun c hc => by have := (p2 c hc).1; omega)
        have hpe : decide (bs (pbL ⟨(W : Nat), rows⟩) = bs l) = false := decide_eq_false fun e => by
          have e := bs_inj e
          cases hb : bagOk ⟨(W : Nat), rows⟩ with
          | true => exact h _ ⟨hb, fun c hc v hv => (p2 c hc).2 v hv⟩ e.symm
          | false =>
            simp only [pbL, hb, Bool.false_eq_true, if_false] at e
            rw [← e] at h1
            simp at h1
        clear hE H h hl h1 hW p1 p2
        repeat' (first | with_reducible refine br_split (fun _ => ?_) (fun _ => ?_) | simp only [*, push_cast, Array.reduceGetElem?, Nat.reduceBEq, Nat.reduceLT, Nat.reduceAdd, Nat.reduceSub, Nat.reduceLeDiff, Nat.reduceMul, Nat.reduceEqDiff, reduceCtorEq, Int.reduceAdd, Int.reduceLT, Int.reduceLE, Int.reduceToNat, Int.reduceNeg, Int.reduceSub, Int.reduceBEq, Int.reduceBNe, Int.reduceNe, Int.reduceGT, Int.reduceGE, Nat.reduceGT] | (rw [drawC_ok]; rotate_left; decide +kernel; exact cfg_mixed))
end Go.Av
end

section
namespace Go.Av
open Go.Proofs
set_option linter.unusedSimpArgs false
theorem canOk_topT (w : Int) (b : Bool) (f : Nat → C → List T) (l : List C) (h : ∀ k x, Nm [k] (tkCs (f k x))) : canOk (.tup [.agg [.d (.i .i64 w), .d (.sl (.tok [l.length]) (l.mapIdx f))], .d (.b b)]) [] := by
  have := canOk_top f l h
  simpa [canOk, tkTV, tkL, tkT, tkO, flatTV, flatL, arrO, keysOf] using this
theorem ev_GetBag_yes (w : Int) (rows : List C) (h : OkB ⟨w, rows⟩) (hl : (kb w :: rows.flatMap rowB).length ≤ 1048576) : evF cfg 35 [] [.d (.s (bs (kb w :: rows.flatMap rowB)))] = some (.tup [.agg [.d (.i .i64 w), .d (.sl (.tok [0, 0, 1]) (cnEs [0, 0, 1] 0 (rows.map cC)))], .d (.b true)], []) := by
  have hcan := canOk_topT w true (cZ fun i => [i]) rows (cZ_nm fun i => ⟨[], rfl⟩)
  obtain ⟨l, hL⟩ : ∃ l, kb w :: rows.flatMap rowB = l := ⟨_, rfl⟩
  have h0 : takeP 1 (l.drop 0) = some ([kb w], l.drop 1) := by rw [← hL]; simp [takeP]
  have hz := bs_size l
  have h1 : 0 < l.length := by rw [← hL]; simp
  have h1' : l.drop 1 = (rows.drop 0).flatMap rowB := by rw [← hL]; rfl
  rw [hL] at hl ⊢
  clear hL
  obtain ⟨hb1, hb2⟩ := bagOk_len h.ok
  have hww : 0 ≤ w ∧ w ≤ 12 := by
    have := h.ok
    simp only [bagOk, Bool.and_eq_true, decide_eq_true_eq] at this
    exact this.1
  have hkb := kb_nat hww.1 hww.2
  have e0 := ev_size_some l hl 0 1 1 (by omega) rfl h0
  rw [beV_in (m := 1) rfl (by omega), beV1, hkb, show ((0 : Nat) : Int) = 0 from rfl, show ((1 : Nat) : Int) = 1 from rfl] at e0
  have c1 : decide (w > 12) = false := decide_eq_false (by omega)
  have hok := ev_BagOk w rows (by have := hb1; simp only at this; omega) (fun c hc => by have := (hb2 c hc).1; omega)
  rw [h.ok] at hok
  have H := Hd.mk (And.intro h (And.intro hl (And.intro h1' (And.intro hww (And.intro hb1 (show 1 ≤ l.length by omega))))))
  clear h hl h0 h1 h1' hb1 hb2 hww hkb
  (refine (evF_codeZ (C := cfg) (g := 35) (fn := Tryz.f35) rfl Tryz.func35 rfl (by rw [Tryz.ntmps35]; simp) (by kernel_rfl)).trans ?_; rw [Tryz.results35, Tryz.ntmps35])
  repeat' (first | with_reducible refine br_split (fun _ => ?_) (fun _ => ?_) | simp only [*, push_cast, Array.reduceGetElem?, Nat.reduceBEq, Nat.reduceLT, Nat.reduceAdd, Nat.reduceSub, Nat.reduceLeDiff, Nat.reduceMul, Nat.reduceEqDiff, reduceCtorEq, Int.reduceAdd, Int.reduceLT, Int.reduceLE, Int.reduceToNat, Int.reduceNeg, Int.reduceSub, Int.reduceBEq, Int.reduceBNe, Int.reduceNe, Int.reduceGT, Int.reduceGE, Nat.reduceGT] | (rw [drawC_ok]; rotate_left; decide +kernel; exact cfg_mixed))
  rw [show ([] : List (List T)) = (rows.take 0).mapIdx (cZ fun i => [i]) from rfl]
  generalize hE : evM cfg _ _ _ _ _ = RR
  have key : ∃ r, RR = some r ∧ r = (Exit.exit 0, { t := [(2, .ptr 50 0), (4, .ptr 51 0), (5, .ptr 52 0)], o := [(50, .box [.d (.i .i64 0), .nl]), (51, .box [.d (.s (bs l)), .d (.i .i64 (l.length : Nat)), .d (.b false)]), (52, .box [.d (.i .i64 w), .own 53]), (53, .arr .any 2 (rows.mapIdx (cZ fun i => [i])))], ks := [50, 51, 52, 53], n := 0, sz := 76, u := noU, g := some (rows.length, false) }) := by
    rw [← hE]
    refine evM_ex (α := Nat × Nat) (fun z => { t := [(0, .d (.s (bs l))), (2, .ptr 50 0), (4, .ptr 51 0), (5, .ptr 52 0)], o := [(50, .box [.d (.i .i64 0), .nl]), (51, .box [.d (.s (bs l)), .d (.i .i64 (z.2 : Nat)), .d (.b false)]), (52, .box [.d (.i .i64 w), .own 53]), (53, .arr .any 2 ((rows.take z.1).mapIdx (cZ fun i => [i])))], ks := [50, 51, 52, 53], n := 0, sz := 76, u := noU, g := some (z.1, false) })
      (fun _ r => r = (Exit.exit 0, { t := [(2, .ptr 50 0), (4, .ptr 51 0), (5, .ptr 52 0)], o := [(50, .box [.d (.i .i64 0), .nl]), (51, .box [.d (.s (bs l)), .d (.i .i64 (l.length : Nat)), .d (.b false)]), (52, .box [.d (.i .i64 w), .own 53]), (53, .arr .any 2 (rows.mapIdx (cZ fun i => [i])))], ks := [50, 51, 52, 53], n := 0, sz := 76, u := noU, g := some (rows.length, false) }))
      (fun z => z.1 ≤ rows.length ∧ z.2 ≤ l.length ∧ l.drop z.2 = (rows.drop z.1).flatMap rowB) (fun z => rows.length - z.1) ?_ (0, 1) ⟨Nat.zero_le _, H.out.2.2.2.2.2, H.out.2.2.1⟩
    clear hE RR hok c1 hcan e0
    rintro ⟨r, i⟩ ⟨hr, hi, hd⟩ ih
    simp only at hr hi hd ih ⊢
    obtain ⟨h, hl, h1, hww, hb1, -⟩ := H.out
    simp only at hb1
    have hat := rows_at hd hi hr
    by_cases hc : r < rows.length
    · have hil : i < l.length := hat.2 hc
      have c5 := dec_lt hil
      obtain ⟨g1, g2, g3⟩ := h.row (List.getElem_mem hc)
      have hh := rows_head hd hc
      obtain ⟨_, e1, ⟨v, k, hv, hik, hk, rfl⟩ | ⟨hv, -⟩⟩ := ev_value l hl i hi
      · rw [hh, valP_num g3] at hv
        simp only [Option.some.injEq, Prod.mk.injEq] at hv
        obtain ⟨rfl, hv⟩ := hv
        simp only [numV] at e1
        refine exQ fun Q hQ => ?_
        have HQ := Hd.mk hQ; clear hQ
        have H2 := Hd.mk (And.intro hr (And.intro hi (And.intro hd (And.intro ih (And.intro hik (And.intro hk hv))))))
        have H3 := Hd.mk (And.intro g1 (And.intro g2 hc))
        have n1 : ((1 : Int) != 1) = false := rfl
        clear hr hi hd ih hik hk hv h hl h1 hww hb1 hat g1 g2 g3 hh
        repeat' (first | with_reducible refine br_split (fun _ => ?_) (fun _ => ?_) | simp only [*, push_cast, Array.reduceGetElem?, Nat.reduceBEq, Nat.reduceLT, Nat.reduceAdd, Nat.reduceSub, Nat.reduceLeDiff, Nat.reduceMul, Nat.reduceEqDiff, reduceCtorEq, Int.reduceAdd, Int.reduceLT, Int.reduceLE, Int.reduceToNat, Int.reduceNeg, Int.reduceSub, Int.reduceBEq, Int.reduceBNe, Int.reduceNe, Int.reduceGT, Int.reduceGE, Nat.reduceGT] | (rw [drawC_ok]; rotate_left; decide +kernel; exact cfg_mixed))
        rw [show ([] : List (List T)) = (rows[r].row.take 0).map vC from rfl]
        generalize hE : evM cfg _ _ _ _ _ = RR
        have key : ∃ z, RR = some z ∧ ∃ i' : Nat, i' ≤ l.length ∧ l.drop i' = (rows.drop (r + 1)).flatMap rowB ∧ z = (Exit.exit 2, { t := [(0, .d (.s (bs l))), (2, .ptr 50 0), (4, .ptr 51 0), (5, .ptr 52 0), (7, .ptr 53 0)], o := [(50, .box [.d (.i .i64 0), .nl]), (51, .box [.d (.s (bs l)), .d (.i .i64 (i' : Nat)), .d (.b false)]), (52, .box [.d (.i .i64 w), .own 54]), (53, .box [.own 55, .d (.i .i64 rows[r].n)]), (54, .arr .any 2 ((rows.take r).mapIdx (cZ fun i => [i]))), (55, .arr .any 3 (rows[r].row.map vC))], ks := [50, 51, 52, 53, 54, 55], n := 0, sz := 76, u := noU, g := some (r, false) }) := by
          rw [← hE]
          refine evM_ex (α := Nat × Nat) (fun z => { t := [(0, .d (.s (bs l))), (2, .ptr 50 0), (4, .ptr 51 0), (5, .ptr 52 0), (7, .ptr 53 0), (48, .d (.i .i64 w)), (49, .d (.i .i64 (z.1 : Nat)))], o := [(50, .box [.d (.i .i64 0), .nl]), (51, .box [.d (.s (bs l)), .d (.i .i64 (z.2 : Nat)), .d (.b false)]), (52, .box [.d (.i .i64 w), .own 54]), (53, .box [.own 55, .d (.i .i64 rows[r].n)]), (54, .arr .any 2 ((rows.take r).mapIdx (cZ fun i => [i]))), (55, .arr .any 3 ((rows[r].row.take z.1).map vC))], ks := [50, 51, 52, 53, 54, 55], n := 0, sz := 76, u := noU, g := some (r, false) })
            (fun _ z => ∃ i' : Nat, i' ≤ l.length ∧ l.drop i' = (rows.drop (r + 1)).flatMap rowB ∧ z = (Exit.exit 2, { t := [(0, .d (.s (bs l))), (2, .ptr 50 0), (4, .ptr 51 0), (5, .ptr 52 0), (7, .ptr 53 0)], o := [(50, .box [.d (.i .i64 0), .nl]), (51, .box [.d (.s (bs l)), .d (.i .i64 (i' : Nat)), .d (.b false)]), (52, .box [.d (.i .i64 w), .own 54]), (53, .box [.own 55, .d (.i .i64 rows[r].n)]), (54, .arr .any 2 ((rows.take r).mapIdx (cZ fun i => [i]))), (55, .arr .any 3 (rows[r].row.map vC))], ks := [50, 51, 52, 53, 54, 55], n := 0, sz := 76, u := noU, g := some (r, false) }))
            (fun z => z.1 ≤ rows[r].row.length ∧ z.2 ≤ l.length ∧ l.drop z.2 = (rows[r].row.drop z.1).flatMap pvL ++ (rows.drop (r + 1)).flatMap rowB) (fun z => rows[r].row.length - z.1) ?_ (0, k) ⟨Nat.zero_le _, H2.out.2.2.2.2.2.1, H2.out.2.2.2.2.2.2.symm⟩
          clear hE RR e1 n1
          rintro ⟨q, i⟩ ⟨hq, hi, hd⟩ ih
          simp only at hq hi hd ih ⊢
          obtain ⟨g1, g2, hc⟩ := H3.out
          obtain ⟨h, hl, h1, hww, hb1, -⟩ := H.out
          simp only at g1
          by_cases hqc : q < rows[r].row.length
          · have c6 : decide ((q : Int) < w) = true := decide_eq_true (by omega)
            have hh := vals_head hqc ((rows.drop (r + 1)).flatMap rowB)
            rw [hh] at hd
            obtain ⟨v1, v2⟩ := g2 _ (List.getElem_mem hqc)
            have w1 : IntKind.i64.wrap ((q : Int) + 1) = (q : Int) + 1 := wrap_succ (by omega)
            obtain ⟨_, e1, ⟨v, k, hv, hik, hk, rfl⟩ | ⟨hv, -⟩⟩ := ev_value l hl i hi
            · rw [hd, valP_app v1 v2] at hv
              simp only [Option.some.injEq, Prod.mk.injEq] at hv
              obtain ⟨rfl, hv⟩ := hv
              have h3 : (rows[r].row.take q).map vC ++ [[.i .i64 rows[r].row[q].k, .i .i64 rows[r].row[q].n, .s rows[r].row[q].s]] = (rows[r].row.take (q + 1)).map vC := take_snoc vC hqc
              have h4 := len_ok (n := (rows[r].row.take q).length + 1) 32 (by rw [List.length_take]; omega) (by omega)
              obtain ⟨z, hz1, hz2⟩ := ih (q + 1, k) ⟨hqc, hk, hv.symm⟩ (by simp only; omega)
              refine ⟨z, ?_, hz2⟩
              simp only at hz1
              rw [show ((q + 1 : Nat) : Int) = (q : Int) + 1 from rfl] at hz1
              clear ih hq hi hd g1 g2 h hl h1 hww hb1 hh v1 v2 hik hk hv hz2
              repeat' (first | with_reducible refine br_split (fun _ => ?_) (fun _ => ?_) | simp only [*, push_cast, Array.reduceGetElem?, Nat.reduceBEq, Nat.reduceLT, Nat.reduceAdd, Nat.reduceSub, Nat.reduceLeDiff, Nat.reduceMul, Nat.reduceEqDiff, reduceCtorEq, Int.reduceAdd, Int.reduceLT, Int.reduceLE, Int.reduceToNat, Int.reduceNeg, Int.reduceSub, Int.reduceBEq, Int.reduceBNe, Int.reduceNe, Int.reduceGT, Int.reduceGE, Nat.reduceGT] | (rw [drawC_ok]; rotate_left; decide +kernel; exact cfg_mixed))
            · rw [hd, valP_app v1 v2] at hv
              cases hv
          · have c6 : decide ((q : Int) < w) = false := decide_eq_false (by omega)
            have hqe : q = rows[r].row.length := by omega
            have hd2 : l.drop i = (rows.drop (r + 1)).flatMap rowB := by
              rw [hd, hqe, List.drop_length]; rfl
            have hrr : rows[r].row.take q = rows[r].row := by rw [hqe]; exact List.take_length
            refine ⟨_, ?_, i, hi, hd2, rfl⟩
            clear ih hq hi hd g1 g2 h hl h1 hww hb1 hqc hqe hd2
            repeat' (first | with_reducible refine br_split (fun _ => ?_) (fun _ => ?_) | simp only [*, push_cast, Array.reduceGetElem?, Nat.reduceBEq, Nat.reduceLT, Nat.reduceAdd, Nat.reduceSub, Nat.reduceLeDiff, Nat.reduceMul, Nat.reduceEqDiff, reduceCtorEq, Int.reduceAdd, Int.reduceLT, Int.reduceLE, Int.reduceToNat, Int.reduceNeg, Int.reduceSub, Int.reduceBEq, Int.reduceBNe, Int.reduceNe, Int.reduceGT, Int.reduceGE, Nat.reduceGT] | (rw [drawC_ok]; rotate_left; decide +kernel; exact cfg_mixed))
        obtain ⟨_, rfl, i', p1, p2, rfl⟩ := key
        obtain ⟨g1, g2, hc⟩ := H3.out
        obtain ⟨hr, hi, hd, ih, hik, hk, hv⟩ := H2.out
        have h3 : (rows.take r).mapIdx (cZ fun i => [i]) ++ [[.sl (.tok [r]) (rows[r].row.map vC), .i .i64 rows[r].n]] = (rows.take (r + 1)).mapIdx (cZ fun i => [i]) := take_snocI (cZ fun i => [i]) hc
        have hb1 := H.out.2.2.2.2.1
        simp only at hb1
        have h4 := len_ok (n := (rows.take r).length + 1) 32 (by rw [List.length_take]; omega) (by omega)
        have h5 : ((rows.take r).mapIdx (cZ fun i => [i])).length = (rows.take r).length := by simp
        obtain ⟨z, hz1, hz2⟩ := ih (r + 1, i') ⟨hc, p1, p2⟩ (by simp only; omega)
        simp only at hz1
        have HZ := Hd.mk hz2
        clear hE hr hi hd ih hik hk hv g1 g2 p1 p2 hz2 hb1
        repeat' (first | with_reducible refine br_split (fun _ => ?_) (fun _ => ?_) | simp only [*, push_cast, Array.reduceGetElem?, Nat.reduceBEq, Nat.reduceLT, Nat.reduceAdd, Nat.reduceSub, Nat.reduceLeDiff, Nat.reduceMul, Nat.reduceEqDiff, reduceCtorEq, Int.reduceAdd, Int.reduceLT, Int.reduceLE, Int.reduceToNat, Int.reduceNeg, Int.reduceSub, Int.reduceBEq, Int.reduceBNe, Int.reduceNe, Int.reduceGT, Int.reduceGE, Nat.reduceGT] | (rw [drawC_ok]; rotate_left; decide +kernel; exact cfg_mixed))
        exact HQ.out _ HZ.out
      · rw [hh, valP_num g3] at hv
        cases hv
    · have hil : i = l.length := by
        have : ¬ i < l.length := fun h => hc (hat.1 h)
        omega
      have hrl : r = rows.length := by omega
      have c5 : decide ((l.length : Int) < (l.length : Int)) = false := decide_eq_false (by omega)
      refine ⟨_, ?_, rfl⟩
      have hrr : rows.take rows.length = rows := List.take_length
      clear ih hr hd hat h hl h1 hww hb1 hc
      subst hil
      subst hrl
      clear hi
      repeat' (first | with_reducible refine br_split (fun _ => ?_) (fun _ => ?_) | simp only [*, push_cast, Array.reduceGetElem?, Nat.reduceBEq, Nat.reduceLT, Nat.reduceAdd, Nat.reduceSub, Nat.reduceLeDiff, Nat.reduceMul, Nat.reduceEqDiff, reduceCtorEq, Int.reduceAdd, Int.reduceLT, Int.reduceLE, Int.reduceToNat, Int.reduceNeg, Int.reduceSub, Int.reduceBEq, Int.reduceBNe, Int.reduceNe, Int.reduceGT, Int.reduceGE, Nat.reduceGT] | (rw [drawC_ok]; rotate_left; decide +kernel; exact cfg_mixed))
  obtain ⟨_, rfl, rfl⟩ := key
  have hme : annEs .any (rows.mapIdx (cZ fun i => [i])) = rows.map cC := by
    rw [annEs_mapIdx (g := cC) (fun i x => by simp only [cZ, annCs, T.ann, er_vC]; rfl) rows]
  clear hE H
  repeat' (first | with_reducible refine br_split (fun _ => ?_) (fun _ => ?_) | simp only [*, push_cast, Array.reduceGetElem?, Nat.reduceBEq, Nat.reduceLT, Nat.reduceAdd, Nat.reduceSub, Nat.reduceLeDiff, Nat.reduceMul, Nat.reduceEqDiff, reduceCtorEq, Int.reduceAdd, Int.reduceLT, Int.reduceLE, Int.reduceToNat, Int.reduceNeg, Int.reduceSub, Int.reduceBEq, Int.reduceBNe, Int.reduceNe, Int.reduceGT, Int.reduceGE, Nat.reduceGT] | (rw [drawC_ok]; rotate_left; decide +kernel; exact cfg_mixed))
end Go.Av
end

section
namespace Go.Av
open Go.Proofs
set_option linter.unusedSimpArgs false
structure NS where
  rows : List C
  i : Nat
  bad : Bool
structure MS where
  vals : List V
  i : Nat
  bad : Bool
theorem numV_of {v : V} (h : valueOk v = true) (hk : v.k = 1) : v = numV v.n := by
  obtain ⟨k, n, s⟩ := v
  simp only at hk
  subst hk
  simp only [valueOk, show ¬ ((1 : Int) = 0) by decide, if_false, if_true, decide_eq_true_eq] at h
  rw [h]; rfl
/-- What a reader reads: a value, or it goes wrong. -/
theorem ev_value_any (l : List UInt8) (hl : l.length ≤ 1048576) (i : Nat) (hi : i ≤ l.length) (b : Bool) : ∃ r, evF cfg 70 [(0, .box [.d (.s (bs l)), .d (.i .i64 (i : Nat)), .d (.b b)])] [.ptr 0 0] = some r ∧
    ∃ (v : V) (i' : Nat) (b' : Bool), i' ≤ l.length ∧ (b' = false → b = false ∧ i < i' ∧ l.drop i = pvL v ++ l.drop i' ∧ valueOk v = true ∧ w64 v.n = v.n) ∧ r = (.agg [.d (.i .i64 v.k), .d (.i .i64 v.n), .d (.s v.s)], [(0, .box [.d (.s (bs l)), .d (.i .i64 (i' : Nat)), .d (.b b')])]) := by
  cases b with
  | true => exact ⟨_, ev_value_bad (bs l) i, ⟨0, 0, ⟨#[]⟩⟩, i, true, hi, fun h => (by cases h), rfl⟩
  | false =>
    obtain ⟨_, e1, ⟨v, k, hv, hik, hk, rfl⟩ | ⟨hv, v, k, hk, rfl⟩⟩ := ev_value l hl i hi
    · obtain ⟨h1, h2, h3⟩ := valP_some hv
      exact ⟨_, e1, v, k, false, hk, fun _ => ⟨rfl, hik, h1, h2, h3⟩, rfl⟩
    · exact ⟨_, e1, v, k, true, hk, fun h => (by cases h), rfl⟩
/-- What is read so far, where the reader is right. -/
def Read (l : List UInt8) (W : Nat) (rows : List C) (i : Nat) : Prop :=
  l.drop 1 = rows.flatMap rowB ++ l.drop i ∧ ∀ c ∈ rows, c.row.length = W ∧ ∀ v ∈ c.row, valueOk v = true ∧ w64 v.n = v.n
def ReadV (l : List UInt8) (i0 : Nat) (vals : List V) (i : Nat) : Prop :=
  l.drop i0 = vals.flatMap pvL ++ l.drop i ∧ ∀ v ∈ vals, valueOk v = true ∧ w64 v.n = v.n
theorem canNo : canOk (.tup [.agg [.d (.i .i64 0), .d (.sl .any [])], .d (.b false)]) [] := by
  simp [canOk, tkTV, tkL, tkT, tkO, flatTV, flatL, arrO, keysOf, tkEs, annTok]
theorem ev_GetBag_no (l : List UInt8) (hl : l.length ≤ 1048576) (h : ∀ b, OkB b → l ≠ pbL b) : evF cfg 35 [] [.d (.s (bs l))] = some (.tup [.agg [.d (.i .i64 0), .d (.sl (.tok [0, 0, 1]) [])], .d (.b false)], []) := by
  have hz := bs_size l
  have hcan := canNo
  cases l with
  | nil =>
    have e0 := ev_size_none [] hl 0 1 (Nat.le_refl _) rfl
    rw [show ((0 : Nat) : Int) = 0 from rfl, show ((1 : Nat) : Int) = 1 from rfl] at e0
    clear hl h
    (refine (evF_codeZ (C := cfg) (g := 35) (fn := Tryz.f35) rfl Tryz.func35 rfl (by rw [Tryz.ntmps35]; simp) (by kernel_rfl)).trans ?_; rw [Tryz.results35, Tryz.ntmps35])
    repeat' (first | with_reducible refine br_split (fun _ => ?_) (fun _ => ?_) | simp only [*, push_cast, Array.reduceGetElem?, Nat.reduceBEq, Nat.reduceLT, Nat.reduceAdd, Nat.reduceSub, Nat.reduceLeDiff, Nat.reduceMul, Nat.reduceEqDiff, reduceCtorEq, Int.reduceAdd, Int.reduceLT, Int.reduceLE, Int.reduceToNat, Int.reduceNeg, Int.reduceSub, Int.reduceBEq, Int.reduceBNe, Int.reduceNe, Int.reduceGT, Int.reduceGE, Nat.reduceGT] | (rw [drawC_ok]; rotate_left; decide +kernel; exact cfg_mixed))
  | cons x t =>
    obtain ⟨l, hL⟩ : ∃ l, x :: t = l := ⟨_, rfl⟩
    have h0 : takeP 1 (l.drop 0) = some ([x], l.drop 1) := by rw [← hL]; simp [takeP]
    have h1 : 0 < l.length := by rw [← hL]; simp
    have hxl : l = x :: l.drop 1 := by rw [← hL]; rfl
    rw [hL] at hl h hz ⊢
    clear hL
    have e0 := ev_size_some l hl 0 1 1 (by omega) rfl h0
    rw [beV_in (m := 1) rfl (by omega), beV1, show ((0 : Nat) : Int) = 0 from rfl, show ((1 : Nat) : Int) = 1 from rfl] at e0
    have hx := x.toNat_lt
    obtain ⟨W, hW⟩ : ∃ W, x.toNat = W := ⟨_, rfl⟩
    rw [hW] at e0
    by_cases hx12 : W > 12
    · have c1 : decide ((W : Int) > 12) = true := decide_eq_true (by omega)
      clear hl h h0 h1 hx hx12 hxl hW
      (refine (evF_codeZ (C := cfg) (g := 35) (fn := Tryz.f35) rfl Tryz.func35 rfl (by rw [Tryz.ntmps35]; simp) (by kernel_rfl)).trans ?_; rw [Tryz.results35, Tryz.ntmps35])
      repeat' (first | with_reducible refine br_split (fun _ => ?_) (fun _ => ?_) | simp only [*, push_cast, Array.reduceGetElem?, Nat.reduceBEq, Nat.reduceLT, Nat.reduceAdd, Nat.reduceSub, Nat.reduceLeDiff, Nat.reduceMul, Nat.reduceEqDiff, reduceCtorEq, Int.reduceAdd, Int.reduceLT, Int.reduceLE, Int.reduceToNat, Int.reduceNeg, Int.reduceSub, Int.reduceBEq, Int.reduceBNe, Int.reduceNe, Int.reduceGT, Int.reduceGE, Nat.reduceGT] | (rw [drawC_ok]; rotate_left; decide +kernel; exact cfg_mixed))
    · have c1 : decide ((W : Int) > 12) = false := decide_eq_false (by omega)
      have hkb : kb (W : Nat) = x := by
        unfold kb
        rw [dv_zero, u64_nn (by omega), ← hW, Nat.mod_eq_of_lt hx]
        simp
      have H := Hd.mk (And.intro h (And.intro hl (And.intro h1 (And.intro (show W ≤ 12 by omega) (And.intro hxl hkb)))))
      clear hl h h0 h1 hx hx12 hW hxl hkb
      (refine (evF_codeZ (C := cfg) (g := 35) (fn := Tryz.f35) rfl Tryz.func35 rfl (by rw [Tryz.ntmps35]; simp) (by kernel_rfl)).trans ?_; rw [Tryz.results35, Tryz.ntmps35])
      repeat' (first | with_reducible refine br_split (fun _ => ?_) (fun _ => ?_) | simp only [*, push_cast, Array.reduceGetElem?, Nat.reduceBEq, Nat.reduceLT, Nat.reduceAdd, Nat.reduceSub, Nat.reduceLeDiff, Nat.reduceMul, Nat.reduceEqDiff, reduceCtorEq, Int.reduceAdd, Int.reduceLT, Int.reduceLE, Int.reduceToNat, Int.reduceNeg, Int.reduceSub, Int.reduceBEq, Int.reduceBNe, Int.reduceNe, Int.reduceGT, Int.reduceGE, Nat.reduceGT] | (rw [drawC_ok]; rotate_left; decide +kernel; exact cfg_mixed))
      rw [show ([] : List (List T)) = ([] : List C).mapIdx (cZ fun i => [i]) from rfl]
      generalize hE : evM cfg _ _ _ _ _ = RR
      have key : ∃ r, RR = some r ∧ ((∃ n : Nat, r = (Exit.ret, { t := [(2, .ptr 50 0), (3, .d (.b false))], o := [(50, .box [.d (.i .i64 0), .nl])], ks := [50], n := 0, sz := 76, u := noU, g := some (n, false) })) ∨ ∃ (rows : List C) (i' : Nat) (b' : Bool), (rows.length ≤ l.length + 1 ∧ (∀ c ∈ rows, c.row.length ≤ 12) ∧ (b' = false → Read l W rows l.length)) ∧ r = (Exit.exit 0, { t := [(2, .ptr 50 0), (4, .ptr 51 0), (5, .ptr 52 0)], o := [(50, .box [.d (.i .i64 0), .nl]), (51, .box [.d (.s (bs l)), .d (.i .i64 (i' : Nat)), .d (.b b')]), (52, .box [.d (.i .i64 (W : Nat)), .own 53]), (53, .arr .any 2 (rows.mapIdx (cZ fun i => [i])))], ks := [50, 51, 52, 53], n := 0, sz := 76, u := noU, g := some (rows.length, false) })) := by
        rw [← hE]
        refine evM_ex (α := NS) (fun z => { t := [(0, .d (.s (bs l))), (2, .ptr 50 0), (4, .ptr 51 0), (5, .ptr 52 0)], o := [(50, .box [.d (.i .i64 0), .nl]), (51, .box [.d (.s (bs l)), .d (.i .i64 (z.i : Nat)), .d (.b z.bad)]), (52, .box [.d (.i .i64 (W : Nat)), .own 53]), (53, .arr .any 2 (z.rows.mapIdx (cZ fun i => [i])))], ks := [50, 51, 52, 53], n := 0, sz := 76, u := noU, g := some (z.rows.length, false) })
          (fun _ r => (∃ n : Nat, r = (Exit.ret, { t := [(2, .ptr 50 0), (3, .d (.b false))], o := [(50, .box [.d (.i .i64 0), .nl])], ks := [50], n := 0, sz := 76, u := noU, g := some (n, false) })) ∨ ∃ (rows : List C) (i' : Nat) (b' : Bool), (rows.length ≤ l.length + 1 ∧ (∀ c ∈ rows, c.row.length ≤ 12) ∧ (b' = false → Read l W rows l.length)) ∧ r = (Exit.exit 0, { t := [(2, .ptr 50 0), (4, .ptr 51 0), (5, .ptr 52 0)], o := [(50, .box [.d (.i .i64 0), .nl]), (51, .box [.d (.s (bs l)), .d (.i .i64 (i' : Nat)), .d (.b b')]), (52, .box [.d (.i .i64 (W : Nat)), .own 53]), (53, .arr .any 2 (rows.mapIdx (cZ fun i => [i])))], ks := [50, 51, 52, 53], n := 0, sz := 76, u := noU, g := some (rows.length, false) }))
          (fun z => z.i ≤ l.length ∧ z.rows.length ≤ l.length + 1 ∧ (∀ c ∈ z.rows, c.row.length ≤ 12) ∧ (z.bad = false → z.rows.length ≤ z.i ∧ Read l W z.rows z.i)) (fun z => if z.bad then 0 else l.length + 1 - z.i) ?_ ⟨[], 1, false⟩ ⟨H.out.2.2.1, by simp, fun _ h => (nomatch h), fun _ => ⟨by simp, rfl, fun _ h => (nomatch h)⟩⟩
        clear hE RR c1 e0 hcan
        rintro ⟨rows, i, bad⟩ ⟨hi, hr, hrow, hrd⟩ ih
        simp only at hi hr hrow hrd ih ⊢
        obtain ⟨h, hl, h1, hW, hxl, hkb⟩ := H.out
        cases bad with
        | true =>
          refine ⟨_, ?_, .inr ⟨rows, i, true, ⟨by omega, hrow, fun h => (by cases h)⟩, rfl⟩⟩
          clear ih hi hr hrow hrd h hl h1 hW hxl hkb
          repeat' (first | with_reducible refine br_split (fun _ => ?_) (fun _ => ?_) | simp only [*, push_cast, Array.reduceGetElem?, Nat.reduceBEq, Nat.reduceLT, Nat.reduceAdd, Nat.reduceSub, Nat.reduceLeDiff, Nat.reduceMul, Nat.reduceEqDiff, reduceCtorEq, Int.reduceAdd, Int.reduceLT, Int.reduceLE, Int.reduceToNat, Int.reduceNeg, Int.reduceSub, Int.reduceBEq, Int.reduceBNe, Int.reduceNe, Int.reduceGT, Int.reduceGE, Nat.reduceGT] | (rw [drawC_ok]; rotate_left; decide +kernel; exact cfg_mixed))
        | false =>
          obtain ⟨hri, hrd⟩ := hrd rfl
          by_cases hc : i < l.length
          · have c5 := dec_lt hc
            obtain ⟨_, e1, v, i1, b1, hi1, hv, rfl⟩ := ev_value_any l hl i hi false
            refine exQ fun Q hQ => ?_
            have HQ := Hd.mk hQ; clear hQ
            have H2 := Hd.mk (And.intro hi (And.intro hr (And.intro hrow (And.intro ih (And.intro hri (And.intro hrd (And.intro hi1 (And.intro hv hc))))))))
            clear hi hr hrow ih hri hrd hi1 hv h hl h1 hW hxl hkb hc
            by_cases hk : v.k = 1
            · have n1 : (v.k != 1) = false := by rw [hk]; rfl
              have HK := Hd.mk hk
              clear hk
              repeat' (first | with_reducible refine br_split (fun _ => ?_) (fun _ => ?_) | simp only [*, push_cast, Array.reduceGetElem?, Nat.reduceBEq, Nat.reduceLT, Nat.reduceAdd, Nat.reduceSub, Nat.reduceLeDiff, Nat.reduceMul, Nat.reduceEqDiff, reduceCtorEq, Int.reduceAdd, Int.reduceLT, Int.reduceLE, Int.reduceToNat, Int.reduceNeg, Int.reduceSub, Int.reduceBEq, Int.reduceBNe, Int.reduceNe, Int.reduceGT, Int.reduceGE, Nat.reduceGT] | (rw [drawC_ok]; rotate_left; decide +kernel; exact cfg_mixed))
              rw [show ([] : List (List T)) = ([] : List V).map vC from rfl]
              generalize hE : evM cfg _ _ _ _ _ = RR
              have key : ∃ z, RR = some z ∧ ∃ (vals : List V) (i' : Nat) (b' : Bool), vals.length = W ∧ i' ≤ l.length ∧ (b' = false → b1 = false ∧ i1 ≤ i' ∧ ReadV l i1 vals i') ∧ z = (Exit.exit 2, { t := [(0, .d (.s (bs l))), (2, .ptr 50 0), (4, .ptr 51 0), (5, .ptr 52 0), (7, .ptr 53 0)], o := [(50, .box [.d (.i .i64 0), .nl]), (51, .box [.d (.s (bs l)), .d (.i .i64 (i' : Nat)), .d (.b b')]), (52, .box [.d (.i .i64 (W : Nat)), .own 54]), (53, .box [.own 55, .d (.i .i64 v.n)]), (54, .arr .any 2 (rows.mapIdx (cZ fun i => [i]))), (55, .arr .any 3 (vals.map vC))], ks := [50, 51, 52, 53, 54, 55], n := 0, sz := 76, u := noU, g := some (rows.length, false) }) := by
                rw [← hE]
                refine evM_ex (α := MS) (fun y => { t := [(0, .d (.s (bs l))), (2, .ptr 50 0), (4, .ptr 51 0), (5, .ptr 52 0), (7, .ptr 53 0), (48, .d (.i .i64 (W : Nat))), (49, .d (.i .i64 (y.vals.length : Nat)))], o := [(50, .box [.d (.i .i64 0), .nl]), (51, .box [.d (.s (bs l)), .d (.i .i64 (y.i : Nat)), .d (.b y.bad)]), (52, .box [.d (.i .i64 (W : Nat)), .own 54]), (53, .box [.own 55, .d (.i .i64 v.n)]), (54, .arr .any 2 (rows.mapIdx (cZ fun i => [i]))), (55, .arr .any 3 (y.vals.map vC))], ks := [50, 51, 52, 53, 54, 55], n := 0, sz := 76, u := noU, g := some (rows.length, false) })
                  (fun _ z => ∃ (vals : List V) (i' : Nat) (b' : Bool), vals.length = W ∧ i' ≤ l.length ∧ (b' = false → b1 = false ∧ i1 ≤ i' ∧ ReadV l i1 vals i') ∧ z = (Exit.exit 2, { t := [(0, .d (.s (bs l))), (2, .ptr 50 0), (4, .ptr 51 0), (5, .ptr 52 0), (7, .ptr 53 0)], o := [(50, .box [.d (.i .i64 0), .nl]), (51, .box [.d (.s (bs l)), .d (.i .i64 (i' : Nat)), .d (.b b')]), (52, .box [.d (.i .i64 (W : Nat)), .own 54]), (53, .box [.own 55, .d (.i .i64 v.n)]), (54, .arr .any 2 (rows.mapIdx (cZ fun i => [i]))), (55, .arr .any 3 (vals.map vC))], ks := [50, 51, 52, 53, 54, 55], n := 0, sz := 76, u := noU, g := some (rows.length, false) }))
                  (fun y => y.vals.length ≤ W ∧ y.i ≤ l.length ∧ (y.bad = false → b1 = false ∧ i1 ≤ y.i ∧ ReadV l i1 y.vals y.i)) (fun y => W - y.vals.length) ?_ ⟨[], i1, b1⟩ ⟨Nat.zero_le _, H2.out.2.2.2.2.2.2.1, fun h => ⟨h, Nat.le_refl _, rfl, fun _ h => (nomatch h)⟩⟩
                clear hE RR e1 n1
                rintro ⟨vals, i', b'⟩ ⟨hq, hi', hrv⟩ ih
                simp only at hq hi' hrv ih ⊢
                obtain ⟨h, hl, h1, hW, hxl, hkb⟩ := H.out
                by_cases hqc : vals.length < W
                · have c6 : decide ((vals.length : Int) < (W : Int)) = true := decide_eq_true (by omega)
                  have w1 : IntKind.i64.wrap ((vals.length : Int) + 1) = (vals.length : Int) + 1 := wrap_succ (by omega)
                  obtain ⟨_, e1, ⟨vk, vn', vs⟩, k, b2, hk2, hv2, rfl⟩ := ev_value_any l hl i' hi' b'
                  have h3 : vals.map vC ++ [[.i .i64 vk, .i .i64 vn', .s vs]] = (vals ++ [(⟨vk, vn', vs⟩ : V)]).map vC := by rw [List.map_append]; rfl
                  have h4 := len_ok (n := vals.length + 1) 32 (by omega) (by omega)
                  obtain ⟨z, hz1, hz2⟩ := ih ⟨vals ++ [(⟨vk, vn', vs⟩ : V)], k, b2⟩ ⟨by simp; omega, hk2, fun hb => by
                    obtain ⟨g0, g1, g2, g3, g4⟩ := hv2 hb
                    obtain ⟨f0, f1, f2, f3⟩ := hrv g0
                    refine ⟨f0, by simp only; omega, ?_, fun v hv => ?_⟩
                    · rw [f2, g2]; simp
                    · rcases List.mem_append.1 hv with hv | hv
                      · exact f3 v hv
                      · rw [List.mem_singleton.1 hv]; exact ⟨g3, g4⟩⟩ (by simp; omega)
                  refine ⟨z, ?_, hz2⟩
                  simp only [List.length_append, List.length_singleton] at hz1
                  rw [show ((vals.length + 1 : Nat) : Int) = (vals.length : Int) + 1 from rfl] at hz1
                  clear ih hq hi' hrv h hl h1 hW hxl hkb hqc hk2 hv2 hz2
                  repeat' (first | with_reducible refine br_split (fun _ => ?_) (fun _ => ?_) | simp only [*, push_cast, Array.reduceGetElem?, Nat.reduceBEq, Nat.reduceLT, Nat.reduceAdd, Nat.reduceSub, Nat.reduceLeDiff, Nat.reduceMul, Nat.reduceEqDiff, reduceCtorEq, Int.reduceAdd, Int.reduceLT, Int.reduceLE, Int.reduceToNat, Int.reduceNeg, Int.reduceSub, Int.reduceBEq, Int.reduceBNe, Int.reduceNe, Int.reduceGT, Int.reduceGE, Nat.reduceGT] | (rw [drawC_ok]; rotate_left; decide +kernel; exact cfg_mixed))
                · have c6 : decide ((vals.length : Int) < (W : Int)) = false := decide_eq_false (by omega)
                  refine ⟨_, ?_, vals, i', b', by omega, hi', hrv, rfl⟩
                  clear ih hq hi' hrv h hl h1 hW hxl hkb hqc
                  repeat' (first | with_reducible refine br_split (fun _ => ?_) (fun _ => ?_) | simp only [*, push_cast, Array.reduceGetElem?, Nat.reduceBEq, Nat.reduceLT, Nat.reduceAdd, Nat.reduceSub, Nat.reduceLeDiff, Nat.reduceMul, Nat.reduceEqDiff, reduceCtorEq, Int.reduceAdd, Int.reduceLT, Int.reduceLE, Int.reduceToNat, Int.reduceNeg, Int.reduceSub, Int.reduceBEq, Int.reduceBNe, Int.reduceNe, Int.reduceGT, Int.reduceGE, Nat.reduceGT] | (rw [drawC_ok]; rotate_left; decide +kernel; exact cfg_mixed))
              obtain ⟨_, rfl, vals, i', b', p1, p2, p3, rfl⟩ := key
              obtain ⟨hi, hr, hrow, ih, hri, hrd, hi1, hv, hc⟩ := H2.out
              have hk := HK.out
              obtain ⟨h, hl, h1, hW, hxl, hkb⟩ := H.out
              have h3 : rows.mapIdx (cZ fun i => [i]) ++ [[.sl (.tok [rows.length]) (vals.map vC), .i .i64 v.n]] = (rows ++ [(⟨vals, v.n⟩ : C)]).mapIdx (cZ fun i => [i]) := by
                rw [List.mapIdx_append]; simp [cZ]
              have h4 := len_ok (n := rows.length + 1) 32 (by omega) (by omega)
              have h5 : (rows.mapIdx (cZ fun i => [i])).length = rows.length := by simp
              obtain ⟨z, hz1, hz2⟩ := ih ⟨rows ++ [(⟨vals, v.n⟩ : C)], i', b'⟩ ⟨p2, by
                simp only [List.length_append, List.length_singleton]; omega, fun c hc' => by
                rcases List.mem_append.1 hc' with hc' | hc'
                · exact hrow c hc'
                · rw [List.mem_singleton.1 hc']; simp only; omega, fun hb => by
                obtain ⟨f0, f1, f2, f3⟩ := p3 hb
                obtain ⟨g0, g1, g2, g3, g4⟩ := hv f0
                obtain ⟨r1, r2⟩ := hrd
                refine ⟨by simp; omega, ?_, fun c hc' => ?_⟩
                · rw [r1, g2, f2, numV_of g3 hk]; simp [rowB, numV]
                · rcases List.mem_append.1 hc' with hc' | hc'
                  · exact r2 c hc'
                  · rw [List.mem_singleton.1 hc']; exact ⟨p1, f3⟩⟩ (by
                cases b' with
                | true => simp only [if_true, Bool.false_eq_true, if_false]; omega
                | false =>
                  obtain ⟨f0, f1, -⟩ := p3 rfl
                  obtain ⟨-, g1, -⟩ := hv f0
                  simp only [Bool.false_eq_true, if_false]; omega)
              simp only [List.length_append, List.length_singleton] at hz1
              have HZ := Hd.mk hz2
              clear hE hi hr hrow ih hri hrd hi1 hv hc hk h hl h1 hW hxl hkb p1 p2 p3 hz2
              repeat' (first | with_reducible refine br_split (fun _ => ?_) (fun _ => ?_) | simp only [*, push_cast, Array.reduceGetElem?, Nat.reduceBEq, Nat.reduceLT, Nat.reduceAdd, Nat.reduceSub, Nat.reduceLeDiff, Nat.reduceMul, Nat.reduceEqDiff, reduceCtorEq, Int.reduceAdd, Int.reduceLT, Int.reduceLE, Int.reduceToNat, Int.reduceNeg, Int.reduceSub, Int.reduceBEq, Int.reduceBNe, Int.reduceNe, Int.reduceGT, Int.reduceGE, Nat.reduceGT] | (rw [drawC_ok]; rotate_left; decide +kernel; exact cfg_mixed))
              exact HQ.out _ HZ.out
            · have n1 : (v.k != 1) = true := by rw [bne_iff_ne]; exact hk
              clear hk
              repeat' (first | with_reducible refine br_split (fun _ => ?_) (fun _ => ?_) | simp only [*, push_cast, Array.reduceGetElem?, Nat.reduceBEq, Nat.reduceLT, Nat.reduceAdd, Nat.reduceSub, Nat.reduceLeDiff, Nat.reduceMul, Nat.reduceEqDiff, reduceCtorEq, Int.reduceAdd, Int.reduceLT, Int.reduceLE, Int.reduceToNat, Int.reduceNeg, Int.reduceSub, Int.reduceBEq, Int.reduceBNe, Int.reduceNe, Int.reduceGT, Int.reduceGE, Nat.reduceGT] | (rw [drawC_ok]; rotate_left; decide +kernel; exact cfg_mixed))
              exact HQ.out _ (.inl ⟨_, rfl⟩)
          · have c5 : decide ((i : Int) < (l.length : Int)) = false := decide_eq_false (by omega)
            have hie : i = l.length := by omega
            refine ⟨_, ?_, .inr ⟨rows, i, false, ⟨by omega, hrow, fun _ => by rw [← hie]; exact hrd⟩, rfl⟩⟩
            clear ih hi hr hrow hri hrd h hl h1 hW hxl hkb hc hie
            repeat' (first | with_reducible refine br_split (fun _ => ?_) (fun _ => ?_) | simp only [*, push_cast, Array.reduceGetElem?, Nat.reduceBEq, Nat.reduceLT, Nat.reduceAdd, Nat.reduceSub, Nat.reduceLeDiff, Nat.reduceMul, Nat.reduceEqDiff, reduceCtorEq, Int.reduceAdd, Int.reduceLT, Int.reduceLE, Int.reduceToNat, Int.reduceNeg, Int.reduceSub, Int.reduceBEq, Int.reduceBNe, Int.reduceNe, Int.reduceGT, Int.reduceGE, Nat.reduceGT] | (rw [drawC_ok]; rotate_left; decide +kernel; exact cfg_mixed))
      obtain ⟨_, rfl, ⟨n, rfl⟩ | ⟨rows, i', b', ⟨p0, p1, p2⟩, rfl⟩⟩ := key
      · clear hE H
        rw [List.mapIdx_nil]
        repeat' (first | with_reducible refine br_split (fun _ => ?_) (fun _ => ?_) | simp only [*, push_cast, Array.reduceGetElem?, Nat.reduceBEq, Nat.reduceLT, Nat.reduceAdd, Nat.reduceSub, Nat.reduceLeDiff, Nat.reduceMul, Nat.reduceEqDiff, reduceCtorEq, Int.reduceAdd, Int.reduceLT, Int.reduceLE, Int.reduceToNat, Int.reduceNeg, Int.reduceSub, Int.reduceBEq, Int.reduceBNe, Int.reduceNe, Int.reduceGT, Int.reduceGE, Nat.reduceGT] | (rw [drawC_ok]; rotate_left; decide +kernel; exact cfg_mixed))
      · obtain ⟨h, hl, h1, hW, hxl, hkb⟩ := H.out
        clear hE H
        rw [List.mapIdx_nil]
        cases b' with
        | true =>
          clear h hl h1 hW hxl hkb p0 p1 p2
          repeat' (first | with_reducible refine br_split (fun _ => ?_) (fun _ => ?_) | simp only [*, push_cast, Array.reduceGetElem?, Nat.reduceBEq, Nat.reduceLT, Nat.reduceAdd, Nat.reduceSub, Nat.reduceLeDiff, Nat.reduceMul, Nat.reduceEqDiff, reduceCtorEq, Int.reduceAdd, Int.reduceLT, Int.reduceLE, Int.reduceToNat, Int.reduceNeg, Int.reduceSub, Int.reduceBEq, Int.reduceBNe, Int.reduceNe, Int.reduceGT, Int.reduceGE, Nat.reduceGT] | (rw [drawC_ok]; rotate_left; decide +kernel; exact cfg_mixed))
        | false =>
          obtain ⟨r1, r2⟩ := p2 rfl
          have hme : annEs .any (rows.mapIdx (cZ fun i => [i])) = rows.map cC := by
            rw [annEs_mapIdx (g := cC) (fun i x => by simp only [cZ, annCs, T.ann, er_vC]; rfl) rows]
          have hok := ev_BagOk (W : Nat) rows (by omega) (fun c hc => by have := p1 c hc; omega)
          cases hb : bagOk ⟨(W : Nat), rows⟩ with
          | true =>
            refine absurd ?_ (h _ ⟨hb, fun c hc v hv => ((r2 c hc).2 v hv).2⟩)
            rw [List.drop_length, List.append_nil] at r1
            simp only [pbL, hb, if_true]
            rw [hkb, ← r1]
            exact hxl
          | false =>
            rw [hb] at hok
            clear h hl h1 hW hxl hkb p0 p1 p2 r1 r2 hb
            repeat' (first | with_reducible refine br_split (fun _ => ?_) (fun _ => ?_) | simp only [*, push_cast, Array.reduceGetElem?, Nat.reduceBEq, Nat.reduceLT, Nat.reduceAdd, Nat.reduceSub, Nat.reduceLeDiff, Nat.reduceMul, Nat.reduceEqDiff, reduceCtorEq, Int.reduceAdd, Int.reduceLT, Int.reduceLE, Int.reduceToNat, Int.reduceNeg, Int.reduceSub, Int.reduceBEq, Int.reduceBNe, Int.reduceNe, Int.reduceGT, Int.reduceGE, Nat.reduceGT] | (rw [drawC_ok]; rotate_left; decide +kernel; exact cfg_mixed))
end Go.Av
end
