/- Texts that the last one goes by: RD8, RD9, PT3, RDA, RDB, R1, RDC, RDD, RL1, RL4, K1, K2. -/
import Derived.Test.YtnbdlncbfjkpcaaGreatAvA7
import Derived.Test.YtnbdlncbfjkpcaaGreatAvA5
import Derived.Test.YtnbdlncbfjkpcaaGreatAvA6
import Derived.Test.YtnbdlncbfjkpcaaGreatAvA4
set_option linter.all false
set_option linter.unusedVariables false
set_option linter.unusedSimpArgs false
section
namespace Go.Av
open Go.Proofs
set_option linter.unusedSimpArgs false
theorem canOk_topT (w : Int) (b : Bool) (f : Nat → C → List T) (l : List C) (h : ∀ k x, Nm [k] (tkCs (f k x))) : canOk (.tup [.agg [.d (.i .i64 w), .d (.sl (.tok [l.length]) (l.mapIdx f))], .d (.b b)]) [] := by
  have := canOk_top f l h
  simpa [canOk, tkTV, tkL, tkT, tkO, flatTV, flatL, arrO, keysOf] using this
theorem ev_GetBag_yes (w : Int) (rows : List C) (h : OkB ⟨w, rows⟩) (hl : (kb w :: rows.flatMap rowB).length ≤ 1048576) : evF cfg 35 [] [.d (.s (bs (kb w :: rows.flatMap rowB)))] = some (.tup [.agg [.d (.i .i64 w), .d (.sl (.tok [0, 0, 1]) (cnEs [0, 0, 1] 0 (rows.map cC)))], .d (.b true)], []) := by
  have hcan := canOk_topT w true (cZ fun i => [i]) rows (cZ_nm fun i => ⟨[], rfl⟩)
  obtain ⟨l, hL⟩ : ∃ l, kb w :: rows.flatMap rowB = l := ⟨_, rfl⟩
  have h0 : takeP 1 (l.drop 0) = some ([kb w], l.drop 1) := by rw [← hL]; simp [takeP]
  have hz := bs_size l
  have h1 : 0 < l.length := by rw [← hL]; simp
  have h1' : l.drop 1 = (rows.drop 0).flatMap rowB := by rw [← hL]; rfl
  rw [hL] at hl ⊢
  clear hL
  obtain ⟨hb1, hb2⟩ := bagOk_len h.ok
  have hww : 0 ≤ w ∧ w ≤ 12 := by
    have := h.ok
    simp only [bagOk, Bool.and_eq_true, decide_eq_true_eq] at this
    exact this.1
  have hkb := kb_nat hww.1 hww.2
  have e0 := ev_size_some l hl 0 1 1 (by omega) rfl h0
  rw [beV_in (m := 1) rfl (by omega), beV1, hkb, show ((0 : Nat) : Int) = 0 from rfl, show ((1 : Nat) : Int) = 1 from rfl] at e0
  have c1 : decide (w > 12) = false := decide_eq_false (by omega)
  have hok := ev_BagOk w rows (by have := hb1; simp only at this; omega) (fun c hc => by have := (hb2 c hc).1; omega)
  rw [h.ok] at hok
  have H := Hd.mk (And.intro h (And.intro hl (And.intro h1' (And.intro hww (And.intro hb1 (show 1 ≤ l.length by omega))))))
  clear h hl h0 h1 h1' hb1 hb2 hww hkb
  (refine (evF_codeZ (C := cfg) (g := 35) (fn := Tryz.f35) rfl Tryz.func35 rfl (by rw [Tryz.ntmps35]; simp) (by kernel_rfl)).trans ?_; rw [Tryz.results35, Tryz.ntmps35])
  repeat' (first | with_reducible refine br_split (fun _ => ?_) (fun _ => ?_) | simp only [*, push_cast, simprocAttr] | (rw [drawC_ok]; rotate_left; decide +kernel; exact cfg_mixed))
  rw [show ([] : List (List T)) = (rows.take 0).mapIdx (cZ fun i => [i]) from rfl]
  generalize hE : evM cfg _ _ _ _ _ = RR
  have key : ∃ r, RR = some r ∧ r = (Exit.exit 0, { t := [(2, .ptr 50 0), (4, .ptr 51 0), (5, .ptr 52 0)], o := [(50, .box [.d (.i .i64 0), .nl]), (51, .box [.d (.s (bs l)), .d (.i .i64 (l.length : Nat)), .d (.b false)]), (52, .box [.d (.i .i64 w), .own 53]), (53, .arr .any 2 (rows.mapIdx (cZ fun i => [i])))], ks := [50, 51, 52, 53], n := 0, sz := 76, u := noU, g := some (rows.length, false) }) := by
    rw [← hE]
    refine evM_ex (α := Nat × Nat) (fun z => { t := [(0, .d (.s (bs l))), (2, .ptr 50 0), (4, .ptr 51 0), (5, .ptr 52 0)], o := [(50, .box [.d (.i .i64 0), .nl]), (51, .box [.d (.s (bs l)), .d (.i .i64 (z.2 : Nat)), .d (.b false)]), (52, .box [.d (.i .i64 w), .own 53]), (53, .arr .any 2 ((rows.take z.1).mapIdx (cZ fun i => [i])))], ks := [50, 51, 52, 53], n := 0, sz := 76, u := noU, g := some (z.1, false) })
      (fun _ r => r = (Exit.exit 0, { t := [(2, .ptr 50 0), (4, .ptr 51 0), (5, .ptr 52 0)], o := [(50, .box [.d (.i .i64 0), .nl]), (51, .box [.d (.s (bs l)), .d (.i .i64 (l.length : Nat)), .d (.b false)]), (52, .box [.d (.i .i64 w), .own 53]), (53, .arr .any 2 (rows.mapIdx (cZ fun i => [i])))], ks := [50, 51, 52, 53], n := 0, sz := 76, u := noU, g := some (rows.length, false) }))
      (fun z => z.1 ≤ rows.length ∧ z.2 ≤ l.length ∧ l.drop z.2 = (rows.drop z.1).flatMap rowB) (fun z => rows.length - z.1) ?_ (0, 1) ⟨Nat.zero_le _, H.out.2.2.2.2.2, H.out.2.2.1⟩
    clear hE RR hok c1 hcan e0
    rintro ⟨r, i⟩ ⟨hr, hi, hd⟩ ih
    simp only at hr hi hd ih ⊢
    obtain ⟨h, hl, h1, hww, hb1, -⟩ := H.out
    simp only at hb1
    have hat := rows_at hd hi hr
    by_cases hc : r < rows.length
    · have hil : i < l.length := hat.2 hc
      have c5 := dec_lt hil
      obtain ⟨g1, g2, g3⟩ := h.row (List.getElem_mem hc)
      have hh := rows_head hd hc
      obtain ⟨_, e1, ⟨v, k, hv, hik, hk, rfl⟩ | ⟨hv, -⟩⟩ := ev_value l hl i hi
      · rw [hh, valP_num g3] at hv
        simp only [Option.some.injEq, Prod.mk.injEq] at hv
        obtain ⟨rfl, hv⟩ := hv
        simp only [numV] at e1
        refine exQ fun Q hQ => ?_
        have HQ := Hd.mk hQ; clear hQ
        have H2 := Hd.mk (And.intro hr (And.intro hi (And.intro hd (And.intro ih (And.intro hik (And.intro hk hv))))))
        have H3 := Hd.mk (And.intro g1 (And.intro g2 hc))
        have n1 : ((1 : Int) != 1) = false := rfl
        clear hr hi hd ih hik hk hv h hl h1 hww hb1 hat g1 g2 g3 hh
        repeat' (first | with_reducible refine br_split (fun _ => ?_) (fun _ => ?_) | simp only [*, push_cast, simprocAttr] | (rw [drawC_ok]; rotate_left; decide +kernel; exact cfg_mixed))
        rw [show ([] : List (List T)) = (rows[r].row.take 0).map vC from rfl]
        generalize hE : evM cfg _ _ _ _ _ = RR
        have key : ∃ z, RR = some z ∧ ∃ i' : Nat, i' ≤ l.length ∧ l.drop i' = (rows.drop (r + 1)).flatMap rowB ∧ z = (Exit.exit 2, { t := [(0, .d (.s (bs l))), (2, .ptr 50 0), (4, .ptr 51 0), (5, .ptr 52 0), (7, .ptr 53 0)], o := [(50, .box [.d (.i .i64 0), .nl]), (51, .box [.d (.s (bs l)), .d (.i .i64 (i' : Nat)), .d (.b false)]), (52, .box [.d (.i .i64 w), .own 54]), (53, .box [.own 55, .d (.i .i64 rows[r].n)]), (54, .arr .any 2 ((rows.take r).mapIdx (cZ fun i => [i]))), (55, .arr .any 3 (rows[r].row.map vC))], ks := [50, 51, 52, 53, 54, 55], n := 0, sz := 76, u := noU, g := some (r, false) }) := by
          rw [← hE]
          refine evM_ex (α := Nat × Nat) (fun z => { t := [(0, .d (.s (bs l))), (2, .ptr 50 0), (4, .ptr 51 0), (5, .ptr 52 0), (7, .ptr 53 0), (48, .d (.i .i64 w)), (49, .d (.i .i64 (z.1 : Nat)))], o := [(50, .box [.d (.i .i64 0), .nl]), (51, .box [.d (.s (bs l)), .d (.i .i64 (z.2 : Nat)), .d (.b false)]), (52, .box [.d (.i .i64 w), .own 54]), (53, .box [.own 55, .d (.i .i64 rows[r].n)]), (54, .arr .any 2 ((rows.take r).mapIdx (cZ fun i => [i]))), (55, .arr .any 3 ((rows[r].row.take z.1).map vC))], ks := [50, 51, 52, 53, 54, 55], n := 0, sz := 76, u := noU, g := some (r, false) })
            (fun _ z => ∃ i' : Nat, i' ≤ l.length ∧ l.drop i' = (rows.drop (r + 1)).flatMap rowB ∧ z = (Exit.exit 2, { t := [(0, .d (.s (bs l))), (2, .ptr 50 0), (4, .ptr 51 0), (5, .ptr 52 0), (7, .ptr 53 0)], o := [(50, .box [.d (.i .i64 0), .nl]), (51, .box [.d (.s (bs l)), .d (.i .i64 (i' : Nat)), .d (.b false)]), (52, .box [.d (.i .i64 w), .own 54]), (53, .box [.own 55, .d (.i .i64 rows[r].n)]), (54, .arr .any 2 ((rows.take r).mapIdx (cZ fun i => [i]))), (55, .arr .any 3 (rows[r].row.map vC))], ks := [50, 51, 52, 53, 54, 55], n := 0, sz := 76, u := noU, g := some (r, false) }))
            (fun z => z.1 ≤ rows[r].row.length ∧ z.2 ≤ l.length ∧ l.drop z.2 = (rows[r].row.drop z.1).flatMap pvL ++ (rows.drop (r + 1)).flatMap rowB) (fun z => rows[r].row.length - z.1) ?_ (0, k) ⟨Nat.zero_le _, H2.out.2.2.2.2.2.1, H2.out.2.2.2.2.2.2.symm⟩
          clear hE RR e1 n1
          rintro ⟨q, i⟩ ⟨hq, hi, hd⟩ ih
          simp only at hq hi hd ih ⊢
          obtain ⟨g1, g2, hc⟩ := H3.out
          obtain ⟨h, hl, h1, hww, hb1, -⟩ := H.out
          simp only at g1
          by_cases hqc : q < rows[r].row.length
          · have c6 : decide ((q : Int) < w) = true := decide_eq_true (by omega)
            have hh := vals_head hqc ((rows.drop (r + 1)).flatMap rowB)
            rw [hh] at hd
            obtain ⟨v1, v2⟩ := g2 _ (List.getElem_mem hqc)
            have w1 : IntKind.i64.wrap ((q : Int) + 1) = (q : Int) + 1 := wrap_succ (by omega)
            obtain ⟨_, e1, ⟨v, k, hv, hik, hk, rfl⟩ | ⟨hv, -⟩⟩ := ev_value l hl i hi
            · rw [hd, valP_app v1 v2] at hv
              simp only [Option.some.injEq, Prod.mk.injEq] at hv
              obtain ⟨rfl, hv⟩ := hv
              have h3 : (rows[r].row.take q).map vC ++ [[.i .i64 rows[r].row[q].k, .i .i64 rows[r].row[q].n, .s rows[r].row[q].s]] = (rows[r].row.take (q + 1)).map vC := take_snoc vC hqc
              have h4 := len_ok (n := (rows[r].row.take q).length + 1) 32 (by rw [List.length_take]; omega) (by omega)
              obtain ⟨z, hz1, hz2⟩ := ih (q + 1, k) ⟨hqc, hk, hv.symm⟩ (by simp only; omega)
              refine ⟨z, ?_, hz2⟩
              simp only at hz1
              rw [show ((q + 1 : Nat) : Int) = (q : Int) + 1 from rfl] at hz1
              clear ih hq hi hd g1 g2 h hl h1 hww hb1 hh v1 v2 hik hk hv hz2
              repeat' (first | with_reducible refine br_split (fun _ => ?_) (fun _ => ?_) | simp only [*, push_cast, simprocAttr] | (rw [drawC_ok]; rotate_left; decide +kernel; exact cfg_mixed))
            · rw [hd, valP_app v1 v2] at hv
              cases hv
          · have c6 : decide ((q : Int) < w) = false := decide_eq_false (by omega)
            have hqe : q = rows[r].row.length := by omega
            have hd2 : l.drop i = (rows.drop (r + 1)).flatMap rowB := by
              rw [hd, hqe, List.drop_length]; rfl
            have hrr : rows[r].row.take q = rows[r].row := by rw [hqe]; exact List.take_length
            refine ⟨_, ?_, i, hi, hd2, rfl⟩
            clear ih hq hi hd g1 g2 h hl h1 hww hb1 hqc hqe hd2
            repeat' (first | with_reducible refine br_split (fun _ => ?_) (fun _ => ?_) | simp only [*, push_cast, simprocAttr] | (rw [drawC_ok]; rotate_left; decide +kernel; exact cfg_mixed))
        obtain ⟨_, rfl, i', p1, p2, rfl⟩ := key
        obtain ⟨g1, g2, hc⟩ := H3.out
        obtain ⟨hr, hi, hd, ih, hik, hk, hv⟩ := H2.out
        have h3 : (rows.take r).mapIdx (cZ fun i => [i]) ++ [[.sl (.tok [r]) (rows[r].row.map vC), .i .i64 rows[r].n]] = (rows.take (r + 1)).mapIdx (cZ fun i => [i]) := take_snocI (cZ fun i => [i]) hc
        have hb1 := H.out.2.2.2.2.1
        simp only at hb1
        have h4 := len_ok (n := (rows.take r).length + 1) 32 (by rw [List.length_take]; omega) (by omega)
        have h5 : ((rows.take r).mapIdx (cZ fun i => [i])).length = (rows.take r).length := by simp
        obtain ⟨z, hz1, hz2⟩ := ih (r + 1, i') ⟨hc, p1, p2⟩ (by simp only; omega)
        simp only at hz1
        have HZ := Hd.mk hz2
        clear hE hr hi hd ih hik hk hv g1 g2 p1 p2 hz2 hb1
        repeat' (first | with_reducible refine br_split (fun _ => ?_) (fun _ => ?_) | simp only [*, push_cast, simprocAttr] | (rw [drawC_ok]; rotate_left; decide +kernel; exact cfg_mixed))
        exact HQ.out _ HZ.out
      · rw [hh, valP_num g3] at hv
        cases hv
    · have hil : i = l.length := by
        have : ¬ i < l.length := fun h => hc (hat.1 h)
        omega
      have hrl : r = rows.length := by omega
      have c5 : decide ((l.length : Int) < (l.length : Int)) = false := decide_eq_false (by omega)
      refine ⟨_, ?_, rfl⟩
      have hrr : rows.take rows.length = rows := List.take_length
      clear ih hr hd hat h hl h1 hww hb1 hc
      subst hil
      subst hrl
      clear hi
      repeat' (first | with_reducible refine br_split (fun _ => ?_) (fun _ => ?_) | simp only [*, push_cast, simprocAttr] | (rw [drawC_ok]; rotate_left; decide +kernel; exact cfg_mixed))
  obtain ⟨_, rfl, rfl⟩ := key
  have hme : annEs .any (rows.mapIdx (cZ fun i => [i])) = rows.map cC := by
    rw [annEs_mapIdx (g := cC) (fun i x => by simp only [cZ, annCs, T.ann, er_vC]; rfl) rows]
  clear hE H
  repeat' (first | with_reducible refine br_split (fun _ => ?_) (fun _ => ?_) | simp only [*, push_cast, simprocAttr] | (rw [drawC_ok]; rotate_left; decide +kernel; exact cfg_mixed))
end Go.Av
end
section
namespace Go.Av
open Go.Proofs
set_option linter.unusedSimpArgs false
structure NS where
  rows : List C
  i : Nat
  bad : Bool
structure MS where
  vals : List V
  i : Nat
  bad : Bool
theorem numV_of {v : V} (h : valueOk v = true) (hk : v.k = 1) : v = numV v.n := by
  obtain ⟨k, n, s⟩ := v
  simp only at hk
  subst hk
  simp only [valueOk, show ¬ ((1 : Int) = 0) by decide, if_false, if_true, decide_eq_true_eq] at h
  rw [h]; rfl
theorem ev_value_any (l : List UInt8) (hl : l.length ≤ 1048576) (i : Nat) (hi : i ≤ l.length) (b : Bool) : ∃ r, evF cfg 70 [(0, .box [.d (.s (bs l)), .d (.i .i64 (i : Nat)), .d (.b b)])] [.ptr 0 0] = some r ∧
    ∃ (v : V) (i' : Nat) (b' : Bool), i' ≤ l.length ∧ (b' = false → b = false ∧ i < i' ∧ l.drop i = pvL v ++ l.drop i' ∧ valueOk v = true ∧ w64 v.n = v.n) ∧ r = (.agg [.d (.i .i64 v.k), .d (.i .i64 v.n), .d (.s v.s)], [(0, .box [.d (.s (bs l)), .d (.i .i64 (i' : Nat)), .d (.b b')])]) := by
  cases b with
  | true => exact ⟨_, ev_value_bad (bs l) i, ⟨0, 0, ⟨#[]⟩⟩, i, true, hi, fun h => (by cases h), rfl⟩
  | false =>
    obtain ⟨_, e1, ⟨v, k, hv, hik, hk, rfl⟩ | ⟨hv, v, k, hk, rfl⟩⟩ := ev_value l hl i hi
    · obtain ⟨h1, h2, h3⟩ := valP_some hv
      exact ⟨_, e1, v, k, false, hk, fun _ => ⟨rfl, hik, h1, h2, h3⟩, rfl⟩
    · exact ⟨_, e1, v, k, true, hk, fun h => (by cases h), rfl⟩
def Read (l : List UInt8) (W : Nat) (rows : List C) (i : Nat) : Prop :=
  l.drop 1 = rows.flatMap rowB ++ l.drop i ∧ ∀ c ∈ rows, c.row.length = W ∧ ∀ v ∈ c.row, valueOk v = true ∧ w64 v.n = v.n
def ReadV (l : List UInt8) (i0 : Nat) (vals : List V) (i : Nat) : Prop :=
  l.drop i0 = vals.flatMap pvL ++ l.drop i ∧ ∀ v ∈ vals, valueOk v = true ∧ w64 v.n = v.n
theorem canNo : canOk (.tup [.agg [.d (.i .i64 0), .d (.sl .any [])], .d (.b false)]) [] := by
  simp [canOk, tkTV, tkL, tkT, tkO, flatTV, flatL, arrO, keysOf, tkEs, annTok]
theorem ev_GetBag_no (l : List UInt8) (hl : l.length ≤ 1048576) (h : ∀ b, OkB b → l ≠ pbL b) : evF cfg 35 [] [.d (.s (bs l))] = some (.tup [.agg [.d (.i .i64 0), .d (.sl (.tok [0, 0, 1]) [])], .d (.b false)], []) := by
  have hz := bs_size l
  have hcan := canNo
  cases l with
  | nil =>
    have e0 := ev_size_none [] hl 0 1 (Nat.le_refl _) rfl
    rw [show ((0 : Nat) : Int) = 0 from rfl, show ((1 : Nat) : Int) = 1 from rfl] at e0
    clear hl h
    (refine (evF_codeZ (C := cfg) (g := 35) (fn := Tryz.f35) rfl Tryz.func35 rfl (by rw [Tryz.ntmps35]; simp) (by kernel_rfl)).trans ?_; rw [Tryz.results35, Tryz.ntmps35])
    repeat' (first | with_reducible refine br_split (fun _ => ?_) (fun _ => ?_) | simp only [*, push_cast, simprocAttr] | (rw [drawC_ok]; rotate_left; decide +kernel; exact cfg_mixed))
  | cons x t =>
    obtain ⟨l, hL⟩ : ∃ l, x :: t = l := ⟨_, rfl⟩
    have h0 : takeP 1 (l.drop 0) = some ([x], l.drop 1) := by rw [← hL]; simp [takeP]
    have h1 : 0 < l.length := by rw [← hL]; simp
    have hxl : l = x :: l.drop 1 := by rw [← hL]; rfl
    rw [hL] at hl h hz ⊢
    clear hL
    have e0 := ev_size_some l hl 0 1 1 (by omega) rfl h0
    rw [beV_in (m := 1) rfl (by omega), beV1, show ((0 : Nat) : Int) = 0 from rfl, show ((1 : Nat) : Int) = 1 from rfl] at e0
    have hx := x.toNat_lt
    obtain ⟨W, hW⟩ : ∃ W, x.toNat = W := ⟨_, rfl⟩
    rw [hW] at e0
    by_cases hx12 : W > 12
    · have c1 : decide ((W : Int) > 12) = true := decide_eq_true (by omega)
      clear hl h h0 h1 hx hx12 hxl hW
      (refine (evF_codeZ (C := cfg) (g := 35) (fn := Tryz.f35) rfl Tryz.func35 rfl (by rw [Tryz.ntmps35]; simp) (by kernel_rfl)).trans ?_; rw [Tryz.results35, Tryz.ntmps35])
      repeat' (first | with_reducible refine br_split (fun _ => ?_) (fun _ => ?_) | simp only [*, push_cast, simprocAttr] | (rw [drawC_ok]; rotate_left; decide +kernel; exact cfg_mixed))
    · have c1 : decide ((W : Int) > 12) = false := decide_eq_false (by omega)
      have hkb : kb (W : Nat) = x := by
        unfold kb
        rw [dv_zero, u64_nn (by omega), ← hW, Nat.mod_eq_of_lt hx]
        simp
      have H := Hd.mk (And.intro h (And.intro hl (And.intro h1 (And.intro (show W ≤ 12 by omega) (And.intro hxl hkb)))))
      clear hl h h0 h1 hx hx12 hW hxl hkb
      (refine (evF_codeZ (C := cfg) (g := 35) (fn := Tryz.f35) rfl Tryz.func35 rfl (by rw [Tryz.ntmps35]; simp) (by kernel_rfl)).trans ?_; rw [Tryz.results35, Tryz.ntmps35])
      repeat' (first | with_reducible refine br_split (fun _ => ?_) (fun _ => ?_) | simp only [*, push_cast, simprocAttr] | (rw [drawC_ok]; rotate_left; decide +kernel; exact cfg_mixed))
      rw [show ([] : List (List T)) = ([] : List C).mapIdx (cZ fun i => [i]) from rfl]
      generalize hE : evM cfg _ _ _ _ _ = RR
      have key : ∃ r, RR = some r ∧ ((∃ n : Nat, r = (Exit.ret, { t := [(2, .ptr 50 0), (3, .d (.b false))], o := [(50, .box [.d (.i .i64 0), .nl])], ks := [50], n := 0, sz := 76, u := noU, g := some (n, false) })) ∨ ∃ (rows : List C) (i' : Nat) (b' : Bool), (rows.length ≤ l.length + 1 ∧ (∀ c ∈ rows, c.row.length ≤ 12) ∧ (b' = false → Read l W rows l.length)) ∧ r = (Exit.exit 0, { t := [(2, .ptr 50 0), (4, .ptr 51 0), (5, .ptr 52 0)], o := [(50, .box [.d (.i .i64 0), .nl]), (51, .box [.d (.s (bs l)), .d (.i .i64 (i' : Nat)), .d (.b b')]), (52, .box [.d (.i .i64 (W : Nat)), .own 53]), (53, .arr .any 2 (rows.mapIdx (cZ fun i => [i])))], ks := [50, 51, 52, 53], n := 0, sz := 76, u := noU, g := some (rows.length, false) })) := by
        rw [← hE]
        refine evM_ex (α := NS) (fun z => { t := [(0, .d (.s (bs l))), (2, .ptr 50 0), (4, .ptr 51 0), (5, .ptr 52 0)], o := [(50, .box [.d (.i .i64 0), .nl]), (51, .box [.d (.s (bs l)), .d (.i .i64 (z.i : Nat)), .d (.b z.bad)]), (52, .box [.d (.i .i64 (W : Nat)), .own 53]), (53, .arr .any 2 (z.rows.mapIdx (cZ fun i => [i])))], ks := [50, 51, 52, 53], n := 0, sz := 76, u := noU, g := some (z.rows.length, false) })
          (fun _ r => (∃ n : Nat, r = (Exit.ret, { t := [(2, .ptr 50 0), (3, .d (.b false))], o := [(50, .box [.d (.i .i64 0), .nl])], ks := [50], n := 0, sz := 76, u := noU, g := some (n, false) })) ∨ ∃ (rows : List C) (i' : Nat) (b' : Bool), (rows.length ≤ l.length + 1 ∧ (∀ c ∈ rows, c.row.length ≤ 12) ∧ (b' = false → Read l W rows l.length)) ∧ r = (Exit.exit 0, { t := [(2, .ptr 50 0), (4, .ptr 51 0), (5, .ptr 52 0)], o := [(50, .box [.d (.i .i64 0), .nl]), (51, .box [.d (.s (bs l)), .d (.i .i64 (i' : Nat)), .d (.b b')]), (52, .box [.d (.i .i64 (W : Nat)), .own 53]), (53, .arr .any 2 (rows.mapIdx (cZ fun i => [i])))], ks := [50, 51, 52, 53], n := 0, sz := 76, u := noU, g := some (rows.length, false) }))
          (fun z => z.i ≤ l.length ∧ z.rows.length ≤ l.length + 1 ∧ (∀ c ∈ z.rows, c.row.length ≤ 12) ∧ (z.bad = false → z.rows.length ≤ z.i ∧ Read l W z.rows z.i)) (fun z => if z.bad then 0 else l.length + 1 - z.i) ?_ ⟨[], 1, false⟩ ⟨H.out.2.2.1, by simp, fun _ h => (nomatch h), fun _ => ⟨by simp, rfl, fun _ h => (nomatch h)⟩⟩
        clear hE RR c1 e0 hcan
        rintro ⟨rows, i, bad⟩ ⟨hi, hr, hrow, hrd⟩ ih
        simp only at hi hr hrow hrd ih ⊢
        obtain ⟨h, hl, h1, hW, hxl, hkb⟩ := H.out
        cases bad with
        | true =>
          refine ⟨_, ?_, .inr ⟨rows, i, true, ⟨by omega, hrow, fun h => (by cases h)⟩, rfl⟩⟩
          clear ih hi hr hrow hrd h hl h1 hW hxl hkb
          repeat' (first | with_reducible refine br_split (fun _ => ?_) (fun _ => ?_) | simp only [*, push_cast, simprocAttr] | (rw [drawC_ok]; rotate_left; decide +kernel; exact cfg_mixed))
        | false =>
          obtain ⟨hri, hrd⟩ := hrd rfl
          by_cases hc : i < l.length
          · have c5 := dec_lt hc
            obtain ⟨_, e1, v, i1, b1, hi1, hv, rfl⟩ := ev_value_any l hl i hi false
            refine exQ fun Q hQ => ?_
            have HQ := Hd.mk hQ; clear hQ
            have H2 := Hd.mk (And.intro hi (And.intro hr (And.intro hrow (And.intro ih (And.intro hri (And.intro hrd (And.intro hi1 (And.intro hv hc))))))))
            clear hi hr hrow ih hri hrd hi1 hv h hl h1 hW hxl hkb hc
            by_cases hk : v.k = 1
            · have n1 : (v.k != 1) = false := by rw [hk]; rfl
              have HK := Hd.mk hk
              clear hk
              repeat' (first | with_reducible refine br_split (fun _ => ?_) (fun _ => ?_) | simp only [*, push_cast, simprocAttr] | (rw [drawC_ok]; rotate_left; decide +kernel; exact cfg_mixed))
              rw [show ([] : List (List T)) = ([] : List V).map vC from rfl]
              generalize hE : evM cfg _ _ _ _ _ = RR
              have key : ∃ z, RR = some z ∧ ∃ (vals : List V) (i' : Nat) (b' : Bool), vals.length = W ∧ i' ≤ l.length ∧ (b' = false → b1 = false ∧ i1 ≤ i' ∧ ReadV l i1 vals i') ∧ z = (Exit.exit 2, { t := [(0, .d (.s (bs l))), (2, .ptr 50 0), (4, .ptr 51 0), (5, .ptr 52 0), (7, .ptr 53 0)], o := [(50, .box [.d (.i .i64 0), .nl]), (51, .box [.d (.s (bs l)), .d (.i .i64 (i' : Nat)), .d (.b b')]), (52, .box [.d (.i .i64 (W : Nat)), .own 54]), (53, .box [.own 55, .d (.i .i64 v.n)]), (54, .arr .any 2 (rows.mapIdx (cZ fun i => [i]))), (55, .arr .any 3 (vals.map vC))], ks := [50, 51, 52, 53, 54, 55], n := 0, sz := 76, u := noU, g := some (rows.length, false) }) := by
                rw [← hE]
                refine evM_ex (α := MS) (fun y => { t := [(0, .d (.s (bs l))), (2, .ptr 50 0), (4, .ptr 51 0), (5, .ptr 52 0), (7, .ptr 53 0), (48, .d (.i .i64 (W : Nat))), (49, .d (.i .i64 (y.vals.length : Nat)))], o := [(50, .box [.d (.i .i64 0), .nl]), (51, .box [.d (.s (bs l)), .d (.i .i64 (y.i : Nat)), .d (.b y.bad)]), (52, .box [.d (.i .i64 (W : Nat)), .own 54]), (53, .box [.own 55, .d (.i .i64 v.n)]), (54, .arr .any 2 (rows.mapIdx (cZ fun i => [i]))), (55, .arr .any 3 (y.vals.map vC))], ks := [50, 51, 52, 53, 54, 55], n := 0, sz := 76, u := noU, g := some (rows.length, false) })
                  (fun _ z => ∃ (vals : List V) (i' : Nat) (b' : Bool), vals.length = W ∧ i' ≤ l.length ∧ (b' = false → b1 = false ∧ i1 ≤ i' ∧ ReadV l i1 vals i') ∧ z = (Exit.exit 2, { t := [(0, .d (.s (bs l))), (2, .ptr 50 0), (4, .ptr 51 0), (5, .ptr 52 0), (7, .ptr 53 0)], o := [(50, .box [.d (.i .i64 0), .nl]), (51, .box [.d (.s (bs l)), .d (.i .i64 (i' : Nat)), .d (.b b')]), (52, .box [.d (.i .i64 (W : Nat)), .own 54]), (53, .box [.own 55, .d (.i .i64 v.n)]), (54, .arr .any 2 (rows.mapIdx (cZ fun i => [i]))), (55, .arr .any 3 (vals.map vC))], ks := [50, 51, 52, 53, 54, 55], n := 0, sz := 76, u := noU, g := some (rows.length, false) }))
                  (fun y => y.vals.length ≤ W ∧ y.i ≤ l.length ∧ (y.bad = false → b1 = false ∧ i1 ≤ y.i ∧ ReadV l i1 y.vals y.i)) (fun y => W - y.vals.length) ?_ ⟨[], i1, b1⟩ ⟨Nat.zero_le _, H2.out.2.2.2.2.2.2.1, fun h => ⟨h, Nat.le_refl _, rfl, fun _ h => (nomatch h)⟩⟩
                clear hE RR e1 n1
                rintro ⟨vals, i', b'⟩ ⟨hq, hi', hrv⟩ ih
                simp only at hq hi' hrv ih ⊢
                obtain ⟨h, hl, h1, hW, hxl, hkb⟩ := H.out
                by_cases hqc : vals.length < W
                · have c6 : decide ((vals.length : Int) < (W : Int)) = true := decide_eq_true (by omega)
                  have w1 : IntKind.i64.wrap ((vals.length : Int) + 1) = (vals.length : Int) + 1 := wrap_succ (by omega)
                  obtain ⟨_, e1, ⟨vk, vn', vs⟩, k, b2, hk2, hv2, rfl⟩ := ev_value_any l hl i' hi' b'
                  have h3 : vals.map vC ++ [[.i .i64 vk, .i .i64 vn', .s vs]] = (vals ++ [(⟨vk, vn', vs⟩ : V)]).map vC := by rw [List.map_append]; rfl
                  have h4 := len_ok (n := vals.length + 1) 32 (by omega) (by omega)
                  obtain ⟨z, hz1, hz2⟩ := ih ⟨vals ++ [(⟨vk, vn', vs⟩ : V)], k, b2⟩ ⟨by simp; omega, hk2, fun hb => by
                    obtain ⟨g0, g1, g2, g3, g4⟩ := hv2 hb
                    obtain ⟨f0, f1, f2, f3⟩ := hrv g0
                    refine ⟨f0, by simp only; omega, ?_, fun v hv => ?_⟩
                    · rw [f2, g2]; simp
                    · rcases List.mem_append.1 hv with hv | hv
                      · exact f3 v hv
                      · rw [List.mem_singleton.1 hv]; exact ⟨g3, g4⟩⟩ (by simp; omega)
                  refine ⟨z, ?_, hz2⟩
                  simp only [List.length_append, List.length_singleton] at hz1
                  rw [show ((vals.length + 1 : Nat) : Int) = (vals.length : Int) + 1 from rfl] at hz1
                  clear ih hq hi' hrv h hl h1 hW hxl hkb hqc hk2 hv2 hz2
                  repeat' (first | with_reducible refine br_split (fun _ => ?_) (fun _ => ?_) | simp only [*, push_cast, simprocAttr] | (rw [drawC_ok]; rotate_left; decide +kernel; exact cfg_mixed))
                · have c6 : decide ((vals.length : Int) < (W : Int)) = false := decide_eq_false (by omega)
                  refine ⟨_, ?_, vals, i', b', by omega, hi', hrv, rfl⟩
                  clear ih hq hi' hrv h hl h1 hW hxl hkb hqc
                  repeat' (first | with_reducible refine br_split (fun _ => ?_) (fun _ => ?_) | simp only [*, push_cast, simprocAttr] | (rw [drawC_ok]; rotate_left; decide +kernel; exact cfg_mixed))
              obtain ⟨_, rfl, vals, i', b', p1, p2, p3, rfl⟩ := key
              obtain ⟨hi, hr, hrow, ih, hri, hrd, hi1, hv, hc⟩ := H2.out
              have hk := HK.out
              obtain ⟨h, hl, h1, hW, hxl, hkb⟩ := H.out
              have h3 : rows.mapIdx (cZ fun i => [i]) ++ [[.sl (.tok [rows.length]) (vals.map vC), .i .i64 v.n]] = (rows ++ [(⟨vals, v.n⟩ : C)]).mapIdx (cZ fun i => [i]) := by
                rw [List.mapIdx_append]; simp [cZ]
              have h4 := len_ok (n := rows.length + 1) 32 (by omega) (by omega)
              have h5 : (rows.mapIdx (cZ fun i => [i])).length = rows.length := by simp
              obtain ⟨z, hz1, hz2⟩ := ih ⟨rows ++ [(⟨vals, v.n⟩ : C)], i', b'⟩ ⟨p2, by
                simp only [List.length_append, List.length_singleton]; omega, fun c hc' => by
                rcases List.mem_append.1 hc' with hc' | hc'
                · exact hrow c hc'
                · rw [List.mem_singleton.1 hc']; simp only; omega, fun hb => by
                obtain ⟨f0, f1, f2, f3⟩ := p3 hb
                obtain ⟨g0, g1, g2, g3, g4⟩ := hv f0
                obtain ⟨r1, r2⟩ := hrd
                refine ⟨by simp; omega, ?_, fun c hc' => ?_⟩
                · rw [r1, g2, f2, numV_of g3 hk]; simp [rowB, numV]
                · rcases List.mem_append.1 hc' with hc' | hc'
                  · exact r2 c hc'
                  · rw [List.mem_singleton.1 hc']; exact ⟨p1, f3⟩⟩ (by
                cases b' with
                | true => simp only [if_true, Bool.false_eq_true, if_false]; omega
                | false =>
                  obtain ⟨f0, f1, -⟩ := p3 rfl
                  obtain ⟨-, g1, -⟩ := hv f0
                  simp only [Bool.false_eq_true, if_false]; omega)
              simp only [List.length_append, List.length_singleton] at hz1
              have HZ := Hd.mk hz2
              clear hE hi hr hrow ih hri hrd hi1 hv hc hk h hl h1 hW hxl hkb p1 p2 p3 hz2
              repeat' (first | with_reducible refine br_split (fun _ => ?_) (fun _ => ?_) | simp only [*, push_cast, simprocAttr] | (rw [drawC_ok]; rotate_left; decide +kernel; exact cfg_mixed))
              exact HQ.out _ HZ.out
            · have n1 : (v.k != 1) = true := by rw [bne_iff_ne]; exact hk
              clear hk
              repeat' (first | with_reducible refine br_split (fun _ => ?_) (fun _ => ?_) | simp only [*, push_cast, simprocAttr] | (rw [drawC_ok]; rotate_left; decide +kernel; exact cfg_mixed))
              exact HQ.out _ (.inl ⟨_, rfl⟩)
          · have c5 : decide ((i : Int) < (l.length : Int)) = false := decide_eq_false (by omega)
            have hie : i = l.length := by omega
            refine ⟨_, ?_, .inr ⟨rows, i, false, ⟨by omega, hrow, fun _ => by rw [← hie]; exact hrd⟩, rfl⟩⟩
            clear ih hi hr hrow hri hrd h hl h1 hW hxl hkb hc hie
            repeat' (first | with_reducible refine br_split (fun _ => ?_) (fun _ => ?_) | simp only [*, push_cast, simprocAttr] | (rw [drawC_ok]; rotate_left; decide +kernel; exact cfg_mixed))
      obtain ⟨_, rfl, ⟨n, rfl⟩ | ⟨rows, i', b', ⟨p0, p1, p2⟩, rfl⟩⟩ := key
      · clear hE H
        rw [List.mapIdx_nil]
        repeat' (first | with_reducible refine br_split (fun _ => ?_) (fun _ => ?_) | simp only [*, push_cast, simprocAttr] | (rw [drawC_ok]; rotate_left; decide +kernel; exact cfg_mixed))
      · obtain ⟨h, hl, h1, hW, hxl, hkb⟩ := H.out
        clear hE H
        rw [List.mapIdx_nil]
        cases b' with
        | true =>
          clear h hl h1 hW hxl hkb p0 p1 p2
          repeat' (first | with_reducible refine br_split (fun _ => ?_) (fun _ => ?_) | simp only [*, push_cast, simprocAttr] | (rw [drawC_ok]; rotate_left; decide +kernel; exact cfg_mixed))
        | false =>
          obtain ⟨r1, r2⟩ := p2 rfl
          have hme : annEs .any (rows.mapIdx (cZ fun i => [i])) = rows.map cC := by
            rw [annEs_mapIdx (g := cC) (fun i x => by simp only [cZ, annCs, T.ann, er_vC]; rfl) rows]
          have hok := ev_BagOk (W : Nat) rows (by omega) (fun c hc => by have := p1 c hc; omega)
          cases hb : bagOk ⟨(W : Nat), rows⟩ with
          | true =>
            refine absurd ?_ (h _ ⟨hb, fun c hc v hv => ((r2 c hc).2 v hv).2⟩)
            rw [List.drop_length, List.append_nil] at r1
            simp only [pbL, hb, if_true]
            rw [hkb, ← r1]
            exact hxl
          | false =>
            rw [hb] at hok
            clear h hl h1 hW hxl hkb p0 p1 p2 r1 r2 hb
            repeat' (first | with_reducible refine br_split (fun _ => ?_) (fun _ => ?_) | simp only [*, push_cast, simprocAttr] | (rw [drawC_ok]; rotate_left; decide +kernel; exact cfg_mixed))
end Go.Av
end
section
namespace Go.Av
open Go.Proofs
set_option linter.unusedVariables false
structure OkS (x : Sp) : Prop where
  ok : stepOk x = true
  name : x.name.size < 65536
  cols : ∀ c ∈ x.cols, c.size < 65536
  query : x.query.size < 65536
  rels : ∀ r ∈ x.change, r.name.size < 65536 ∧ OkB r.bag ∧ (pbL r.bag).length < 4294967296
theorem OkS.kind {x : Sp} (h : OkS x) : ∃ k : Nat, x.kind = k ∧ k ≤ 3 := by
  have ho := h.ok
  simp only [stepOk, Bool.and_eq_true, stepRest] at ho
  obtain ⟨_, h4⟩ := ho
  by_cases k0 : x.kind = 0
  · exact ⟨0, k0, by omega⟩
  by_cases k1 : x.kind = 1
  · exact ⟨1, k1, by omega⟩
  by_cases k2 : x.kind = 2
  · exact ⟨2, k2, by omega⟩
  by_cases k3 : x.kind = 3
  · exact ⟨3, k3, by omega⟩
  · simp [k0, k1, k2, k3] at h4
theorem OkS.nrel {x : Sp} (h : OkS x) : x.change.length ≤ 20 := by
  have ho := h.ok
  simp only [stepOk, Bool.and_eq_true, Bool.not_eq_true', stepBad, stepRest, Bool.or_eq_false_iff] at ho
  obtain ⟨⟨_, h3⟩, h4⟩ := ho
  by_cases k3 : x.kind = 3
  · simp [k3] at h4
    omega
  · simp [k3] at h3
    rw [h3]; simp
theorem OkS.ncol {x : Sp} (h : OkS x) : x.cols.length ≤ 12 := by
  have ho := h.ok
  simp only [stepOk, Bool.and_eq_true, Bool.not_eq_true', stepBad, stepRest, Bool.or_eq_false_iff] at ho
  obtain ⟨⟨⟨h3, _⟩, _⟩, h4⟩ := ho
  by_cases k0 : x.kind = 0
  · simp [k0, colsOk] at h4
    omega
  · simp [k0] at h3
    rw [h3]; simp
def tail2 (x : Sp) : List UInt8 := beB x.change.length 1 ++ x.change.flatMap relB
def tail1 (x : Sp) : List UInt8 := (beB x.query.size 2 ++ bl x.query) ++ tail2 x
theorem psL_eq {x : Sp} (h : OkS x) : psL x = beB (u64 x.kind) 1 ++ ((beB x.name.size 2 ++ bl x.name) ++ (beB x.cols.length 1 ++ (x.cols.flatMap col2 ++ tail1 x))) := by
  simp only [psL, h.ok, if_true, psR, psQ, psC, psH, List.take_length, txB, tail1, tail2, List.append_assoc]
theorem col_head {cols : List ByteArray} {q : Nat} (hq : q < cols.length) (X : List UInt8) : (cols.drop q).flatMap col2 ++ X = (beB cols[q].size 2 ++ bl cols[q]) ++ ((cols.drop (q + 1)).flatMap col2 ++ X) := by
  rw [List.drop_eq_getElem_cons hq, List.flatMap_cons, col2, txB, List.append_assoc]
theorem rel_head {ch : List R} {q : Nat} (hq : q < ch.length) : (ch.drop q).flatMap relB = (beB ch[q].name.size 2 ++ bl ch[q].name) ++ ((beB (bs (pbL ch[q].bag)).size 4 ++ bl (bs (pbL ch[q].bag))) ++ (ch.drop (q + 1)).flatMap relB) := by
  rw [List.drop_eq_getElem_cons hq, List.flatMap_cons, relB, txB, txB, List.append_assoc]
theorem pbL_of {b : B} (h : OkB b) : pbL b = kb b.w :: b.rows.flatMap rowB := by simp only [pbL, h.ok, if_true]
theorem szVs_enc : ∀ {row : List V}, (∀ v ∈ row, valueOk v = true) → szVs row ≤ (row.flatMap pvL).length
  | [], _ => by simp [szVs]
  | v :: row, h => by
    have ih := szVs_enc (row := row) fun x hx => h x (List.mem_cons_of_mem _ hx)
    have hv := h v (List.mem_cons_self ..)
    have h1 : v.s.size + 1 ≤ (pvL v).length := by
      have h2 := pvL_pos hv
      by_cases k3 : v.k = 3
      · simp only [pvL, hv, if_true, k3, show ¬ ((3 : Int) = 1) by decide, show ¬ ((3 : Int) = 2) by decide, if_false, List.length_append, beB_len, bl_size]
        omega
      · have h4 : v.s.size = 0 := by
          unfold valueOk at hv
          split at hv
          · simp only [Bool.and_eq_true, decide_eq_true_eq] at hv; rw [hv.2]; rfl
          · split at hv
            · simp only [decide_eq_true_eq] at hv; rw [hv]; rfl
            · split at hv
              · simp only [Bool.and_eq_true, decide_eq_true_eq] at hv; rw [hv.2]; rfl
              · cases hv
        omega
    simp only [szVs, List.length_cons, List.map_cons, List.sum_cons, List.flatMap_cons, List.length_append, szV] at ih ⊢
    omega
theorem szCs_enc : ∀ {rows : List C}, (∀ c ∈ rows, ∀ v ∈ c.row, valueOk v = true) → szCs rows ≤ (rows.flatMap rowB).length
  | [], _ => by simp [szCs]
  | c :: rows, h => by
    have ih := szCs_enc (rows := rows) fun x hx => h x (List.mem_cons_of_mem _ hx)
    have h1 := szVs_enc (h c (List.mem_cons_self ..))
    have h2 := pvL_pos (numV_ok c.n)
    simp only [szCs, List.length_cons, List.map_cons, List.sum_cons, List.flatMap_cons, List.length_append, szC, rowB] at ih ⊢
    omega
theorem szB_enc {b : B} (h : OkB b) : Go.Av.szB b ≤ (pbL b).length := by
  have := szCs_enc (rows := b.rows) fun c hc v hv => ((h.row hc).2.1 v hv).1
  rw [pbL_of h, List.length_cons]
  simp only [Go.Av.szB]
  omega
theorem szSs_enc : ∀ l : List ByteArray, szSs l ≤ (l.flatMap col2).length
  | [] => by simp [szSs]
  | s :: l => by
    have ih := szSs_enc l
    simp only [szSs, List.length_cons, List.map_cons, List.sum_cons, List.flatMap_cons, List.length_append, col2, txB_len] at ih ⊢
    omega
theorem szRs_enc : ∀ {l : List R}, (∀ r ∈ l, OkB r.bag) → szRs l ≤ (l.flatMap relB).length
  | [], _ => by simp [szRs]
  | r :: l, h => by
    have ih := szRs_enc (l := l) fun x hx => h x (List.mem_cons_of_mem _ hx)
    have h1 := szB_enc (h r (List.mem_cons_self ..))
    simp only [szRs, List.length_cons, List.map_cons, List.sum_cons, List.flatMap_cons, List.length_append, szR, relB, txB_len, bs_size] at ih ⊢
    omega
theorem szSp_enc {x : Sp} (h : OkS x) : szSp x ≤ (psL x).length := by
  have h1 := szSs_enc x.cols
  have h2 := szRs_enc (l := x.change) fun r hr => (h.rels r hr).2.1
  rw [psL_eq h]
  simp only [szSp, tail1, tail2, List.length_append, beB_len, bl_size]
  omega
end Go.Av
end
section
namespace Go.Av
open Go.Proofs
set_option linter.unusedSimpArgs false
theorem ev_sGetStep_yes (kind : Int) (name : ByteArray) (cols : List ByteArray) (query : ByteArray) (change : List R) (h : OkS ⟨kind, name, cols, query, change⟩) (hl : (psL ⟨kind, name, cols, query, change⟩).length ≤ 1048576) :
    evF cfg 6 [] [.d (.s (bs (psL ⟨kind, name, cols, query, change⟩)))] = some (.tup [.agg [.d (.i .i64 kind), .d (.s name), .d (.sl .any (cols.map sC)), .d (.s query), .d (.sl .any (change.map rC))], .d (.b true)], []) := by
  have hsz : szSp ⟨kind, name, cols, query, change⟩ ≤ 1048576 := Nat.le_trans (szSp_enc h) hl
  have hps := ev_sPutStep kind name cols query change hsz
  have heq := psL_eq h
  simp only at heq
  generalize hL : psL ⟨kind, name, cols, query, change⟩ = l at *
  have hz := bs_size l
  obtain ⟨kn, hkn, hk3⟩ := h.kind
  simp only at hkn
  have hnc := h.ncol
  have hnr := h.nrel
  simp only at hnc hnr
  have hlp : 0 < l.length := by rw [heq]; simp [beB_len]; omega
  have hu : u64 kind = kn := by rw [hkn]; exact u64_nn (by omega)
  rw [hu] at heq
  have n0 : takeP 1 (l.drop 0) = some (beB kn 1, l.drop 1) := by
    have := takeP_app (n := 1) (a := beB kn 1) (b := ((beB name.size 2 ++ bl name) ++ (beB cols.length 1 ++ (cols.flatMap col2 ++ tail1 ⟨kind, name, cols, query, change⟩)))) (beB_len _ _)
    rw [← heq] at this
    have h2 := (takeP_at (i := 0) this (Nat.zero_le _)).2.2.1
    rw [h2] at this
    exact this
  have d1 : l.drop 1 = (beB name.size 2 ++ bl name) ++ (beB cols.length 1 ++ (cols.flatMap col2 ++ tail1 ⟨kind, name, cols, query, change⟩)) := by
    have := takeP_app (n := 1) (a := beB kn 1) (b := ((beB name.size 2 ++ bl name) ++ (beB cols.length 1 ++ (cols.flatMap col2 ++ tail1 ⟨kind, name, cols, query, change⟩)))) (beB_len _ _)
    rw [← heq] at this
    exact ((takeP_at (i := 0) this (Nat.zero_le _)).2.2.1).symm
  have e0 := ev_l10Num_some l hl 0 1 1 (Nat.zero_le _) rfl (by omega) n0
  rw [beV_beB kn 1 (by omega), show ((0 : Nat) : Int) = 0 from rfl, show ((1 : Nat) : Int) = 1 from rfl, ← hkn] at e0
  have t1 : txtP 2 (l.drop 1) = some (name, (beB cols.length 1 ++ (cols.flatMap col2 ++ tail1 ⟨kind, name, cols, query, change⟩))) := by
    rw [d1]; exact txtP_app h.name
  obtain ⟨i2, a1, -, a3, e1⟩ := ev_l10Get_some l hl 1 2 (by omega) (by omega) t1
  rw [show ((1 : Nat) : Int) = 1 from rfl, show ((2 : Nat) : Int) = 2 from rfl] at e1
  have n1 : takeP 1 (l.drop i2) = some (beB cols.length 1, (cols.flatMap col2 ++ tail1 ⟨kind, name, cols, query, change⟩)) := by
    rw [← a3]; exact takeP_app (beB_len _ _)
  obtain ⟨b1, -, b3, -⟩ := takeP_at n1 a1
  obtain ⟨j, hj⟩ : ∃ j, i2 + 1 = j := ⟨_, rfl⟩
  have e2 := ev_l10Num_some l hl i2 1 j a1 hj (by omega) n1
  rw [beV_beB _ 1 (by omega), show ((1 : Nat) : Int) = 1 from rfl] at e2
  rw [hj] at b1 b3
  have H := Hd.mk (And.intro h (And.intro hl (And.intro b1 (And.intro b3.symm (And.intro hnc (And.intro hnr hlp))))))
  clear h hl b1 b3 hnc hnr hlp hsz heq hL hkn hk3 hu n0 d1 t1 a1 a3 n1 hj
  (refine (evF_code (C := cfg) (g := 6) (fn := Tryz.f6) rfl Tryz.func6 rfl (by rw [Tryz.ntmps6]; simp) (by kernel_rfl) (by first | decide | simp [keysOf])).trans ?_; rw [Tryz.results6, Tryz.ntmps6])
  repeat' (first | with_reducible refine br_split (fun _ => ?_) (fun _ => ?_) | simp only [*, push_cast, simprocAttr] | (rw [drawC_ok]; rotate_left; decide +kernel; exact cfg_mixed))
  rw [show ([] : List (List T)) = (cols.take 0).map sC from rfl]
  generalize hE : evM cfg _ _ _ _ _ = RR
  have key : ∃ z, RR = some z ∧ ∃ i' : Nat, i' ≤ l.length ∧ l.drop i' = tail1 ⟨kind, name, cols, query, change⟩ ∧ z = (Exit.exit 0, { t := [(0, .d (.s (bs l))), (2, .ptr 50 0), (6, .ptr 51 0), (10, .d (.i .i64 (i' : Nat)))], o := [(50, .box [.d (.i .i64 0), .d (.s ⟨#[]⟩), .nl, .d (.s ⟨#[]⟩), .nl]), (51, .box [.d (.i .i64 kind), .d (.s name), .own 52, .d (.s ⟨#[]⟩), .nl]), (52, .arr .any 1 (cols.map sC))], ks := [50, 51, 52], n := 0, sz := 134, u := noU }) := by
    rw [← hE]
    refine evM_ex (α := Nat × Nat) (fun y => { t := [(0, .d (.s (bs l))), (2, .ptr 50 0), (6, .ptr 51 0), (9, .d (.i .i64 cols.length)), (10, .d (.i .i64 (y.2 : Nat))), (11, .d (.i .i64 (y.1 : Nat)))], o := [(50, .box [.d (.i .i64 0), .d (.s ⟨#[]⟩), .nl, .d (.s ⟨#[]⟩), .nl]), (51, .box [.d (.i .i64 kind), .d (.s name), .own 52, .d (.s ⟨#[]⟩), .nl]), (52, .arr .any 1 ((cols.take y.1).map sC))], ks := [50, 51, 52], n := 0, sz := 134, u := noU })
      (fun _ z => ∃ i' : Nat, i' ≤ l.length ∧ l.drop i' = tail1 ⟨kind, name, cols, query, change⟩ ∧ z = (Exit.exit 0, { t := [(0, .d (.s (bs l))), (2, .ptr 50 0), (6, .ptr 51 0), (10, .d (.i .i64 (i' : Nat)))], o := [(50, .box [.d (.i .i64 0), .d (.s ⟨#[]⟩), .nl, .d (.s ⟨#[]⟩), .nl]), (51, .box [.d (.i .i64 kind), .d (.s name), .own 52, .d (.s ⟨#[]⟩), .nl]), (52, .arr .any 1 (cols.map sC))], ks := [50, 51, 52], n := 0, sz := 134, u := noU }))
      (fun y => y.1 ≤ cols.length ∧ y.2 ≤ l.length ∧ l.drop y.2 = (cols.drop y.1).flatMap col2 ++ tail1 ⟨kind, name, cols, query, change⟩) (fun y => cols.length - y.1) ?_ (0, j) ⟨Nat.zero_le _, H.out.2.2.1, H.out.2.2.2.1⟩
    clear hE RR e0 e1 e2 hps
    rintro ⟨q, i⟩ ⟨hq, hi, hd⟩ ih
    simp only at hq hi hd ih ⊢
    obtain ⟨h, hl, -, -, hnc, -, -⟩ := H.out
    by_cases hqc : q < cols.length
    · have c1 := dec_lt hqc
      have c2 : decide ((i : Int) ≥ 0) = true := decide_eq_true (by omega)
      have w1 : IntKind.i64.wrap ((q : Int) + 1) = (q : Int) + 1 := wrap_succ (by omega)
      rw [col_head hqc] at hd
      have t1 : txtP 2 (l.drop i) = some (cols[q], (cols.drop (q + 1)).flatMap col2 ++ tail1 ⟨kind, name, cols, query, change⟩) := by
        rw [hd]; exact txtP_app (h.cols _ (List.getElem_mem hqc))
      obtain ⟨i2, a1, -, a3, e1⟩ := ev_l10Get_some l hl i 2 hi (by omega) t1
      rw [show ((2 : Nat) : Int) = 2 from rfl] at e1
      have h3 : (cols.take q).map sC ++ [[.s cols[q]]] = (cols.take (q + 1)).map sC := take_snoc sC hqc
      have h4 := len_ok (n := (cols.take q).length + 1) 16 (by rw [List.length_take]; omega) (by omega)
      obtain ⟨z, hz1, hz2⟩ := ih (q + 1, i2) ⟨hqc, a1, a3.symm⟩ (by simp only; omega)
      refine ⟨z, ?_, hz2⟩
      simp only at hz1
      rw [show ((q + 1 : Nat) : Int) = (q : Int) + 1 from rfl] at hz1
      clear ih hq hi hd h hl hnc t1 a1 a3 hz2
      repeat' (first | with_reducible refine br_split (fun _ => ?_) (fun _ => ?_) | simp only [*, push_cast, simprocAttr] | (rw [drawC_ok]; rotate_left; decide +kernel; exact cfg_mixed))
    · have c1 : decide ((q : Int) < (cols.length : Int)) = false := decide_eq_false (by omega)
      have hqe : q = cols.length := by omega
      have hd2 : l.drop i = tail1 ⟨kind, name, cols, query, change⟩ := by rw [hd, hqe, List.drop_length]; rfl
      have hrr : cols.take q = cols := by rw [hqe]; exact List.take_length
      refine ⟨_, ?_, i, hi, hd2, rfl⟩
      clear ih hq hi hd h hl hnc hqc hqe hd2
      repeat' (first | with_reducible refine br_split (fun _ => ?_) (fun _ => ?_) | simp only [*, push_cast, simprocAttr] | (rw [drawC_ok]; rotate_left; decide +kernel; exact cfg_mixed))
  obtain ⟨_, rfl, i4, p1, p2, rfl⟩ := key
  clear hE
  obtain ⟨h, hl, -, -, hnc, hnr, hlp⟩ := H.out
  have t2 : txtP 2 (l.drop i4) = some (query, tail2 ⟨kind, name, cols, query, change⟩) := by
    rw [p2]; exact txtP_app h.query
  obtain ⟨i5, a1, -, a3, e4⟩ := ev_l10Get_some l hl i4 2 p1 (by omega) t2
  rw [show ((2 : Nat) : Int) = 2 from rfl] at e4
  have n2 : takeP 1 (l.drop i5) = some (beB change.length 1, change.flatMap relB) := by
    rw [← a3]; exact takeP_app (beB_len _ _)
  obtain ⟨b1, -, b3, -⟩ := takeP_at n2 a1
  obtain ⟨j6, hj6⟩ : ∃ j, i5 + 1 = j := ⟨_, rfl⟩
  have e5 := ev_l10Num_some l hl i5 1 j6 a1 hj6 (by omega) n2
  rw [beV_beB _ 1 (by omega), show ((1 : Nat) : Int) = 1 from rfl] at e5
  rw [hj6] at b1 b3
  have H2 := Hd.mk (And.intro b1 b3.symm)
  clear h hl hnc hnr hlp t2 a1 a3 n2 b1 b3 p1 p2 hj6 e0 e1 e2
  repeat' (first | with_reducible refine br_split (fun _ => ?_) (fun _ => ?_) | simp only [*, push_cast, simprocAttr] | (rw [drawC_ok]; rotate_left; decide +kernel; exact cfg_mixed))
  rw [show ([] : List (List T)) = (change.take 0).map rC from rfl]
  generalize hE : evM cfg _ _ _ _ _ = RR
  have key : ∃ z, RR = some z ∧ ∃ i' : Nat, z = (Exit.exit 2, { t := [(0, .d (.s (bs l))), (2, .ptr 50 0), (6, .ptr 51 0), (17, .d (.i .i64 (i' : Nat)))], o := [(50, .box [.d (.i .i64 0), .d (.s ⟨#[]⟩), .nl, .d (.s ⟨#[]⟩), .nl]), (51, .box [.d (.i .i64 kind), .d (.s name), .own 52, .d (.s query), .own 53]), (52, .arr .any 1 (cols.map sC)), (53, .arr .any 3 (change.map rC))], ks := [50, 51, 52, 53], n := 0, sz := 134, u := noU }) := by
    rw [← hE]
    refine evM_ex (α := Nat × Nat) (fun y => { t := [(0, .d (.s (bs l))), (2, .ptr 50 0), (6, .ptr 51 0), (16, .d (.i .i64 change.length)), (17, .d (.i .i64 (y.2 : Nat))), (18, .d (.i .i64 (y.1 : Nat)))], o := [(50, .box [.d (.i .i64 0), .d (.s ⟨#[]⟩), .nl, .d (.s ⟨#[]⟩), .nl]), (51, .box [.d (.i .i64 kind), .d (.s name), .own 52, .d (.s query), .own 53]), (52, .arr .any 1 (cols.map sC)), (53, .arr .any 3 ((change.take y.1).map rC))], ks := [50, 51, 52, 53], n := 0, sz := 134, u := noU })
      (fun _ z => ∃ i' : Nat, z = (Exit.exit 2, { t := [(0, .d (.s (bs l))), (2, .ptr 50 0), (6, .ptr 51 0), (17, .d (.i .i64 (i' : Nat)))], o := [(50, .box [.d (.i .i64 0), .d (.s ⟨#[]⟩), .nl, .d (.s ⟨#[]⟩), .nl]), (51, .box [.d (.i .i64 kind), .d (.s name), .own 52, .d (.s query), .own 53]), (52, .arr .any 1 (cols.map sC)), (53, .arr .any 3 (change.map rC))], ks := [50, 51, 52, 53], n := 0, sz := 134, u := noU }))
      (fun y => y.1 ≤ change.length ∧ y.2 ≤ l.length ∧ l.drop y.2 = (change.drop y.1).flatMap relB) (fun y => change.length - y.1) ?_ (0, j6) ⟨Nat.zero_le _, H2.out.1, H2.out.2⟩
    clear hE RR e4 e5 hps
    rintro ⟨q, i⟩ ⟨hq, hi, hd⟩ ih
    simp only at hq hi hd ih ⊢
    obtain ⟨h, hl, -, -, -, hnr, -⟩ := H.out
    by_cases hqc : q < change.length
    · have c1 := dec_lt hqc
      have c2 : decide ((i : Int) ≥ 0) = true := decide_eq_true (by omega)
      have w1 : IntKind.i64.wrap ((q : Int) + 1) = (q : Int) + 1 := wrap_succ (by omega)
      rw [rel_head hqc] at hd
      obtain ⟨r1, r2, r3⟩ := h.rels _ (List.getElem_mem hqc)
      have t1 : txtP 2 (l.drop i) = some (change[q].name, (beB (bs (pbL change[q].bag)).size 4 ++ bl (bs (pbL change[q].bag))) ++ (change.drop (q + 1)).flatMap relB) := by
        rw [hd]; exact txtP_app r1
      obtain ⟨i2, a1, -, a3, e1⟩ := ev_l10Get_some l hl i 2 hi (by omega) t1
      rw [show ((2 : Nat) : Int) = 2 from rfl] at e1
      have t2 : txtP 4 (l.drop i2) = some (bs (pbL change[q].bag), (change.drop (q + 1)).flatMap relB) := by
        rw [← a3]; exact txtP_app (by rw [bs_size]; simpa using r3)
      obtain ⟨i3, b1, -, b3, e2⟩ := ev_l10Get_some l hl i2 4 a1 (by omega) t2
      rw [show ((4 : Nat) : Int) = 4 from rfl] at e2
      have hbl : (pbL change[q].bag).length ≤ 1048576 := by
        have h1 := congrArg List.length a3
        rw [List.length_append, List.length_append, bl_size, bs_size, List.length_drop] at h1
        omega
      have e3 := ev_sGetBag_yes change[q].bag.w change[q].bag.rows r2 (by rw [← pbL_of r2]; exact hbl)
      rw [show kb change[q].bag.w :: change[q].bag.rows.flatMap rowB = pbL change[q].bag from (pbL_of r2).symm] at e3
      have h3 : (change.take q).map rC ++ [[.s change[q].name, .i .i64 change[q].bag.w, .sl .any (change[q].bag.rows.map cC)]] = (change.take (q + 1)).map rC := take_snoc rC hqc
      have h4 := len_ok (n := (change.take q).length + 1) 48 (by rw [List.length_take]; omega) (by omega)
      obtain ⟨z, hz1, hz2⟩ := ih (q + 1, i3) ⟨hqc, b1, b3.symm⟩ (by simp only; omega)
      refine ⟨z, ?_, hz2⟩
      simp only at hz1
      rw [show ((q + 1 : Nat) : Int) = (q : Int) + 1 from rfl] at hz1
      clear ih hq hi hd h hl hnr t1 t2 a1 a3 b1 b3 hz2 r1 r2 r3 hbl
      repeat' (first | with_reducible refine br_split (fun _ => ?_) (fun _ => ?_) | simp only [*, push_cast, simprocAttr] | (rw [drawC_ok]; rotate_left; decide +kernel; exact cfg_mixed))
    · have c1 : decide ((q : Int) < (change.length : Int)) = false := decide_eq_false (by omega)
      have hqe : q = change.length := by omega
      have hrr : change.take q = change := by rw [hqe]; exact List.take_length
      refine ⟨_, ?_, i, rfl⟩
      clear ih hq hi hd h hl hnr hqc hqe
      repeat' (first | with_reducible refine br_split (fun _ => ?_) (fun _ => ?_) | simp only [*, push_cast, simprocAttr] | (rw [drawC_ok]; rotate_left; decide +kernel; exact cfg_mixed))
  obtain ⟨_, rfl, i7, rfl⟩ := key
  clear hE
  have hlp := H.out.2.2.2.2.2.2
  have c1 : decide ((i7 : Int) < 0) = false := decide_eq_false (by omega)
  have hne : decide (bs l = (⟨#[]⟩ : ByteArray)) = false := decide_eq_false fun e => by
    have := congrArg ByteArray.size e
    rw [bs_size] at this
    have : (⟨#[]⟩ : ByteArray).size = 0 := rfl
    omega
  have hpe : decide (bs l = bs l) = true := decide_eq_true rfl
  clear H H2 hlp e4 e5
  repeat' (first | with_reducible refine br_split (fun _ => ?_) (fun _ => ?_) | simp only [*, push_cast, simprocAttr] | (rw [drawC_ok]; rotate_left; decide +kernel; exact cfg_mixed))
end Go.Av
end
section
namespace Go.Av
open Go.Proofs
set_option linter.unusedSimpArgs false
theorem ev_l10Num_any (l : List UInt8) (hl : l.length ≤ 1048576) (i : Int) (hp : i = -1 ∨ ∃ t : Nat, i = t ∧ t ≤ l.length) (n : Nat) (hn : n ≤ 7) : ∃ (x : Nat) (i' : Int), x < 256 ^ n ∧ ((x = 0 ∧ i' = -1) ∨ ∃ t t' : Nat, i = t ∧ i' = t' ∧ t + n = t' ∧ t' ≤ l.length) ∧
    evF cfg 30 [] [.d (.s (bs l)), .d (.i .i64 i), .d (.i .i64 (n : Nat))] = some (.tup [.d (.i .i64 (x : Nat)), .d (.i .i64 i')], []) := by
  rcases hp with rfl | ⟨t, rfl, ht⟩
  · exact ⟨0, -1, Nat.pow_pos (by omega), .inl ⟨rfl, rfl⟩, ev_l10Num_bad (bs l) n⟩
  · cases h0 : takeP n (l.drop t) with
    | none => exact ⟨0, -1, Nat.pow_pos (by omega), .inl ⟨rfl, rfl⟩, ev_l10Num_none l hl t n ht h0⟩
    | some p =>
      obtain ⟨a, b⟩ := p
      obtain ⟨h1, -, -, h4⟩ := takeP_at h0 ht
      have h5 := beV_lt a
      rw [h4] at h5
      exact ⟨beV a, (t + n : Nat), h5, .inr ⟨t, t + n, rfl, rfl, rfl, h1⟩, ev_l10Num_some l hl t n (t + n) ht rfl hn h0⟩
theorem ev_l10Get_any (l : List UInt8) (hl : l.length ≤ 1048576) (i : Int) (hp : i = -1 ∨ ∃ t : Nat, i = t ∧ t ≤ l.length) (m : Nat) (hm : m ≤ 7) : ∃ (s : ByteArray) (i' : Int), ((s = ⟨#[]⟩ ∧ i' = -1) ∨ ∃ t t' : Nat, i = t ∧ i' = t' ∧ t + m + s.size = t' ∧ t' ≤ l.length ∧ s.size < 256 ^ m) ∧
    evF cfg 31 [] [.d (.s (bs l)), .d (.i .i64 i), .d (.i .i64 (m : Nat))] = some (.tup [.d (.s s), .d (.i .i64 i')], []) := by
  rcases hp with rfl | ⟨t, rfl, ht⟩
  · exact ⟨⟨#[]⟩, -1, .inl ⟨rfl, rfl⟩, ev_l10Get_bad (bs l) m⟩
  · cases h0 : txtP m (l.drop t) with
    | none => exact ⟨⟨#[]⟩, -1, .inl ⟨rfl, rfl⟩, ev_l10Get_none l hl t m ht hm h0⟩
    | some p =>
      obtain ⟨s, b⟩ := p
      obtain ⟨k, h1, h2, h3, e⟩ := ev_l10Get_some l hl t m ht hm h0
      obtain ⟨g1, g2⟩ := txtP_some h0
      refine ⟨s, k, .inr ⟨t, k, rfl, rfl, ?_, h1, g2⟩, e⟩
      have := congrArg List.length g1
      rw [h3, List.length_append, List.length_append, beB_len, bl_size, List.length_drop, List.length_drop] at this
      omega
structure CS where
  cols : List ByteArray
  i : Int
structure RL where
  ch : List R
  i : Int
theorem ev_sGetStep_no (l : List UInt8) (hl : l.length ≤ 1048576) (h : ∀ x, OkS x → l ≠ psL x) :
    evF cfg 6 [] [.d (.s (bs l))] = some (.tup [.agg [.d (.i .i64 0), .d (.s ⟨#[]⟩), .d (.sl .any []), .d (.s ⟨#[]⟩), .d (.sl .any [])], .d (.b false)], []) := by
  have hz := bs_size l
  obtain ⟨kn, i1, hkn, p1, e0⟩ := ev_l10Num_any l hl 0 (.inr ⟨0, rfl, Nat.zero_le _⟩) 1 (by omega)
  rw [show ((1 : Nat) : Int) = 1 from rfl] at e0
  have q1 : i1 = -1 ∨ ∃ t : Nat, i1 = t ∧ t ≤ l.length := by
    rcases p1 with ⟨-, h⟩ | ⟨t, t', -, h, -, h'⟩
    · exact .inl h
    · exact .inr ⟨t', h, h'⟩
  obtain ⟨name, i2, p2, e1⟩ := ev_l10Get_any l hl i1 q1 2 (by omega)
  rw [show ((2 : Nat) : Int) = 2 from rfl] at e1
  have q2 : i2 = -1 ∨ ∃ t : Nat, i2 = t ∧ t ≤ l.length ∧ name.size ≤ t ∧ name.size < 65536 := by
    rcases p2 with ⟨-, h⟩ | ⟨t, t', -, h, h2, h', h3⟩
    · exact .inl h
    · exact .inr ⟨t', h, h', by omega, by simpa using h3⟩
  obtain ⟨nc, i3, hnc, p3, e2⟩ := ev_l10Num_any l hl i2 (by rcases q2 with h | ⟨t, h, h', -⟩; exact .inl h; exact .inr ⟨t, h, h'⟩) 1 (by omega)
  rw [show ((1 : Nat) : Int) = 1 from rfl] at e2
  have q3 : (nc = 0 ∧ i3 = -1) ∨ ∃ t : Nat, i3 = t ∧ t ≤ l.length ∧ name.size ≤ t ∧ name.size < 65536 := by
    rcases p3 with h | ⟨t, t', h0, h, h2, h'⟩
    · exact .inl h
    · rcases q2 with hq | ⟨t2, hq, a, b, c⟩
      · omega
      · exact .inr ⟨t', h, h', by omega, c⟩
  have H := Hd.mk (And.intro h (And.intro hl (And.intro hkn (And.intro (show nc < 256 by simpa using hnc) q3))))
  clear h hl hkn hnc p1 p2 p3 q1 q2 q3
  (refine (evF_code (C := cfg) (g := 6) (fn := Tryz.f6) rfl Tryz.func6 rfl (by rw [Tryz.ntmps6]; simp) (by kernel_rfl) (by first | decide | simp [keysOf])).trans ?_; rw [Tryz.results6, Tryz.ntmps6])
  repeat' (first | with_reducible refine br_split (fun _ => ?_) (fun _ => ?_) | simp only [*, push_cast, simprocAttr] | (rw [drawC_ok]; rotate_left; decide +kernel; exact cfg_mixed))
  rw [show ([] : List (List T)) = ([] : List ByteArray).map sC from rfl]
  generalize hE : evM cfg _ _ _ _ _ = RR
  have key : ∃ z, RR = some z ∧ ∃ (cols : List ByteArray) (i' : Int), cols.length ≤ 255 ∧ (i' = -1 ∨ ∃ t : Nat, i' = t ∧ t ≤ l.length ∧ name.size + szSs cols ≤ t ∧ name.size < 65536 ∧ ∀ c ∈ cols, c.size < 65536) ∧ z = (Exit.exit 0, { t := [(0, .d (.s (bs l))), (2, .ptr 50 0), (6, .ptr 51 0), (10, .d (.i .i64 i'))], o := [(50, .box [.d (.i .i64 0), .d (.s ⟨#[]⟩), .nl, .d (.s ⟨#[]⟩), .nl]), (51, .box [.d (.i .i64 (kn : Nat)), .d (.s name), .own 52, .d (.s ⟨#[]⟩), .nl]), (52, .arr .any 1 (cols.map sC))], ks := [50, 51, 52], n := 0, sz := 134, u := noU }) := by
    rw [← hE]
    refine evM_ex (α := CS) (fun y => { t := [(0, .d (.s (bs l))), (2, .ptr 50 0), (6, .ptr 51 0), (9, .d (.i .i64 (nc : Nat))), (10, .d (.i .i64 y.i)), (11, .d (.i .i64 (y.cols.length : Nat)))], o := [(50, .box [.d (.i .i64 0), .d (.s ⟨#[]⟩), .nl, .d (.s ⟨#[]⟩), .nl]), (51, .box [.d (.i .i64 (kn : Nat)), .d (.s name), .own 52, .d (.s ⟨#[]⟩), .nl]), (52, .arr .any 1 (y.cols.map sC))], ks := [50, 51, 52], n := 0, sz := 134, u := noU })
      (fun _ z => ∃ (cols : List ByteArray) (i' : Int), cols.length ≤ 255 ∧ (i' = -1 ∨ ∃ t : Nat, i' = t ∧ t ≤ l.length ∧ name.size + szSs cols ≤ t ∧ name.size < 65536 ∧ ∀ c ∈ cols, c.size < 65536) ∧ z = (Exit.exit 0, { t := [(0, .d (.s (bs l))), (2, .ptr 50 0), (6, .ptr 51 0), (10, .d (.i .i64 i'))], o := [(50, .box [.d (.i .i64 0), .d (.s ⟨#[]⟩), .nl, .d (.s ⟨#[]⟩), .nl]), (51, .box [.d (.i .i64 (kn : Nat)), .d (.s name), .own 52, .d (.s ⟨#[]⟩), .nl]), (52, .arr .any 1 (cols.map sC))], ks := [50, 51, 52], n := 0, sz := 134, u := noU }))
      (fun y => y.cols.length ≤ nc ∧ (y.i = -1 ∨ ∃ t : Nat, y.i = t ∧ t ≤ l.length ∧ name.size + szSs y.cols ≤ t ∧ name.size < 65536 ∧ ∀ c ∈ y.cols, c.size < 65536)) (fun y => nc - y.cols.length) ?_ ⟨[], i3⟩ ⟨Nat.zero_le _, by
        rcases H.out.2.2.2.2 with ⟨-, h⟩ | ⟨t, h1, h2, h3, h4⟩
        · exact .inl h
        · exact .inr ⟨t, h1, h2, by simpa [szSs] using h3, h4, fun _ h => (nomatch h)⟩⟩
    clear hE RR e0 e1 e2
    rintro ⟨cols, i⟩ ⟨hq, hp⟩ ih
    simp only at hq hp ih ⊢
    obtain ⟨h, hl, hkn, hnc, -⟩ := H.out
    by_cases hqc : cols.length < nc
    · have c1 : decide ((cols.length : Int) < (nc : Int)) = true := decide_eq_true (by omega)
      rcases hp with rfl | ⟨t, rfl, ht1, ht2, ht3, ht4⟩
      · have c2 : decide ((-1 : Int) ≥ 0) = false := rfl
        refine ⟨_, ?_, cols, -1, by omega, .inl rfl, rfl⟩
        clear ih hq h hl hkn hnc hqc
        repeat' (first | with_reducible refine br_split (fun _ => ?_) (fun _ => ?_) | simp only [*, push_cast, simprocAttr] | (rw [drawC_ok]; rotate_left; decide +kernel; exact cfg_mixed))
      · have c2 : decide ((t : Int) ≥ 0) = true := decide_eq_true (by omega)
        have w1 : IntKind.i64.wrap ((cols.length : Int) + 1) = (cols.length : Int) + 1 := wrap_succ (by omega)
        obtain ⟨c, i', p2, e1⟩ := ev_l10Get_any l hl t (.inr ⟨t, rfl, ht1⟩) 2 (by omega)
        rw [show ((2 : Nat) : Int) = 2 from rfl] at e1
        have h3 : cols.map sC ++ [[.s c]] = (cols ++ [c]).map sC := by rw [List.map_append]; rfl
        have h4 := len_ok (n := cols.length + 1) 16 (by omega) (by omega)
        obtain ⟨z, hz1, hz2⟩ := ih ⟨cols ++ [c], i'⟩ ⟨by simp; omega, by
          rcases p2 with ⟨-, hi⟩ | ⟨t1, t2, h0, hi, g2, g3, g4⟩
          · exact .inl hi
          · refine .inr ⟨t2, hi, g3, ?_, ht3, fun x hx => ?_⟩
            · have : szSs (cols ++ [c]) = szSs cols + 1 + c.size := by simp [szSs]; omega
              rw [this]; omega
            · rcases List.mem_append.1 hx with hx | hx
              · exact ht4 x hx
              · rw [List.mem_singleton.1 hx]; simpa using g4⟩ (by simp; omega)
        refine ⟨z, ?_, hz2⟩
        simp only [List.length_append, List.length_singleton] at hz1
        rw [show ((cols.length + 1 : Nat) : Int) = (cols.length : Int) + 1 from rfl] at hz1
        clear ih hq h hl hkn hnc hqc ht1 ht2 ht3 ht4 p2 hz2
        repeat' (first | with_reducible refine br_split (fun _ => ?_) (fun _ => ?_) | simp only [*, push_cast, simprocAttr] | (rw [drawC_ok]; rotate_left; decide +kernel; exact cfg_mixed))
    · have c1 : decide ((cols.length : Int) < (nc : Int)) = false := decide_eq_false (by omega)
      refine ⟨_, ?_, cols, i, by omega, hp, rfl⟩
      clear ih hq h hl hkn hnc hqc hp
      repeat' (first | with_reducible refine br_split (fun _ => ?_) (fun _ => ?_) | simp only [*, push_cast, simprocAttr] | (rw [drawC_ok]; rotate_left; decide +kernel; exact cfg_mixed))
  obtain ⟨_, rfl, cols, i4, p1, p2, rfl⟩ := key
  clear hE e0 e1 e2
  obtain ⟨h, hl, hkn, -, -⟩ := H.out
  obtain ⟨query, i5, p3, e3⟩ := ev_l10Get_any l hl i4 (by rcases p2 with h | ⟨t, h, h', -⟩; exact .inl h; exact .inr ⟨t, h, h'⟩) 2 (by omega)
  rw [show ((2 : Nat) : Int) = 2 from rfl] at e3
  have q5 : i5 = -1 ∨ ∃ t : Nat, i5 = t ∧ t ≤ l.length ∧ (name.size + szSs cols + query.size ≤ t ∧ name.size < 65536 ∧ (∀ c ∈ cols, c.size < 65536) ∧ query.size < 65536) := by
    rcases p3 with ⟨-, h⟩ | ⟨t, t', h0, h, h2, h', h3⟩
    · exact .inl h
    · rcases p2 with hq | ⟨t2, hq, a, b, c, d⟩
      · omega
      · exact .inr ⟨t', h, h', by omega, c, d, by simpa using h3⟩
  obtain ⟨k, i6, hk, p4, e4⟩ := ev_l10Num_any l hl i5 (by rcases q5 with h | ⟨t, h, h', -⟩; exact .inl h; exact .inr ⟨t, h, h'⟩) 1 (by omega)
  rw [show ((1 : Nat) : Int) = 1 from rfl] at e4
  have q6 : (k = 0 ∧ i6 = -1) ∨ ∃ t : Nat, i6 = t ∧ t ≤ l.length ∧ (name.size + szSs cols + query.size ≤ t ∧ name.size < 65536 ∧ (∀ c ∈ cols, c.size < 65536) ∧ query.size < 65536) := by
    rcases p4 with h | ⟨t, t', h0, h, h2, h'⟩
    · exact .inl h
    · rcases q5 with hq | ⟨t2, hq, a, b, c, d, e⟩
      · omega
      · exact .inr ⟨t', h, h', by omega, c, d, e⟩
  have H2 := Hd.mk (And.intro (show k < 256 by simpa using hk) (And.intro p1 q6))
  clear h hl hkn p1 p2 p3 p4 hk q5 q6
  repeat' (first | with_reducible refine br_split (fun _ => ?_) (fun _ => ?_) | simp only [*, push_cast, simprocAttr] | (rw [drawC_ok]; rotate_left; decide +kernel; exact cfg_mixed))
  rw [show ([] : List (List T)) = ([] : List R).map rC from rfl]
  generalize hE : evM cfg _ _ _ _ _ = RR
  have key : ∃ z, RR = some z ∧ (z = (Exit.ret, { t := [(2, .ptr 50 0), (3, .d (.b false))], o := [(50, .box [.d (.i .i64 0), .d (.s ⟨#[]⟩), .nl, .d (.s ⟨#[]⟩), .nl])], ks := [50], n := 0, sz := 134, u := noU }) ∨ ∃ (ch : List R) (i' : Int), ((k = 0 ∧ i' = -1) ∨ ∃ t : Nat, i' = t ∧ t ≤ l.length ∧ name.size + szSs cols + query.size + szRs ch ≤ t ∧ (name.size < 65536 ∧ (∀ c ∈ cols, c.size < 65536) ∧ query.size < 65536) ∧ ∀ r ∈ ch, r.name.size < 65536 ∧ OkB r.bag ∧ (pbL r.bag).length < 4294967296) ∧ z = (Exit.exit 2, { t := [(0, .d (.s (bs l))), (2, .ptr 50 0), (6, .ptr 51 0), (17, .d (.i .i64 i'))], o := [(50, .box [.d (.i .i64 0), .d (.s ⟨#[]⟩), .nl, .d (.s ⟨#[]⟩), .nl]), (51, .box [.d (.i .i64 (kn : Nat)), .d (.s name), .own 52, .d (.s query), .own 53]), (52, .arr .any 1 (cols.map sC)), (53, .arr .any 3 (ch.map rC))], ks := [50, 51, 52, 53], n := 0, sz := 134, u := noU })) := by
    rw [← hE]
    refine evM_ex (α := RL) (fun y => { t := [(0, .d (.s (bs l))), (2, .ptr 50 0), (6, .ptr 51 0), (16, .d (.i .i64 (k : Nat))), (17, .d (.i .i64 y.i)), (18, .d (.i .i64 (y.ch.length : Nat)))], o := [(50, .box [.d (.i .i64 0), .d (.s ⟨#[]⟩), .nl, .d (.s ⟨#[]⟩), .nl]), (51, .box [.d (.i .i64 (kn : Nat)), .d (.s name), .own 52, .d (.s query), .own 53]), (52, .arr .any 1 (cols.map sC)), (53, .arr .any 3 (y.ch.map rC))], ks := [50, 51, 52, 53], n := 0, sz := 134, u := noU })
      (fun _ z => z = (Exit.ret, { t := [(2, .ptr 50 0), (3, .d (.b false))], o := [(50, .box [.d (.i .i64 0), .d (.s ⟨#[]⟩), .nl, .d (.s ⟨#[]⟩), .nl])], ks := [50], n := 0, sz := 134, u := noU }) ∨ ∃ (ch : List R) (i' : Int), ((k = 0 ∧ i' = -1) ∨ ∃ t : Nat, i' = t ∧ t ≤ l.length ∧ name.size + szSs cols + query.size + szRs ch ≤ t ∧ (name.size < 65536 ∧ (∀ c ∈ cols, c.size < 65536) ∧ query.size < 65536) ∧ ∀ r ∈ ch, r.name.size < 65536 ∧ OkB r.bag ∧ (pbL r.bag).length < 4294967296) ∧ z = (Exit.exit 2, { t := [(0, .d (.s (bs l))), (2, .ptr 50 0), (6, .ptr 51 0), (17, .d (.i .i64 i'))], o := [(50, .box [.d (.i .i64 0), .d (.s ⟨#[]⟩), .nl, .d (.s ⟨#[]⟩), .nl]), (51, .box [.d (.i .i64 (kn : Nat)), .d (.s name), .own 52, .d (.s query), .own 53]), (52, .arr .any 1 (cols.map sC)), (53, .arr .any 3 (ch.map rC))], ks := [50, 51, 52, 53], n := 0, sz := 134, u := noU }))
      (fun y => y.ch.length ≤ k ∧ ((k = 0 ∧ y.i = -1) ∨ ∃ t : Nat, y.i = t ∧ t ≤ l.length ∧ name.size + szSs cols + query.size + szRs y.ch ≤ t ∧ (name.size < 65536 ∧ (∀ c ∈ cols, c.size < 65536) ∧ query.size < 65536) ∧ ∀ r ∈ y.ch, r.name.size < 65536 ∧ OkB r.bag ∧ (pbL r.bag).length < 4294967296)) (fun y => k - y.ch.length) ?_ ⟨[], i6⟩ ⟨Nat.zero_le _, by
        rcases H2.out.2.2 with h | ⟨t, h1, h2, h3, h4⟩
        · exact .inl h
        · exact .inr ⟨t, h1, h2, by simpa [szRs] using h3, h4, fun _ h => (nomatch h)⟩⟩
    clear hE RR e3 e4
    rintro ⟨ch, i⟩ ⟨hq, hp⟩ ih
    simp only at hq hp ih ⊢
    obtain ⟨h, hl, -, -, -⟩ := H.out
    obtain ⟨hk, -, -⟩ := H2.out
    by_cases hqc : ch.length < k
    · have c1 : decide ((ch.length : Int) < (k : Int)) = true := decide_eq_true (by omega)
      rcases hp with ⟨hk0, -⟩ | ⟨t, rfl, ht1, ht2, hst, ht3⟩
      · omega
      · have c2 : decide ((t : Int) ≥ 0) = true := decide_eq_true (by omega)
        have w1 : IntKind.i64.wrap ((ch.length : Int) + 1) = (ch.length : Int) + 1 := wrap_succ (by omega)
        obtain ⟨rn, i', p2, e1⟩ := ev_l10Get_any l hl t (.inr ⟨t, rfl, ht1⟩) 2 (by omega)
        rw [show ((2 : Nat) : Int) = 2 from rfl] at e1
        have q2 : i' = -1 ∨ ∃ u : Nat, i' = u ∧ u ≤ l.length := by
          rcases p2 with ⟨-, h⟩ | ⟨a, b, -, h, -, h', -⟩
          · exact .inl h
          · exact .inr ⟨b, h, h'⟩
        obtain ⟨by4, i'', p3, e2⟩ := ev_l10Get_any l hl i' q2 4 (by omega)
        rw [show ((4 : Nat) : Int) = 4 from rfl] at e2
        have hbs : by4.size ≤ l.length := by
          rcases p3 with ⟨h, -⟩ | ⟨a, b, -, -, h, h', -⟩
          · rw [h]; exact Nat.zero_le _
          · omega
        by_cases hb : ∃ b, OkB b ∧ bl by4 = pbL b
        · obtain ⟨⟨bw, brows⟩, hb1, hb2⟩ := hb
          have hbb : by4 = bs (pbL ⟨bw, brows⟩) := by rw [← hb2, bs_bl]
          have hlen : (pbL ⟨bw, brows⟩).length = by4.size := by rw [← hb2, bl_size]
          have e5 := ev_sGetBag_yes bw brows hb1 (by rw [← pbL_of (b := ⟨bw, brows⟩) hb1, hlen]; omega)
          rw [show kb bw :: brows.flatMap rowB = pbL ⟨bw, brows⟩ from (pbL_of (b := ⟨bw, brows⟩) hb1).symm, ← hbb] at e5
          have hpos : 0 < by4.size := by rw [← hlen, pbL_of (b := ⟨bw, brows⟩) hb1]; simp
          have h3 : ch.map rC ++ [[.s rn, .i .i64 bw, .sl .any (brows.map cC)]] = (ch ++ [(⟨rn, ⟨bw, brows⟩⟩ : R)]).map rC := by rw [List.map_append]; rfl
          have h4 := len_ok (n := ch.length + 1) 48 (by omega) (by omega)
          obtain ⟨z, hz1, hz2⟩ := ih ⟨ch ++ [(⟨rn, ⟨bw, brows⟩⟩ : R)], i''⟩ ⟨by simp; omega, by
            rcases p3 with ⟨h, -⟩ | ⟨a, b, f0, f1, f2, f3, f4⟩
            · rw [h] at hpos; exact absurd hpos (by decide)
            · rcases p2 with ⟨-, g⟩ | ⟨a2, b2, g0, g1, g2, g3, g4⟩
              · omega
              · have hsb := szB_enc hb1
                refine .inr ⟨b, f1, f3, ?_, hst, fun r hr => ?_⟩
                · have : szRs (ch ++ [(⟨rn, ⟨bw, brows⟩⟩ : R)]) = szRs ch + 1 + (rn.size + Go.Av.szB ⟨bw, brows⟩) := by simp [szRs, szR]; omega
                  rw [this]; omega
                · rcases List.mem_append.1 hr with hr | hr
                  · exact ht3 r hr
                  · rw [List.mem_singleton.1 hr]
                    refine ⟨by simpa using g4, hb1, ?_⟩
                    show (pbL ⟨bw, brows⟩).length < 4294967296
                    rw [hlen]
                    simpa using f4⟩ (by simp; omega)
          refine ⟨z, ?_, hz2⟩
          simp only [List.length_append, List.length_singleton] at hz1
          rw [show ((ch.length + 1 : Nat) : Int) = (ch.length : Int) + 1 from rfl] at hz1
          clear ih hq h hl hk hqc ht1 ht2 ht3 hst p2 q2 p3 hbs hb1 hb2 hbb hlen hpos hz2
          repeat' (first | with_reducible refine br_split (fun _ => ?_) (fun _ => ?_) | simp only [*, push_cast, simprocAttr] | (rw [drawC_ok]; rotate_left; decide +kernel; exact cfg_mixed))
        · have e5 := ev_sGetBag_no (bl by4) (by rw [bl_size]; omega) (fun b hb1 hb2 => hb ⟨b, hb1, hb2⟩)
          rw [bs_bl] at e5
          refine ⟨_, ?_, .inl rfl⟩
          clear ih hq h hl hk hqc ht1 ht2 ht3 hst p2 q2 p3 hbs hb
          repeat' (first | with_reducible refine br_split (fun _ => ?_) (fun _ => ?_) | simp only [*, push_cast, simprocAttr] | (rw [drawC_ok]; rotate_left; decide +kernel; exact cfg_mixed))
    · have c1 : decide ((ch.length : Int) < (k : Int)) = false := decide_eq_false (by omega)
      refine ⟨_, ?_, .inr ⟨ch, i, hp, rfl⟩⟩
      clear ih hq h hl hk hqc hp
      repeat' (first | with_reducible refine br_split (fun _ => ?_) (fun _ => ?_) | simp only [*, push_cast, simprocAttr] | (rw [drawC_ok]; rotate_left; decide +kernel; exact cfg_mixed))
  obtain ⟨_, rfl, rfl | ⟨ch, i7, p5, rfl⟩⟩ := key
  · clear hE H H2 e3 e4
    repeat' (first | with_reducible refine br_split (fun _ => ?_) (fun _ => ?_) | simp only [*, push_cast, simprocAttr] | (rw [drawC_ok]; rotate_left; decide +kernel; exact cfg_mixed))
  · clear hE e3 e4
    rcases p5 with ⟨-, rfl⟩ | ⟨t, rfl, ht1, ht2, hst, ht3⟩
    · have c1 : decide ((-1 : Int) < 0) = true := rfl
      clear H H2
      repeat' (first | with_reducible refine br_split (fun _ => ?_) (fun _ => ?_) | simp only [*, push_cast, simprocAttr] | (rw [drawC_ok]; rotate_left; decide +kernel; exact cfg_mixed))
    · have c1 : decide ((t : Int) < 0) = false := decide_eq_false (by omega)
      obtain ⟨h, hl, hkn, -, -⟩ := H.out
      obtain ⟨hk, hcl, q6⟩ := H2.out
      cases hle : decide (bs l = (⟨#[]⟩ : ByteArray)) with
      | true =>
        clear H H2 h hl hkn hk hcl q6 ht1 ht2 ht3 hst
        repeat' (first | with_reducible refine br_split (fun _ => ?_) (fun _ => ?_) | simp only [*, push_cast, simprocAttr] | (rw [drawC_ok]; rotate_left; decide +kernel; exact cfg_mixed))
      | false =>
        have hps := ev_sPutStep (kn : Nat) name cols query ch (by simp only [szSp]; omega)
        have hpe : decide (bs (psL ⟨(kn : Nat), name, cols, query, ch⟩) = bs l) = false := decide_eq_false fun e => by
          have e := bs_inj e
          cases ho : stepOk ⟨(kn : Nat), name, cols, query, ch⟩ with
          | false =>
            rw [psL_bad ho] at e
            rw [← e] at hle
            simp [bs] at hle
          | true =>
            exact h _ ⟨ho, hst.1, hst.2.1, hst.2.2, ht3⟩ e.symm
        clear H H2 h hl hkn hk hcl q6 ht1 ht2 ht3 hst
        repeat' (first | with_reducible refine br_split (fun _ => ?_) (fun _ => ?_) | simp only [*, push_cast, simprocAttr] | (rw [drawC_ok]; rotate_left; decide +kernel; exact cfg_mixed))
end Go.Av
end
section
namespace Go.Av
open Go.Proofs
set_option linter.unusedSimpArgs false
def rZ (p : Nat → Tok) (i : Nat) (r : R) : List T := [.s r.name, .i .i64 r.bag.w, .sl (.tok (p i)) (cnEs (p i) 0 (r.bag.rows.map cC))]
theorem rZ_nm {p : Nat → Tok} (hp : ∀ i, ∃ q, p i = [i] ++ q) (i : Nat) (r : R) : Nm [i] (tkCs (rZ p i r)) := by
  obtain ⟨q, hq⟩ := hp i
  have h := tk_cn (.sl .any (r.bag.rows.map cC)) (p i)
  rw [hq] at h
  have e : tkCs (rZ p i r) = tkT (T.cn ([i] ++ q) (.sl .any (r.bag.rows.map cC))) := by
    simp [rZ, tkCs, tkT, T.cn, hq]
  rw [e]
  exact h.weak
@[push_cast] theorem cn_rZ (f : Nat → Tok) (l : List R) (p : Tok) (i : Nat) : cnEs p i (l.mapIdx (rZ f)) = cnEs p i (l.map rC) := by
  refine cnEs_same ?_
  rw [annEs_mapIdx (g := rC) (fun i x => by simp only [rZ, annCs, T.ann, er_cnEs, er_cC]; rfl) l, er_rC]
end Go.Av
end
section
namespace Go.Av
open Go.Proofs
set_option linter.unusedSimpArgs false
theorem canOk_step (kind : Int) (name : ByteArray) (cols : List ByteArray) (query : ByteArray) (b : Bool) (f : Nat → R → List T) (l : List R) (h : ∀ k x, Nm [k] (tkCs (f k x))) :
    canOk (.tup [.agg [.d (.i .i64 kind), .d (.s name), .d (.sl (.tok [l.length]) (cols.map sC)), .d (.s query), .d (.sl (.tok [l.length + 1]) (l.mapIdx f))], .d (.b b)]) [] := by
  have h1 := tk_idx f l h
  have h2 := NmI.lt f l h
  have e : tkTV (.tup [.agg [.d (.i .i64 kind), .d (.s name), .d (.sl (.tok [l.length]) (cols.map sC)), .d (.s query), .d (.sl (.tok [l.length + 1]) (l.mapIdx f))], .d (.b b)]) ++ tkO [] = some [l.length] :: some [l.length + 1] :: tkEs (l.mapIdx f) := by
    simp [tkTV, tkL, tkT, annTok, tk_sC, tkO]
  refine ⟨⟨?_, ?_⟩, rfl, rfl, List.nodup_nil⟩
  · rw [e]
    intro hn
    rcases List.mem_cons.1 hn with hn | hn
    · cases hn
    rcases List.mem_cons.1 hn with hn | hn
    · cases hn
    obtain ⟨_, _, _, h3⟩ := h2 _ hn
    cases h3
  · rw [e]
    refine List.nodup_cons.2 ⟨fun hm => ?_, List.nodup_cons.2 ⟨fun hm => ?_, h1.nd⟩⟩
    · rcases List.mem_cons.1 hm with hm | hm
      · simp at hm
      · obtain ⟨k, r, h3, h4⟩ := h2 _ hm
        cases h4
        omega
    · obtain ⟨k, r, h3, h4⟩ := h2 _ hm
      cases h4
      omega
theorem ev_GetStep_yes (kind : Int) (name : ByteArray) (cols : List ByteArray) (query : ByteArray) (change : List R) (h : OkS ⟨kind, name, cols, query, change⟩) (hl : (psL ⟨kind, name, cols, query, change⟩).length ≤ 1048576) :
    evF cfg 7 [] [.d (.s (bs (psL ⟨kind, name, cols, query, change⟩)))] = some (.tup [.agg [.d (.i .i64 kind), .d (.s name), .d (.sl (.tok [0, 0, 2]) (cols.map sC)), .d (.s query), .d (.sl (.tok [0, 0, 4]) (cnEs [0, 0, 4] 0 (change.map rC)))], .d (.b true)], []) := by
  have hsz : szSp ⟨kind, name, cols, query, change⟩ ≤ 1048576 := Nat.le_trans (szSp_enc h) hl
  have hso := ev_StepOk kind name cols query change hsz
  rw [show stepOk ⟨kind, name, cols, query, change⟩ = true from h.ok] at hso
  have heq := psL_eq h
  simp only at heq
  generalize hL : psL ⟨kind, name, cols, query, change⟩ = l at *
  have hz := bs_size l
  obtain ⟨kn, hkn, hk3⟩ := h.kind
  simp only at hkn
  have hnc := h.ncol
  have hnr := h.nrel
  simp only at hnc hnr
  have hlp : 0 < l.length := by rw [heq]; simp [beB_len]; omega
  have hu : u64 kind = kn := by rw [hkn]; exact u64_nn (by omega)
  rw [hu] at heq
  have n0 : takeP 1 (l.drop 0) = some (beB kn 1, l.drop 1) := by
    have := takeP_app (n := 1) (a := beB kn 1) (b := ((beB name.size 2 ++ bl name) ++ (beB cols.length 1 ++ (cols.flatMap col2 ++ tail1 ⟨kind, name, cols, query, change⟩)))) (beB_len _ _)
    rw [← heq] at this
    have h2 := (takeP_at (i := 0) this (Nat.zero_le _)).2.2.1
    rw [h2] at this
    exact this
  have d1 : l.drop 1 = (beB name.size 2 ++ bl name) ++ (beB cols.length 1 ++ (cols.flatMap col2 ++ tail1 ⟨kind, name, cols, query, change⟩)) := by
    have := takeP_app (n := 1) (a := beB kn 1) (b := ((beB name.size 2 ++ bl name) ++ (beB cols.length 1 ++ (cols.flatMap col2 ++ tail1 ⟨kind, name, cols, query, change⟩)))) (beB_len _ _)
    rw [← heq] at this
    exact ((takeP_at (i := 0) this (Nat.zero_le _)).2.2.1).symm
  have e0 := ev_size_some l hl 0 1 1 (Nat.zero_le _) rfl n0
  rw [beV_in (beB_len _ _) (by omega), beV_beB kn 1 (by omega), show ((0 : Nat) : Int) = 0 from rfl, show ((1 : Nat) : Int) = 1 from rfl, ← hkn] at e0
  have t1 : txtP 2 (l.drop 1) = some (name, (beB cols.length 1 ++ (cols.flatMap col2 ++ tail1 ⟨kind, name, cols, query, change⟩))) := by
    rw [d1]; exact txtP_app h.name
  obtain ⟨i2, a1, -, a3, e1⟩ := ev_text_some l hl 1 2 (by omega) (by omega) t1
  rw [show ((1 : Nat) : Int) = 1 from rfl, show ((2 : Nat) : Int) = 2 from rfl] at e1
  have n1 : takeP 1 (l.drop i2) = some (beB cols.length 1, (cols.flatMap col2 ++ tail1 ⟨kind, name, cols, query, change⟩)) := by
    rw [← a3]; exact takeP_app (beB_len _ _)
  obtain ⟨b1, -, b3, -⟩ := takeP_at n1 a1
  obtain ⟨j, hj⟩ : ∃ j, i2 + 1 = j := ⟨_, rfl⟩
  have e2 := ev_size_some l hl i2 1 j a1 hj n1
  rw [beV_in (beB_len _ _) (by omega), beV_beB _ 1 (by omega), show ((1 : Nat) : Int) = 1 from rfl] at e2
  rw [hj] at b1 b3
  have H := Hd.mk (And.intro h (And.intro hl (And.intro b1 (And.intro b3.symm (And.intro hnc (And.intro hnr hlp))))))
  clear h hl b1 b3 hnc hnr hlp hsz heq hL hkn hk3 hu n0 d1 t1 a1 a3 n1 hj
  (refine (evF_codeZ (C := cfg) (g := 7) (fn := Tryz.f7) rfl Tryz.func7 rfl (by rw [Tryz.ntmps7]; simp) (by kernel_rfl)).trans ?_; rw [Tryz.results7, Tryz.ntmps7])
  repeat' (first | with_reducible refine br_split (fun _ => ?_) (fun _ => ?_) | simp only [*, push_cast, simprocAttr] | (rw [drawC_ok]; rotate_left; decide +kernel; exact cfg_mixed))
  rw [show ([] : List (List T)) = (cols.take 0).map sC from rfl]
  generalize hE : evM cfg _ _ _ _ _ = RR
  have key : ∃ z, RR = some z ∧ ∃ i' : Nat, i' ≤ l.length ∧ l.drop i' = tail1 ⟨kind, name, cols, query, change⟩ ∧ z = (Exit.exit 0, { t := [(0, .d (.s (bs l))), (2, .ptr 50 0), (4, .ptr 51 0), (5, .ptr 52 0)], o := [(50, .box [.d (.i .i64 0), .d (.s ⟨#[]⟩), .nl, .d (.s ⟨#[]⟩), .nl]), (51, .box [.d (.s (bs l)), .d (.i .i64 (i' : Nat)), .d (.b false)]), (52, .box [.d (.i .i64 kind), .d (.s name), .own 53, .d (.s ⟨#[]⟩), .nl]), (53, .arr .any 1 (cols.map sC))], ks := [50, 51, 52, 53], n := 0, sz := 84, u := noU, g := some (0, false) }) := by
    rw [← hE]
    refine evM_ex (α := Nat × Nat) (fun y => { t := [(0, .d (.s (bs l))), (2, .ptr 50 0), (4, .ptr 51 0), (5, .ptr 52 0), (18, .d (.i .i64 cols.length)), (19, .d (.i .i64 (y.1 : Nat)))], o := [(50, .box [.d (.i .i64 0), .d (.s ⟨#[]⟩), .nl, .d (.s ⟨#[]⟩), .nl]), (51, .box [.d (.s (bs l)), .d (.i .i64 (y.2 : Nat)), .d (.b false)]), (52, .box [.d (.i .i64 kind), .d (.s name), .own 53, .d (.s ⟨#[]⟩), .nl]), (53, .arr .any 1 ((cols.take y.1).map sC))], ks := [50, 51, 52, 53], n := 0, sz := 84, u := noU, g := some (0, false) })
      (fun _ z => ∃ i' : Nat, i' ≤ l.length ∧ l.drop i' = tail1 ⟨kind, name, cols, query, change⟩ ∧ z = (Exit.exit 0, { t := [(0, .d (.s (bs l))), (2, .ptr 50 0), (4, .ptr 51 0), (5, .ptr 52 0)], o := [(50, .box [.d (.i .i64 0), .d (.s ⟨#[]⟩), .nl, .d (.s ⟨#[]⟩), .nl]), (51, .box [.d (.s (bs l)), .d (.i .i64 (i' : Nat)), .d (.b false)]), (52, .box [.d (.i .i64 kind), .d (.s name), .own 53, .d (.s ⟨#[]⟩), .nl]), (53, .arr .any 1 (cols.map sC))], ks := [50, 51, 52, 53], n := 0, sz := 84, u := noU, g := some (0, false) }))
      (fun y => y.1 ≤ cols.length ∧ y.2 ≤ l.length ∧ l.drop y.2 = (cols.drop y.1).flatMap col2 ++ tail1 ⟨kind, name, cols, query, change⟩) (fun y => cols.length - y.1) ?_ (0, j) ⟨Nat.zero_le _, H.out.2.2.1, H.out.2.2.2.1⟩
    clear hE RR e0 e1 e2 hso
    rintro ⟨q, i⟩ ⟨hq, hi, hd⟩ ih
    simp only at hq hi hd ih ⊢
    obtain ⟨h, hl, -, -, hnc, -, -⟩ := H.out
    by_cases hqc : q < cols.length
    · have c1 := dec_lt hqc
      have w1 : IntKind.i64.wrap ((q : Int) + 1) = (q : Int) + 1 := wrap_succ (by omega)
      rw [col_head hqc] at hd
      have t1 : txtP 2 (l.drop i) = some (cols[q], (cols.drop (q + 1)).flatMap col2 ++ tail1 ⟨kind, name, cols, query, change⟩) := by
        rw [hd]; exact txtP_app (h.cols _ (List.getElem_mem hqc))
      obtain ⟨i2, a1, -, a3, e1⟩ := ev_text_some l hl i 2 hi (by omega) t1
      rw [show ((2 : Nat) : Int) = 2 from rfl] at e1
      have h3 : (cols.take q).map sC ++ [[.s cols[q]]] = (cols.take (q + 1)).map sC := take_snoc sC hqc
      have h4 := len_ok (n := (cols.take q).length + 1) 16 (by rw [List.length_take]; omega) (by omega)
      obtain ⟨z, hz1, hz2⟩ := ih (q + 1, i2) ⟨hqc, a1, a3.symm⟩ (by simp only; omega)
      refine ⟨z, ?_, hz2⟩
      simp only at hz1
      rw [show ((q + 1 : Nat) : Int) = (q : Int) + 1 from rfl] at hz1
      clear ih hq hi hd h hl hnc t1 a1 a3 hz2
      repeat' (first | with_reducible refine br_split (fun _ => ?_) (fun _ => ?_) | simp only [*, push_cast, simprocAttr] | (rw [drawC_ok]; rotate_left; decide +kernel; exact cfg_mixed))
    · have c1 : decide ((q : Int) < (cols.length : Int)) = false := decide_eq_false (by omega)
      have hqe : q = cols.length := by omega
      have hd2 : l.drop i = tail1 ⟨kind, name, cols, query, change⟩ := by rw [hd, hqe, List.drop_length]; rfl
      have hrr : cols.take q = cols := by rw [hqe]; exact List.take_length
      refine ⟨_, ?_, i, hi, hd2, rfl⟩
      clear ih hq hi hd h hl hnc hqc hqe hd2
      repeat' (first | with_reducible refine br_split (fun _ => ?_) (fun _ => ?_) | simp only [*, push_cast, simprocAttr] | (rw [drawC_ok]; rotate_left; decide +kernel; exact cfg_mixed))
  obtain ⟨_, rfl, i4, p1, p2, rfl⟩ := key
  clear hE
  obtain ⟨h, hl, -, -, hnc, hnr, hlp⟩ := H.out
  have t2 : txtP 2 (l.drop i4) = some (query, tail2 ⟨kind, name, cols, query, change⟩) := by
    rw [p2]; exact txtP_app h.query
  obtain ⟨i5, a1, -, a3, e4⟩ := ev_text_some l hl i4 2 p1 (by omega) t2
  rw [show ((2 : Nat) : Int) = 2 from rfl] at e4
  have n2 : takeP 1 (l.drop i5) = some (beB change.length 1, change.flatMap relB) := by
    rw [← a3]; exact takeP_app (beB_len _ _)
  obtain ⟨b1, -, b3, -⟩ := takeP_at n2 a1
  obtain ⟨j6, hj6⟩ : ∃ j, i5 + 1 = j := ⟨_, rfl⟩
  have e5 := ev_size_some l hl i5 1 j6 a1 hj6 n2
  rw [beV_in (beB_len _ _) (by omega), beV_beB _ 1 (by omega), show ((1 : Nat) : Int) = 1 from rfl] at e5
  rw [hj6] at b1 b3
  have H2 := Hd.mk (And.intro b1 b3.symm)
  clear h hl hnc hnr hlp t2 a1 a3 n2 b1 b3 p1 p2 hj6 e0 e1 e2
  repeat' (first | with_reducible refine br_split (fun _ => ?_) (fun _ => ?_) | simp only [*, push_cast, simprocAttr] | (rw [drawC_ok]; rotate_left; decide +kernel; exact cfg_mixed))
  rw [show ([] : List (List T)) = (change.take 0).mapIdx (rZ fun i => [i, 0, 0, 1]) from rfl]
  generalize hE : evM cfg _ _ _ _ _ = RR
  have key : ∃ z, RR = some z ∧ z = (Exit.exit 2, { t := [(0, .d (.s (bs l))), (2, .ptr 50 0), (4, .ptr 51 0), (5, .ptr 52 0)], o := [(50, .box [.d (.i .i64 0), .d (.s ⟨#[]⟩), .nl, .d (.s ⟨#[]⟩), .nl]), (51, .box [.d (.s (bs l)), .d (.i .i64 (l.length : Nat)), .d (.b false)]), (52, .box [.d (.i .i64 kind), .d (.s name), .own 53, .d (.s query), .own 54]), (53, .arr .any 1 (cols.map sC)), (54, .arr .any 3 (change.mapIdx (rZ fun i => [i, 0, 0, 1])))], ks := [50, 51, 52, 53, 54], n := 0, sz := 84, u := noU, g := some (change.length, false) }) := by
    rw [← hE]
    refine evM_ex (α := Nat × Nat) (fun y => { t := [(0, .d (.s (bs l))), (2, .ptr 50 0), (4, .ptr 51 0), (5, .ptr 52 0), (33, .d (.i .i64 change.length)), (34, .d (.i .i64 (y.1 : Nat)))], o := [(50, .box [.d (.i .i64 0), .d (.s ⟨#[]⟩), .nl, .d (.s ⟨#[]⟩), .nl]), (51, .box [.d (.s (bs l)), .d (.i .i64 (y.2 : Nat)), .d (.b false)]), (52, .box [.d (.i .i64 kind), .d (.s name), .own 53, .d (.s query), .own 54]), (53, .arr .any 1 (cols.map sC)), (54, .arr .any 3 ((change.take y.1).mapIdx (rZ fun i => [i, 0, 0, 1])))], ks := [50, 51, 52, 53, 54], n := 0, sz := 84, u := noU, g := some (y.1, false) })
      (fun _ z => z = (Exit.exit 2, { t := [(0, .d (.s (bs l))), (2, .ptr 50 0), (4, .ptr 51 0), (5, .ptr 52 0)], o := [(50, .box [.d (.i .i64 0), .d (.s ⟨#[]⟩), .nl, .d (.s ⟨#[]⟩), .nl]), (51, .box [.d (.s (bs l)), .d (.i .i64 (l.length : Nat)), .d (.b false)]), (52, .box [.d (.i .i64 kind), .d (.s name), .own 53, .d (.s query), .own 54]), (53, .arr .any 1 (cols.map sC)), (54, .arr .any 3 (change.mapIdx (rZ fun i => [i, 0, 0, 1])))], ks := [50, 51, 52, 53, 54], n := 0, sz := 84, u := noU, g := some (change.length, false) }))
      (fun y => y.1 ≤ change.length ∧ y.2 ≤ l.length ∧ l.drop y.2 = (change.drop y.1).flatMap relB) (fun y => change.length - y.1) ?_ (0, j6) ⟨Nat.zero_le _, H2.out.1, H2.out.2⟩
    clear hE RR e4 e5 hso
    rintro ⟨q, i⟩ ⟨hq, hi, hd⟩ ih
    simp only at hq hi hd ih ⊢
    obtain ⟨h, hl, -, -, -, hnr, -⟩ := H.out
    by_cases hqc : q < change.length
    · have c1 := dec_lt hqc
      have w1 : IntKind.i64.wrap ((q : Int) + 1) = (q : Int) + 1 := wrap_succ (by omega)
      rw [rel_head hqc] at hd
      obtain ⟨r1, r2, r3⟩ := h.rels _ (List.getElem_mem hqc)
      have t1 : txtP 2 (l.drop i) = some (change[q].name, (beB (bs (pbL change[q].bag)).size 4 ++ bl (bs (pbL change[q].bag))) ++ (change.drop (q + 1)).flatMap relB) := by
        rw [hd]; exact txtP_app r1
      obtain ⟨i2, a1, -, a3, e1⟩ := ev_text_some l hl i 2 hi (by omega) t1
      rw [show ((2 : Nat) : Int) = 2 from rfl] at e1
      have t2 : txtP 4 (l.drop i2) = some (bs (pbL change[q].bag), (change.drop (q + 1)).flatMap relB) := by
        rw [← a3]; exact txtP_app (by rw [bs_size]; simpa using r3)
      obtain ⟨i3, b1, -, b3, e2⟩ := ev_text_some l hl i2 4 a1 (by omega) t2
      rw [show ((4 : Nat) : Int) = 4 from rfl] at e2
      have hbl : (pbL change[q].bag).length ≤ 1048576 := by
        have h1 := congrArg List.length a3
        rw [List.length_append, List.length_append, bl_size, bs_size, List.length_drop] at h1
        omega
      have e3 := ev_GetBag_yes change[q].bag.w change[q].bag.rows r2 (by rw [← pbL_of r2]; exact hbl)
      rw [show kb change[q].bag.w :: change[q].bag.rows.flatMap rowB = pbL change[q].bag from (pbL_of r2).symm] at e3
      have h3 : (change.take q).mapIdx (rZ fun i => [i, 0, 0, 1]) ++ [[.s change[q].name, .i .i64 change[q].bag.w, .sl (.tok [q, 0, 0, 1]) (cnEs [q, 0, 0, 1] 0 (change[q].bag.rows.map cC))]] = (change.take (q + 1)).mapIdx (rZ fun i => [i, 0, 0, 1]) := take_snocI (rZ fun i => [i, 0, 0, 1]) hqc
      have h4 := len_ok (n := (change.take q).length + 1) 48 (by rw [List.length_take]; omega) (by omega)
      have h5 : ((change.take q).mapIdx (rZ fun i => [i, 0, 0, 1])).length = (change.take q).length := by simp
      obtain ⟨z, hz1, hz2⟩ := ih (q + 1, i3) ⟨hqc, b1, b3.symm⟩ (by simp only; omega)
      refine ⟨z, ?_, hz2⟩
      simp only at hz1
      rw [show ((q + 1 : Nat) : Int) = (q : Int) + 1 from rfl] at hz1
      clear ih hq hi hd h hl hnr t1 t2 a1 a3 b1 b3 hz2 r1 r2 r3 hbl
      repeat' (first | with_reducible refine br_split (fun _ => ?_) (fun _ => ?_) | simp only [*, push_cast, simprocAttr] | (rw [drawC_ok]; rotate_left; decide +kernel; exact cfg_mixed))
    · have hqe : q = change.length := by omega
      have hie : i = l.length := by
        rw [hqe, List.drop_length] at hd
        have := congrArg List.length hd
        rw [List.length_drop] at this
        simp at this
        omega
      subst hqe
      subst hie
      have c1 : decide ((change.length : Int) < (change.length : Int)) = false := decide_eq_false (by omega)
      have hrr : change.take change.length = change := List.take_length
      refine ⟨_, ?_, rfl⟩
      clear ih hq hi hd h hl hnr hqc
      repeat' (first | with_reducible refine br_split (fun _ => ?_) (fun _ => ?_) | simp only [*, push_cast, simprocAttr] | (rw [drawC_ok]; rotate_left; decide +kernel; exact cfg_mixed))
  obtain ⟨_, rfl, rfl⟩ := key
  clear hE
  have c1 : decide ((l.length : Int) < (l.length : Int)) = false := decide_eq_false (by omega)
  have hme : annEs .any (change.mapIdx (rZ fun i => [i, 0, 0, 1])) = change.map rC := by
    rw [annEs_mapIdx (g := rC) (fun i x => by simp only [rZ, annCs, T.ann, er_cnEs, er_cC]; rfl) change]
  have hcan := canOk_step kind name cols query true (rZ fun i => [i, 0, 0, 1]) change (rZ_nm fun i => ⟨[0, 0, 1], rfl⟩)
  clear H H2 e4 e5
  repeat' (first | with_reducible refine br_split (fun _ => ?_) (fun _ => ?_) | simp only [*, push_cast, simprocAttr] | (rw [drawC_ok]; rotate_left; decide +kernel; exact cfg_mixed))
end Go.Av
end
section
namespace Go.Av
open Go.Proofs
set_option linter.unusedSimpArgs false
theorem ev_size_any (l : List UInt8) (hl : l.length ≤ 1048576) (i : Nat) (hi : i ≤ l.length) (b : Bool) (m : Nat) (hm : m ≤ 7) : ∃ (x i' : Nat) (b' : Bool), i' ≤ l.length ∧ x < 256 ^ m ∧ (b' = false → b = false ∧ l.drop i = beB x m ++ l.drop i') ∧
    evF cfg 33 [(0, .box [.d (.s (bs l)), .d (.i .i64 (i : Nat)), .d (.b b)])] [.ptr 0 0, .d (.i .i64 (m : Nat))] = some (.d (.i .i64 (x : Nat)), [(0, .box [.d (.s (bs l)), .d (.i .i64 (i' : Nat)), .d (.b b')])]) := by
  cases b with
  | true => exact ⟨0, i, true, hi, Nat.pow_pos (by omega), fun h => (by cases h), ev_size_bad (bs l) i m⟩
  | false =>
    cases h0 : takeP m (l.drop i) with
    | none => exact ⟨0, i, true, hi, Nat.pow_pos (by omega), fun h => (by cases h), ev_size_none l hl i m hi h0⟩
    | some p =>
      obtain ⟨a, r⟩ := p
      obtain ⟨h1, h2, h3, h4⟩ := takeP_at h0 hi
      have e := ev_size_some l hl i m (i + m) hi rfl h0
      rw [beV_in h4 hm] at e
      have h5 := beV_lt a
      rw [h4] at h5
      refine ⟨beV a, i + m, false, h1, h5, fun _ => ⟨rfl, ?_⟩, e⟩
      obtain ⟨g1, g2⟩ := takeP_some h0
      have := beB_beV a
      rw [h4] at this
      rw [this, ← h3]
      exact g1
theorem ev_text_any (l : List UInt8) (hl : l.length ≤ 1048576) (i : Nat) (hi : i ≤ l.length) (b : Bool) (m : Nat) (hm : m ≤ 7) : ∃ (s : ByteArray) (i' : Nat) (b' : Bool), i' ≤ l.length ∧ s.size ≤ l.length ∧ (b' = false → b = false ∧ l.drop i = (beB s.size m ++ bl s) ++ l.drop i' ∧ s.size < 256 ^ m) ∧
    evF cfg 34 [(0, .box [.d (.s (bs l)), .d (.i .i64 (i : Nat)), .d (.b b)])] [.ptr 0 0, .d (.i .i64 (m : Nat))] = some (.d (.s s), [(0, .box [.d (.s (bs l)), .d (.i .i64 (i' : Nat)), .d (.b b')])]) := by
  cases b with
  | true => exact ⟨⟨#[]⟩, i, true, hi, Nat.zero_le _, fun h => (by cases h), ev_text_bad (bs l) i m⟩
  | false =>
    cases h0 : txtP m (l.drop i) with
    | none =>
      obtain ⟨i', h1, e⟩ := ev_text_none l hl i m hi hm h0
      exact ⟨⟨#[]⟩, i', true, h1, Nat.zero_le _, fun h => (by cases h), e⟩
    | some p =>
      obtain ⟨s, r⟩ := p
      obtain ⟨k, h1, h2, h3, e⟩ := ev_text_some l hl i m hi hm h0
      obtain ⟨g1, g2⟩ := txtP_some h0
      refine ⟨s, k, false, h1, ?_, fun _ => ⟨rfl, by rw [← h3]; exact g1, g2⟩, e⟩
      have := congrArg List.length g1
      rw [List.length_append, List.length_append, beB_len, bl_size, List.length_drop] at this
      omega
structure CT where
  cols : List ByteArray
  i : Nat
  bad : Bool
structure RT where
  ch : List R
  i : Nat
  bad : Bool
theorem canNoS : canOk (.tup [.agg [.d (.i .i64 0), .d (.s ⟨#[]⟩), .d (.sl .any []), .d (.s ⟨#[]⟩), .d (.sl .any [])], .d (.b false)]) [] := by
  simp [canOk, tkTV, tkL, tkT, tkO, flatTV, flatL, arrO, keysOf, tkEs, annTok]
theorem ev_GetStep_no (l : List UInt8) (hl : l.length ≤ 1048576) (h : ∀ x, OkS x → l ≠ psL x) :
    evF cfg 7 [] [.d (.s (bs l))] = some (.tup [.agg [.d (.i .i64 0), .d (.s ⟨#[]⟩), .d (.sl (.tok [0, 0, 2]) []), .d (.s ⟨#[]⟩), .d (.sl (.tok [0, 0, 4]) [])], .d (.b false)], []) := by
  have hz := bs_size l
  have hcan := canNoS
  obtain ⟨kn, i1, b1, hi1, hkn, p1, e0⟩ := ev_size_any l hl 0 (Nat.zero_le _) false 1 (by omega)
  rw [show ((1 : Nat) : Int) = 1 from rfl, show ((0 : Nat) : Int) = 0 from rfl] at e0
  obtain ⟨name, i2, b2, hi2, hname, p2, e1⟩ := ev_text_any l hl i1 hi1 b1 2 (by omega)
  rw [show ((2 : Nat) : Int) = 2 from rfl] at e1
  obtain ⟨nc, i3, b3, hi3, hnc, p3, e2⟩ := ev_size_any l hl i2 hi2 b2 1 (by omega)
  rw [show ((1 : Nat) : Int) = 1 from rfl] at e2
  have q3 : b3 = false → l = beB kn 1 ++ ((beB name.size 2 ++ bl name) ++ (beB nc 1 ++ l.drop i3)) ∧ name.size < 65536 := fun h => by
    obtain ⟨g0, g1⟩ := p3 h
    obtain ⟨f0, f1, f2⟩ := p2 g0
    obtain ⟨-, d1⟩ := p1 f0
    rw [List.drop_zero, f1, g1] at d1
    exact ⟨d1, by simpa using f2⟩
  have H := Hd.mk (And.intro h (And.intro hl (And.intro (show kn < 256 by simpa using hkn) (And.intro (show nc < 256 by simpa using hnc) (And.intro hi3 q3)))))
  clear h hl hkn hnc p1 p2 p3 q3 hi1 hi2 hi3 hname
  (refine (evF_codeZ (C := cfg) (g := 7) (fn := Tryz.f7) rfl Tryz.func7 rfl (by rw [Tryz.ntmps7]; simp) (by kernel_rfl)).trans ?_; rw [Tryz.results7, Tryz.ntmps7])
  repeat' (first | with_reducible refine br_split (fun _ => ?_) (fun _ => ?_) | simp only [*, push_cast, simprocAttr] | (rw [drawC_ok]; rotate_left; decide +kernel; exact cfg_mixed))
  rw [show ([] : List (List T)) = ([] : List ByteArray).map sC from rfl]
  generalize hE : evM cfg _ _ _ _ _ = RR
  have key : ∃ z, RR = some z ∧ ∃ (cols : List ByteArray) (i' : Nat) (b' : Bool), cols.length = nc ∧ i' ≤ l.length ∧ (b' = false → b3 = false ∧ l.drop i3 = cols.flatMap col2 ++ l.drop i' ∧ ∀ c ∈ cols, c.size < 65536) ∧ z = (Exit.exit 0, { t := [(0, .d (.s (bs l))), (2, .ptr 50 0), (4, .ptr 51 0), (5, .ptr 52 0)], o := [(50, .box [.d (.i .i64 0), .d (.s ⟨#[]⟩), .nl, .d (.s ⟨#[]⟩), .nl]), (51, .box [.d (.s (bs l)), .d (.i .i64 (i' : Nat)), .d (.b b')]), (52, .box [.d (.i .i64 (kn : Nat)), .d (.s name), .own 53, .d (.s ⟨#[]⟩), .nl]), (53, .arr .any 1 (cols.map sC))], ks := [50, 51, 52, 53], n := 0, sz := 84, u := noU, g := some (0, false) }) := by
    rw [← hE]
    refine evM_ex (α := CT) (fun y => { t := [(0, .d (.s (bs l))), (2, .ptr 50 0), (4, .ptr 51 0), (5, .ptr 52 0), (18, .d (.i .i64 (nc : Nat))), (19, .d (.i .i64 (y.cols.length : Nat)))], o := [(50, .box [.d (.i .i64 0), .d (.s ⟨#[]⟩), .nl, .d (.s ⟨#[]⟩), .nl]), (51, .box [.d (.s (bs l)), .d (.i .i64 (y.i : Nat)), .d (.b y.bad)]), (52, .box [.d (.i .i64 (kn : Nat)), .d (.s name), .own 53, .d (.s ⟨#[]⟩), .nl]), (53, .arr .any 1 (y.cols.map sC))], ks := [50, 51, 52, 53], n := 0, sz := 84, u := noU, g := some (0, false) })
      (fun _ z => ∃ (cols : List ByteArray) (i' : Nat) (b' : Bool), cols.length = nc ∧ i' ≤ l.length ∧ (b' = false → b3 = false ∧ l.drop i3 = cols.flatMap col2 ++ l.drop i' ∧ ∀ c ∈ cols, c.size < 65536) ∧ z = (Exit.exit 0, { t := [(0, .d (.s (bs l))), (2, .ptr 50 0), (4, .ptr 51 0), (5, .ptr 52 0)], o := [(50, .box [.d (.i .i64 0), .d (.s ⟨#[]⟩), .nl, .d (.s ⟨#[]⟩), .nl]), (51, .box [.d (.s (bs l)), .d (.i .i64 (i' : Nat)), .d (.b b')]), (52, .box [.d (.i .i64 (kn : Nat)), .d (.s name), .own 53, .d (.s ⟨#[]⟩), .nl]), (53, .arr .any 1 (cols.map sC))], ks := [50, 51, 52, 53], n := 0, sz := 84, u := noU, g := some (0, false) }))
      (fun y => y.cols.length ≤ nc ∧ y.i ≤ l.length ∧ (y.bad = false → b3 = false ∧ l.drop i3 = y.cols.flatMap col2 ++ l.drop y.i ∧ ∀ c ∈ y.cols, c.size < 65536)) (fun y => nc - y.cols.length) ?_ ⟨[], i3, b3⟩ ⟨Nat.zero_le _, H.out.2.2.2.2.1, fun h => ⟨h, rfl, fun _ h => (nomatch h)⟩⟩
    clear hE RR e0 e1 e2 hcan
    rintro ⟨cols, i, bad⟩ ⟨hq, hi, hp⟩ ih
    simp only at hq hi hp ih ⊢
    obtain ⟨h, hl, hkn, hnc, -, -⟩ := H.out
    by_cases hqc : cols.length < nc
    · have c1 : decide ((cols.length : Int) < (nc : Int)) = true := decide_eq_true (by omega)
      have w1 : IntKind.i64.wrap ((cols.length : Int) + 1) = (cols.length : Int) + 1 := wrap_succ (by omega)
      obtain ⟨c, i', b', hi', -, p2, e1⟩ := ev_text_any l hl i hi bad 2 (by omega)
      rw [show ((2 : Nat) : Int) = 2 from rfl] at e1
      have h3 : cols.map sC ++ [[.s c]] = (cols ++ [c]).map sC := by rw [List.map_append]; rfl
      have h4 := len_ok (n := cols.length + 1) 16 (by omega) (by omega)
      obtain ⟨z, hz1, hz2⟩ := ih ⟨cols ++ [c], i', b'⟩ ⟨by simp; omega, hi', fun hb => by
        obtain ⟨g0, g1, g2⟩ := p2 hb
        obtain ⟨f0, f1, f2⟩ := hp g0
        refine ⟨f0, ?_, fun x hx => ?_⟩
        · rw [f1, g1]; simp [col2, txB]
        · rcases List.mem_append.1 hx with hx | hx
          · exact f2 x hx
          · rw [List.mem_singleton.1 hx]; simpa using g2⟩ (by simp; omega)
      refine ⟨z, ?_, hz2⟩
      simp only [List.length_append, List.length_singleton] at hz1
      rw [show ((cols.length + 1 : Nat) : Int) = (cols.length : Int) + 1 from rfl] at hz1
      clear ih hq hi hp h hl hkn hnc hqc hi' p2 hz2
      repeat' (first | with_reducible refine br_split (fun _ => ?_) (fun _ => ?_) | simp only [*, push_cast, simprocAttr] | (rw [drawC_ok]; rotate_left; decide +kernel; exact cfg_mixed))
    · have c1 : decide ((cols.length : Int) < (nc : Int)) = false := decide_eq_false (by omega)
      refine ⟨_, ?_, cols, i, bad, by omega, hi, hp, rfl⟩
      clear ih hq hi hp h hl hkn hnc hqc
      repeat' (first | with_reducible refine br_split (fun _ => ?_) (fun _ => ?_) | simp only [*, push_cast, simprocAttr] | (rw [drawC_ok]; rotate_left; decide +kernel; exact cfg_mixed))
  obtain ⟨_, rfl, cols, i4, b4, p1, p2, p3, rfl⟩ := key
  clear hE e0 e1 e2
  obtain ⟨h, hl, hkn, hnc, hi3, q3⟩ := H.out
  obtain ⟨query, i5, b5, hi5, hqr, p4, e3⟩ := ev_text_any l hl i4 p2 b4 2 (by omega)
  rw [show ((2 : Nat) : Int) = 2 from rfl] at e3
  obtain ⟨k, i6, b6, hi6, hk, p5, e4⟩ := ev_size_any l hl i5 hi5 b5 1 (by omega)
  rw [show ((1 : Nat) : Int) = 1 from rfl] at e4
  have q6 : b6 = false → l = beB kn 1 ++ ((beB name.size 2 ++ bl name) ++ (beB cols.length 1 ++ (cols.flatMap col2 ++ ((beB query.size 2 ++ bl query) ++ (beB k 1 ++ l.drop i6))))) ∧ name.size < 65536 ∧ (∀ c ∈ cols, c.size < 65536) ∧ query.size < 65536 := fun h => by
    obtain ⟨g0, g1⟩ := p5 h
    obtain ⟨f0, f1, f2⟩ := p4 g0
    obtain ⟨d0, d1, d2⟩ := p3 f0
    obtain ⟨c0, c1⟩ := q3 d0
    rw [d1, f1, g1] at c0
    rw [p1]
    exact ⟨c0, c1, d2, by simpa using f2⟩
  have H2 := Hd.mk (And.intro (show k < 256 by simpa using hk) (And.intro hi6 q6))
  clear h hl hkn hnc hi3 q3 p1 p2 p3 p4 p5 hi5 hi6 hk q6 hqr
  repeat' (first | with_reducible refine br_split (fun _ => ?_) (fun _ => ?_) | simp only [*, push_cast, simprocAttr] | (rw [drawC_ok]; rotate_left; decide +kernel; exact cfg_mixed))
  rw [show ([] : List (List T)) = ([] : List R).mapIdx (rZ fun i => [i, 0, 0, 1]) from rfl]
  generalize hE : evM cfg _ _ _ _ _ = RR
  have key : ∃ z, RR = some z ∧ ∃ (ch : List R) (i' : Nat) (b' : Bool), ch.length = k ∧ i' ≤ l.length ∧ (b' = false → b6 = false ∧ l.drop i6 = ch.flatMap relB ++ l.drop i' ∧ ∀ r ∈ ch, r.name.size < 65536 ∧ OkB r.bag ∧ (pbL r.bag).length < 4294967296) ∧ z = (Exit.exit 2, { t := [(0, .d (.s (bs l))), (2, .ptr 50 0), (4, .ptr 51 0), (5, .ptr 52 0)], o := [(50, .box [.d (.i .i64 0), .d (.s ⟨#[]⟩), .nl, .d (.s ⟨#[]⟩), .nl]), (51, .box [.d (.s (bs l)), .d (.i .i64 (i' : Nat)), .d (.b b')]), (52, .box [.d (.i .i64 (kn : Nat)), .d (.s name), .own 53, .d (.s query), .own 54]), (53, .arr .any 1 (cols.map sC)), (54, .arr .any 3 (ch.mapIdx (rZ fun i => [i, 0, 0, 1])))], ks := [50, 51, 52, 53, 54], n := 0, sz := 84, u := noU, g := some (ch.length, false) }) := by
    rw [← hE]
    refine evM_ex (α := RT) (fun y => { t := [(0, .d (.s (bs l))), (2, .ptr 50 0), (4, .ptr 51 0), (5, .ptr 52 0), (33, .d (.i .i64 (k : Nat))), (34, .d (.i .i64 (y.ch.length : Nat)))], o := [(50, .box [.d (.i .i64 0), .d (.s ⟨#[]⟩), .nl, .d (.s ⟨#[]⟩), .nl]), (51, .box [.d (.s (bs l)), .d (.i .i64 (y.i : Nat)), .d (.b y.bad)]), (52, .box [.d (.i .i64 (kn : Nat)), .d (.s name), .own 53, .d (.s query), .own 54]), (53, .arr .any 1 (cols.map sC)), (54, .arr .any 3 (y.ch.mapIdx (rZ fun i => [i, 0, 0, 1])))], ks := [50, 51, 52, 53, 54], n := 0, sz := 84, u := noU, g := some (y.ch.length, false) })
      (fun _ z => ∃ (ch : List R) (i' : Nat) (b' : Bool), ch.length = k ∧ i' ≤ l.length ∧ (b' = false → b6 = false ∧ l.drop i6 = ch.flatMap relB ++ l.drop i' ∧ ∀ r ∈ ch, r.name.size < 65536 ∧ OkB r.bag ∧ (pbL r.bag).length < 4294967296) ∧ z = (Exit.exit 2, { t := [(0, .d (.s (bs l))), (2, .ptr 50 0), (4, .ptr 51 0), (5, .ptr 52 0)], o := [(50, .box [.d (.i .i64 0), .d (.s ⟨#[]⟩), .nl, .d (.s ⟨#[]⟩), .nl]), (51, .box [.d (.s (bs l)), .d (.i .i64 (i' : Nat)), .d (.b b')]), (52, .box [.d (.i .i64 (kn : Nat)), .d (.s name), .own 53, .d (.s query), .own 54]), (53, .arr .any 1 (cols.map sC)), (54, .arr .any 3 (ch.mapIdx (rZ fun i => [i, 0, 0, 1])))], ks := [50, 51, 52, 53, 54], n := 0, sz := 84, u := noU, g := some (ch.length, false) }))
      (fun y => y.ch.length ≤ k ∧ y.i ≤ l.length ∧ (y.bad = false → b6 = false ∧ l.drop i6 = y.ch.flatMap relB ++ l.drop y.i ∧ ∀ r ∈ y.ch, r.name.size < 65536 ∧ OkB r.bag ∧ (pbL r.bag).length < 4294967296)) (fun y => k - y.ch.length) ?_ ⟨[], i6, b6⟩ ⟨Nat.zero_le _, H2.out.2.1, fun h => ⟨h, rfl, fun _ h => (nomatch h)⟩⟩
    clear hE RR e3 e4 hcan
    rintro ⟨ch, i, bad⟩ ⟨hq, hi, hp⟩ ih
    simp only at hq hi hp ih ⊢
    obtain ⟨h, hl, -, -, -, -⟩ := H.out
    obtain ⟨hk, -, -⟩ := H2.out
    by_cases hqc : ch.length < k
    · have c1 : decide ((ch.length : Int) < (k : Int)) = true := decide_eq_true (by omega)
      have w1 : IntKind.i64.wrap ((ch.length : Int) + 1) = (ch.length : Int) + 1 := wrap_succ (by omega)
      obtain ⟨rn, i', b', hi', -, p2, e1⟩ := ev_text_any l hl i hi bad 2 (by omega)
      rw [show ((2 : Nat) : Int) = 2 from rfl] at e1
      obtain ⟨by4, i'', b'', hi'', hbs, p3, e2⟩ := ev_text_any l hl i' hi' b' 4 (by omega)
      rw [show ((4 : Nat) : Int) = 4 from rfl] at e2
      have h5 : (ch.mapIdx (rZ fun i => [i, 0, 0, 1])).length = ch.length := by simp
      have h4 := len_ok (n := ch.length + 1) 48 (by omega) (by omega)
      by_cases hb : ∃ b, OkB b ∧ bl by4 = pbL b
      · obtain ⟨⟨bw, brows⟩, hb1, hb2⟩ := hb
        have hbb : by4 = bs (pbL ⟨bw, brows⟩) := by rw [← hb2, bs_bl]
        have hlen : (pbL ⟨bw, brows⟩).length = by4.size := by rw [← hb2, bl_size]
        have e5 := ev_GetBag_yes bw brows hb1 (by rw [← pbL_of (b := ⟨bw, brows⟩) hb1, hlen]; omega)
        rw [show kb bw :: brows.flatMap rowB = pbL ⟨bw, brows⟩ from (pbL_of (b := ⟨bw, brows⟩) hb1).symm, ← hbb] at e5
        have h3 : ch.mapIdx (rZ fun i => [i, 0, 0, 1]) ++ [[.s rn, .i .i64 bw, .sl (.tok [ch.length, 0, 0, 1]) (cnEs [ch.length, 0, 0, 1] 0 (brows.map cC))]] = (ch ++ [(⟨rn, ⟨bw, brows⟩⟩ : R)]).mapIdx (rZ fun i => [i, 0, 0, 1]) := by
          rw [List.mapIdx_append]; simp [rZ]
        obtain ⟨z, hz1, hz2⟩ := ih ⟨ch ++ [(⟨rn, ⟨bw, brows⟩⟩ : R)], i'', b''⟩ ⟨by simp; omega, hi'', fun hx => by
          obtain ⟨g0, g1, g2⟩ := p3 hx
          obtain ⟨f0, f1, f2⟩ := p2 g0
          obtain ⟨d0, d1, d2⟩ := hp f0
          refine ⟨d0, ?_, fun r hr => ?_⟩
          · rw [d1, f1, g1]; simp only [relB, txB, List.flatMap_append, List.flatMap_cons, List.flatMap_nil, List.append_nil, List.append_assoc, ← hbb]
          · rcases List.mem_append.1 hr with hr | hr
            · exact d2 r hr
            · rw [List.mem_singleton.1 hr]
              refine ⟨by simpa using f2, hb1, ?_⟩
              show (pbL ⟨bw, brows⟩).length < 4294967296
              rw [hlen]
              simpa using g2⟩ (by simp; omega)
        refine ⟨z, ?_, hz2⟩
        simp only [List.length_append, List.length_singleton] at hz1
        rw [show ((ch.length + 1 : Nat) : Int) = (ch.length : Int) + 1 from rfl] at hz1
        clear ih hq hi hp h hl hk hqc hi' hi'' p2 p3 hbs hb1 hb2 hbb hlen hz2
        cases b'' <;> repeat' (first | with_reducible refine br_split (fun _ => ?_) (fun _ => ?_) | simp only [*, push_cast, simprocAttr] | (rw [drawC_ok]; rotate_left; decide +kernel; exact cfg_mixed))
      · have e5 := ev_GetBag_no (bl by4) (by rw [bl_size]; omega) (fun b hb1 hb2 => hb ⟨b, hb1, hb2⟩)
        rw [bs_bl] at e5
        have h3 : ch.mapIdx (rZ fun i => [i, 0, 0, 1]) ++ [[.s rn, .i .i64 0, .sl (.tok [ch.length, 0, 0, 1]) []]] = (ch ++ [(⟨rn, ⟨0, []⟩⟩ : R)]).mapIdx (rZ fun i => [i, 0, 0, 1]) := by
          rw [List.mapIdx_append]; simp [rZ, cnEs]
        obtain ⟨z, hz1, hz2⟩ := ih ⟨ch ++ [(⟨rn, ⟨0, []⟩⟩ : R)], i'', true⟩ ⟨by simp; omega, hi'', fun hx => (by cases hx)⟩ (by simp; omega)
        refine ⟨z, ?_, hz2⟩
        simp only [List.length_append, List.length_singleton] at hz1
        rw [show ((ch.length + 1 : Nat) : Int) = (ch.length : Int) + 1 from rfl] at hz1
        clear ih hq hi hp h hl hk hqc hi' hi'' p2 p3 hbs hb hz2
        cases b'' <;> repeat' (first | with_reducible refine br_split (fun _ => ?_) (fun _ => ?_) | simp only [*, push_cast, simprocAttr] | (rw [drawC_ok]; rotate_left; decide +kernel; exact cfg_mixed))
    · have c1 : decide ((ch.length : Int) < (k : Int)) = false := decide_eq_false (by omega)
      refine ⟨_, ?_, ch, i, bad, by omega, hi, hp, rfl⟩
      clear ih hq hi hp h hl hk hqc
      repeat' (first | with_reducible refine br_split (fun _ => ?_) (fun _ => ?_) | simp only [*, push_cast, simprocAttr] | (rw [drawC_ok]; rotate_left; decide +kernel; exact cfg_mixed))
  obtain ⟨_, rfl, ch, i7, b7, p5, hi7, p6, rfl⟩ := key
  clear hE e3 e4
  rw [List.mapIdx_nil]
  cases b7 with
  | true =>
    clear H H2 p5 hi7 p6
    repeat' (first | with_reducible refine br_split (fun _ => ?_) (fun _ => ?_) | simp only [*, push_cast, simprocAttr] | (rw [drawC_ok]; rotate_left; decide +kernel; exact cfg_mixed))
  | false =>
    obtain ⟨h, hl, hkn, -, -, -⟩ := H.out
    obtain ⟨hk, -, q6⟩ := H2.out
    obtain ⟨f0, f1, f2⟩ := p6 rfl
    obtain ⟨g1, g2, g3, g4⟩ := q6 f0
    by_cases hc : i7 < l.length
    · have c1 := dec_lt hc
      clear H H2 h hl hkn hk p5 hi7 p6 q6 f0 f1 f2 g1 g2 g3 g4 hc
      repeat' (first | with_reducible refine br_split (fun _ => ?_) (fun _ => ?_) | simp only [*, push_cast, simprocAttr] | (rw [drawC_ok]; rotate_left; decide +kernel; exact cfg_mixed))
    · have c1 : decide ((i7 : Int) < (l.length : Int)) = false := decide_eq_false (by omega)
      rw [f1, show i7 = l.length by omega, List.drop_length, List.append_nil, ← p5] at g1
      have hlen := congrArg List.length g1
      have s1 := szSs_enc cols
      have s2 := szRs_enc (l := ch) fun r hr => (f2 r hr).2.1
      simp only [List.length_append, beB_len, bl_size] at hlen
      have hso := ev_StepOk (kn : Nat) name cols query ch (by simp only [szSp]; omega)
      cases ho : stepOk ⟨(kn : Nat), name, cols, query, ch⟩ with
      | true =>
        have hS : OkS ⟨(kn : Nat), name, cols, query, ch⟩ := ⟨ho, g2, g3, g4, f2⟩
        refine absurd ?_ (h _ hS)
        rw [psL_eq hS, u64_nn (by omega)]
        simp only [tail1, tail2]
        exact g1
      | false =>
        rw [ho] at hso
        have hme : annEs .any (ch.mapIdx (rZ fun i => [i, 0, 0, 1])) = ch.map rC := by
          rw [annEs_mapIdx (g := rC) (fun i x => by simp only [rZ, annCs, T.ann, er_cnEs, er_cC]; rfl) ch]
        clear H H2 h hl hkn hk p5 hi7 p6 q6 f0 f1 f2 g1 g2 g3 g4 hc hlen s1 s2 ho
        repeat' (first | with_reducible refine br_split (fun _ => ?_) (fun _ => ?_) | simp only [*, push_cast, simprocAttr] | (rw [drawC_ok]; rotate_left; decide +kernel; exact cfg_mixed))
end Go.Av
end
section
namespace Go.Av
open Go.Proofs
set_option linter.unusedSimpArgs false
def recS (x : Sp) : List UInt8 := recB (psL x)
theorem recS_len (x : Sp) : (recS x).length = (psL x).length + 8 := recB_len _
structure LogD (l : List UInt8) (xs : List Sp) (r : List UInt8) : Prop where
  eq : l = xs.flatMap recS ++ r
  ok : ∀ x ∈ xs, OkS x
  no : ∀ x r', OkS x → r ≠ recS x ++ r'
theorem logD : ∀ (n : Nat) (l : List UInt8), l.length ≤ n → ∃ xs r, LogD l xs r := by
  intro n
  induction n with
  | zero => exact fun l h => ⟨[], l, rfl, by simp, fun x r' _ h' => by
      have := congrArg List.length h'
      rw [List.length_append, recS_len] at this
      omega⟩
  | succ n ih =>
    intro l h
    by_cases hx : ∃ x r', OkS x ∧ l = recS x ++ r'
    · obtain ⟨x, r', hx, rfl⟩ := hx
      rw [List.length_append, recS_len] at h
      obtain ⟨xs, r, h1, h2, h3⟩ := ih r' (by omega)
      refine ⟨x :: xs, r, by rw [h1]; simp, fun y hy => ?_, h3⟩
      rcases List.mem_cons.1 hy with rfl | hy
      · exact hx
      · exact h2 y hy
    · exact ⟨[], l, rfl, by simp, fun x r' h1 h2 => hx ⟨x, r', h1, h2⟩⟩
def posL (xs : List Sp) (i : Nat) : Nat := ((xs.take i).flatMap recS).length
theorem posL_zero (xs : List Sp) : posL xs 0 = 0 := by simp [posL]
theorem posL_succ {xs : List Sp} {i : Nat} (h : i < xs.length) : posL xs (i + 1) = posL xs i + 8 + (psL xs[i]).length := by
  simp only [posL]
  rw [List.take_succ_eq_append_getElem h, List.flatMap_append, List.length_append]
  simp [recS_len]; omega
theorem LogD.drop {l xs r} (h : LogD l xs r) {i : Nat} (hi : i ≤ xs.length) : l.drop (posL xs i) = (xs.drop i).flatMap recS ++ r ∧ posL xs i ≤ l.length := by
  have e : l = (xs.take i).flatMap recS ++ ((xs.drop i).flatMap recS ++ r) := by
    rw [h.eq, ← List.append_assoc, ← List.flatMap_append, List.take_append_drop]
  constructor
  · conv => lhs; rw [e]
    exact List.drop_left
  · have := congrArg List.length e
    rw [List.length_append] at this
    simp only [posL]; omega
theorem flatS_len (xs : List Sp) : xs.length ≤ (xs.flatMap recS).length := by
  induction xs with
  | nil => simp
  | cons x xs ih => rw [List.flatMap_cons, List.length_append, recS_len, List.length_cons]; omega
theorem LogD.len {l xs r} (h : LogD l xs r) : xs.length ≤ l.length := by
  rw [h.eq, List.length_append]
  have := flatS_len xs
  omega
theorem flat_cons {xs : List Sp} {i : Nat} (h : i < xs.length) (r : List UInt8) : (xs.drop i).flatMap recS ++ r = recB (psL xs[i]) ++ ((xs.drop (i + 1)).flatMap recS ++ r) := by
  rw [List.drop_eq_getElem_cons h, List.flatMap_cons, List.append_assoc]; rfl
structure RecAt (l own : List UInt8) (p : Nat) : Prop where
  a : takeP 4 (l.drop p) = some (beB own.length 4, l.drop (p + 4))
  b : takeP 4 (l.drop (p + 4)) = some (beB (sumI own).toNat 4, l.drop (p + 8))
  c : takeP own.length (l.drop (p + 8)) = some (own, l.drop (p + 8 + own.length))
  le : p + 8 + own.length ≤ l.length
  v1 : beV (beB own.length 4) = own.length
  v2 : (beV (beB (sumI own).toNat 4) : Int) = sumI own
theorem recAt {l own rest : List UInt8} {p : Nat} (hd : l.drop p = recB own ++ rest) (hp : p ≤ l.length) (hl : l.length ≤ 1048576) : RecAt l own p := by
  have hlen := congrArg List.length hd
  rw [List.length_drop, List.length_append, recB_len] at hlen
  have hs := sumI_le own
  have d1 : l.drop p = beB own.length 4 ++ (beB (sumI own).toNat 4 ++ (own ++ rest)) := by rw [hd, recB]; simp
  have t1 := takeP_app (n := 4) (a := beB own.length 4) (b := beB (sumI own).toNat 4 ++ (own ++ rest)) (beB_len _ _)
  rw [← d1] at t1
  have e1 := (takeP_at t1 hp).2.2.1
  have t2 := takeP_app (n := 4) (a := beB (sumI own).toNat 4) (b := own ++ rest) (beB_len _ _)
  rw [e1] at t1 t2
  have e2 := (takeP_at t2 (by omega)).2.2.1
  have t3 := takeP_app (n := own.length) (a := own) (b := rest) rfl
  rw [show p + 4 + 4 = p + 8 from rfl] at e2
  rw [e2] at t2 t3
  have e3 := (takeP_at t3 (by omega)).2.2.1
  rw [e3] at t3
  refine ⟨t1, t2, t3, by omega, beV_beB _ 4 (by omega), ?_⟩
  rw [beV_beB _ 4 (by omega)]
  omega
theorem rec_facts {l own : List UInt8} {p : Nat} (hl : l.length ≤ 100000) (R : RecAt l own p) :
    ∃ m q k : Nat, p + 4 = m ∧ m + 4 = q ∧ q + own.length = k ∧ k ≤ l.length ∧ takeP 4 (l.drop p) = some (beB own.length 4, l.drop m) ∧ takeP 4 (l.drop m) = some (beB (sumI own).toNat 4, l.drop q) ∧ takeP own.length (l.drop q) = some (own, l.drop k) ∧ (bs l).extract q k = bs own := by
  refine ⟨p + 4, p + 8, p + 8 + own.length, rfl, rfl, rfl, R.le, R.a, R.b, R.c, ?_⟩
  have g := (takeP_at R.c (by have := R.le; omega)).2.1
  have e : p + 8 + own.length - (p + 8) = own.length := by omega
  rw [bs_extract, List.drop_take, e, ← g]
theorem no_rec {l a b c d own e : List UInt8} {p : Nat} (hno : ∀ x r', OkS x → l.drop p ≠ recS x ++ r') (h1 : takeP 4 (l.drop p) = some (a, b)) (h2 : takeP 4 b = some (c, d)) (h3 : takeP (beV a) d = some (own, e)) (h4 : (beV c : Int) = sumI own) : ∀ x, OkS x → own ≠ psL x := by
  intro x hx he
  refine hno x e hx ?_
  obtain ⟨g1, g2⟩ := takeP_some h1
  obtain ⟨g3, g4⟩ := takeP_some h2
  obtain ⟨g5, g6⟩ := takeP_some h3
  have b1 := beB_beV a
  have b2 := beB_beV c
  rw [g2, ← g6] at b1
  rw [g4, show beV c = (sumI own).toNat by omega] at b2
  rw [g1, g3, g5, recS, ← he, recB, b1, b2]
  simp
end Go.Av
end
section
namespace Go.Av
open Go.Proofs
set_option linter.unusedSimpArgs false
theorem u32_wrap (x : Int) : IntKind.u32.wrap x = x % 4294967296 := by
  have a : ((2 : Int) ^ IntKind.u32.bits) = 4294967296 := by decide
  have c : IntKind.u32.signed = false := rfl
  simp only [IntKind.wrap, a, c, Bool.false_and]
  rfl
theorem xor_u32 (x y : Int) : bitsI .xor .u32 x y = ((BitVec.ofInt 32 x ^^^ BitVec.ofInt 32 y).toNat : Int) := by
  have h := (BitVec.ofInt 32 x ^^^ BitVec.ofInt 32 y).isLt
  show IntKind.u32.wrap ((BitVec.ofInt 32 x ^^^ BitVec.ofInt 32 y).toNat : Int) = _
  rw [u32_wrap]
  omega
theorem bv_xor_r {n : Nat} {a b c : BitVec n} (h : a ^^^ c = b ^^^ c) : a = b := by
  have := congrArg (· ^^^ c) h
  simpa [BitVec.xor_assoc] using this
theorem bv_xor_l {n : Nat} {a b c : BitVec n} (h : c ^^^ a = c ^^^ b) : a = b := by
  rw [BitVec.xor_comm c a, BitVec.xor_comm c b] at h
  exact bv_xor_r h
theorem ofInt_inj {x y : Int} (hx : 0 ≤ x ∧ x ≤ 4294967295) (hy : 0 ≤ y ∧ y ≤ 4294967295) (h : BitVec.ofInt 32 x = BitVec.ofInt 32 y) : x = y := by
  have := congrArg BitVec.toNat h
  simp only [BitVec.toNat_ofInt] at this
  have e : ((2 ^ 32 : Nat) : Int) = 4294967296 := rfl
  rw [e] at this
  omega
theorem mi0 {X Y M A B D : Int} (h1 : D + M * A = X) (h2 : D + M * B = Y) : X - Y = M * (A - B) := by rw [Int.mul_sub]; omega
theorem mi1 {d k p i M c : Int} (h3 : d * p = M * k) (h5 : p * i = 1 + M * c) : d = M * (k * i - d * c) := by
  have h4 : d * (p * i) = M * (k * i) := by rw [← Int.mul_assoc, h3, Int.mul_assoc]
  rw [h5, Int.mul_add, Int.mul_one, Int.mul_left_comm] at h4
  rw [Int.mul_sub]; omega
theorem mi2 {m n p i M c : Int} (h5 : p * i = 1 + M * c) (h : m * p % M = n * p % M) : ∃ q, m - n = M * q := by
  have h1 := Int.emod_add_mul_ediv (m * p) M
  have h2 := Int.emod_add_mul_ediv (n * p) M
  rw [h] at h1
  exact ⟨_, mi1 (k := m * p / M - n * p / M) (by rw [Int.sub_mul]; exact mi0 h1 h2) h5⟩
theorem mul_inj {m n : Int} (hm : 0 ≤ m ∧ m ≤ 4294967295) (hn : 0 ≤ n ∧ n ≤ 4294967295) (h : m * 16777619 % 4294967296 = n * 16777619 % 4294967296) : m = n := by
  obtain ⟨q, hq⟩ := mi2 (i := 899433627) (c := 3513497) (by simp only [Int.reduceMul, Int.reduceAdd]) h
  clear h
  omega
theorem sumS_xor {x y : Int} {b c : UInt8} (h : sumS x b = sumS y c) : BitVec.ofInt 32 x ^^^ BitVec.ofInt 32 (b.toNat : Nat) = BitVec.ofInt 32 y ^^^ BitVec.ofInt 32 (c.toNat : Nat) := by
  have hb := b.toNat_lt
  have hc := c.toNat_lt
  have e1 : IntKind.u32.wrap (b.toNat : Nat) = (b.toNat : Nat) := by rw [u32_wrap]; omega
  have e2 : IntKind.u32.wrap (c.toNat : Nat) = (c.toNat : Nat) := by rw [u32_wrap]; omega
  unfold sumS at h
  rw [e1, e2, u32_wrap, u32_wrap, xor_u32, xor_u32] at h
  clear e1 e2 hb hc
  generalize BitVec.ofInt 32 x ^^^ BitVec.ofInt 32 (b.toNat : Nat) = u at *
  generalize BitVec.ofInt 32 y ^^^ BitVec.ofInt 32 (c.toNat : Nat) = v at *
  have h1 := u.isLt
  have h2 := v.isLt
  rw [show 2 ^ 32 = 4294967296 from rfl] at h1 h2
  have g1 : (0 : Int) ≤ (u.toNat : Int) ∧ (u.toNat : Int) ≤ 4294967295 := by
    generalize u.toNat = n at h1
    omega
  have g2 : (0 : Int) ≤ (v.toNat : Int) ∧ (v.toNat : Int) ≤ 4294967295 := by
    generalize v.toNat = n at h2
    omega
  have := mul_inj g1 g2 h
  exact BitVec.eq_of_toNat_eq (Int.ofNat.inj this)
theorem sumS_in (x : Int) (b : UInt8) : 0 ≤ sumS x b ∧ sumS x b ≤ 4294967295 := by
  unfold sumS
  rw [u32_wrap]; omega
theorem sumS_r {x : Int} {b c : UInt8} (h : sumS x b = sumS x c) : b = c := by
  have h1 := bv_xor_l (sumS_xor h)
  have hb := b.toNat_lt
  have hc := c.toNat_lt
  have := ofInt_inj (by omega) (by omega) h1
  exact UInt8.toNat_inj.1 (by omega)
theorem sumS_l {x y : Int} {b : UInt8} (hx : 0 ≤ x ∧ x ≤ 4294967295) (hy : 0 ≤ y ∧ y ≤ 4294967295) (h : sumS x b = sumS y b) : x = y := ofInt_inj hx hy (bv_xor_r (sumS_xor h))
theorem fold_inj : ∀ (c : List UInt8) {x y : Int}, (0 ≤ x ∧ x ≤ 4294967295) → (0 ≤ y ∧ y ≤ 4294967295) → c.foldl sumS x = c.foldl sumS y → x = y
  | [], _, _, _, _, h => h
  | b :: c, _, _, hx, hy, h => sumS_l hx hy (fold_inj c (sumS_in _ b) (sumS_in _ b) h)
theorem sum_spoil (a c : List UInt8) {b b' : UInt8} (h : b' ≠ b) : sumI (a ++ b' :: c) ≠ sumI (a ++ b :: c) := by
  intro he
  simp only [sumI, List.foldl_append, List.foldl_cons] at he
  exact h (sumS_r (fold_inj c (sumS_in _ _) (sumS_in _ _) he))
theorem rec_head (own r : List UInt8) : recB own ++ r = beB own.length 4 ++ ((beB (sumI own).toNat 4 ++ own) ++ r) := by simp [recB]
theorem beB_inj {n m : Nat} (h1 : n < 4294967296) (h2 : m < 4294967296) (h : beB n 4 = beB m 4) : n = m := by
  have := congrArg beV h
  rwa [beV_beB n 4 (by omega), beV_beB m 4 (by omega)] at this
theorem LogD.to {l xs r} (h : LogD l xs r) {r' : List UInt8} (hr : ∀ x r'', OkS x → r' ≠ recS x ++ r'') : LogD (xs.flatMap recS ++ r') xs r' := ⟨rfl, h.ok, hr⟩
theorem LogD.more {l xs r} (h : LogD l xs r) {x : Sp} (hx : OkS x) : LogD (xs.flatMap recS ++ recB (psL x)) (xs ++ [x]) [] := by
  refine ⟨by simp [recS], fun y hy => ?_, fun y r' _ he => ?_⟩
  · rcases List.mem_append.1 hy with hy | hy
    · exact h.ok y hy
    · rw [List.mem_singleton.1 hy]; exact hx
  · have := congrArg List.length he
    rw [List.length_append, recS_len, List.length_nil] at this
    omega
theorem no_short {n : Nat} {r' rest : List UInt8} (hn : n ≤ 100000) (he : r' = beB n 4 ++ rest) (hl : r'.length < n + 8) : ∀ x r'', OkS x → r' ≠ recS x ++ r'' := by
  intro x r'' _ h
  have h1 := congrArg List.length h
  rw [List.length_append, recS_len] at h1
  rw [he, recS, rec_head] at h
  have h2 := (List.append_inj h (by rw [beB_len, beB_len])).1
  have := beB_inj (by omega) (by omega) h2
  omega
theorem no_sum {t own : List UInt8} (hn : t.length ≤ 100000) (hl : own.length = t.length) (hs : sumI own ≠ sumI t) : ∀ x r'', OkS x → beB t.length 4 ++ (beB (sumI t).toNat 4 ++ own) ≠ recS x ++ r'' := by
  intro x r'' _ h
  have h1 := congrArg List.length h
  rw [List.length_append, List.length_append, List.length_append, recS_len, beB_len, beB_len] at h1
  rw [recS, rec_head] at h
  obtain ⟨h2, h3⟩ := List.append_inj h (by rw [beB_len, beB_len])
  have h4 := beB_inj (by omega) (by omega) h2
  rw [List.append_assoc] at h3
  obtain ⟨h5, h6⟩ := List.append_inj h3 (by rw [beB_len, beB_len])
  have s1 := sumI_le t
  have s2 := sumI_le (psL x)
  have h7 := beB_inj (by omega) (by omega) h5
  have h8 : r'' = [] := List.eq_nil_of_length_eq_zero (by omega)
  rw [h8, List.append_nil] at h6
  rw [h6] at hs
  omega
theorem LogD.cut {l xs r} (h : LogD l xs r) {t : List UInt8} (ht : t.length ≤ 100000) : LogD (xs.flatMap recS ++ (recB t).take ((recB t).length - 1)) xs ((recB t).take ((recB t).length - 1)) := by
  have hl := recB_len t
  refine h.to (no_short (n := t.length) (rest := ((beB (sumI t).toNat 4 ++ t)).take ((recB t).length - 1 - 4)) ht ?_ (by rw [List.length_take]; omega))
  rw [show recB t = beB t.length 4 ++ (beB (sumI t).toNat 4 ++ t) from rfl, List.take_append, List.take_of_length_le (by rw [beB_len, ← show recB t = beB t.length 4 ++ (beB (sumI t).toNat 4 ++ t) from rfl]; omega), beB_len]
theorem LogD.spoilt {l xs r} (h : LogD l xs r) {a c : List UInt8} {b b' : UInt8} (hb : b' ≠ b) (ht : (a ++ b :: c).length ≤ 100000) :
    LogD (xs.flatMap recS ++ (beB (a ++ b :: c).length 4 ++ (beB (sumI (a ++ b :: c)).toNat 4 ++ (a ++ b' :: c)))) xs (beB (a ++ b :: c).length 4 ++ (beB (sumI (a ++ b :: c)).toNat 4 ++ (a ++ b' :: c))) :=
  h.to (no_sum ht (by simp) (sum_spoil a c hb))
theorem posL_all (xs : List Sp) : posL xs xs.length = (xs.flatMap recS).length := by rw [posL, List.take_length]
end Go.Av
end
section
namespace Go.Av
open Go.Proofs
set_option linter.unusedSimpArgs false
@[push_cast] theorem ev_l02CopyRow (l : List V) (hl : l.length ≤ 1099511627776) : evF cfg 124 [] [.d (.sl .any (l.map vC))] = some (.d (.sl .any (l.map vC)), []) := by
  have h1 := len_ok (n := l.length) 32 hl (by omega)
  (refine (evF_code (C := cfg) (g := 124) (fn := Tryz.f124) rfl Tryz.func124 rfl (by rw [Tryz.ntmps124]; simp) (by kernel_rfl) (by first | decide | simp [keysOf])).trans ?_; rw [Tryz.results124, Tryz.ntmps124])
  repeat' (first | with_reducible refine br_split (fun _ => ?_) (fun _ => ?_) | simp only [*, push_cast, simprocAttr] | (rw [drawC_ok]; rotate_left; decide +kernel; exact cfg_mixed))
theorem putw1 (w n : Int) (rows : List C) (r : List V) (hl : rows.length ≤ 1048576) (hr : ∀ c ∈ rows, c.row.length ≤ 1048576) (hrl : r.length ≤ 1048576) (ha : Asc rows) (hp : posOf rows r < rows.length) (he : cmpRow rows[posOf rows r].row r = 0) (hn : ¬ w64 (n + rows[posOf rows r].n) = 0) : evF cfg 108 [(0, .arr .any 2 (rows.map cC))] [.agg [.d (.i .i64 w), .own 0], .d (.sl .any (r.map vC)), .d (.i .i64 n)] = some (.agg [.d (.i .i64 w), .own 0], [(0, .arr .any 2 ((putC rows ⟨r, n⟩).map cC))]) := by
  have hz : posOf rows r ≤ rows.length := posOf_le rows r
  have hc : (rows.map cC)[posOf rows r]? = some [.sl .any (rows[posOf rows r].row.map vC), .i .i64 rows[posOf rows r].n] := get_map cC rows _ hp
  have hd := dec_lt hp
  have hcmp := ev_sCompareRow rows[posOf rows r].row r (by have := hr _ (List.getElem_mem hp); omega)
  have hdm := dec_ltN hp
  have hpc := putC_at (x := ⟨r, n⟩) ha hp he
  rw [if_neg hn] at hpc
  rw [hpc]
  have heb : (cmpRow rows[posOf rows r].row r == 0) = true := by simpa using he
  have hnb : (IntKind.i64.wrap (n + rows[posOf rows r].n) != 0) = true := by simpa using hn
  have hst : (rows.map cC).set (posOf rows r) [.sl .any (rows[posOf rows r].row.map vC), .i .i64 (IntKind.i64.wrap (n + rows[posOf rows r].n))] = (rows.set (posOf rows r) ⟨rows[posOf rows r].row, w64 (n + rows[posOf rows r].n)⟩).map cC := by rw [List.map_set]; rfl
  clear hpc he hn
  (refine (evF_code (C := cfg) (g := 108) (fn := Tryz.f108) rfl Tryz.func108 rfl (by rw [Tryz.ntmps108]; simp) (by kernel_rfl) (by first | decide | simp [keysOf])).trans ?_; rw [Tryz.results108, Tryz.ntmps108])
  repeat' (first | with_reducible refine br_split (fun _ => ?_) (fun _ => ?_) | simp only [*, push_cast, simprocAttr] | (rw [drawC_ok]; rotate_left; decide +kernel; exact cfg_mixed))
  rw [evM_bs0 (ltAt rows r) rows.length (fun i j => { t := [(1, .d (.sl .any (r.map vC))), (2, .d (.i .i64 n)), (3, .ptr 50 0), (6, .ptr 51 0), (7, .d (.i .i64 i)), (8, .d (.i .i64 j))], o := [(0, .arr .any 2 (rows.map cC)), (50, .box [.d (.i .i64 w), .own 0]), (51, .box [.d (.i .i64 0), .nl])], ks := [0, 50, 51], n := 0, sz := 100, u := noU })
    (fun i => some (.exit 0, { t := [(1, .d (.sl .any (r.map vC))), (2, .d (.i .i64 n)), (3, .ptr 50 0), (6, .ptr 51 0), (7, .d (.i .i64 (i : Nat)))], o := [(0, .arr .any 2 (rows.map cC)), (50, .box [.d (.i .i64 w), .own 0]), (51, .box [.d (.i .i64 0), .nl])], ks := [0, 50, 51], n := 0, sz := 100, u := noU })) ?step1 ?last1]
  case step1 =>
    intro i j m hij hj hm h1 h2
    have hml : m < rows.length := by omega
    have hc : (rows.map cC)[m]? = some [.sl .any (rows[m].row.map vC), .i .i64 rows[m].n] := get_map cC rows m hml
    have hd := dec_lt hij
    have hq : IntKind.i64.wrap ((i : Int) + (j : Int)) = (i : Int) + (j : Int) := i64_in (by omega) (by omega)
    have hq2 : IntKind.i64.wrap (((i : Int) + (j : Int)).tdiv 2) = (m : Int) := by rw [mid_div, ← hm]; exact i64_in (by omega) (by omega)
    have hw : IntKind.i64.wrap ((m : Int) + 1) = (m : Int) + 1 := wrap_succ (by omega)
    have hcmp := ev_sCompareRow rows[m].row r (by have := hr _ (List.getElem_mem hml); omega)
    have hdm := dec_ltN hml
    have hp := ltAt_get (r := r) hml
    cases hb : ltAt rows r m with
    | true =>
      have h3 := h1 hb
      rw [hp] at hb
      clear h1 h2 hm hp
      repeat' (first | with_reducible refine br_split (fun _ => ?_) (fun _ => ?_) | simp only [*, push_cast, simprocAttr] | (rw [drawC_ok]; rotate_left; decide +kernel; exact cfg_mixed))
    | false =>
      have h3 := h2 hb
      rw [hp] at hb
      clear h1 h2 hm hp
      repeat' (first | with_reducible refine br_split (fun _ => ?_) (fun _ => ?_) | simp only [*, push_cast, simprocAttr] | (rw [drawC_ok]; rotate_left; decide +kernel; exact cfg_mixed))
  case last1 =>
    intro i hi
    repeat' (first | with_reducible refine br_split (fun _ => ?_) (fun _ => ?_) | simp only [*, push_cast, simprocAttr] | (rw [drawC_ok]; rotate_left; decide +kernel; exact cfg_mixed))
  rw [show bs2 (ltAt rows r) 0 rows.length = posOf rows r from rfl]
  clear hr
  repeat' (first | with_reducible refine br_split (fun _ => ?_) (fun _ => ?_) | simp only [*, push_cast, simprocAttr] | (rw [drawC_ok]; rotate_left; decide +kernel; exact cfg_mixed))
theorem putw2 (w n : Int) (rows : List C) (r : List V) (hl : rows.length ≤ 1048576) (hr : ∀ c ∈ rows, c.row.length ≤ 1048576) (hrl : r.length ≤ 1048576) (ha : Asc rows) (hp : posOf rows r < rows.length) (he : cmpRow rows[posOf rows r].row r = 0) (hn : w64 (n + rows[posOf rows r].n) = 0) : evF cfg 108 [(0, .arr .any 2 (rows.map cC))] [.agg [.d (.i .i64 w), .own 0], .d (.sl .any (r.map vC)), .d (.i .i64 n)] = some (.agg [.d (.i .i64 w), .own 40], [(0, .fz .any 2 (rows.map cC)), (40, .arr .any 2 ((putC rows ⟨r, n⟩).map cC))]) := by
  have hz : posOf rows r ≤ rows.length := posOf_le rows r
  have hc : (rows.map cC)[posOf rows r]? = some [.sl .any (rows[posOf rows r].row.map vC), .i .i64 rows[posOf rows r].n] := get_map cC rows _ hp
  have hd := dec_lt hp
  have hcmp := ev_sCompareRow rows[posOf rows r].row r (by have := hr _ (List.getElem_mem hp); omega)
  have hdm := dec_ltN hp
  have hpc := putC_at (x := ⟨r, n⟩) ha hp he
  rw [if_pos hn] at hpc
  rw [hpc]
  have heb : (cmpRow rows[posOf rows r].row r == 0) = true := by simpa using he
  have hnb : (IntKind.i64.wrap (n + rows[posOf rows r].n) != 0) = false := by simpa using hn
  have hw : IntKind.i64.wrap ((posOf rows r : Int) + 1) = (posOf rows r : Int) + 1 := wrap_succ (by omega)
  have hs1 : decide (0 ≤ (posOf rows r : Int) ∧ (posOf rows r : Int) ≤ (rows.length : Int)) = true := decide_eq_true (by omega)
  have hmt : (rows.map cC).take (posOf rows r) = (rows.take (posOf rows r)).map cC := by rw [List.map_take]
  have hmd : (rows.map cC).drop (posOf rows r + 1) = (rows.drop (posOf rows r + 1)).map cC := by rw [List.map_drop]
  have hl1 := len_ok (n := (rows.take (posOf rows r)).length) 32 (by simp; omega) (by omega)
  have hl2 := len_ok (n := (rows.take (posOf rows r)).length + (rows.drop (posOf rows r + 1)).length) 32 (by simp; omega) (by omega)
  have htn : ((posOf rows r : Int) + 1).toNat = posOf rows r + 1 := by omega
  have hs2 : decide (0 ≤ (posOf rows r : Int) + 1 ∧ (posOf rows r : Int) + 1 ≤ (rows.length : Int) ∧ (rows.length : Int) ≤ (rows.length : Int)) = true := decide_eq_true (by omega)
  have htl : List.take rows.length (rows.map cC) = rows.map cC := List.take_of_length_le (by simp)
  clear hpc he hn
  (refine (evF_code (C := cfg) (g := 108) (fn := Tryz.f108) rfl Tryz.func108 rfl (by rw [Tryz.ntmps108]; simp) (by kernel_rfl) (by first | decide | simp [keysOf])).trans ?_; rw [Tryz.results108, Tryz.ntmps108])
  repeat' (first | with_reducible refine br_split (fun _ => ?_) (fun _ => ?_) | simp only [*, push_cast, simprocAttr] | (rw [drawC_ok]; rotate_left; decide +kernel; exact cfg_mixed))
  rw [evM_bs0 (ltAt rows r) rows.length (fun i j => { t := [(1, .d (.sl .any (r.map vC))), (2, .d (.i .i64 n)), (3, .ptr 50 0), (6, .ptr 51 0), (7, .d (.i .i64 i)), (8, .d (.i .i64 j))], o := [(0, .arr .any 2 (rows.map cC)), (50, .box [.d (.i .i64 w), .own 0]), (51, .box [.d (.i .i64 0), .nl])], ks := [0, 50, 51], n := 0, sz := 100, u := noU })
    (fun i => some (.exit 0, { t := [(1, .d (.sl .any (r.map vC))), (2, .d (.i .i64 n)), (3, .ptr 50 0), (6, .ptr 51 0), (7, .d (.i .i64 (i : Nat)))], o := [(0, .arr .any 2 (rows.map cC)), (50, .box [.d (.i .i64 w), .own 0]), (51, .box [.d (.i .i64 0), .nl])], ks := [0, 50, 51], n := 0, sz := 100, u := noU })) ?step2 ?last2]
  case step2 =>
    intro i j m hij hj hm h1 h2
    have hml : m < rows.length := by omega
    have hc : (rows.map cC)[m]? = some [.sl .any (rows[m].row.map vC), .i .i64 rows[m].n] := get_map cC rows m hml
    have hd := dec_lt hij
    have hq : IntKind.i64.wrap ((i : Int) + (j : Int)) = (i : Int) + (j : Int) := i64_in (by omega) (by omega)
    have hq2 : IntKind.i64.wrap (((i : Int) + (j : Int)).tdiv 2) = (m : Int) := by rw [mid_div, ← hm]; exact i64_in (by omega) (by omega)
    have hw : IntKind.i64.wrap ((m : Int) + 1) = (m : Int) + 1 := wrap_succ (by omega)
    have hcmp := ev_sCompareRow rows[m].row r (by have := hr _ (List.getElem_mem hml); omega)
    have hdm := dec_ltN hml
    have hp := ltAt_get (r := r) hml
    cases hb : ltAt rows r m with
    | true =>
      have h3 := h1 hb
      rw [hp] at hb
      clear h1 h2 hm hp
      repeat' (first | with_reducible refine br_split (fun _ => ?_) (fun _ => ?_) | simp only [*, push_cast, simprocAttr] | (rw [drawC_ok]; rotate_left; decide +kernel; exact cfg_mixed))
    | false =>
      have h3 := h2 hb
      rw [hp] at hb
      clear h1 h2 hm hp
      repeat' (first | with_reducible refine br_split (fun _ => ?_) (fun _ => ?_) | simp only [*, push_cast, simprocAttr] | (rw [drawC_ok]; rotate_left; decide +kernel; exact cfg_mixed))
  case last2 =>
    intro i hi
    repeat' (first | with_reducible refine br_split (fun _ => ?_) (fun _ => ?_) | simp only [*, push_cast, simprocAttr] | (rw [drawC_ok]; rotate_left; decide +kernel; exact cfg_mixed))
  rw [show bs2 (ltAt rows r) 0 rows.length = posOf rows r from rfl]
  rw [List.map_append]
  clear hr
  repeat' (first | with_reducible refine br_split (fun _ => ?_) (fun _ => ?_) | simp only [*, push_cast, simprocAttr] | (rw [drawC_ok]; rotate_left; decide +kernel; exact cfg_mixed))
theorem putw3a (w n : Int) (rows : List C) (r : List V) (hl : rows.length ≤ 1048576) (hr : ∀ c ∈ rows, c.row.length ≤ 1048576) (hrl : r.length ≤ 1048576) (ha : Asc rows) (hp : posOf rows r < rows.length) (he : cmpRow rows[posOf rows r].row r ≠ 0) (hn : n = 0) : evF cfg 108 [(0, .arr .any 2 (rows.map cC))] [.agg [.d (.i .i64 w), .own 0], .d (.sl .any (r.map vC)), .d (.i .i64 n)] = some (.agg [.d (.i .i64 w), .own 0], [(0, .arr .any 2 ((putC rows ⟨r, n⟩).map cC))]) := by
  have hz : posOf rows r ≤ rows.length := posOf_le rows r
  have hc : (rows.map cC)[posOf rows r]? = some [.sl .any (rows[posOf rows r].row.map vC), .i .i64 rows[posOf rows r].n] := get_map cC rows _ hp
  have hd := dec_lt hp
  have hcmp := ev_sCompareRow rows[posOf rows r].row r (by have := hr _ (List.getElem_mem hp); omega)
  have hdm := dec_ltN hp
  have heb : (cmpRow rows[posOf rows r].row r == 0) = false := by simpa using he
  have hpc := putC_not (x := ⟨r, n⟩) ha (.inr ⟨hp, he⟩)
  rw [if_pos hn] at hpc
  have hnb : (n != 0) = false := by simpa using hn
  rw [hpc]
  clear hpc he hn
  (refine (evF_code (C := cfg) (g := 108) (fn := Tryz.f108) rfl Tryz.func108 rfl (by rw [Tryz.ntmps108]; simp) (by kernel_rfl) (by first | decide | simp [keysOf])).trans ?_; rw [Tryz.results108, Tryz.ntmps108])
  repeat' (first | with_reducible refine br_split (fun _ => ?_) (fun _ => ?_) | simp only [*, push_cast, simprocAttr] | (rw [drawC_ok]; rotate_left; decide +kernel; exact cfg_mixed))
  rw [evM_bs0 (ltAt rows r) rows.length (fun i j => { t := [(1, .d (.sl .any (r.map vC))), (2, .d (.i .i64 n)), (3, .ptr 50 0), (6, .ptr 51 0), (7, .d (.i .i64 i)), (8, .d (.i .i64 j))], o := [(0, .arr .any 2 (rows.map cC)), (50, .box [.d (.i .i64 w), .own 0]), (51, .box [.d (.i .i64 0), .nl])], ks := [0, 50, 51], n := 0, sz := 100, u := noU })
    (fun i => some (.exit 0, { t := [(1, .d (.sl .any (r.map vC))), (2, .d (.i .i64 n)), (3, .ptr 50 0), (6, .ptr 51 0), (7, .d (.i .i64 (i : Nat)))], o := [(0, .arr .any 2 (rows.map cC)), (50, .box [.d (.i .i64 w), .own 0]), (51, .box [.d (.i .i64 0), .nl])], ks := [0, 50, 51], n := 0, sz := 100, u := noU })) ?step3 ?last3]
  case step3 =>
    intro i j m hij hj hm h1 h2
    have hml : m < rows.length := by omega
    have hc : (rows.map cC)[m]? = some [.sl .any (rows[m].row.map vC), .i .i64 rows[m].n] := get_map cC rows m hml
    have hd := dec_lt hij
    have hq : IntKind.i64.wrap ((i : Int) + (j : Int)) = (i : Int) + (j : Int) := i64_in (by omega) (by omega)
    have hq2 : IntKind.i64.wrap (((i : Int) + (j : Int)).tdiv 2) = (m : Int) := by rw [mid_div, ← hm]; exact i64_in (by omega) (by omega)
    have hw : IntKind.i64.wrap ((m : Int) + 1) = (m : Int) + 1 := wrap_succ (by omega)
    have hcmp := ev_sCompareRow rows[m].row r (by have := hr _ (List.getElem_mem hml); omega)
    have hdm := dec_ltN hml
    have hp := ltAt_get (r := r) hml
    cases hb : ltAt rows r m with
    | true =>
      have h3 := h1 hb
      rw [hp] at hb
      clear h1 h2 hm hp
      repeat' (first | with_reducible refine br_split (fun _ => ?_) (fun _ => ?_) | simp only [*, push_cast, simprocAttr] | (rw [drawC_ok]; rotate_left; decide +kernel; exact cfg_mixed))
    | false =>
      have h3 := h2 hb
      rw [hp] at hb
      clear h1 h2 hm hp
      repeat' (first | with_reducible refine br_split (fun _ => ?_) (fun _ => ?_) | simp only [*, push_cast, simprocAttr] | (rw [drawC_ok]; rotate_left; decide +kernel; exact cfg_mixed))
  case last3 =>
    intro i hi
    repeat' (first | with_reducible refine br_split (fun _ => ?_) (fun _ => ?_) | simp only [*, push_cast, simprocAttr] | (rw [drawC_ok]; rotate_left; decide +kernel; exact cfg_mixed))
  rw [show bs2 (ltAt rows r) 0 rows.length = posOf rows r from rfl]
  clear hr
  repeat' (first | with_reducible refine br_split (fun _ => ?_) (fun _ => ?_) | simp only [*, push_cast, simprocAttr] | (rw [drawC_ok]; rotate_left; decide +kernel; exact cfg_mixed))
theorem putw3b (w n : Int) (rows : List C) (r : List V) (hl : rows.length ≤ 1048576) (hr : ∀ c ∈ rows, c.row.length ≤ 1048576) (hrl : r.length ≤ 1048576) (ha : Asc rows) (hp : posOf rows r < rows.length) (he : cmpRow rows[posOf rows r].row r ≠ 0) (hn : ¬ n = 0) : evF cfg 108 [(0, .arr .any 2 (rows.map cC))] [.agg [.d (.i .i64 w), .own 0], .d (.sl .any (r.map vC)), .d (.i .i64 n)] = some (.agg [.d (.i .i64 w), .own 40], [(0, .fz .any 2 (rows.map cC)), (40, .arr .any 2 ((putC rows ⟨r, n⟩).map cC))]) := by
  have hz : posOf rows r ≤ rows.length := posOf_le rows r
  have hc : (rows.map cC)[posOf rows r]? = some [.sl .any (rows[posOf rows r].row.map vC), .i .i64 rows[posOf rows r].n] := get_map cC rows _ hp
  have hd := dec_lt hp
  have hcmp := ev_sCompareRow rows[posOf rows r].row r (by have := hr _ (List.getElem_mem hp); omega)
  have hdm := dec_ltN hp
  have heb : (cmpRow rows[posOf rows r].row r == 0) = false := by simpa using he
  have hpc := putC_not (x := ⟨r, n⟩) ha (.inr ⟨hp, he⟩)
  rw [if_neg hn] at hpc
  rw [hpc]
  have hnb : (n != 0) = true := by simpa using hn
  have hs1 : decide (0 ≤ (posOf rows r : Int) ∧ (posOf rows r : Int) ≤ (rows.length : Int)) = true := decide_eq_true (by omega)
  have hs3 : decide ((posOf rows r : Int) ≤ (rows.length : Int)) = true := decide_eq_true (by omega)
  have hs4 : decide (0 ≤ (posOf rows r : Int) ∧ (posOf rows r : Int) ≤ (rows.length : Int) ∧ (rows.length : Int) ≤ (rows.length : Int)) = true := decide_eq_true (by omega)
  have hs5 : decide ((posOf rows r : Int) ≤ (rows.length : Int) ∧ (rows.length : Int) ≤ (rows.length : Int)) = true := decide_eq_true (by omega)
  have htl : List.take rows.length (rows.map cC) = rows.map cC := List.take_of_length_le (by simp)
  have hmt : (rows.map cC).take (posOf rows r) = (rows.take (posOf rows r)).map cC := by rw [List.map_take]
  have hmd : (rows.map cC).drop (posOf rows r) = (rows.drop (posOf rows r)).map cC := by rw [List.map_drop]
  have hl1 := len_ok (n := (rows.take (posOf rows r)).length) 32 (by simp; omega) (by omega)
  have hl2 := len_ok (n := (rows.take (posOf rows r)).length + 1) 32 (by simp; omega) (by omega)
  have hl3 := len_ok (n := (rows.take (posOf rows r)).length + (1 + (rows.drop (posOf rows r)).length)) 32 (by simp; omega) (by omega)
  have hl4 := len_ok (n := (rows.take (posOf rows r)).length + 1 + (rows.drop (posOf rows r)).length) 32 (by simp; omega) (by omega)
  have hcr := ev_l02CopyRow r (by omega)
  clear hpc he hn
  (refine (evF_code (C := cfg) (g := 108) (fn := Tryz.f108) rfl Tryz.func108 rfl (by rw [Tryz.ntmps108]; simp) (by kernel_rfl) (by first | decide | simp [keysOf])).trans ?_; rw [Tryz.results108, Tryz.ntmps108])
  repeat' (first | with_reducible refine br_split (fun _ => ?_) (fun _ => ?_) | simp only [*, push_cast, simprocAttr] | (rw [drawC_ok]; rotate_left; decide +kernel; exact cfg_mixed))
  rw [evM_bs0 (ltAt rows r) rows.length (fun i j => { t := [(1, .d (.sl .any (r.map vC))), (2, .d (.i .i64 n)), (3, .ptr 50 0), (6, .ptr 51 0), (7, .d (.i .i64 i)), (8, .d (.i .i64 j))], o := [(0, .arr .any 2 (rows.map cC)), (50, .box [.d (.i .i64 w), .own 0]), (51, .box [.d (.i .i64 0), .nl])], ks := [0, 50, 51], n := 0, sz := 100, u := noU })
    (fun i => some (.exit 0, { t := [(1, .d (.sl .any (r.map vC))), (2, .d (.i .i64 n)), (3, .ptr 50 0), (6, .ptr 51 0), (7, .d (.i .i64 (i : Nat)))], o := [(0, .arr .any 2 (rows.map cC)), (50, .box [.d (.i .i64 w), .own 0]), (51, .box [.d (.i .i64 0), .nl])], ks := [0, 50, 51], n := 0, sz := 100, u := noU })) ?step4 ?last4]
  case step4 =>
    intro i j m hij hj hm h1 h2
    have hml : m < rows.length := by omega
    have hc : (rows.map cC)[m]? = some [.sl .any (rows[m].row.map vC), .i .i64 rows[m].n] := get_map cC rows m hml
    have hd := dec_lt hij
    have hq : IntKind.i64.wrap ((i : Int) + (j : Int)) = (i : Int) + (j : Int) := i64_in (by omega) (by omega)
    have hq2 : IntKind.i64.wrap (((i : Int) + (j : Int)).tdiv 2) = (m : Int) := by rw [mid_div, ← hm]; exact i64_in (by omega) (by omega)
    have hw : IntKind.i64.wrap ((m : Int) + 1) = (m : Int) + 1 := wrap_succ (by omega)
    have hcmp := ev_sCompareRow rows[m].row r (by have := hr _ (List.getElem_mem hml); omega)
    have hdm := dec_ltN hml
    have hp := ltAt_get (r := r) hml
    cases hb : ltAt rows r m with
    | true =>
      have h3 := h1 hb
      rw [hp] at hb
      clear h1 h2 hm hp
      repeat' (first | with_reducible refine br_split (fun _ => ?_) (fun _ => ?_) | simp only [*, push_cast, simprocAttr] | (rw [drawC_ok]; rotate_left; decide +kernel; exact cfg_mixed))
    | false =>
      have h3 := h2 hb
      rw [hp] at hb
      clear h1 h2 hm hp
      repeat' (first | with_reducible refine br_split (fun _ => ?_) (fun _ => ?_) | simp only [*, push_cast, simprocAttr] | (rw [drawC_ok]; rotate_left; decide +kernel; exact cfg_mixed))
  case last4 =>
    intro i hi
    repeat' (first | with_reducible refine br_split (fun _ => ?_) (fun _ => ?_) | simp only [*, push_cast, simprocAttr] | (rw [drawC_ok]; rotate_left; decide +kernel; exact cfg_mixed))
  rw [show bs2 (ltAt rows r) 0 rows.length = posOf rows r from rfl]
  rw [List.map_append, List.map_cons, show cC ⟨r, n⟩ = [.sl .any (r.map vC), .i .i64 n] from rfl]
  clear hr
  repeat' (first | with_reducible refine br_split (fun _ => ?_) (fun _ => ?_) | simp only [*, push_cast, simprocAttr] | (rw [drawC_ok]; rotate_left; decide +kernel; exact cfg_mixed))
theorem putw4a (w n : Int) (rows : List C) (r : List V) (hl : rows.length ≤ 1048576) (hr : ∀ c ∈ rows, c.row.length ≤ 1048576) (hrl : r.length ≤ 1048576) (ha : Asc rows) (hp : posOf rows r = rows.length) (hn : n = 0) : evF cfg 108 [(0, .arr .any 2 (rows.map cC))] [.agg [.d (.i .i64 w), .own 0], .d (.sl .any (r.map vC)), .d (.i .i64 n)] = some (.agg [.d (.i .i64 w), .own 0], [(0, .arr .any 2 ((putC rows ⟨r, n⟩).map cC))]) := by
  have hz : posOf rows r ≤ rows.length := posOf_le rows r
  have hpc := putC_not (x := ⟨r, n⟩) ha (.inl hp)
  have hd : decide ((posOf rows r : Int) < (rows.length : Int)) = false := decide_eq_false (by omega)
  rw [if_pos hn] at hpc
  have hnb : (n != 0) = false := by simpa using hn
  rw [hpc]
  clear hpc hp hn
  (refine (evF_code (C := cfg) (g := 108) (fn := Tryz.f108) rfl Tryz.func108 rfl (by rw [Tryz.ntmps108]; simp) (by kernel_rfl) (by first | decide | simp [keysOf])).trans ?_; rw [Tryz.results108, Tryz.ntmps108])
  repeat' (first | with_reducible refine br_split (fun _ => ?_) (fun _ => ?_) | simp only [*, push_cast, simprocAttr] | (rw [drawC_ok]; rotate_left; decide +kernel; exact cfg_mixed))
  rw [evM_bs0 (ltAt rows r) rows.length (fun i j => { t := [(1, .d (.sl .any (r.map vC))), (2, .d (.i .i64 n)), (3, .ptr 50 0), (6, .ptr 51 0), (7, .d (.i .i64 i)), (8, .d (.i .i64 j))], o := [(0, .arr .any 2 (rows.map cC)), (50, .box [.d (.i .i64 w), .own 0]), (51, .box [.d (.i .i64 0), .nl])], ks := [0, 50, 51], n := 0, sz := 100, u := noU })
    (fun i => some (.exit 0, { t := [(1, .d (.sl .any (r.map vC))), (2, .d (.i .i64 n)), (3, .ptr 50 0), (6, .ptr 51 0), (7, .d (.i .i64 (i : Nat)))], o := [(0, .arr .any 2 (rows.map cC)), (50, .box [.d (.i .i64 w), .own 0]), (51, .box [.d (.i .i64 0), .nl])], ks := [0, 50, 51], n := 0, sz := 100, u := noU })) ?step5 ?last5]
  case step5 =>
    intro i j m hij hj hm h1 h2
    have hml : m < rows.length := by omega
    have hc : (rows.map cC)[m]? = some [.sl .any (rows[m].row.map vC), .i .i64 rows[m].n] := get_map cC rows m hml
    have hd := dec_lt hij
    have hq : IntKind.i64.wrap ((i : Int) + (j : Int)) = (i : Int) + (j : Int) := i64_in (by omega) (by omega)
    have hq2 : IntKind.i64.wrap (((i : Int) + (j : Int)).tdiv 2) = (m : Int) := by rw [mid_div, ← hm]; exact i64_in (by omega) (by omega)
    have hw : IntKind.i64.wrap ((m : Int) + 1) = (m : Int) + 1 := wrap_succ (by omega)
    have hcmp := ev_sCompareRow rows[m].row r (by have := hr _ (List.getElem_mem hml); omega)
    have hdm := dec_ltN hml
    have hp := ltAt_get (r := r) hml
    cases hb : ltAt rows r m with
    | true =>
      have h3 := h1 hb
      rw [hp] at hb
      clear h1 h2 hm hp
      repeat' (first | with_reducible refine br_split (fun _ => ?_) (fun _ => ?_) | simp only [*, push_cast, simprocAttr] | (rw [drawC_ok]; rotate_left; decide +kernel; exact cfg_mixed))
    | false =>
      have h3 := h2 hb
      rw [hp] at hb
      clear h1 h2 hm hp
      repeat' (first | with_reducible refine br_split (fun _ => ?_) (fun _ => ?_) | simp only [*, push_cast, simprocAttr] | (rw [drawC_ok]; rotate_left; decide +kernel; exact cfg_mixed))
  case last5 =>
    intro i hi
    repeat' (first | with_reducible refine br_split (fun _ => ?_) (fun _ => ?_) | simp only [*, push_cast, simprocAttr] | (rw [drawC_ok]; rotate_left; decide +kernel; exact cfg_mixed))
  rw [show bs2 (ltAt rows r) 0 rows.length = posOf rows r from rfl]
  clear hr
  repeat' (first | with_reducible refine br_split (fun _ => ?_) (fun _ => ?_) | simp only [*, push_cast, simprocAttr] | (rw [drawC_ok]; rotate_left; decide +kernel; exact cfg_mixed))
theorem putw4b (w n : Int) (rows : List C) (r : List V) (hl : rows.length ≤ 1048576) (hr : ∀ c ∈ rows, c.row.length ≤ 1048576) (hrl : r.length ≤ 1048576) (ha : Asc rows) (hp : posOf rows r = rows.length) (hn : ¬ n = 0) : evF cfg 108 [(0, .arr .any 2 (rows.map cC))] [.agg [.d (.i .i64 w), .own 0], .d (.sl .any (r.map vC)), .d (.i .i64 n)] = some (.agg [.d (.i .i64 w), .own 40], [(0, .fz .any 2 (rows.map cC)), (40, .arr .any 2 ((putC rows ⟨r, n⟩).map cC))]) := by
  have hz : posOf rows r ≤ rows.length := posOf_le rows r
  have hpc := putC_not (x := ⟨r, n⟩) ha (.inl hp)
  have hd : decide ((posOf rows r : Int) < (rows.length : Int)) = false := decide_eq_false (by omega)
  rw [if_neg hn] at hpc
  rw [hpc]
  have hnb : (n != 0) = true := by simpa using hn
  have hs1 : decide (0 ≤ (posOf rows r : Int) ∧ (posOf rows r : Int) ≤ (rows.length : Int)) = true := decide_eq_true (by omega)
  have hs3 : decide ((posOf rows r : Int) ≤ (rows.length : Int)) = true := decide_eq_true (by omega)
  have hs4 : decide (0 ≤ (posOf rows r : Int) ∧ (posOf rows r : Int) ≤ (rows.length : Int) ∧ (rows.length : Int) ≤ (rows.length : Int)) = true := decide_eq_true (by omega)
  have hs5 : decide ((posOf rows r : Int) ≤ (rows.length : Int) ∧ (rows.length : Int) ≤ (rows.length : Int)) = true := decide_eq_true (by omega)
  have htl : List.take rows.length (rows.map cC) = rows.map cC := List.take_of_length_le (by simp)
  have hmt : (rows.map cC).take (posOf rows r) = (rows.take (posOf rows r)).map cC := by rw [List.map_take]
  have hmd : (rows.map cC).drop (posOf rows r) = (rows.drop (posOf rows r)).map cC := by rw [List.map_drop]
  have hl1 := len_ok (n := (rows.take (posOf rows r)).length) 32 (by simp; omega) (by omega)
  have hl2 := len_ok (n := (rows.take (posOf rows r)).length + 1) 32 (by simp; omega) (by omega)
  have hl3 := len_ok (n := (rows.take (posOf rows r)).length + (1 + (rows.drop (posOf rows r)).length)) 32 (by simp; omega) (by omega)
  have hl4 := len_ok (n := (rows.take (posOf rows r)).length + 1 + (rows.drop (posOf rows r)).length) 32 (by simp; omega) (by omega)
  have hcr := ev_l02CopyRow r (by omega)
  clear hpc hp hn
  (refine (evF_code (C := cfg) (g := 108) (fn := Tryz.f108) rfl Tryz.func108 rfl (by rw [Tryz.ntmps108]; simp) (by kernel_rfl) (by first | decide | simp [keysOf])).trans ?_; rw [Tryz.results108, Tryz.ntmps108])
  repeat' (first | with_reducible refine br_split (fun _ => ?_) (fun _ => ?_) | simp only [*, push_cast, simprocAttr] | (rw [drawC_ok]; rotate_left; decide +kernel; exact cfg_mixed))
  rw [evM_bs0 (ltAt rows r) rows.length (fun i j => { t := [(1, .d (.sl .any (r.map vC))), (2, .d (.i .i64 n)), (3, .ptr 50 0), (6, .ptr 51 0), (7, .d (.i .i64 i)), (8, .d (.i .i64 j))], o := [(0, .arr .any 2 (rows.map cC)), (50, .box [.d (.i .i64 w), .own 0]), (51, .box [.d (.i .i64 0), .nl])], ks := [0, 50, 51], n := 0, sz := 100, u := noU })
    (fun i => some (.exit 0, { t := [(1, .d (.sl .any (r.map vC))), (2, .d (.i .i64 n)), (3, .ptr 50 0), (6, .ptr 51 0), (7, .d (.i .i64 (i : Nat)))], o := [(0, .arr .any 2 (rows.map cC)), (50, .box [.d (.i .i64 w), .own 0]), (51, .box [.d (.i .i64 0), .nl])], ks := [0, 50, 51], n := 0, sz := 100, u := noU })) ?step6 ?last6]
  case step6 =>
    intro i j m hij hj hm h1 h2
    have hml : m < rows.length := by omega
    have hc : (rows.map cC)[m]? = some [.sl .any (rows[m].row.map vC), .i .i64 rows[m].n] := get_map cC rows m hml
    have hd := dec_lt hij
    have hq : IntKind.i64.wrap ((i : Int) + (j : Int)) = (i : Int) + (j : Int) := i64_in (by omega) (by omega)
    have hq2 : IntKind.i64.wrap (((i : Int) + (j : Int)).tdiv 2) = (m : Int) := by rw [mid_div, ← hm]; exact i64_in (by omega) (by omega)
    have hw : IntKind.i64.wrap ((m : Int) + 1) = (m : Int) + 1 := wrap_succ (by omega)
    have hcmp := ev_sCompareRow rows[m].row r (by have := hr _ (List.getElem_mem hml); omega)
    have hdm := dec_ltN hml
    have hp := ltAt_get (r := r) hml
    cases hb : ltAt rows r m with
    | true =>
      have h3 := h1 hb
      rw [hp] at hb
      clear h1 h2 hm hp
      repeat' (first | with_reducible refine br_split (fun _ => ?_) (fun _ => ?_) | simp only [*, push_cast, simprocAttr] | (rw [drawC_ok]; rotate_left; decide +kernel; exact cfg_mixed))
    | false =>
      have h3 := h2 hb
      rw [hp] at hb
      clear h1 h2 hm hp
      repeat' (first | with_reducible refine br_split (fun _ => ?_) (fun _ => ?_) | simp only [*, push_cast, simprocAttr] | (rw [drawC_ok]; rotate_left; decide +kernel; exact cfg_mixed))
  case last6 =>
    intro i hi
    repeat' (first | with_reducible refine br_split (fun _ => ?_) (fun _ => ?_) | simp only [*, push_cast, simprocAttr] | (rw [drawC_ok]; rotate_left; decide +kernel; exact cfg_mixed))
  rw [show bs2 (ltAt rows r) 0 rows.length = posOf rows r from rfl]
  rw [List.map_append, List.map_cons, show cC ⟨r, n⟩ = [.sl .any (r.map vC), .i .i64 n] from rfl]
  clear hr
  repeat' (first | with_reducible refine br_split (fun _ => ?_) (fun _ => ?_) | simp only [*, push_cast, simprocAttr] | (rw [drawC_ok]; rotate_left; decide +kernel; exact cfg_mixed))
theorem ev_l02Put (w n : Int) (rows : List C) (r : List V) (hl : rows.length ≤ 1048576) (hr : ∀ c ∈ rows, c.row.length ≤ 1048576) (hrl : r.length ≤ 1048576) (ha : Asc rows) :
    evF cfg 108 [(0, .arr .any 2 (rows.map cC))] [.agg [.d (.i .i64 w), .own 0], .d (.sl .any (r.map vC)), .d (.i .i64 n)] = some (.agg [.d (.i .i64 w), .own 0], [(0, .arr .any 2 ((putC rows ⟨r, n⟩).map cC))]) ∨
    evF cfg 108 [(0, .arr .any 2 (rows.map cC))] [.agg [.d (.i .i64 w), .own 0], .d (.sl .any (r.map vC)), .d (.i .i64 n)] = some (.agg [.d (.i .i64 w), .own 40], [(0, .fz .any 2 (rows.map cC)), (40, .arr .any 2 ((putC rows ⟨r, n⟩).map cC))]) := by
  by_cases hp : posOf rows r < rows.length
  · by_cases he : cmpRow rows[posOf rows r].row r = 0
    · by_cases hn : w64 (n + rows[posOf rows r].n) = 0
      · exact .inr (putw2 w n rows r hl hr hrl ha hp he hn)
      · exact .inl (putw1 w n rows r hl hr hrl ha hp he hn)
    · by_cases hn : n = 0
      · exact .inl (putw3a w n rows r hl hr hrl ha hp he hn)
      · exact .inr (putw3b w n rows r hl hr hrl ha hp he hn)
  · have hp2 : posOf rows r = rows.length := by have := posOf_le rows r; omega
    by_cases hn : n = 0
    · exact .inl (putw4a w n rows r hl hr hrl ha hp2 hn)
    · exact .inr (putw4b w n rows r hl hr hrl ha hp2 hn)
end Go.Av
end
section
namespace Go.Av
open Go.Proofs
set_option linter.unusedSimpArgs false
end Go.Av
end
