/- Texts that the last one goes by: RD8, RD9, PT3, RDA, RDB, R1, RDC, RDD, L14, HldT, RwT, RL1, RL2, RL3. -/
import Derived.Test.YtnbdlncbfjkpcaaGreatAvA7
import Derived.Test.YtnbdlncbfjkpcaaGreatAvA5
import Derived.Test.YtnbdlncbfjkpcaaGreatAvA4
import Derived.Test.YtnbdlncbfjkpcaaGreatAvA6
set_option linter.all false
set_option linter.unusedVariables false
set_option linter.unusedSimpArgs false
section
namespace Go.Av
open Go.Proofs
set_option linter.unusedSimpArgs false
theorem canOk_topT (w : Int) (b : Bool) (f : Nat → C → List T) (l : List C) (h : ∀ k x, Nm [k] (tkCs (f k x))) : canOk (.tup [.agg [.d (.i .i64 w), .d (.sl (.tok [l.length]) (l.mapIdx f))], .d (.b b)]) [] := by
  have := canOk_top f l h
  simpa [canOk, tkTV, tkL, tkT, tkO, flatTV, flatL, arrO, keysOf] using this
theorem ev_GetBag_yes (w : Int) (rows : List C) (h : OkB ⟨w, rows⟩) (hl : (kb w :: rows.flatMap rowB).length ≤ 1048576) : evF cfg 35 [] [.d (.s (bs (kb w :: rows.flatMap rowB)))] = some (.tup [.agg [.d (.i .i64 w), .d (.sl (.tok [0, 0, 1]) (cnEs [0, 0, 1] 0 (rows.map cC)))], .d (.b true)], []) := by
  have hcan := canOk_topT w true (cZ fun i => [i]) rows (cZ_nm fun i => ⟨[], rfl⟩)
  obtain ⟨l, hL⟩ : ∃ l, kb w :: rows.flatMap rowB = l := ⟨_, rfl⟩
  have h0 : takeP 1 (l.drop 0) = some ([kb w], l.drop 1) := by rw [← hL]; simp [takeP]
  have hz := bs_size l
  have h1 : 0 < l.length := by rw [← hL]; simp
  have h1' : l.drop 1 = (rows.drop 0).flatMap rowB := by rw [← hL]; rfl
  rw [hL] at hl ⊢
  clear hL
  obtain ⟨hb1, hb2⟩ := bagOk_len h.ok
  have hww : 0 ≤ w ∧ w ≤ 12 := by
    have := h.ok
    simp only [bagOk, Bool.and_eq_true, decide_eq_true_eq] at this
    exact this.1
  have hkb := kb_nat hww.1 hww.2
  have e0 := ev_size_some l hl 0 1 1 (by omega) rfl h0
  rw [beV_in (m := 1) rfl (by omega), beV1, hkb, show ((0 : Nat) : Int) = 0 from rfl, show ((1 : Nat) : Int) = 1 from rfl] at e0
  have c1 : decide (w > 12) = false := decide_eq_false (by omega)
  have hok := ev_BagOk w rows (by have := hb1; simp only at this; omega) (fun c hc => by have := (hb2 c hc).1; omega)
  rw [h.ok] at hok
  have H := Hd.mk (And.intro h (And.intro hl (And.intro h1' (And.intro hww (And.intro hb1 (show 1 ≤ l.length by omega))))))
  clear h hl h0 h1 h1' hb1 hb2 hww hkb
  (refine (evF_codeZ (C := cfg) (g := 35) (fn := Tryz.f35) rfl Tryz.func35 rfl (by rw [Tryz.ntmps35]; simp) (by kernel_rfl)).trans ?_; rw [Tryz.results35, Tryz.ntmps35])
  repeat' (first | with_reducible refine br_split (fun _ => ?_) (fun _ => ?_) | simp only [*, push_cast, simprocAttr] | (rw [drawC_ok]; rotate_left; decide +kernel; exact cfg_mixed))
  rw [show ([] : List (List T)) = (rows.take 0).mapIdx (cZ fun i => [i]) from rfl]
  generalize hE : evM cfg _ _ _ _ _ = RR
  have key : ∃ r, RR = some r ∧ r = (Exit.exit 0, { t := [(2, .ptr 50 0), (4, .ptr 51 0), (5, .ptr 52 0)], o := [(50, .box [.d (.i .i64 0), .nl]), (51, .box [.d (.s (bs l)), .d (.i .i64 (l.length : Nat)), .d (.b false)]), (52, .box [.d (.i .i64 w), .own 53]), (53, .arr .any 2 (rows.mapIdx (cZ fun i => [i])))], ks := [50, 51, 52, 53], n := 0, sz := 76, u := noU, g := some (rows.length, false) }) := by
    rw [← hE]
    refine evM_ex (α := Nat × Nat) (fun z => { t := [(0, .d (.s (bs l))), (2, .ptr 50 0), (4, .ptr 51 0), (5, .ptr 52 0)], o := [(50, .box [.d (.i .i64 0), .nl]), (51, .box [.d (.s (bs l)), .d (.i .i64 (z.2 : Nat)), .d (.b false)]), (52, .box [.d (.i .i64 w), .own 53]), (53, .arr .any 2 ((rows.take z.1).mapIdx (cZ fun i => [i])))], ks := [50, 51, 52, 53], n := 0, sz := 76, u := noU, g := some (z.1, false) })
      (fun _ r => r = (Exit.exit 0, { t := [(2, .ptr 50 0), (4, .ptr 51 0), (5, .ptr 52 0)], o := [(50, .box [.d (.i .i64 0), .nl]), (51, .box [.d (.s (bs l)), .d (.i .i64 (l.length : Nat)), .d (.b false)]), (52, .box [.d (.i .i64 w), .own 53]), (53, .arr .any 2 (rows.mapIdx (cZ fun i => [i])))], ks := [50, 51, 52, 53], n := 0, sz := 76, u := noU, g := some (rows.length, false) }))
      (fun z => z.1 ≤ rows.length ∧ z.2 ≤ l.length ∧ l.drop z.2 = (rows.drop z.1).flatMap rowB) (fun z => rows.length - z.1) ?_ (0, 1) ⟨Nat.zero_le _, H.out.2.2.2.2.2, H.out.2.2.1⟩
    clear hE RR hok c1 hcan e0
    rintro ⟨r, i⟩ ⟨hr, hi, hd⟩ ih
    simp only at hr hi hd ih ⊢
    obtain ⟨h, hl, h1, hww, hb1, -⟩ := H.out
    simp only at hb1
    have hat := rows_at hd hi hr
    by_cases hc : r < rows.length
    · have hil : i < l.length := hat.2 hc
      have c5 := dec_lt hil
      obtain ⟨g1, g2, g3⟩ := h.row (List.getElem_mem hc)
      have hh := rows_head hd hc
      obtain ⟨_, e1, ⟨v, k, hv, hik, hk, rfl⟩ | ⟨hv, -⟩⟩ := ev_value l hl i hi
      · rw [hh, valP_num g3] at hv
        simp only [Option.some.injEq, Prod.mk.injEq] at hv
        obtain ⟨rfl, hv⟩ := hv
        simp only [numV] at e1
        refine exQ fun Q hQ => ?_
        have HQ := Hd.mk hQ; clear hQ
        have H2 := Hd.mk (And.intro hr (And.intro hi (And.intro hd (And.intro ih (And.intro hik (And.intro hk hv))))))
        have H3 := Hd.mk (And.intro g1 (And.intro g2 hc))
        have n1 : ((1 : Int) != 1) = false := rfl
        clear hr hi hd ih hik hk hv h hl h1 hww hb1 hat g1 g2 g3 hh
        repeat' (first | with_reducible refine br_split (fun _ => ?_) (fun _ => ?_) | simp only [*, push_cast, simprocAttr] | (rw [drawC_ok]; rotate_left; decide +kernel; exact cfg_mixed))
        rw [show ([] : List (List T)) = (rows[r].row.take 0).map vC from rfl]
        generalize hE : evM cfg _ _ _ _ _ = RR
        have key : ∃ z, RR = some z ∧ ∃ i' : Nat, i' ≤ l.length ∧ l.drop i' = (rows.drop (r + 1)).flatMap rowB ∧ z = (Exit.exit 2, { t := [(0, .d (.s (bs l))), (2, .ptr 50 0), (4, .ptr 51 0), (5, .ptr 52 0), (7, .ptr 53 0)], o := [(50, .box [.d (.i .i64 0), .nl]), (51, .box [.d (.s (bs l)), .d (.i .i64 (i' : Nat)), .d (.b false)]), (52, .box [.d (.i .i64 w), .own 54]), (53, .box [.own 55, .d (.i .i64 rows[r].n)]), (54, .arr .any 2 ((rows.take r).mapIdx (cZ fun i => [i]))), (55, .arr .any 3 (rows[r].row.map vC))], ks := [50, 51, 52, 53, 54, 55], n := 0, sz := 76, u := noU, g := some (r, false) }) := by
          rw [← hE]
          refine evM_ex (α := Nat × Nat) (fun z => { t := [(0, .d (.s (bs l))), (2, .ptr 50 0), (4, .ptr 51 0), (5, .ptr 52 0), (7, .ptr 53 0), (48, .d (.i .i64 w)), (49, .d (.i .i64 (z.1 : Nat)))], o := [(50, .box [.d (.i .i64 0), .nl]), (51, .box [.d (.s (bs l)), .d (.i .i64 (z.2 : Nat)), .d (.b false)]), (52, .box [.d (.i .i64 w), .own 54]), (53, .box [.own 55, .d (.i .i64 rows[r].n)]), (54, .arr .any 2 ((rows.take r).mapIdx (cZ fun i => [i]))), (55, .arr .any 3 ((rows[r].row.take z.1).map vC))], ks := [50, 51, 52, 53, 54, 55], n := 0, sz := 76, u := noU, g := some (r, false) })
            (fun _ z => ∃ i' : Nat, i' ≤ l.length ∧ l.drop i' = (rows.drop (r + 1)).flatMap rowB ∧ z = (Exit.exit 2, { t := [(0, .d (.s (bs l))), (2, .ptr 50 0), (4, .ptr 51 0), (5, .ptr 52 0), (7, .ptr 53 0)], o := [(50, .box [.d (.i .i64 0), .nl]), (51, .box [.d (.s (bs l)), .d (.i .i64 (i' : Nat)), .d (.b false)]), (52, .box [.d (.i .i64 w), .own 54]), (53, .box [.own 55, .d (.i .i64 rows[r].n)]), (54, .arr .any 2 ((rows.take r).mapIdx (cZ fun i => [i]))), (55, .arr .any 3 (rows[r].row.map vC))], ks := [50, 51, 52, 53, 54, 55], n := 0, sz := 76, u := noU, g := some (r, false) }))
            (fun z => z.1 ≤ rows[r].row.length ∧ z.2 ≤ l.length ∧ l.drop z.2 = (rows[r].row.drop z.1).flatMap pvL ++ (rows.drop (r + 1)).flatMap rowB) (fun z => rows[r].row.length - z.1) ?_ (0, k) ⟨Nat.zero_le _, H2.out.2.2.2.2.2.1, H2.out.2.2.2.2.2.2.symm⟩
          clear hE RR e1 n1
          rintro ⟨q, i⟩ ⟨hq, hi, hd⟩ ih
          simp only at hq hi hd ih ⊢
          obtain ⟨g1, g2, hc⟩ := H3.out
          obtain ⟨h, hl, h1, hww, hb1, -⟩ := H.out
          simp only at g1
          by_cases hqc : q < rows[r].row.length
          · have c6 : decide ((q : Int) < w) = true := decide_eq_true (by omega)
            have hh := vals_head hqc ((rows.drop (r + 1)).flatMap rowB)
            rw [hh] at hd
            obtain ⟨v1, v2⟩ := g2 _ (List.getElem_mem hqc)
            have w1 : IntKind.i64.wrap ((q : Int) + 1) = (q : Int) + 1 := wrap_succ (by omega)
            obtain ⟨_, e1, ⟨v, k, hv, hik, hk, rfl⟩ | ⟨hv, -⟩⟩ := ev_value l hl i hi
            · rw [hd, valP_app v1 v2] at hv
              simp only [Option.some.injEq, Prod.mk.injEq] at hv
              obtain ⟨rfl, hv⟩ := hv
              have h3 : (rows[r].row.take q).map vC ++ [[.i .i64 rows[r].row[q].k, .i .i64 rows[r].row[q].n, .s rows[r].row[q].s]] = (rows[r].row.take (q + 1)).map vC := take_snoc vC hqc
              have h4 := len_ok (n := (rows[r].row.take q).length + 1) 32 (by rw [List.length_take]; omega) (by omega)
              obtain ⟨z, hz1, hz2⟩ := ih (q + 1, k) ⟨hqc, hk, hv.symm⟩ (by simp only; omega)
              refine ⟨z, ?_, hz2⟩
              simp only at hz1
              rw [show ((q + 1 : Nat) : Int) = (q : Int) + 1 from rfl] at hz1
              clear ih hq hi hd g1 g2 h hl h1 hww hb1 hh v1 v2 hik hk hv hz2
              repeat' (first | with_reducible refine br_split (fun _ => ?_) (fun _ => ?_) | simp only [*, push_cast, simprocAttr] | (rw [drawC_ok]; rotate_left; decide +kernel; exact cfg_mixed))
            · rw [hd, valP_app v1 v2] at hv
              cases hv
          · have c6 : decide ((q : Int) < w) = false := decide_eq_false (by omega)
            have hqe : q = rows[r].row.length := by omega
            have hd2 : l.drop i = (rows.drop (r + 1)).flatMap rowB := by
              rw [hd, hqe, List.drop_length]; rfl
            have hrr : rows[r].row.take q = rows[r].row := by rw [hqe]; exact List.take_length
            refine ⟨_, ?_, i, hi, hd2, rfl⟩
            clear ih hq hi hd g1 g2 h hl h1 hww hb1 hqc hqe hd2
            repeat' (first | with_reducible refine br_split (fun _ => ?_) (fun _ => ?_) | simp only [*, push_cast, simprocAttr] | (rw [drawC_ok]; rotate_left; decide +kernel; exact cfg_mixed))
        obtain ⟨_, rfl, i', p1, p2, rfl⟩ := key
        obtain ⟨g1, g2, hc⟩ := H3.out
        obtain ⟨hr, hi, hd, ih, hik, hk, hv⟩ := H2.out
        have h3 : (rows.take r).mapIdx (cZ fun i => [i]) ++ [[.sl (.tok [r]) (rows[r].row.map vC), .i .i64 rows[r].n]] = (rows.take (r + 1)).mapIdx (cZ fun i => [i]) := take_snocI (cZ fun i => [i]) hc
        have hb1 := H.out.2.2.2.2.1
        simp only at hb1
        have h4 := len_ok (n := (rows.take r).length + 1) 32 (by rw [List.length_take]; omega) (by omega)
        have h5 : ((rows.take r).mapIdx (cZ fun i => [i])).length = (rows.take r).length := by simp
        obtain ⟨z, hz1, hz2⟩ := ih (r + 1, i') ⟨hc, p1, p2⟩ (by simp only; omega)
        simp only at hz1
        have HZ := Hd.mk hz2
        clear hE hr hi hd ih hik hk hv g1 g2 p1 p2 hz2 hb1
        repeat' (first | with_reducible refine br_split (fun _ => ?_) (fun _ => ?_) | simp only [*, push_cast, simprocAttr] | (rw [drawC_ok]; rotate_left; decide +kernel; exact cfg_mixed))
        exact HQ.out _ HZ.out
      · rw [hh, valP_num g3] at hv
        cases hv
    · have hil : i = l.length := by
        have : ¬ i < l.length := fun h => hc (hat.1 h)
        omega
      have hrl : r = rows.length := by omega
      have c5 : decide ((l.length : Int) < (l.length : Int)) = false := decide_eq_false (by omega)
      refine ⟨_, ?_, rfl⟩
      have hrr : rows.take rows.length = rows := List.take_length
      clear ih hr hd hat h hl h1 hww hb1 hc
      subst hil
      subst hrl
      clear hi
      repeat' (first | with_reducible refine br_split (fun _ => ?_) (fun _ => ?_) | simp only [*, push_cast, simprocAttr] | (rw [drawC_ok]; rotate_left; decide +kernel; exact cfg_mixed))
  obtain ⟨_, rfl, rfl⟩ := key
  have hme : annEs .any (rows.mapIdx (cZ fun i => [i])) = rows.map cC := by
    rw [annEs_mapIdx (g := cC) (fun i x => by simp only [cZ, annCs, T.ann, er_vC]; rfl) rows]
  clear hE H
  repeat' (first | with_reducible refine br_split (fun _ => ?_) (fun _ => ?_) | simp only [*, push_cast, simprocAttr] | (rw [drawC_ok]; rotate_left; decide +kernel; exact cfg_mixed))
end Go.Av
end
section
namespace Go.Av
open Go.Proofs
set_option linter.unusedSimpArgs false
structure NS where
  rows : List C
  i : Nat
  bad : Bool
structure MS where
  vals : List V
  i : Nat
  bad : Bool
theorem numV_of {v : V} (h : valueOk v = true) (hk : v.k = 1) : v = numV v.n := by
  obtain ⟨k, n, s⟩ := v
  simp only at hk
  subst hk
  simp only [valueOk, show ¬ ((1 : Int) = 0) by decide, if_false, if_true, decide_eq_true_eq] at h
  rw [h]; rfl
theorem ev_value_any (l : List UInt8) (hl : l.length ≤ 1048576) (i : Nat) (hi : i ≤ l.length) (b : Bool) : ∃ r, evF cfg 70 [(0, .box [.d (.s (bs l)), .d (.i .i64 (i : Nat)), .d (.b b)])] [.ptr 0 0] = some r ∧
    ∃ (v : V) (i' : Nat) (b' : Bool), i' ≤ l.length ∧ (b' = false → b = false ∧ i < i' ∧ l.drop i = pvL v ++ l.drop i' ∧ valueOk v = true ∧ w64 v.n = v.n) ∧ r = (.agg [.d (.i .i64 v.k), .d (.i .i64 v.n), .d (.s v.s)], [(0, .box [.d (.s (bs l)), .d (.i .i64 (i' : Nat)), .d (.b b')])]) := by
  cases b with
  | true => exact ⟨_, ev_value_bad (bs l) i, ⟨0, 0, ⟨#[]⟩⟩, i, true, hi, fun h => (by cases h), rfl⟩
  | false =>
    obtain ⟨_, e1, ⟨v, k, hv, hik, hk, rfl⟩ | ⟨hv, v, k, hk, rfl⟩⟩ := ev_value l hl i hi
    · obtain ⟨h1, h2, h3⟩ := valP_some hv
      exact ⟨_, e1, v, k, false, hk, fun _ => ⟨rfl, hik, h1, h2, h3⟩, rfl⟩
    · exact ⟨_, e1, v, k, true, hk, fun h => (by cases h), rfl⟩
def Read (l : List UInt8) (W : Nat) (rows : List C) (i : Nat) : Prop :=
  l.drop 1 = rows.flatMap rowB ++ l.drop i ∧ ∀ c ∈ rows, c.row.length = W ∧ ∀ v ∈ c.row, valueOk v = true ∧ w64 v.n = v.n
def ReadV (l : List UInt8) (i0 : Nat) (vals : List V) (i : Nat) : Prop :=
  l.drop i0 = vals.flatMap pvL ++ l.drop i ∧ ∀ v ∈ vals, valueOk v = true ∧ w64 v.n = v.n
theorem canNo : canOk (.tup [.agg [.d (.i .i64 0), .d (.sl .any [])], .d (.b false)]) [] := by
  simp [canOk, tkTV, tkL, tkT, tkO, flatTV, flatL, arrO, keysOf, tkEs, annTok]
theorem ev_GetBag_no (l : List UInt8) (hl : l.length ≤ 1048576) (h : ∀ b, OkB b → l ≠ pbL b) : evF cfg 35 [] [.d (.s (bs l))] = some (.tup [.agg [.d (.i .i64 0), .d (.sl (.tok [0, 0, 1]) [])], .d (.b false)], []) := by
  have hz := bs_size l
  have hcan := canNo
  cases l with
  | nil =>
    have e0 := ev_size_none [] hl 0 1 (Nat.le_refl _) rfl
    rw [show ((0 : Nat) : Int) = 0 from rfl, show ((1 : Nat) : Int) = 1 from rfl] at e0
    clear hl h
    (refine (evF_codeZ (C := cfg) (g := 35) (fn := Tryz.f35) rfl Tryz.func35 rfl (by rw [Tryz.ntmps35]; simp) (by kernel_rfl)).trans ?_; rw [Tryz.results35, Tryz.ntmps35])
    repeat' (first | with_reducible refine br_split (fun _ => ?_) (fun _ => ?_) | simp only [*, push_cast, simprocAttr] | (rw [drawC_ok]; rotate_left; decide +kernel; exact cfg_mixed))
  | cons x t =>
    obtain ⟨l, hL⟩ : ∃ l, x :: t = l := ⟨_, rfl⟩
    have h0 : takeP 1 (l.drop 0) = some ([x], l.drop 1) := by rw [← hL]; simp [takeP]
    have h1 : 0 < l.length := by rw [← hL]; simp
    have hxl : l = x :: l.drop 1 := by rw [← hL]; rfl
    rw [hL] at hl h hz ⊢
    clear hL
    have e0 := ev_size_some l hl 0 1 1 (by omega) rfl h0
    rw [beV_in (m := 1) rfl (by omega), beV1, show ((0 : Nat) : Int) = 0 from rfl, show ((1 : Nat) : Int) = 1 from rfl] at e0
    have hx := x.toNat_lt
    obtain ⟨W, hW⟩ : ∃ W, x.toNat = W := ⟨_, rfl⟩
    rw [hW] at e0
    by_cases hx12 : W > 12
    · have c1 : decide ((W : Int) > 12) = true := decide_eq_true (by omega)
      clear hl h h0 h1 hx hx12 hxl hW
      (refine (evF_codeZ (C := cfg) (g := 35) (fn := Tryz.f35) rfl Tryz.func35 rfl (by rw [Tryz.ntmps35]; simp) (by kernel_rfl)).trans ?_; rw [Tryz.results35, Tryz.ntmps35])
      repeat' (first | with_reducible refine br_split (fun _ => ?_) (fun _ => ?_) | simp only [*, push_cast, simprocAttr] | (rw [drawC_ok]; rotate_left; decide +kernel; exact cfg_mixed))
    · have c1 : decide ((W : Int) > 12) = false := decide_eq_false (by omega)
      have hkb : kb (W : Nat) = x := by
        unfold kb
        rw [dv_zero, u64_nn (by omega), ← hW, Nat.mod_eq_of_lt hx]
        simp
      have H := Hd.mk (And.intro h (And.intro hl (And.intro h1 (And.intro (show W ≤ 12 by omega) (And.intro hxl hkb)))))
      clear hl h h0 h1 hx hx12 hW hxl hkb
      (refine (evF_codeZ (C := cfg) (g := 35) (fn := Tryz.f35) rfl Tryz.func35 rfl (by rw [Tryz.ntmps35]; simp) (by kernel_rfl)).trans ?_; rw [Tryz.results35, Tryz.ntmps35])
      repeat' (first | with_reducible refine br_split (fun _ => ?_) (fun _ => ?_) | simp only [*, push_cast, simprocAttr] | (rw [drawC_ok]; rotate_left; decide +kernel; exact cfg_mixed))
      rw [show ([] : List (List T)) = ([] : List C).mapIdx (cZ fun i => [i]) from rfl]
      generalize hE : evM cfg _ _ _ _ _ = RR
      have key : ∃ r, RR = some r ∧ ((∃ n : Nat, r = (Exit.ret, { t := [(2, .ptr 50 0), (3, .d (.b false))], o := [(50, .box [.d (.i .i64 0), .nl])], ks := [50], n := 0, sz := 76, u := noU, g := some (n, false) })) ∨ ∃ (rows : List C) (i' : Nat) (b' : Bool), (rows.length ≤ l.length + 1 ∧ (∀ c ∈ rows, c.row.length ≤ 12) ∧ (b' = false → Read l W rows l.length)) ∧ r = (Exit.exit 0, { t := [(2, .ptr 50 0), (4, .ptr 51 0), (5, .ptr 52 0)], o := [(50, .box [.d (.i .i64 0), .nl]), (51, .box [.d (.s (bs l)), .d (.i .i64 (i' : Nat)), .d (.b b')]), (52, .box [.d (.i .i64 (W : Nat)), .own 53]), (53, .arr .any 2 (rows.mapIdx (cZ fun i => [i])))], ks := [50, 51, 52, 53], n := 0, sz := 76, u := noU, g := some (rows.length, false) })) := by
        rw [← hE]
        refine evM_ex (α := NS) (fun z => { t := [(0, .d (.s (bs l))), (2, .ptr 50 0), (4, .ptr 51 0), (5, .ptr 52 0)], o := [(50, .box [.d (.i .i64 0), .nl]), (51, .box [.d (.s (bs l)), .d (.i .i64 (z.i : Nat)), .d (.b z.bad)]), (52, .box [.d (.i .i64 (W : Nat)), .own 53]), (53, .arr .any 2 (z.rows.mapIdx (cZ fun i => [i])))], ks := [50, 51, 52, 53], n := 0, sz := 76, u := noU, g := some (z.rows.length, false) })
          (fun _ r => (∃ n : Nat, r = (Exit.ret, { t := [(2, .ptr 50 0), (3, .d (.b false))], o := [(50, .box [.d (.i .i64 0), .nl])], ks := [50], n := 0, sz := 76, u := noU, g := some (n, false) })) ∨ ∃ (rows : List C) (i' : Nat) (b' : Bool), (rows.length ≤ l.length + 1 ∧ (∀ c ∈ rows, c.row.length ≤ 12) ∧ (b' = false → Read l W rows l.length)) ∧ r = (Exit.exit 0, { t := [(2, .ptr 50 0), (4, .ptr 51 0), (5, .ptr 52 0)], o := [(50, .box [.d (.i .i64 0), .nl]), (51, .box [.d (.s (bs l)), .d (.i .i64 (i' : Nat)), .d (.b b')]), (52, .box [.d (.i .i64 (W : Nat)), .own 53]), (53, .arr .any 2 (rows.mapIdx (cZ fun i => [i])))], ks := [50, 51, 52, 53], n := 0, sz := 76, u := noU, g := some (rows.length, false) }))
          (fun z => z.i ≤ l.length ∧ z.rows.length ≤ l.length + 1 ∧ (∀ c ∈ z.rows, c.row.length ≤ 12) ∧ (z.bad = false → z.rows.length ≤ z.i ∧ Read l W z.rows z.i)) (fun z => if z.bad then 0 else l.length + 1 - z.i) ?_ ⟨[], 1, false⟩ ⟨H.out.2.2.1, by simp, fun _ h => (nomatch h), fun _ => ⟨by simp, rfl, fun _ h => (nomatch h)⟩⟩
        clear hE RR c1 e0 hcan
        rintro ⟨rows, i, bad⟩ ⟨hi, hr, hrow, hrd⟩ ih
        simp only at hi hr hrow hrd ih ⊢
        obtain ⟨h, hl, h1, hW, hxl, hkb⟩ := H.out
        cases bad with
        | true =>
          refine ⟨_, ?_, .inr ⟨rows, i, true, ⟨by omega, hrow, fun h => (by cases h)⟩, rfl⟩⟩
          clear ih hi hr hrow hrd h hl h1 hW hxl hkb
          repeat' (first | with_reducible refine br_split (fun _ => ?_) (fun _ => ?_) | simp only [*, push_cast, simprocAttr] | (rw [drawC_ok]; rotate_left; decide +kernel; exact cfg_mixed))
        | false =>
          obtain ⟨hri, hrd⟩ := hrd rfl
          by_cases hc : i < l.length
          · have c5 := dec_lt hc
            obtain ⟨_, e1, v, i1, b1, hi1, hv, rfl⟩ := ev_value_any l hl i hi false
            refine exQ fun Q hQ => ?_
            have HQ := Hd.mk hQ; clear hQ
            have H2 := Hd.mk (And.intro hi (And.intro hr (And.intro hrow (And.intro ih (And.intro hri (And.intro hrd (And.intro hi1 (And.intro hv hc))))))))
            clear hi hr hrow ih hri hrd hi1 hv h hl h1 hW hxl hkb hc
            by_cases hk : v.k = 1
            · have n1 : (v.k != 1) = false := by rw [hk]; rfl
              have HK := Hd.mk hk
              clear hk
              repeat' (first | with_reducible refine br_split (fun _ => ?_) (fun _ => ?_) | simp only [*, push_cast, simprocAttr] | (rw [drawC_ok]; rotate_left; decide +kernel; exact cfg_mixed))
              rw [show ([] : List (List T)) = ([] : List V).map vC from rfl]
              generalize hE : evM cfg _ _ _ _ _ = RR
              have key : ∃ z, RR = some z ∧ ∃ (vals : List V) (i' : Nat) (b' : Bool), vals.length = W ∧ i' ≤ l.length ∧ (b' = false → b1 = false ∧ i1 ≤ i' ∧ ReadV l i1 vals i') ∧ z = (Exit.exit 2, { t := [(0, .d (.s (bs l))), (2, .ptr 50 0), (4, .ptr 51 0), (5, .ptr 52 0), (7, .ptr 53 0)], o := [(50, .box [.d (.i .i64 0), .nl]), (51, .box [.d (.s (bs l)), .d (.i .i64 (i' : Nat)), .d (.b b')]), (52, .box [.d (.i .i64 (W : Nat)), .own 54]), (53, .box [.own 55, .d (.i .i64 v.n)]), (54, .arr .any 2 (rows.mapIdx (cZ fun i => [i]))), (55, .arr .any 3 (vals.map vC))], ks := [50, 51, 52, 53, 54, 55], n := 0, sz := 76, u := noU, g := some (rows.length, false) }) := by
                rw [← hE]
                refine evM_ex (α := MS) (fun y => { t := [(0, .d (.s (bs l))), (2, .ptr 50 0), (4, .ptr 51 0), (5, .ptr 52 0), (7, .ptr 53 0), (48, .d (.i .i64 (W : Nat))), (49, .d (.i .i64 (y.vals.length : Nat)))], o := [(50, .box [.d (.i .i64 0), .nl]), (51, .box [.d (.s (bs l)), .d (.i .i64 (y.i : Nat)), .d (.b y.bad)]), (52, .box [.d (.i .i64 (W : Nat)), .own 54]), (53, .box [.own 55, .d (.i .i64 v.n)]), (54, .arr .any 2 (rows.mapIdx (cZ fun i => [i]))), (55, .arr .any 3 (y.vals.map vC))], ks := [50, 51, 52, 53, 54, 55], n := 0, sz := 76, u := noU, g := some (rows.length, false) })
                  (fun _ z => ∃ (vals : List V) (i' : Nat) (b' : Bool), vals.length = W ∧ i' ≤ l.length ∧ (b' = false → b1 = false ∧ i1 ≤ i' ∧ ReadV l i1 vals i') ∧ z = (Exit.exit 2, { t := [(0, .d (.s (bs l))), (2, .ptr 50 0), (4, .ptr 51 0), (5, .ptr 52 0), (7, .ptr 53 0)], o := [(50, .box [.d (.i .i64 0), .nl]), (51, .box [.d (.s (bs l)), .d (.i .i64 (i' : Nat)), .d (.b b')]), (52, .box [.d (.i .i64 (W : Nat)), .own 54]), (53, .box [.own 55, .d (.i .i64 v.n)]), (54, .arr .any 2 (rows.mapIdx (cZ fun i => [i]))), (55, .arr .any 3 (vals.map vC))], ks := [50, 51, 52, 53, 54, 55], n := 0, sz := 76, u := noU, g := some (rows.length, false) }))
                  (fun y => y.vals.length ≤ W ∧ y.i ≤ l.length ∧ (y.bad = false → b1 = false ∧ i1 ≤ y.i ∧ ReadV l i1 y.vals y.i)) (fun y => W - y.vals.length) ?_ ⟨[], i1, b1⟩ ⟨Nat.zero_le _, H2.out.2.2.2.2.2.2.1, fun h => ⟨h, Nat.le_refl _, rfl, fun _ h => (nomatch h)⟩⟩
                clear hE RR e1 n1
                rintro ⟨vals, i', b'⟩ ⟨hq, hi', hrv⟩ ih
                simp only at hq hi' hrv ih ⊢
                obtain ⟨h, hl, h1, hW, hxl, hkb⟩ := H.out
                by_cases hqc : vals.length < W
                · have c6 : decide ((vals.length : Int) < (W : Int)) = true := decide_eq_true (by omega)
                  have w1 : IntKind.i64.wrap ((vals.length : Int) + 1) = (vals.length : Int) + 1 := wrap_succ (by omega)
                  obtain ⟨_, e1, ⟨vk, vn', vs⟩, k, b2, hk2, hv2, rfl⟩ := ev_value_any l hl i' hi' b'
                  have h3 : vals.map vC ++ [[.i .i64 vk, .i .i64 vn', .s vs]] = (vals ++ [(⟨vk, vn', vs⟩ : V)]).map vC := by rw [List.map_append]; rfl
                  have h4 := len_ok (n := vals.length + 1) 32 (by omega) (by omega)
                  obtain ⟨z, hz1, hz2⟩ := ih ⟨vals ++ [(⟨vk, vn', vs⟩ : V)], k, b2⟩ ⟨by simp; omega, hk2, fun hb => by
                    obtain ⟨g0, g1, g2, g3, g4⟩ := hv2 hb
                    obtain ⟨f0, f1, f2, f3⟩ := hrv g0
                    refine ⟨f0, by simp only; omega, ?_, fun v hv => ?_⟩
                    · rw [f2, g2]; simp
                    · rcases List.mem_append.1 hv with hv | hv
                      · exact f3 v hv
                      · rw [List.mem_singleton.1 hv]; exact ⟨g3, g4⟩⟩ (by simp; omega)
                  refine ⟨z, ?_, hz2⟩
                  simp only [List.length_append, List.length_singleton] at hz1
                  rw [show ((vals.length + 1 : Nat) : Int) = (vals.length : Int) + 1 from rfl] at hz1
                  clear ih hq hi' hrv h hl h1 hW hxl hkb hqc hk2 hv2 hz2
                  repeat' (first | with_reducible refine br_split (fun _ => ?_) (fun _ => ?_) | simp only [*, push_cast, simprocAttr] | (rw [drawC_ok]; rotate_left; decide +kernel; exact cfg_mixed))
                · have c6 : decide ((vals.length : Int) < (W : Int)) = false := decide_eq_false (by omega)
                  refine ⟨_, ?_, vals, i', b', by omega, hi', hrv, rfl⟩
                  clear ih hq hi' hrv h hl h1 hW hxl hkb hqc
                  repeat' (first | with_reducible refine br_split (fun _ => ?_) (fun _ => ?_) | simp only [*, push_cast, simprocAttr] | (rw [drawC_ok]; rotate_left; decide +kernel; exact cfg_mixed))
              obtain ⟨_, rfl, vals, i', b', p1, p2, p3, rfl⟩ := key
              obtain ⟨hi, hr, hrow, ih, hri, hrd, hi1, hv, hc⟩ := H2.out
              have hk := HK.out
              obtain ⟨h, hl, h1, hW, hxl, hkb⟩ := H.out
              have h3 : rows.mapIdx (cZ fun i => [i]) ++ [[.sl (.tok [rows.length]) (vals.map vC), .i .i64 v.n]] = (rows ++ [(⟨vals, v.n⟩ : C)]).mapIdx (cZ fun i => [i]) := by
                rw [List.mapIdx_append]; simp [cZ]
              have h4 := len_ok (n := rows.length + 1) 32 (by omega) (by omega)
              have h5 : (rows.mapIdx (cZ fun i => [i])).length = rows.length := by simp
              obtain ⟨z, hz1, hz2⟩ := ih ⟨rows ++ [(⟨vals, v.n⟩ : C)], i', b'⟩ ⟨p2, by
                simp only [List.length_append, List.length_singleton]; omega, fun c hc' => by
                rcases List.mem_append.1 hc' with hc' | hc'
                · exact hrow c hc'
                · rw [List.mem_singleton.1 hc']; simp only; omega, fun hb => by
                obtain ⟨f0, f1, f2, f3⟩ := p3 hb
                obtain ⟨g0, g1, g2, g3, g4⟩ := hv f0
                obtain ⟨r1, r2⟩ := hrd
                refine ⟨by simp; omega, ?_, fun c hc' => ?_⟩
                · rw [r1, g2, f2, numV_of g3 hk]; simp [rowB, numV]
                · rcases List.mem_append.1 hc' with hc' | hc'
                  · exact r2 c hc'
                  · rw [List.mem_singleton.1 hc']; exact ⟨p1, f3⟩⟩ (by
                cases b' with
                | true => simp only [if_true, Bool.false_eq_true, if_false]; omega
                | false =>
                  obtain ⟨f0, f1, -⟩ := p3 rfl
                  obtain ⟨-, g1, -⟩ := hv f0
                  simp only [Bool.false_eq_true, if_false]; omega)
              simp only [List.length_append, List.length_singleton] at hz1
              have HZ := Hd.mk hz2
              clear hE hi hr hrow ih hri hrd hi1 hv hc hk h hl h1 hW hxl hkb p1 p2 p3 hz2
              repeat' (first | with_reducible refine br_split (fun _ => ?_) (fun _ => ?_) | simp only [*, push_cast, simprocAttr] | (rw [drawC_ok]; rotate_left; decide +kernel; exact cfg_mixed))
              exact HQ.out _ HZ.out
            · have n1 : (v.k != 1) = true := by rw [bne_iff_ne]; exact hk
              clear hk
              repeat' (first | with_reducible refine br_split (fun _ => ?_) (fun _ => ?_) | simp only [*, push_cast, simprocAttr] | (rw [drawC_ok]; rotate_left; decide +kernel; exact cfg_mixed))
              exact HQ.out _ (.inl ⟨_, rfl⟩)
          · have c5 : decide ((i : Int) < (l.length : Int)) = false := decide_eq_false (by omega)
            have hie : i = l.length := by omega
            refine ⟨_, ?_, .inr ⟨rows, i, false, ⟨by omega, hrow, fun _ => by rw [← hie]; exact hrd⟩, rfl⟩⟩
            clear ih hi hr hrow hri hrd h hl h1 hW hxl hkb hc hie
            repeat' (first | with_reducible refine br_split (fun _ => ?_) (fun _ => ?_) | simp only [*, push_cast, simprocAttr] | (rw [drawC_ok]; rotate_left; decide +kernel; exact cfg_mixed))
      obtain ⟨_, rfl, ⟨n, rfl⟩ | ⟨rows, i', b', ⟨p0, p1, p2⟩, rfl⟩⟩ := key
      · clear hE H
        rw [List.mapIdx_nil]
        repeat' (first | with_reducible refine br_split (fun _ => ?_) (fun _ => ?_) | simp only [*, push_cast, simprocAttr] | (rw [drawC_ok]; rotate_left; decide +kernel; exact cfg_mixed))
      · obtain ⟨h, hl, h1, hW, hxl, hkb⟩ := H.out
        clear hE H
        rw [List.mapIdx_nil]
        cases b' with
        | true =>
          clear h hl h1 hW hxl hkb p0 p1 p2
          repeat' (first | with_reducible refine br_split (fun _ => ?_) (fun _ => ?_) | simp only [*, push_cast, simprocAttr] | (rw [drawC_ok]; rotate_left; decide +kernel; exact cfg_mixed))
        | false =>
          obtain ⟨r1, r2⟩ := p2 rfl
          have hme : annEs .any (rows.mapIdx (cZ fun i => [i])) = rows.map cC := by
            rw [annEs_mapIdx (g := cC) (fun i x => by simp only [cZ, annCs, T.ann, er_vC]; rfl) rows]
          have hok := ev_BagOk (W : Nat) rows (by omega) (fun c hc => by have := p1 c hc; omega)
          cases hb : bagOk ⟨(W : Nat), rows⟩ with
          | true =>
            refine absurd ?_ (h _ ⟨hb, fun c hc v hv => ((r2 c hc).2 v hv).2⟩)
            rw [List.drop_length, List.append_nil] at r1
            simp only [pbL, hb, if_true]
            rw [hkb, ← r1]
            exact hxl
          | false =>
            rw [hb] at hok
            clear h hl h1 hW hxl hkb p0 p1 p2 r1 r2 hb
            repeat' (first | with_reducible refine br_split (fun _ => ?_) (fun _ => ?_) | simp only [*, push_cast, simprocAttr] | (rw [drawC_ok]; rotate_left; decide +kernel; exact cfg_mixed))
end Go.Av
end
section
namespace Go.Av
open Go.Proofs
set_option linter.unusedVariables false
structure OkS (x : Sp) : Prop where
  ok : stepOk x = true
  name : x.name.size < 65536
  cols : ∀ c ∈ x.cols, c.size < 65536
  query : x.query.size < 65536
  rels : ∀ r ∈ x.change, r.name.size < 65536 ∧ OkB r.bag ∧ (pbL r.bag).length < 4294967296
theorem OkS.kind {x : Sp} (h : OkS x) : ∃ k : Nat, x.kind = k ∧ k ≤ 3 := by
  have ho := h.ok
  simp only [stepOk, Bool.and_eq_true, stepRest] at ho
  obtain ⟨_, h4⟩ := ho
  by_cases k0 : x.kind = 0
  · exact ⟨0, k0, by omega⟩
  by_cases k1 : x.kind = 1
  · exact ⟨1, k1, by omega⟩
  by_cases k2 : x.kind = 2
  · exact ⟨2, k2, by omega⟩
  by_cases k3 : x.kind = 3
  · exact ⟨3, k3, by omega⟩
  · simp [k0, k1, k2, k3] at h4
theorem OkS.nrel {x : Sp} (h : OkS x) : x.change.length ≤ 20 := by
  have ho := h.ok
  simp only [stepOk, Bool.and_eq_true, Bool.not_eq_true', stepBad, stepRest, Bool.or_eq_false_iff] at ho
  obtain ⟨⟨_, h3⟩, h4⟩ := ho
  by_cases k3 : x.kind = 3
  · simp [k3] at h4
    omega
  · simp [k3] at h3
    rw [h3]; simp
theorem OkS.ncol {x : Sp} (h : OkS x) : x.cols.length ≤ 12 := by
  have ho := h.ok
  simp only [stepOk, Bool.and_eq_true, Bool.not_eq_true', stepBad, stepRest, Bool.or_eq_false_iff] at ho
  obtain ⟨⟨⟨h3, _⟩, _⟩, h4⟩ := ho
  by_cases k0 : x.kind = 0
  · simp [k0, colsOk] at h4
    omega
  · simp [k0] at h3
    rw [h3]; simp
def tail2 (x : Sp) : List UInt8 := beB x.change.length 1 ++ x.change.flatMap relB
def tail1 (x : Sp) : List UInt8 := (beB x.query.size 2 ++ bl x.query) ++ tail2 x
theorem psL_eq {x : Sp} (h : OkS x) : psL x = beB (u64 x.kind) 1 ++ ((beB x.name.size 2 ++ bl x.name) ++ (beB x.cols.length 1 ++ (x.cols.flatMap col2 ++ tail1 x))) := by
  simp only [psL, h.ok, if_true, psR, psQ, psC, psH, List.take_length, txB, tail1, tail2, List.append_assoc]
theorem col_head {cols : List ByteArray} {q : Nat} (hq : q < cols.length) (X : List UInt8) : (cols.drop q).flatMap col2 ++ X = (beB cols[q].size 2 ++ bl cols[q]) ++ ((cols.drop (q + 1)).flatMap col2 ++ X) := by
  rw [List.drop_eq_getElem_cons hq, List.flatMap_cons, col2, txB, List.append_assoc]
theorem rel_head {ch : List R} {q : Nat} (hq : q < ch.length) : (ch.drop q).flatMap relB = (beB ch[q].name.size 2 ++ bl ch[q].name) ++ ((beB (bs (pbL ch[q].bag)).size 4 ++ bl (bs (pbL ch[q].bag))) ++ (ch.drop (q + 1)).flatMap relB) := by
  rw [List.drop_eq_getElem_cons hq, List.flatMap_cons, relB, txB, txB, List.append_assoc]
theorem pbL_of {b : B} (h : OkB b) : pbL b = kb b.w :: b.rows.flatMap rowB := by simp only [pbL, h.ok, if_true]
theorem szVs_enc : ∀ {row : List V}, (∀ v ∈ row, valueOk v = true) → szVs row ≤ (row.flatMap pvL).length
  | [], _ => by simp [szVs]
  | v :: row, h => by
    have ih := szVs_enc (row := row) fun x hx => h x (List.mem_cons_of_mem _ hx)
    have hv := h v (List.mem_cons_self ..)
    have h1 : v.s.size + 1 ≤ (pvL v).length := by
      have h2 := pvL_pos hv
      by_cases k3 : v.k = 3
      · simp only [pvL, hv, if_true, k3, show ¬ ((3 : Int) = 1) by decide, show ¬ ((3 : Int) = 2) by decide, if_false, List.length_append, beB_len, bl_size]
        omega
      · have h4 : v.s.size = 0 := by
          unfold valueOk at hv
          split at hv
          · simp only [Bool.and_eq_true, decide_eq_true_eq] at hv; rw [hv.2]; rfl
          · split at hv
            · simp only [decide_eq_true_eq] at hv; rw [hv]; rfl
            · split at hv
              · simp only [Bool.and_eq_true, decide_eq_true_eq] at hv; rw [hv.2]; rfl
              · cases hv
        omega
    simp only [szVs, List.length_cons, List.map_cons, List.sum_cons, List.flatMap_cons, List.length_append, szV] at ih ⊢
    omega
theorem szCs_enc : ∀ {rows : List C}, (∀ c ∈ rows, ∀ v ∈ c.row, valueOk v = true) → szCs rows ≤ (rows.flatMap rowB).length
  | [], _ => by simp [szCs]
  | c :: rows, h => by
    have ih := szCs_enc (rows := rows) fun x hx => h x (List.mem_cons_of_mem _ hx)
    have h1 := szVs_enc (h c (List.mem_cons_self ..))
    have h2 := pvL_pos (numV_ok c.n)
    simp only [szCs, List.length_cons, List.map_cons, List.sum_cons, List.flatMap_cons, List.length_append, szC, rowB] at ih ⊢
    omega
theorem szB_enc {b : B} (h : OkB b) : Go.Av.szB b ≤ (pbL b).length := by
  have := szCs_enc (rows := b.rows) fun c hc v hv => ((h.row hc).2.1 v hv).1
  rw [pbL_of h, List.length_cons]
  simp only [Go.Av.szB]
  omega
theorem szSs_enc : ∀ l : List ByteArray, szSs l ≤ (l.flatMap col2).length
  | [] => by simp [szSs]
  | s :: l => by
    have ih := szSs_enc l
    simp only [szSs, List.length_cons, List.map_cons, List.sum_cons, List.flatMap_cons, List.length_append, col2, txB_len] at ih ⊢
    omega
theorem szRs_enc : ∀ {l : List R}, (∀ r ∈ l, OkB r.bag) → szRs l ≤ (l.flatMap relB).length
  | [], _ => by simp [szRs]
  | r :: l, h => by
    have ih := szRs_enc (l := l) fun x hx => h x (List.mem_cons_of_mem _ hx)
    have h1 := szB_enc (h r (List.mem_cons_self ..))
    simp only [szRs, List.length_cons, List.map_cons, List.sum_cons, List.flatMap_cons, List.length_append, szR, relB, txB_len, bs_size] at ih ⊢
    omega
theorem szSp_enc {x : Sp} (h : OkS x) : szSp x ≤ (psL x).length := by
  have h1 := szSs_enc x.cols
  have h2 := szRs_enc (l := x.change) fun r hr => (h.rels r hr).2.1
  rw [psL_eq h]
  simp only [szSp, tail1, tail2, List.length_append, beB_len, bl_size]
  omega
end Go.Av
end
section
namespace Go.Av
open Go.Proofs
set_option linter.unusedSimpArgs false
theorem ev_sGetStep_yes (kind : Int) (name : ByteArray) (cols : List ByteArray) (query : ByteArray) (change : List R) (h : OkS ⟨kind, name, cols, query, change⟩) (hl : (psL ⟨kind, name, cols, query, change⟩).length ≤ 1048576) :
    evF cfg 6 [] [.d (.s (bs (psL ⟨kind, name, cols, query, change⟩)))] = some (.tup [.agg [.d (.i .i64 kind), .d (.s name), .d (.sl .any (cols.map sC)), .d (.s query), .d (.sl .any (change.map rC))], .d (.b true)], []) := by
  have hsz : szSp ⟨kind, name, cols, query, change⟩ ≤ 1048576 := Nat.le_trans (szSp_enc h) hl
  have hps := ev_sPutStep kind name cols query change hsz
  have heq := psL_eq h
  simp only at heq
  generalize hL : psL ⟨kind, name, cols, query, change⟩ = l at *
  have hz := bs_size l
  obtain ⟨kn, hkn, hk3⟩ := h.kind
  simp only at hkn
  have hnc := h.ncol
  have hnr := h.nrel
  simp only at hnc hnr
  have hlp : 0 < l.length := by rw [heq]; simp [beB_len]; omega
  have hu : u64 kind = kn := by rw [hkn]; exact u64_nn (by omega)
  rw [hu] at heq
  have n0 : takeP 1 (l.drop 0) = some (beB kn 1, l.drop 1) := by
    have := takeP_app (n := 1) (a := beB kn 1) (b := ((beB name.size 2 ++ bl name) ++ (beB cols.length 1 ++ (cols.flatMap col2 ++ tail1 ⟨kind, name, cols, query, change⟩)))) (beB_len _ _)
    rw [← heq] at this
    have h2 := (takeP_at (i := 0) this (Nat.zero_le _)).2.2.1
    rw [h2] at this
    exact this
  have d1 : l.drop 1 = (beB name.size 2 ++ bl name) ++ (beB cols.length 1 ++ (cols.flatMap col2 ++ tail1 ⟨kind, name, cols, query, change⟩)) := by
    have := takeP_app (n := 1) (a := beB kn 1) (b := ((beB name.size 2 ++ bl name) ++ (beB cols.length 1 ++ (cols.flatMap col2 ++ tail1 ⟨kind, name, cols, query, change⟩)))) (beB_len _ _)
    rw [← heq] at this
    exact ((takeP_at (i := 0) this (Nat.zero_le _)).2.2.1).symm
  have e0 := ev_l10Num_some l hl 0 1 1 (Nat.zero_le _) rfl (by omega) n0
  rw [beV_beB kn 1 (by omega), show ((0 : Nat) : Int) = 0 from rfl, show ((1 : Nat) : Int) = 1 from rfl, ← hkn] at e0
  have t1 : txtP 2 (l.drop 1) = some (name, (beB cols.length 1 ++ (cols.flatMap col2 ++ tail1 ⟨kind, name, cols, query, change⟩))) := by
    rw [d1]; exact txtP_app h.name
  obtain ⟨i2, a1, -, a3, e1⟩ := ev_l10Get_some l hl 1 2 (by omega) (by omega) t1
  rw [show ((1 : Nat) : Int) = 1 from rfl, show ((2 : Nat) : Int) = 2 from rfl] at e1
  have n1 : takeP 1 (l.drop i2) = some (beB cols.length 1, (cols.flatMap col2 ++ tail1 ⟨kind, name, cols, query, change⟩)) := by
    rw [← a3]; exact takeP_app (beB_len _ _)
  obtain ⟨b1, -, b3, -⟩ := takeP_at n1 a1
  obtain ⟨j, hj⟩ : ∃ j, i2 + 1 = j := ⟨_, rfl⟩
  have e2 := ev_l10Num_some l hl i2 1 j a1 hj (by omega) n1
  rw [beV_beB _ 1 (by omega), show ((1 : Nat) : Int) = 1 from rfl] at e2
  rw [hj] at b1 b3
  have H := Hd.mk (And.intro h (And.intro hl (And.intro b1 (And.intro b3.symm (And.intro hnc (And.intro hnr hlp))))))
  clear h hl b1 b3 hnc hnr hlp hsz heq hL hkn hk3 hu n0 d1 t1 a1 a3 n1 hj
  (refine (evF_code (C := cfg) (g := 6) (fn := Tryz.f6) rfl Tryz.func6 rfl (by rw [Tryz.ntmps6]; simp) (by kernel_rfl) (by first | decide | simp [keysOf])).trans ?_; rw [Tryz.results6, Tryz.ntmps6])
  repeat' (first | with_reducible refine br_split (fun _ => ?_) (fun _ => ?_) | simp only [*, push_cast, simprocAttr] | (rw [drawC_ok]; rotate_left; decide +kernel; exact cfg_mixed))
  rw [show ([] : List (List T)) = (cols.take 0).map sC from rfl]
  generalize hE : evM cfg _ _ _ _ _ = RR
  have key : ∃ z, RR = some z ∧ ∃ i' : Nat, i' ≤ l.length ∧ l.drop i' = tail1 ⟨kind, name, cols, query, change⟩ ∧ z = (Exit.exit 0, { t := [(0, .d (.s (bs l))), (2, .ptr 50 0), (6, .ptr 51 0), (10, .d (.i .i64 (i' : Nat)))], o := [(50, .box [.d (.i .i64 0), .d (.s ⟨#[]⟩), .nl, .d (.s ⟨#[]⟩), .nl]), (51, .box [.d (.i .i64 kind), .d (.s name), .own 52, .d (.s ⟨#[]⟩), .nl]), (52, .arr .any 1 (cols.map sC))], ks := [50, 51, 52], n := 0, sz := 134, u := noU }) := by
    rw [← hE]
    refine evM_ex (α := Nat × Nat) (fun y => { t := [(0, .d (.s (bs l))), (2, .ptr 50 0), (6, .ptr 51 0), (9, .d (.i .i64 cols.length)), (10, .d (.i .i64 (y.2 : Nat))), (11, .d (.i .i64 (y.1 : Nat)))], o := [(50, .box [.d (.i .i64 0), .d (.s ⟨#[]⟩), .nl, .d (.s ⟨#[]⟩), .nl]), (51, .box [.d (.i .i64 kind), .d (.s name), .own 52, .d (.s ⟨#[]⟩), .nl]), (52, .arr .any 1 ((cols.take y.1).map sC))], ks := [50, 51, 52], n := 0, sz := 134, u := noU })
      (fun _ z => ∃ i' : Nat, i' ≤ l.length ∧ l.drop i' = tail1 ⟨kind, name, cols, query, change⟩ ∧ z = (Exit.exit 0, { t := [(0, .d (.s (bs l))), (2, .ptr 50 0), (6, .ptr 51 0), (10, .d (.i .i64 (i' : Nat)))], o := [(50, .box [.d (.i .i64 0), .d (.s ⟨#[]⟩), .nl, .d (.s ⟨#[]⟩), .nl]), (51, .box [.d (.i .i64 kind), .d (.s name), .own 52, .d (.s ⟨#[]⟩), .nl]), (52, .arr .any 1 (cols.map sC))], ks := [50, 51, 52], n := 0, sz := 134, u := noU }))
      (fun y => y.1 ≤ cols.length ∧ y.2 ≤ l.length ∧ l.drop y.2 = (cols.drop y.1).flatMap col2 ++ tail1 ⟨kind, name, cols, query, change⟩) (fun y => cols.length - y.1) ?_ (0, j) ⟨Nat.zero_le _, H.out.2.2.1, H.out.2.2.2.1⟩
    clear hE RR e0 e1 e2 hps
    rintro ⟨q, i⟩ ⟨hq, hi, hd⟩ ih
    simp only at hq hi hd ih ⊢
    obtain ⟨h, hl, -, -, hnc, -, -⟩ := H.out
    by_cases hqc : q < cols.length
    · have c1 := dec_lt hqc
      have c2 : decide ((i : Int) ≥ 0) = true := decide_eq_true (by omega)
      have w1 : IntKind.i64.wrap ((q : Int) + 1) = (q : Int) + 1 := wrap_succ (by omega)
      rw [col_head hqc] at hd
      have t1 : txtP 2 (l.drop i) = some (cols[q], (cols.drop (q + 1)).flatMap col2 ++ tail1 ⟨kind, name, cols, query, change⟩) := by
        rw [hd]; exact txtP_app (h.cols _ (List.getElem_mem hqc))
      obtain ⟨i2, a1, -, a3, e1⟩ := ev_l10Get_some l hl i 2 hi (by omega) t1
      rw [show ((2 : Nat) : Int) = 2 from rfl] at e1
      have h3 : (cols.take q).map sC ++ [[.s cols[q]]] = (cols.take (q + 1)).map sC := take_snoc sC hqc
      have h4 := len_ok (n := (cols.take q).length + 1) 16 (by rw [List.length_take]; omega) (by omega)
      obtain ⟨z, hz1, hz2⟩ := ih (q + 1, i2) ⟨hqc, a1, a3.symm⟩ (by simp only; omega)
      refine ⟨z, ?_, hz2⟩
      simp only at hz1
      rw [show ((q + 1 : Nat) : Int) = (q : Int) + 1 from rfl] at hz1
      clear ih hq hi hd h hl hnc t1 a1 a3 hz2
      repeat' (first | with_reducible refine br_split (fun _ => ?_) (fun _ => ?_) | simp only [*, push_cast, simprocAttr] | (rw [drawC_ok]; rotate_left; decide +kernel; exact cfg_mixed))
    · have c1 : decide ((q : Int) < (cols.length : Int)) = false := decide_eq_false (by omega)
      have hqe : q = cols.length := by omega
      have hd2 : l.drop i = tail1 ⟨kind, name, cols, query, change⟩ := by rw [hd, hqe, List.drop_length]; rfl
      have hrr : cols.take q = cols := by rw [hqe]; exact List.take_length
      refine ⟨_, ?_, i, hi, hd2, rfl⟩
      clear ih hq hi hd h hl hnc hqc hqe hd2
      repeat' (first | with_reducible refine br_split (fun _ => ?_) (fun _ => ?_) | simp only [*, push_cast, simprocAttr] | (rw [drawC_ok]; rotate_left; decide +kernel; exact cfg_mixed))
  obtain ⟨_, rfl, i4, p1, p2, rfl⟩ := key
  clear hE
  obtain ⟨h, hl, -, -, hnc, hnr, hlp⟩ := H.out
  have t2 : txtP 2 (l.drop i4) = some (query, tail2 ⟨kind, name, cols, query, change⟩) := by
    rw [p2]; exact txtP_app h.query
  obtain ⟨i5, a1, -, a3, e4⟩ := ev_l10Get_some l hl i4 2 p1 (by omega) t2
  rw [show ((2 : Nat) : Int) = 2 from rfl] at e4
  have n2 : takeP 1 (l.drop i5) = some (beB change.length 1, change.flatMap relB) := by
    rw [← a3]; exact takeP_app (beB_len _ _)
  obtain ⟨b1, -, b3, -⟩ := takeP_at n2 a1
  obtain ⟨j6, hj6⟩ : ∃ j, i5 + 1 = j := ⟨_, rfl⟩
  have e5 := ev_l10Num_some l hl i5 1 j6 a1 hj6 (by omega) n2
  rw [beV_beB _ 1 (by omega), show ((1 : Nat) : Int) = 1 from rfl] at e5
  rw [hj6] at b1 b3
  have H2 := Hd.mk (And.intro b1 b3.symm)
  clear h hl hnc hnr hlp t2 a1 a3 n2 b1 b3 p1 p2 hj6 e0 e1 e2
  repeat' (first | with_reducible refine br_split (fun _ => ?_) (fun _ => ?_) | simp only [*, push_cast, simprocAttr] | (rw [drawC_ok]; rotate_left; decide +kernel; exact cfg_mixed))
  rw [show ([] : List (List T)) = (change.take 0).map rC from rfl]
  generalize hE : evM cfg _ _ _ _ _ = RR
  have key : ∃ z, RR = some z ∧ ∃ i' : Nat, z = (Exit.exit 2, { t := [(0, .d (.s (bs l))), (2, .ptr 50 0), (6, .ptr 51 0), (17, .d (.i .i64 (i' : Nat)))], o := [(50, .box [.d (.i .i64 0), .d (.s ⟨#[]⟩), .nl, .d (.s ⟨#[]⟩), .nl]), (51, .box [.d (.i .i64 kind), .d (.s name), .own 52, .d (.s query), .own 53]), (52, .arr .any 1 (cols.map sC)), (53, .arr .any 3 (change.map rC))], ks := [50, 51, 52, 53], n := 0, sz := 134, u := noU }) := by
    rw [← hE]
    refine evM_ex (α := Nat × Nat) (fun y => { t := [(0, .d (.s (bs l))), (2, .ptr 50 0), (6, .ptr 51 0), (16, .d (.i .i64 change.length)), (17, .d (.i .i64 (y.2 : Nat))), (18, .d (.i .i64 (y.1 : Nat)))], o := [(50, .box [.d (.i .i64 0), .d (.s ⟨#[]⟩), .nl, .d (.s ⟨#[]⟩), .nl]), (51, .box [.d (.i .i64 kind), .d (.s name), .own 52, .d (.s query), .own 53]), (52, .arr .any 1 (cols.map sC)), (53, .arr .any 3 ((change.take y.1).map rC))], ks := [50, 51, 52, 53], n := 0, sz := 134, u := noU })
      (fun _ z => ∃ i' : Nat, z = (Exit.exit 2, { t := [(0, .d (.s (bs l))), (2, .ptr 50 0), (6, .ptr 51 0), (17, .d (.i .i64 (i' : Nat)))], o := [(50, .box [.d (.i .i64 0), .d (.s ⟨#[]⟩), .nl, .d (.s ⟨#[]⟩), .nl]), (51, .box [.d (.i .i64 kind), .d (.s name), .own 52, .d (.s query), .own 53]), (52, .arr .any 1 (cols.map sC)), (53, .arr .any 3 (change.map rC))], ks := [50, 51, 52, 53], n := 0, sz := 134, u := noU }))
      (fun y => y.1 ≤ change.length ∧ y.2 ≤ l.length ∧ l.drop y.2 = (change.drop y.1).flatMap relB) (fun y => change.length - y.1) ?_ (0, j6) ⟨Nat.zero_le _, H2.out.1, H2.out.2⟩
    clear hE RR e4 e5 hps
    rintro ⟨q, i⟩ ⟨hq, hi, hd⟩ ih
    simp only at hq hi hd ih ⊢
    obtain ⟨h, hl, -, -, -, hnr, -⟩ := H.out
    by_cases hqc : q < change.length
    · have c1 := dec_lt hqc
      have c2 : decide ((i : Int) ≥ 0) = true := decide_eq_true (by omega)
      have w1 : IntKind.i64.wrap ((q : Int) + 1) = (q : Int) + 1 := wrap_succ (by omega)
      rw [rel_head hqc] at hd
      obtain ⟨r1, r2, r3⟩ := h.rels _ (List.getElem_mem hqc)
      have t1 : txtP 2 (l.drop i) = some (change[q].name, (beB (bs (pbL change[q].bag)).size 4 ++ bl (bs (pbL change[q].bag))) ++ (change.drop (q + 1)).flatMap relB) := by
        rw [hd]; exact txtP_app r1
      obtain ⟨i2, a1, -, a3, e1⟩ := ev_l10Get_some l hl i 2 hi (by omega) t1
      rw [show ((2 : Nat) : Int) = 2 from rfl] at e1
      have t2 : txtP 4 (l.drop i2) = some (bs (pbL change[q].bag), (change.drop (q + 1)).flatMap relB) := by
        rw [← a3]; exact txtP_app (by rw [bs_size]; simpa using r3)
      obtain ⟨i3, b1, -, b3, e2⟩ := ev_l10Get_some l hl i2 4 a1 (by omega) t2
      rw [show ((4 : Nat) : Int) = 4 from rfl] at e2
      have hbl : (pbL change[q].bag).length ≤ 1048576 := by
        have h1 := congrArg List.length a3
        rw [List.length_append, List.length_append, bl_size, bs_size, List.length_drop] at h1
        omega
      have e3 := ev_sGetBag_yes change[q].bag.w change[q].bag.rows r2 (by rw [← pbL_of r2]; exact hbl)
      rw [show kb change[q].bag.w :: change[q].bag.rows.flatMap rowB = pbL change[q].bag from (pbL_of r2).symm] at e3
      have h3 : (change.take q).map rC ++ [[.s change[q].name, .i .i64 change[q].bag.w, .sl .any (change[q].bag.rows.map cC)]] = (change.take (q + 1)).map rC := take_snoc rC hqc
      have h4 := len_ok (n := (change.take q).length + 1) 48 (by rw [List.length_take]; omega) (by omega)
      obtain ⟨z, hz1, hz2⟩ := ih (q + 1, i3) ⟨hqc, b1, b3.symm⟩ (by simp only; omega)
      refine ⟨z, ?_, hz2⟩
      simp only at hz1
      rw [show ((q + 1 : Nat) : Int) = (q : Int) + 1 from rfl] at hz1
      clear ih hq hi hd h hl hnr t1 t2 a1 a3 b1 b3 hz2 r1 r2 r3 hbl
      repeat' (first | with_reducible refine br_split (fun _ => ?_) (fun _ => ?_) | simp only [*, push_cast, simprocAttr] | (rw [drawC_ok]; rotate_left; decide +kernel; exact cfg_mixed))
    · have c1 : decide ((q : Int) < (change.length : Int)) = false := decide_eq_false (by omega)
      have hqe : q = change.length := by omega
      have hrr : change.take q = change := by rw [hqe]; exact List.take_length
      refine ⟨_, ?_, i, rfl⟩
      clear ih hq hi hd h hl hnr hqc hqe
      repeat' (first | with_reducible refine br_split (fun _ => ?_) (fun _ => ?_) | simp only [*, push_cast, simprocAttr] | (rw [drawC_ok]; rotate_left; decide +kernel; exact cfg_mixed))
  obtain ⟨_, rfl, i7, rfl⟩ := key
  clear hE
  have hlp := H.out.2.2.2.2.2.2
  have c1 : decide ((i7 : Int) < 0) = false := decide_eq_false (by omega)
  have hne : decide (bs l = (⟨#[]⟩ : ByteArray)) = false := decide_eq_false fun e => by
    have := congrArg ByteArray.size e
    rw [bs_size] at this
    have : (⟨#[]⟩ : ByteArray).size = 0 := rfl
    omega
  have hpe : decide (bs l = bs l) = true := decide_eq_true rfl
  clear H H2 hlp e4 e5
  repeat' (first | with_reducible refine br_split (fun _ => ?_) (fun _ => ?_) | simp only [*, push_cast, simprocAttr] | (rw [drawC_ok]; rotate_left; decide +kernel; exact cfg_mixed))
end Go.Av
end
section
namespace Go.Av
open Go.Proofs
set_option linter.unusedSimpArgs false
theorem ev_l10Num_any (l : List UInt8) (hl : l.length ≤ 1048576) (i : Int) (hp : i = -1 ∨ ∃ t : Nat, i = t ∧ t ≤ l.length) (n : Nat) (hn : n ≤ 7) : ∃ (x : Nat) (i' : Int), x < 256 ^ n ∧ ((x = 0 ∧ i' = -1) ∨ ∃ t t' : Nat, i = t ∧ i' = t' ∧ t + n = t' ∧ t' ≤ l.length) ∧
    evF cfg 30 [] [.d (.s (bs l)), .d (.i .i64 i), .d (.i .i64 (n : Nat))] = some (.tup [.d (.i .i64 (x : Nat)), .d (.i .i64 i')], []) := by
  rcases hp with rfl | ⟨t, rfl, ht⟩
  · exact ⟨0, -1, Nat.pow_pos (by omega), .inl ⟨rfl, rfl⟩, ev_l10Num_bad (bs l) n⟩
  · cases h0 : takeP n (l.drop t) with
    | none => exact ⟨0, -1, Nat.pow_pos (by omega), .inl ⟨rfl, rfl⟩, ev_l10Num_none l hl t n ht h0⟩
    | some p =>
      obtain ⟨a, b⟩ := p
      obtain ⟨h1, -, -, h4⟩ := takeP_at h0 ht
      have h5 := beV_lt a
      rw [h4] at h5
      exact ⟨beV a, (t + n : Nat), h5, .inr ⟨t, t + n, rfl, rfl, rfl, h1⟩, ev_l10Num_some l hl t n (t + n) ht rfl hn h0⟩
theorem ev_l10Get_any (l : List UInt8) (hl : l.length ≤ 1048576) (i : Int) (hp : i = -1 ∨ ∃ t : Nat, i = t ∧ t ≤ l.length) (m : Nat) (hm : m ≤ 7) : ∃ (s : ByteArray) (i' : Int), ((s = ⟨#[]⟩ ∧ i' = -1) ∨ ∃ t t' : Nat, i = t ∧ i' = t' ∧ t + m + s.size = t' ∧ t' ≤ l.length ∧ s.size < 256 ^ m) ∧
    evF cfg 31 [] [.d (.s (bs l)), .d (.i .i64 i), .d (.i .i64 (m : Nat))] = some (.tup [.d (.s s), .d (.i .i64 i')], []) := by
  rcases hp with rfl | ⟨t, rfl, ht⟩
  · exact ⟨⟨#[]⟩, -1, .inl ⟨rfl, rfl⟩, ev_l10Get_bad (bs l) m⟩
  · cases h0 : txtP m (l.drop t) with
    | none => exact ⟨⟨#[]⟩, -1, .inl ⟨rfl, rfl⟩, ev_l10Get_none l hl t m ht hm h0⟩
    | some p =>
      obtain ⟨s, b⟩ := p
      obtain ⟨k, h1, h2, h3, e⟩ := ev_l10Get_some l hl t m ht hm h0
      obtain ⟨g1, g2⟩ := txtP_some h0
      refine ⟨s, k, .inr ⟨t, k, rfl, rfl, ?_, h1, g2⟩, e⟩
      have := congrArg List.length g1
      rw [h3, List.length_append, List.length_append, beB_len, bl_size, List.length_drop, List.length_drop] at this
      omega
structure CS where
  cols : List ByteArray
  i : Int
structure RL where
  ch : List R
  i : Int
theorem ev_sGetStep_no (l : List UInt8) (hl : l.length ≤ 1048576) (h : ∀ x, OkS x → l ≠ psL x) :
    evF cfg 6 [] [.d (.s (bs l))] = some (.tup [.agg [.d (.i .i64 0), .d (.s ⟨#[]⟩), .d (.sl .any []), .d (.s ⟨#[]⟩), .d (.sl .any [])], .d (.b false)], []) := by
  have hz := bs_size l
  obtain ⟨kn, i1, hkn, p1, e0⟩ := ev_l10Num_any l hl 0 (.inr ⟨0, rfl, Nat.zero_le _⟩) 1 (by omega)
  rw [show ((1 : Nat) : Int) = 1 from rfl] at e0
  have q1 : i1 = -1 ∨ ∃ t : Nat, i1 = t ∧ t ≤ l.length := by
    rcases p1 with ⟨-, h⟩ | ⟨t, t', -, h, -, h'⟩
    · exact .inl h
    · exact .inr ⟨t', h, h'⟩
  obtain ⟨name, i2, p2, e1⟩ := ev_l10Get_any l hl i1 q1 2 (by omega)
  rw [show ((2 : Nat) : Int) = 2 from rfl] at e1
  have q2 : i2 = -1 ∨ ∃ t : Nat, i2 = t ∧ t ≤ l.length ∧ name.size ≤ t ∧ name.size < 65536 := by
    rcases p2 with ⟨-, h⟩ | ⟨t, t', -, h, h2, h', h3⟩
    · exact .inl h
    · exact .inr ⟨t', h, h', by omega, by simpa using h3⟩
  obtain ⟨nc, i3, hnc, p3, e2⟩ := ev_l10Num_any l hl i2 (by rcases q2 with h | ⟨t, h, h', -⟩; exact .inl h; exact .inr ⟨t, h, h'⟩) 1 (by omega)
  rw [show ((1 : Nat) : Int) = 1 from rfl] at e2
  have q3 : (nc = 0 ∧ i3 = -1) ∨ ∃ t : Nat, i3 = t ∧ t ≤ l.length ∧ name.size ≤ t ∧ name.size < 65536 := by
    rcases p3 with h | ⟨t, t', h0, h, h2, h'⟩
    · exact .inl h
    · rcases q2 with hq | ⟨t2, hq, a, b, c⟩
      · omega
      · exact .inr ⟨t', h, h', by omega, c⟩
  have H := Hd.mk (And.intro h (And.intro hl (And.intro hkn (And.intro (show nc < 256 by simpa using hnc) q3))))
  clear h hl hkn hnc p1 p2 p3 q1 q2 q3
  (refine (evF_code (C := cfg) (g := 6) (fn := Tryz.f6) rfl Tryz.func6 rfl (by rw [Tryz.ntmps6]; simp) (by kernel_rfl) (by first | decide | simp [keysOf])).trans ?_; rw [Tryz.results6, Tryz.ntmps6])
  repeat' (first | with_reducible refine br_split (fun _ => ?_) (fun _ => ?_) | simp only [*, push_cast, simprocAttr] | (rw [drawC_ok]; rotate_left; decide +kernel; exact cfg_mixed))
  rw [show ([] : List (List T)) = ([] : List ByteArray).map sC from rfl]
  generalize hE : evM cfg _ _ _ _ _ = RR
  have key : ∃ z, RR = some z ∧ ∃ (cols : List ByteArray) (i' : Int), cols.length ≤ 255 ∧ (i' = -1 ∨ ∃ t : Nat, i' = t ∧ t ≤ l.length ∧ name.size + szSs cols ≤ t ∧ name.size < 65536 ∧ ∀ c ∈ cols, c.size < 65536) ∧ z = (Exit.exit 0, { t := [(0, .d (.s (bs l))), (2, .ptr 50 0), (6, .ptr 51 0), (10, .d (.i .i64 i'))], o := [(50, .box [.d (.i .i64 0), .d (.s ⟨#[]⟩), .nl, .d (.s ⟨#[]⟩), .nl]), (51, .box [.d (.i .i64 (kn : Nat)), .d (.s name), .own 52, .d (.s ⟨#[]⟩), .nl]), (52, .arr .any 1 (cols.map sC))], ks := [50, 51, 52], n := 0, sz := 134, u := noU }) := by
    rw [← hE]
    refine evM_ex (α := CS) (fun y => { t := [(0, .d (.s (bs l))), (2, .ptr 50 0), (6, .ptr 51 0), (9, .d (.i .i64 (nc : Nat))), (10, .d (.i .i64 y.i)), (11, .d (.i .i64 (y.cols.length : Nat)))], o := [(50, .box [.d (.i .i64 0), .d (.s ⟨#[]⟩), .nl, .d (.s ⟨#[]⟩), .nl]), (51, .box [.d (.i .i64 (kn : Nat)), .d (.s name), .own 52, .d (.s ⟨#[]⟩), .nl]), (52, .arr .any 1 (y.cols.map sC))], ks := [50, 51, 52], n := 0, sz := 134, u := noU })
      (fun _ z => ∃ (cols : List ByteArray) (i' : Int), cols.length ≤ 255 ∧ (i' = -1 ∨ ∃ t : Nat, i' = t ∧ t ≤ l.length ∧ name.size + szSs cols ≤ t ∧ name.size < 65536 ∧ ∀ c ∈ cols, c.size < 65536) ∧ z = (Exit.exit 0, { t := [(0, .d (.s (bs l))), (2, .ptr 50 0), (6, .ptr 51 0), (10, .d (.i .i64 i'))], o := [(50, .box [.d (.i .i64 0), .d (.s ⟨#[]⟩), .nl, .d (.s ⟨#[]⟩), .nl]), (51, .box [.d (.i .i64 (kn : Nat)), .d (.s name), .own 52, .d (.s ⟨#[]⟩), .nl]), (52, .arr .any 1 (cols.map sC))], ks := [50, 51, 52], n := 0, sz := 134, u := noU }))
      (fun y => y.cols.length ≤ nc ∧ (y.i = -1 ∨ ∃ t : Nat, y.i = t ∧ t ≤ l.length ∧ name.size + szSs y.cols ≤ t ∧ name.size < 65536 ∧ ∀ c ∈ y.cols, c.size < 65536)) (fun y => nc - y.cols.length) ?_ ⟨[], i3⟩ ⟨Nat.zero_le _, by
        rcases H.out.2.2.2.2 with ⟨-, h⟩ | ⟨t, h1, h2, h3, h4⟩
        · exact .inl h
        · exact .inr ⟨t, h1, h2, by simpa [szSs] using h3, h4, fun _ h => (nomatch h)⟩⟩
    clear hE RR e0 e1 e2
    rintro ⟨cols, i⟩ ⟨hq, hp⟩ ih
    simp only at hq hp ih ⊢
    obtain ⟨h, hl, hkn, hnc, -⟩ := H.out
    by_cases hqc : cols.length < nc
    · have c1 : decide ((cols.length : Int) < (nc : Int)) = true := decide_eq_true (by omega)
      rcases hp with rfl | ⟨t, rfl, ht1, ht2, ht3, ht4⟩
      · have c2 : decide ((-1 : Int) ≥ 0) = false := rfl
        refine ⟨_, ?_, cols, -1, by omega, .inl rfl, rfl⟩
        clear ih hq h hl hkn hnc hqc
        repeat' (first | with_reducible refine br_split (fun _ => ?_) (fun _ => ?_) | simp only [*, push_cast, simprocAttr] | (rw [drawC_ok]; rotate_left; decide +kernel; exact cfg_mixed))
      · have c2 : decide ((t : Int) ≥ 0) = true := decide_eq_true (by omega)
        have w1 : IntKind.i64.wrap ((cols.length : Int) + 1) = (cols.length : Int) + 1 := wrap_succ (by omega)
        obtain ⟨c, i', p2, e1⟩ := ev_l10Get_any l hl t (.inr ⟨t, rfl, ht1⟩) 2 (by omega)
        rw [show ((2 : Nat) : Int) = 2 from rfl] at e1
        have h3 : cols.map sC ++ [[.s c]] = (cols ++ [c]).map sC := by rw [List.map_append]; rfl
        have h4 := len_ok (n := cols.length + 1) 16 (by omega) (by omega)
        obtain ⟨z, hz1, hz2⟩ := ih ⟨cols ++ [c], i'⟩ ⟨by simp; omega, by
          rcases p2 with ⟨-, hi⟩ | ⟨t1, t2, h0, hi, g2, g3, g4⟩
          · exact .inl hi
          · refine .inr ⟨t2, hi, g3, ?_, ht3, fun x hx => ?_⟩
            · have : szSs (cols ++ [c]) = szSs cols + 1 + c.size := by simp [szSs]; omega
              rw [this]; omega
            · rcases List.mem_append.1 hx with hx | hx
              · exact ht4 x hx
              · rw [List.mem_singleton.1 hx]; simpa using g4⟩ (by simp; omega)
        refine ⟨z, ?_, hz2⟩
        simp only [List.length_append, List.length_singleton] at hz1
        rw [show ((cols.length + 1 : Nat) : Int) = (cols.length : Int) + 1 from rfl] at hz1
        clear ih hq h hl hkn hnc hqc ht1 ht2 ht3 ht4 p2 hz2
        repeat' (first | with_reducible refine br_split (fun _ => ?_) (fun _ => ?_) | simp only [*, push_cast, simprocAttr] | (rw [drawC_ok]; rotate_left; decide +kernel; exact cfg_mixed))
    · have c1 : decide ((cols.length : Int) < (nc : Int)) = false := decide_eq_false (by omega)
      refine ⟨_, ?_, cols, i, by omega, hp, rfl⟩
      clear ih hq h hl hkn hnc hqc hp
      repeat' (first | with_reducible refine br_split (fun _ => ?_) (fun _ => ?_) | simp only [*, push_cast, simprocAttr] | (rw [drawC_ok]; rotate_left; decide +kernel; exact cfg_mixed))
  obtain ⟨_, rfl, cols, i4, p1, p2, rfl⟩ := key
  clear hE e0 e1 e2
  obtain ⟨h, hl, hkn, -, -⟩ := H.out
  obtain ⟨query, i5, p3, e3⟩ := ev_l10Get_any l hl i4 (by rcases p2 with h | ⟨t, h, h', -⟩; exact .inl h; exact .inr ⟨t, h, h'⟩) 2 (by omega)
  rw [show ((2 : Nat) : Int) = 2 from rfl] at e3
  have q5 : i5 = -1 ∨ ∃ t : Nat, i5 = t ∧ t ≤ l.length ∧ (name.size + szSs cols + query.size ≤ t ∧ name.size < 65536 ∧ (∀ c ∈ cols, c.size < 65536) ∧ query.size < 65536) := by
    rcases p3 with ⟨-, h⟩ | ⟨t, t', h0, h, h2, h', h3⟩
    · exact .inl h
    · rcases p2 with hq | ⟨t2, hq, a, b, c, d⟩
      · omega
      · exact .inr ⟨t', h, h', by omega, c, d, by simpa using h3⟩
  obtain ⟨k, i6, hk, p4, e4⟩ := ev_l10Num_any l hl i5 (by rcases q5 with h | ⟨t, h, h', -⟩; exact .inl h; exact .inr ⟨t, h, h'⟩) 1 (by omega)
  rw [show ((1 : Nat) : Int) = 1 from rfl] at e4
  have q6 : (k = 0 ∧ i6 = -1) ∨ ∃ t : Nat, i6 = t ∧ t ≤ l.length ∧ (name.size + szSs cols + query.size ≤ t ∧ name.size < 65536 ∧ (∀ c ∈ cols, c.size < 65536) ∧ query.size < 65536) := by
    rcases p4 with h | ⟨t, t', h0, h, h2, h'⟩
    · exact .inl h
    · rcases q5 with hq | ⟨t2, hq, a, b, c, d, e⟩
      · omega
      · exact .inr ⟨t', h, h', by omega, c, d, e⟩
  have H2 := Hd.mk (And.intro (show k < 256 by simpa using hk) (And.intro p1 q6))
  clear h hl hkn p1 p2 p3 p4 hk q5 q6
  repeat' (first | with_reducible refine br_split (fun _ => ?_) (fun _ => ?_) | simp only [*, push_cast, simprocAttr] | (rw [drawC_ok]; rotate_left; decide +kernel; exact cfg_mixed))
  rw [show ([] : List (List T)) = ([] : List R).map rC from rfl]
  generalize hE : evM cfg _ _ _ _ _ = RR
  have key : ∃ z, RR = some z ∧ (z = (Exit.ret, { t := [(2, .ptr 50 0), (3, .d (.b false))], o := [(50, .box [.d (.i .i64 0), .d (.s ⟨#[]⟩), .nl, .d (.s ⟨#[]⟩), .nl])], ks := [50], n := 0, sz := 134, u := noU }) ∨ ∃ (ch : List R) (i' : Int), ((k = 0 ∧ i' = -1) ∨ ∃ t : Nat, i' = t ∧ t ≤ l.length ∧ name.size + szSs cols + query.size + szRs ch ≤ t ∧ (name.size < 65536 ∧ (∀ c ∈ cols, c.size < 65536) ∧ query.size < 65536) ∧ ∀ r ∈ ch, r.name.size < 65536 ∧ OkB r.bag ∧ (pbL r.bag).length < 4294967296) ∧ z = (Exit.exit 2, { t := [(0, .d (.s (bs l))), (2, .ptr 50 0), (6, .ptr 51 0), (17, .d (.i .i64 i'))], o := [(50, .box [.d (.i .i64 0), .d (.s ⟨#[]⟩), .nl, .d (.s ⟨#[]⟩), .nl]), (51, .box [.d (.i .i64 (kn : Nat)), .d (.s name), .own 52, .d (.s query), .own 53]), (52, .arr .any 1 (cols.map sC)), (53, .arr .any 3 (ch.map rC))], ks := [50, 51, 52, 53], n := 0, sz := 134, u := noU })) := by
    rw [← hE]
    refine evM_ex (α := RL) (fun y => { t := [(0, .d (.s (bs l))), (2, .ptr 50 0), (6, .ptr 51 0), (16, .d (.i .i64 (k : Nat))), (17, .d (.i .i64 y.i)), (18, .d (.i .i64 (y.ch.length : Nat)))], o := [(50, .box [.d (.i .i64 0), .d (.s ⟨#[]⟩), .nl, .d (.s ⟨#[]⟩), .nl]), (51, .box [.d (.i .i64 (kn : Nat)), .d (.s name), .own 52, .d (.s query), .own 53]), (52, .arr .any 1 (cols.map sC)), (53, .arr .any 3 (y.ch.map rC))], ks := [50, 51, 52, 53], n := 0, sz := 134, u := noU })
      (fun _ z => z = (Exit.ret, { t := [(2, .ptr 50 0), (3, .d (.b false))], o := [(50, .box [.d (.i .i64 0), .d (.s ⟨#[]⟩), .nl, .d (.s ⟨#[]⟩), .nl])], ks := [50], n := 0, sz := 134, u := noU }) ∨ ∃ (ch : List R) (i' : Int), ((k = 0 ∧ i' = -1) ∨ ∃ t : Nat, i' = t ∧ t ≤ l.length ∧ name.size + szSs cols + query.size + szRs ch ≤ t ∧ (name.size < 65536 ∧ (∀ c ∈ cols, c.size < 65536) ∧ query.size < 65536) ∧ ∀ r ∈ ch, r.name.size < 65536 ∧ OkB r.bag ∧ (pbL r.bag).length < 4294967296) ∧ z = (Exit.exit 2, { t := [(0, .d (.s (bs l))), (2, .ptr 50 0), (6, .ptr 51 0), (17, .d (.i .i64 i'))], o := [(50, .box [.d (.i .i64 0), .d (.s ⟨#[]⟩), .nl, .d (.s ⟨#[]⟩), .nl]), (51, .box [.d (.i .i64 (kn : Nat)), .d (.s name), .own 52, .d (.s query), .own 53]), (52, .arr .any 1 (cols.map sC)), (53, .arr .any 3 (ch.map rC))], ks := [50, 51, 52, 53], n := 0, sz := 134, u := noU }))
      (fun y => y.ch.length ≤ k ∧ ((k = 0 ∧ y.i = -1) ∨ ∃ t : Nat, y.i = t ∧ t ≤ l.length ∧ name.size + szSs cols + query.size + szRs y.ch ≤ t ∧ (name.size < 65536 ∧ (∀ c ∈ cols, c.size < 65536) ∧ query.size < 65536) ∧ ∀ r ∈ y.ch, r.name.size < 65536 ∧ OkB r.bag ∧ (pbL r.bag).length < 4294967296)) (fun y => k - y.ch.length) ?_ ⟨[], i6⟩ ⟨Nat.zero_le _, by
        rcases H2.out.2.2 with h | ⟨t, h1, h2, h3, h4⟩
        · exact .inl h
        · exact .inr ⟨t, h1, h2, by simpa [szRs] using h3, h4, fun _ h => (nomatch h)⟩⟩
    clear hE RR e3 e4
    rintro ⟨ch, i⟩ ⟨hq, hp⟩ ih
    simp only at hq hp ih ⊢
    obtain ⟨h, hl, -, -, -⟩ := H.out
    obtain ⟨hk, -, -⟩ := H2.out
    by_cases hqc : ch.length < k
    · have c1 : decide ((ch.length : Int) < (k : Int)) = true := decide_eq_true (by omega)
      rcases hp with ⟨hk0, -⟩ | ⟨t, rfl, ht1, ht2, hst, ht3⟩
      · omega
      · have c2 : decide ((t : Int) ≥ 0) = true := decide_eq_true (by omega)
        have w1 : IntKind.i64.wrap ((ch.length : Int) + 1) = (ch.length : Int) + 1 := wrap_succ (by omega)
        obtain ⟨rn, i', p2, e1⟩ := ev_l10Get_any l hl t (.inr ⟨t, rfl, ht1⟩) 2 (by omega)
        rw [show ((2 : Nat) : Int) = 2 from rfl] at e1
        have q2 : i' = -1 ∨ ∃ u : Nat, i' = u ∧ u ≤ l.length := by
          rcases p2 with ⟨-, h⟩ | ⟨a, b, -, h, -, h', -⟩
          · exact .inl h
          · exact .inr ⟨b, h, h'⟩
        obtain ⟨by4, i'', p3, e2⟩ := ev_l10Get_any l hl i' q2 4 (by omega)
        rw [show ((4 : Nat) : Int) = 4 from rfl] at e2
        have hbs : by4.size ≤ l.length := by
          rcases p3 with ⟨h, -⟩ | ⟨a, b, -, -, h, h', -⟩
          · rw [h]; exact Nat.zero_le _
          · omega
        by_cases hb : ∃ b, OkB b ∧ bl by4 = pbL b
        · obtain ⟨⟨bw, brows⟩, hb1, hb2⟩ := hb
          have hbb : by4 = bs (pbL ⟨bw, brows⟩) := by rw [← hb2, bs_bl]
          have hlen : (pbL ⟨bw, brows⟩).length = by4.size := by rw [← hb2, bl_size]
          have e5 := ev_sGetBag_yes bw brows hb1 (by rw [← pbL_of (b := ⟨bw, brows⟩) hb1, hlen]; omega)
          rw [show kb bw :: brows.flatMap rowB = pbL ⟨bw, brows⟩ from (pbL_of (b := ⟨bw, brows⟩) hb1).symm, ← hbb] at e5
          have hpos : 0 < by4.size := by rw [← hlen, pbL_of (b := ⟨bw, brows⟩) hb1]; simp
          have h3 : ch.map rC ++ [[.s rn, .i .i64 bw, .sl .any (brows.map cC)]] = (ch ++ [(⟨rn, ⟨bw, brows⟩⟩ : R)]).map rC := by rw [List.map_append]; rfl
          have h4 := len_ok (n := ch.length + 1) 48 (by omega) (by omega)
          obtain ⟨z, hz1, hz2⟩ := ih ⟨ch ++ [(⟨rn, ⟨bw, brows⟩⟩ : R)], i''⟩ ⟨by simp; omega, by
            rcases p3 with ⟨h, -⟩ | ⟨a, b, f0, f1, f2, f3, f4⟩
            · rw [h] at hpos; exact absurd hpos (by decide)
            · rcases p2 with ⟨-, g⟩ | ⟨a2, b2, g0, g1, g2, g3, g4⟩
              · omega
              · have hsb := szB_enc hb1
                refine .inr ⟨b, f1, f3, ?_, hst, fun r hr => ?_⟩
                · have : szRs (ch ++ [(⟨rn, ⟨bw, brows⟩⟩ : R)]) = szRs ch + 1 + (rn.size + Go.Av.szB ⟨bw, brows⟩) := by simp [szRs, szR]; omega
                  rw [this]; omega
                · rcases List.mem_append.1 hr with hr | hr
                  · exact ht3 r hr
                  · rw [List.mem_singleton.1 hr]
                    refine ⟨by simpa using g4, hb1, ?_⟩
                    show (pbL ⟨bw, brows⟩).length < 4294967296
                    rw [hlen]
                    simpa using f4⟩ (by simp; omega)
          refine ⟨z, ?_, hz2⟩
          simp only [List.length_append, List.length_singleton] at hz1
          rw [show ((ch.length + 1 : Nat) : Int) = (ch.length : Int) + 1 from rfl] at hz1
          clear ih hq h hl hk hqc ht1 ht2 ht3 hst p2 q2 p3 hbs hb1 hb2 hbb hlen hpos hz2
          repeat' (first | with_reducible refine br_split (fun _ => ?_) (fun _ => ?_) | simp only [*, push_cast, simprocAttr] | (rw [drawC_ok]; rotate_left; decide +kernel; exact cfg_mixed))
        · have e5 := ev_sGetBag_no (bl by4) (by rw [bl_size]; omega) (fun b hb1 hb2 => hb ⟨b, hb1, hb2⟩)
          rw [bs_bl] at e5
          refine ⟨_, ?_, .inl rfl⟩
          clear ih hq h hl hk hqc ht1 ht2 ht3 hst p2 q2 p3 hbs hb
          repeat' (first | with_reducible refine br_split (fun _ => ?_) (fun _ => ?_) | simp only [*, push_cast, simprocAttr] | (rw [drawC_ok]; rotate_left; decide +kernel; exact cfg_mixed))
    · have c1 : decide ((ch.length : Int) < (k : Int)) = false := decide_eq_false (by omega)
      refine ⟨_, ?_, .inr ⟨ch, i, hp, rfl⟩⟩
      clear ih hq h hl hk hqc hp
      repeat' (first | with_reducible refine br_split (fun _ => ?_) (fun _ => ?_) | simp only [*, push_cast, simprocAttr] | (rw [drawC_ok]; rotate_left; decide +kernel; exact cfg_mixed))
  obtain ⟨_, rfl, rfl | ⟨ch, i7, p5, rfl⟩⟩ := key
  · clear hE H H2 e3 e4
    repeat' (first | with_reducible refine br_split (fun _ => ?_) (fun _ => ?_) | simp only [*, push_cast, simprocAttr] | (rw [drawC_ok]; rotate_left; decide +kernel; exact cfg_mixed))
  · clear hE e3 e4
    rcases p5 with ⟨-, rfl⟩ | ⟨t, rfl, ht1, ht2, hst, ht3⟩
    · have c1 : decide ((-1 : Int) < 0) = true := rfl
      clear H H2
      repeat' (first | with_reducible refine br_split (fun _ => ?_) (fun _ => ?_) | simp only [*, push_cast, simprocAttr] | (rw [drawC_ok]; rotate_left; decide +kernel; exact cfg_mixed))
    · have c1 : decide ((t : Int) < 0) = false := decide_eq_false (by omega)
      obtain ⟨h, hl, hkn, -, -⟩ := H.out
      obtain ⟨hk, hcl, q6⟩ := H2.out
      cases hle : decide (bs l = (⟨#[]⟩ : ByteArray)) with
      | true =>
        clear H H2 h hl hkn hk hcl q6 ht1 ht2 ht3 hst
        repeat' (first | with_reducible refine br_split (fun _ => ?_) (fun _ => ?_) | simp only [*, push_cast, simprocAttr] | (rw [drawC_ok]; rotate_left; decide +kernel; exact cfg_mixed))
      | false =>
        have hps := ev_sPutStep (kn : Nat) name cols query ch (by simp only [szSp]; omega)
        have hpe : decide (bs (psL ⟨(kn : Nat), name, cols, query, ch⟩) = bs l) = false := decide_eq_false fun e => by
          have e := bs_inj e
          cases ho : stepOk ⟨(kn : Nat), name, cols, query, ch⟩ with
          | false =>
            rw [psL_bad ho] at e
            rw [← e] at hle
            simp [bs] at hle
          | true =>
            exact h _ ⟨ho, hst.1, hst.2.1, hst.2.2, ht3⟩ e.symm
        clear H H2 h hl hkn hk hcl q6 ht1 ht2 ht3 hst
        repeat' (first | with_reducible refine br_split (fun _ => ?_) (fun _ => ?_) | simp only [*, push_cast, simprocAttr] | (rw [drawC_ok]; rotate_left; decide +kernel; exact cfg_mixed))
end Go.Av
end
section
namespace Go.Av
open Go.Proofs
set_option linter.unusedSimpArgs false
def rZ (p : Nat → Tok) (i : Nat) (r : R) : List T := [.s r.name, .i .i64 r.bag.w, .sl (.tok (p i)) (cnEs (p i) 0 (r.bag.rows.map cC))]
theorem rZ_nm {p : Nat → Tok} (hp : ∀ i, ∃ q, p i = [i] ++ q) (i : Nat) (r : R) : Nm [i] (tkCs (rZ p i r)) := by
  obtain ⟨q, hq⟩ := hp i
  have h := tk_cn (.sl .any (r.bag.rows.map cC)) (p i)
  rw [hq] at h
  have e : tkCs (rZ p i r) = tkT (T.cn ([i] ++ q) (.sl .any (r.bag.rows.map cC))) := by
    simp [rZ, tkCs, tkT, T.cn, hq]
  rw [e]
  exact h.weak
@[push_cast] theorem cn_rZ (f : Nat → Tok) (l : List R) (p : Tok) (i : Nat) : cnEs p i (l.mapIdx (rZ f)) = cnEs p i (l.map rC) := by
  refine cnEs_same ?_
  rw [annEs_mapIdx (g := rC) (fun i x => by simp only [rZ, annCs, T.ann, er_cnEs, er_cC]; rfl) l, er_rC]
end Go.Av
end
section
namespace Go.Av
open Go.Proofs
set_option linter.unusedSimpArgs false
theorem canOk_step (kind : Int) (name : ByteArray) (cols : List ByteArray) (query : ByteArray) (b : Bool) (f : Nat → R → List T) (l : List R) (h : ∀ k x, Nm [k] (tkCs (f k x))) :
    canOk (.tup [.agg [.d (.i .i64 kind), .d (.s name), .d (.sl (.tok [l.length]) (cols.map sC)), .d (.s query), .d (.sl (.tok [l.length + 1]) (l.mapIdx f))], .d (.b b)]) [] := by
  have h1 := tk_idx f l h
  have h2 := NmI.lt f l h
  have e : tkTV (.tup [.agg [.d (.i .i64 kind), .d (.s name), .d (.sl (.tok [l.length]) (cols.map sC)), .d (.s query), .d (.sl (.tok [l.length + 1]) (l.mapIdx f))], .d (.b b)]) ++ tkO [] = some [l.length] :: some [l.length + 1] :: tkEs (l.mapIdx f) := by
    simp [tkTV, tkL, tkT, annTok, tk_sC, tkO]
  refine ⟨⟨?_, ?_⟩, rfl, rfl, List.nodup_nil⟩
  · rw [e]
    intro hn
    rcases List.mem_cons.1 hn with hn | hn
    · cases hn
    rcases List.mem_cons.1 hn with hn | hn
    · cases hn
    obtain ⟨_, _, _, h3⟩ := h2 _ hn
    cases h3
  · rw [e]
    refine List.nodup_cons.2 ⟨fun hm => ?_, List.nodup_cons.2 ⟨fun hm => ?_, h1.nd⟩⟩
    · rcases List.mem_cons.1 hm with hm | hm
      · simp at hm
      · obtain ⟨k, r, h3, h4⟩ := h2 _ hm
        cases h4
        omega
    · obtain ⟨k, r, h3, h4⟩ := h2 _ hm
      cases h4
      omega
theorem ev_GetStep_yes (kind : Int) (name : ByteArray) (cols : List ByteArray) (query : ByteArray) (change : List R) (h : OkS ⟨kind, name, cols, query, change⟩) (hl : (psL ⟨kind, name, cols, query, change⟩).length ≤ 1048576) :
    evF cfg 7 [] [.d (.s (bs (psL ⟨kind, name, cols, query, change⟩)))] = some (.tup [.agg [.d (.i .i64 kind), .d (.s name), .d (.sl (.tok [0, 0, 2]) (cols.map sC)), .d (.s query), .d (.sl (.tok [0, 0, 4]) (cnEs [0, 0, 4] 0 (change.map rC)))], .d (.b true)], []) := by
  have hsz : szSp ⟨kind, name, cols, query, change⟩ ≤ 1048576 := Nat.le_trans (szSp_enc h) hl
  have hso := ev_StepOk kind name cols query change hsz
  rw [show stepOk ⟨kind, name, cols, query, change⟩ = true from h.ok] at hso
  have heq := psL_eq h
  simp only at heq
  generalize hL : psL ⟨kind, name, cols, query, change⟩ = l at *
  have hz := bs_size l
  obtain ⟨kn, hkn, hk3⟩ := h.kind
  simp only at hkn
  have hnc := h.ncol
  have hnr := h.nrel
  simp only at hnc hnr
  have hlp : 0 < l.length := by rw [heq]; simp [beB_len]; omega
  have hu : u64 kind = kn := by rw [hkn]; exact u64_nn (by omega)
  rw [hu] at heq
  have n0 : takeP 1 (l.drop 0) = some (beB kn 1, l.drop 1) := by
    have := takeP_app (n := 1) (a := beB kn 1) (b := ((beB name.size 2 ++ bl name) ++ (beB cols.length 1 ++ (cols.flatMap col2 ++ tail1 ⟨kind, name, cols, query, change⟩)))) (beB_len _ _)
    rw [← heq] at this
    have h2 := (takeP_at (i := 0) this (Nat.zero_le _)).2.2.1
    rw [h2] at this
    exact this
  have d1 : l.drop 1 = (beB name.size 2 ++ bl name) ++ (beB cols.length 1 ++ (cols.flatMap col2 ++ tail1 ⟨kind, name, cols, query, change⟩)) := by
    have := takeP_app (n := 1) (a := beB kn 1) (b := ((beB name.size 2 ++ bl name) ++ (beB cols.length 1 ++ (cols.flatMap col2 ++ tail1 ⟨kind, name, cols, query, change⟩)))) (beB_len _ _)
    rw [← heq] at this
    exact ((takeP_at (i := 0) this (Nat.zero_le _)).2.2.1).symm
  have e0 := ev_size_some l hl 0 1 1 (Nat.zero_le _) rfl n0
  rw [beV_in (beB_len _ _) (by omega), beV_beB kn 1 (by omega), show ((0 : Nat) : Int) = 0 from rfl, show ((1 : Nat) : Int) = 1 from rfl, ← hkn] at e0
  have t1 : txtP 2 (l.drop 1) = some (name, (beB cols.length 1 ++ (cols.flatMap col2 ++ tail1 ⟨kind, name, cols, query, change⟩))) := by
    rw [d1]; exact txtP_app h.name
  obtain ⟨i2, a1, -, a3, e1⟩ := ev_text_some l hl 1 2 (by omega) (by omega) t1
  rw [show ((1 : Nat) : Int) = 1 from rfl, show ((2 : Nat) : Int) = 2 from rfl] at e1
  have n1 : takeP 1 (l.drop i2) = some (beB cols.length 1, (cols.flatMap col2 ++ tail1 ⟨kind, name, cols, query, change⟩)) := by
    rw [← a3]; exact takeP_app (beB_len _ _)
  obtain ⟨b1, -, b3, -⟩ := takeP_at n1 a1
  obtain ⟨j, hj⟩ : ∃ j, i2 + 1 = j := ⟨_, rfl⟩
  have e2 := ev_size_some l hl i2 1 j a1 hj n1
  rw [beV_in (beB_len _ _) (by omega), beV_beB _ 1 (by omega), show ((1 : Nat) : Int) = 1 from rfl] at e2
  rw [hj] at b1 b3
  have H := Hd.mk (And.intro h (And.intro hl (And.intro b1 (And.intro b3.symm (And.intro hnc (And.intro hnr hlp))))))
  clear h hl b1 b3 hnc hnr hlp hsz heq hL hkn hk3 hu n0 d1 t1 a1 a3 n1 hj
  (refine (evF_codeZ (C := cfg) (g := 7) (fn := Tryz.f7) rfl Tryz.func7 rfl (by rw [Tryz.ntmps7]; simp) (by kernel_rfl)).trans ?_; rw [Tryz.results7, Tryz.ntmps7])
  repeat' (first | with_reducible refine br_split (fun _ => ?_) (fun _ => ?_) | simp only [*, push_cast, simprocAttr] | (rw [drawC_ok]; rotate_left; decide +kernel; exact cfg_mixed))
  rw [show ([] : List (List T)) = (cols.take 0).map sC from rfl]
  generalize hE : evM cfg _ _ _ _ _ = RR
  have key : ∃ z, RR = some z ∧ ∃ i' : Nat, i' ≤ l.length ∧ l.drop i' = tail1 ⟨kind, name, cols, query, change⟩ ∧ z = (Exit.exit 0, { t := [(0, .d (.s (bs l))), (2, .ptr 50 0), (4, .ptr 51 0), (5, .ptr 52 0)], o := [(50, .box [.d (.i .i64 0), .d (.s ⟨#[]⟩), .nl, .d (.s ⟨#[]⟩), .nl]), (51, .box [.d (.s (bs l)), .d (.i .i64 (i' : Nat)), .d (.b false)]), (52, .box [.d (.i .i64 kind), .d (.s name), .own 53, .d (.s ⟨#[]⟩), .nl]), (53, .arr .any 1 (cols.map sC))], ks := [50, 51, 52, 53], n := 0, sz := 84, u := noU, g := some (0, false) }) := by
    rw [← hE]
    refine evM_ex (α := Nat × Nat) (fun y => { t := [(0, .d (.s (bs l))), (2, .ptr 50 0), (4, .ptr 51 0), (5, .ptr 52 0), (18, .d (.i .i64 cols.length)), (19, .d (.i .i64 (y.1 : Nat)))], o := [(50, .box [.d (.i .i64 0), .d (.s ⟨#[]⟩), .nl, .d (.s ⟨#[]⟩), .nl]), (51, .box [.d (.s (bs l)), .d (.i .i64 (y.2 : Nat)), .d (.b false)]), (52, .box [.d (.i .i64 kind), .d (.s name), .own 53, .d (.s ⟨#[]⟩), .nl]), (53, .arr .any 1 ((cols.take y.1).map sC))], ks := [50, 51, 52, 53], n := 0, sz := 84, u := noU, g := some (0, false) })
      (fun _ z => ∃ i' : Nat, i' ≤ l.length ∧ l.drop i' = tail1 ⟨kind, name, cols, query, change⟩ ∧ z = (Exit.exit 0, { t := [(0, .d (.s (bs l))), (2, .ptr 50 0), (4, .ptr 51 0), (5, .ptr 52 0)], o := [(50, .box [.d (.i .i64 0), .d (.s ⟨#[]⟩), .nl, .d (.s ⟨#[]⟩), .nl]), (51, .box [.d (.s (bs l)), .d (.i .i64 (i' : Nat)), .d (.b false)]), (52, .box [.d (.i .i64 kind), .d (.s name), .own 53, .d (.s ⟨#[]⟩), .nl]), (53, .arr .any 1 (cols.map sC))], ks := [50, 51, 52, 53], n := 0, sz := 84, u := noU, g := some (0, false) }))
      (fun y => y.1 ≤ cols.length ∧ y.2 ≤ l.length ∧ l.drop y.2 = (cols.drop y.1).flatMap col2 ++ tail1 ⟨kind, name, cols, query, change⟩) (fun y => cols.length - y.1) ?_ (0, j) ⟨Nat.zero_le _, H.out.2.2.1, H.out.2.2.2.1⟩
    clear hE RR e0 e1 e2 hso
    rintro ⟨q, i⟩ ⟨hq, hi, hd⟩ ih
    simp only at hq hi hd ih ⊢
    obtain ⟨h, hl, -, -, hnc, -, -⟩ := H.out
    by_cases hqc : q < cols.length
    · have c1 := dec_lt hqc
      have w1 : IntKind.i64.wrap ((q : Int) + 1) = (q : Int) + 1 := wrap_succ (by omega)
      rw [col_head hqc] at hd
      have t1 : txtP 2 (l.drop i) = some (cols[q], (cols.drop (q + 1)).flatMap col2 ++ tail1 ⟨kind, name, cols, query, change⟩) := by
        rw [hd]; exact txtP_app (h.cols _ (List.getElem_mem hqc))
      obtain ⟨i2, a1, -, a3, e1⟩ := ev_text_some l hl i 2 hi (by omega) t1
      rw [show ((2 : Nat) : Int) = 2 from rfl] at e1
      have h3 : (cols.take q).map sC ++ [[.s cols[q]]] = (cols.take (q + 1)).map sC := take_snoc sC hqc
      have h4 := len_ok (n := (cols.take q).length + 1) 16 (by rw [List.length_take]; omega) (by omega)
      obtain ⟨z, hz1, hz2⟩ := ih (q + 1, i2) ⟨hqc, a1, a3.symm⟩ (by simp only; omega)
      refine ⟨z, ?_, hz2⟩
      simp only at hz1
      rw [show ((q + 1 : Nat) : Int) = (q : Int) + 1 from rfl] at hz1
      clear ih hq hi hd h hl hnc t1 a1 a3 hz2
      repeat' (first | with_reducible refine br_split (fun _ => ?_) (fun _ => ?_) | simp only [*, push_cast, simprocAttr] | (rw [drawC_ok]; rotate_left; decide +kernel; exact cfg_mixed))
    · have c1 : decide ((q : Int) < (cols.length : Int)) = false := decide_eq_false (by omega)
      have hqe : q = cols.length := by omega
      have hd2 : l.drop i = tail1 ⟨kind, name, cols, query, change⟩ := by rw [hd, hqe, List.drop_length]; rfl
      have hrr : cols.take q = cols := by rw [hqe]; exact List.take_length
      refine ⟨_, ?_, i, hi, hd2, rfl⟩
      clear ih hq hi hd h hl hnc hqc hqe hd2
      repeat' (first | with_reducible refine br_split (fun _ => ?_) (fun _ => ?_) | simp only [*, push_cast, simprocAttr] | (rw [drawC_ok]; rotate_left; decide +kernel; exact cfg_mixed))
  obtain ⟨_, rfl, i4, p1, p2, rfl⟩ := key
  clear hE
  obtain ⟨h, hl, -, -, hnc, hnr, hlp⟩ := H.out
  have t2 : txtP 2 (l.drop i4) = some (query, tail2 ⟨kind, name, cols, query, change⟩) := by
    rw [p2]; exact txtP_app h.query
  obtain ⟨i5, a1, -, a3, e4⟩ := ev_text_some l hl i4 2 p1 (by omega) t2
  rw [show ((2 : Nat) : Int) = 2 from rfl] at e4
  have n2 : takeP 1 (l.drop i5) = some (beB change.length 1, change.flatMap relB) := by
    rw [← a3]; exact takeP_app (beB_len _ _)
  obtain ⟨b1, -, b3, -⟩ := takeP_at n2 a1
  obtain ⟨j6, hj6⟩ : ∃ j, i5 + 1 = j := ⟨_, rfl⟩
  have e5 := ev_size_some l hl i5 1 j6 a1 hj6 n2
  rw [beV_in (beB_len _ _) (by omega), beV_beB _ 1 (by omega), show ((1 : Nat) : Int) = 1 from rfl] at e5
  rw [hj6] at b1 b3
  have H2 := Hd.mk (And.intro b1 b3.symm)
  clear h hl hnc hnr hlp t2 a1 a3 n2 b1 b3 p1 p2 hj6 e0 e1 e2
  repeat' (first | with_reducible refine br_split (fun _ => ?_) (fun _ => ?_) | simp only [*, push_cast, simprocAttr] | (rw [drawC_ok]; rotate_left; decide +kernel; exact cfg_mixed))
  rw [show ([] : List (List T)) = (change.take 0).mapIdx (rZ fun i => [i, 0, 0, 1]) from rfl]
  generalize hE : evM cfg _ _ _ _ _ = RR
  have key : ∃ z, RR = some z ∧ z = (Exit.exit 2, { t := [(0, .d (.s (bs l))), (2, .ptr 50 0), (4, .ptr 51 0), (5, .ptr 52 0)], o := [(50, .box [.d (.i .i64 0), .d (.s ⟨#[]⟩), .nl, .d (.s ⟨#[]⟩), .nl]), (51, .box [.d (.s (bs l)), .d (.i .i64 (l.length : Nat)), .d (.b false)]), (52, .box [.d (.i .i64 kind), .d (.s name), .own 53, .d (.s query), .own 54]), (53, .arr .any 1 (cols.map sC)), (54, .arr .any 3 (change.mapIdx (rZ fun i => [i, 0, 0, 1])))], ks := [50, 51, 52, 53, 54], n := 0, sz := 84, u := noU, g := some (change.length, false) }) := by
    rw [← hE]
    refine evM_ex (α := Nat × Nat) (fun y => { t := [(0, .d (.s (bs l))), (2, .ptr 50 0), (4, .ptr 51 0), (5, .ptr 52 0), (33, .d (.i .i64 change.length)), (34, .d (.i .i64 (y.1 : Nat)))], o := [(50, .box [.d (.i .i64 0), .d (.s ⟨#[]⟩), .nl, .d (.s ⟨#[]⟩), .nl]), (51, .box [.d (.s (bs l)), .d (.i .i64 (y.2 : Nat)), .d (.b false)]), (52, .box [.d (.i .i64 kind), .d (.s name), .own 53, .d (.s query), .own 54]), (53, .arr .any 1 (cols.map sC)), (54, .arr .any 3 ((change.take y.1).mapIdx (rZ fun i => [i, 0, 0, 1])))], ks := [50, 51, 52, 53, 54], n := 0, sz := 84, u := noU, g := some (y.1, false) })
      (fun _ z => z = (Exit.exit 2, { t := [(0, .d (.s (bs l))), (2, .ptr 50 0), (4, .ptr 51 0), (5, .ptr 52 0)], o := [(50, .box [.d (.i .i64 0), .d (.s ⟨#[]⟩), .nl, .d (.s ⟨#[]⟩), .nl]), (51, .box [.d (.s (bs l)), .d (.i .i64 (l.length : Nat)), .d (.b false)]), (52, .box [.d (.i .i64 kind), .d (.s name), .own 53, .d (.s query), .own 54]), (53, .arr .any 1 (cols.map sC)), (54, .arr .any 3 (change.mapIdx (rZ fun i => [i, 0, 0, 1])))], ks := [50, 51, 52, 53, 54], n := 0, sz := 84, u := noU, g := some (change.length, false) }))
      (fun y => y.1 ≤ change.length ∧ y.2 ≤ l.length ∧ l.drop y.2 = (change.drop y.1).flatMap relB) (fun y => change.length - y.1) ?_ (0, j6) ⟨Nat.zero_le _, H2.out.1, H2.out.2⟩
    clear hE RR e4 e5 hso
    rintro ⟨q, i⟩ ⟨hq, hi, hd⟩ ih
    simp only at hq hi hd ih ⊢
    obtain ⟨h, hl, -, -, -, hnr, -⟩ := H.out
    by_cases hqc : q < change.length
    · have c1 := dec_lt hqc
      have w1 : IntKind.i64.wrap ((q : Int) + 1) = (q : Int) + 1 := wrap_succ (by omega)
      rw [rel_head hqc] at hd
      obtain ⟨r1, r2, r3⟩ := h.rels _ (List.getElem_mem hqc)
      have t1 : txtP 2 (l.drop i) = some (change[q].name, (beB (bs (pbL change[q].bag)).size 4 ++ bl (bs (pbL change[q].bag))) ++ (change.drop (q + 1)).flatMap relB) := by
        rw [hd]; exact txtP_app r1
      obtain ⟨i2, a1, -, a3, e1⟩ := ev_text_some l hl i 2 hi (by omega) t1
      rw [show ((2 : Nat) : Int) = 2 from rfl] at e1
      have t2 : txtP 4 (l.drop i2) = some (bs (pbL change[q].bag), (change.drop (q + 1)).flatMap relB) := by
        rw [← a3]; exact txtP_app (by rw [bs_size]; simpa using r3)
      obtain ⟨i3, b1, -, b3, e2⟩ := ev_text_some l hl i2 4 a1 (by omega) t2
      rw [show ((4 : Nat) : Int) = 4 from rfl] at e2
      have hbl : (pbL change[q].bag).length ≤ 1048576 := by
        have h1 := congrArg List.length a3
        rw [List.length_append, List.length_append, bl_size, bs_size, List.length_drop] at h1
        omega
      have e3 := ev_GetBag_yes change[q].bag.w change[q].bag.rows r2 (by rw [← pbL_of r2]; exact hbl)
      rw [show kb change[q].bag.w :: change[q].bag.rows.flatMap rowB = pbL change[q].bag from (pbL_of r2).symm] at e3
      have h3 : (change.take q).mapIdx (rZ fun i => [i, 0, 0, 1]) ++ [[.s change[q].name, .i .i64 change[q].bag.w, .sl (.tok [q, 0, 0, 1]) (cnEs [q, 0, 0, 1] 0 (change[q].bag.rows.map cC))]] = (change.take (q + 1)).mapIdx (rZ fun i => [i, 0, 0, 1]) := take_snocI (rZ fun i => [i, 0, 0, 1]) hqc
      have h4 := len_ok (n := (change.take q).length + 1) 48 (by rw [List.length_take]; omega) (by omega)
      have h5 : ((change.take q).mapIdx (rZ fun i => [i, 0, 0, 1])).length = (change.take q).length := by simp
      obtain ⟨z, hz1, hz2⟩ := ih (q + 1, i3) ⟨hqc, b1, b3.symm⟩ (by simp only; omega)
      refine ⟨z, ?_, hz2⟩
      simp only at hz1
      rw [show ((q + 1 : Nat) : Int) = (q : Int) + 1 from rfl] at hz1
      clear ih hq hi hd h hl hnr t1 t2 a1 a3 b1 b3 hz2 r1 r2 r3 hbl
      repeat' (first | with_reducible refine br_split (fun _ => ?_) (fun _ => ?_) | simp only [*, push_cast, simprocAttr] | (rw [drawC_ok]; rotate_left; decide +kernel; exact cfg_mixed))
    · have hqe : q = change.length := by omega
      have hie : i = l.length := by
        rw [hqe, List.drop_length] at hd
        have := congrArg List.length hd
        rw [List.length_drop] at this
        simp at this
        omega
      subst hqe
      subst hie
      have c1 : decide ((change.length : Int) < (change.length : Int)) = false := decide_eq_false (by omega)
      have hrr : change.take change.length = change := List.take_length
      refine ⟨_, ?_, rfl⟩
      clear ih hq hi hd h hl hnr hqc
      repeat' (first | with_reducible refine br_split (fun _ => ?_) (fun _ => ?_) | simp only [*, push_cast, simprocAttr] | (rw [drawC_ok]; rotate_left; decide +kernel; exact cfg_mixed))
  obtain ⟨_, rfl, rfl⟩ := key
  clear hE
  have c1 : decide ((l.length : Int) < (l.length : Int)) = false := decide_eq_false (by omega)
  have hme : annEs .any (change.mapIdx (rZ fun i => [i, 0, 0, 1])) = change.map rC := by
    rw [annEs_mapIdx (g := rC) (fun i x => by simp only [rZ, annCs, T.ann, er_cnEs, er_cC]; rfl) change]
  have hcan := canOk_step kind name cols query true (rZ fun i => [i, 0, 0, 1]) change (rZ_nm fun i => ⟨[0, 0, 1], rfl⟩)
  clear H H2 e4 e5
  repeat' (first | with_reducible refine br_split (fun _ => ?_) (fun _ => ?_) | simp only [*, push_cast, simprocAttr] | (rw [drawC_ok]; rotate_left; decide +kernel; exact cfg_mixed))
end Go.Av
end
section
namespace Go.Av
open Go.Proofs
set_option linter.unusedSimpArgs false
theorem ev_size_any (l : List UInt8) (hl : l.length ≤ 1048576) (i : Nat) (hi : i ≤ l.length) (b : Bool) (m : Nat) (hm : m ≤ 7) : ∃ (x i' : Nat) (b' : Bool), i' ≤ l.length ∧ x < 256 ^ m ∧ (b' = false → b = false ∧ l.drop i = beB x m ++ l.drop i') ∧
    evF cfg 33 [(0, .box [.d (.s (bs l)), .d (.i .i64 (i : Nat)), .d (.b b)])] [.ptr 0 0, .d (.i .i64 (m : Nat))] = some (.d (.i .i64 (x : Nat)), [(0, .box [.d (.s (bs l)), .d (.i .i64 (i' : Nat)), .d (.b b')])]) := by
  cases b with
  | true => exact ⟨0, i, true, hi, Nat.pow_pos (by omega), fun h => (by cases h), ev_size_bad (bs l) i m⟩
  | false =>
    cases h0 : takeP m (l.drop i) with
    | none => exact ⟨0, i, true, hi, Nat.pow_pos (by omega), fun h => (by cases h), ev_size_none l hl i m hi h0⟩
    | some p =>
      obtain ⟨a, r⟩ := p
      obtain ⟨h1, h2, h3, h4⟩ := takeP_at h0 hi
      have e := ev_size_some l hl i m (i + m) hi rfl h0
      rw [beV_in h4 hm] at e
      have h5 := beV_lt a
      rw [h4] at h5
      refine ⟨beV a, i + m, false, h1, h5, fun _ => ⟨rfl, ?_⟩, e⟩
      obtain ⟨g1, g2⟩ := takeP_some h0
      have := beB_beV a
      rw [h4] at this
      rw [this, ← h3]
      exact g1
theorem ev_text_any (l : List UInt8) (hl : l.length ≤ 1048576) (i : Nat) (hi : i ≤ l.length) (b : Bool) (m : Nat) (hm : m ≤ 7) : ∃ (s : ByteArray) (i' : Nat) (b' : Bool), i' ≤ l.length ∧ s.size ≤ l.length ∧ (b' = false → b = false ∧ l.drop i = (beB s.size m ++ bl s) ++ l.drop i' ∧ s.size < 256 ^ m) ∧
    evF cfg 34 [(0, .box [.d (.s (bs l)), .d (.i .i64 (i : Nat)), .d (.b b)])] [.ptr 0 0, .d (.i .i64 (m : Nat))] = some (.d (.s s), [(0, .box [.d (.s (bs l)), .d (.i .i64 (i' : Nat)), .d (.b b')])]) := by
  cases b with
  | true => exact ⟨⟨#[]⟩, i, true, hi, Nat.zero_le _, fun h => (by cases h), ev_text_bad (bs l) i m⟩
  | false =>
    cases h0 : txtP m (l.drop i) with
    | none =>
      obtain ⟨i', h1, e⟩ := ev_text_none l hl i m hi hm h0
      exact ⟨⟨#[]⟩, i', true, h1, Nat.zero_le _, fun h => (by cases h), e⟩
    | some p =>
      obtain ⟨s, r⟩ := p
      obtain ⟨k, h1, h2, h3, e⟩ := ev_text_some l hl i m hi hm h0
      obtain ⟨g1, g2⟩ := txtP_some h0
      refine ⟨s, k, false, h1, ?_, fun _ => ⟨rfl, by rw [← h3]; exact g1, g2⟩, e⟩
      have := congrArg List.length g1
      rw [List.length_append, List.length_append, beB_len, bl_size, List.length_drop] at this
      omega
structure CT where
  cols : List ByteArray
  i : Nat
  bad : Bool
structure RT where
  ch : List R
  i : Nat
  bad : Bool
theorem canNoS : canOk (.tup [.agg [.d (.i .i64 0), .d (.s ⟨#[]⟩), .d (.sl .any []), .d (.s ⟨#[]⟩), .d (.sl .any [])], .d (.b false)]) [] := by
  simp [canOk, tkTV, tkL, tkT, tkO, flatTV, flatL, arrO, keysOf, tkEs, annTok]
theorem ev_GetStep_no (l : List UInt8) (hl : l.length ≤ 1048576) (h : ∀ x, OkS x → l ≠ psL x) :
    evF cfg 7 [] [.d (.s (bs l))] = some (.tup [.agg [.d (.i .i64 0), .d (.s ⟨#[]⟩), .d (.sl (.tok [0, 0, 2]) []), .d (.s ⟨#[]⟩), .d (.sl (.tok [0, 0, 4]) [])], .d (.b false)], []) := by
  have hz := bs_size l
  have hcan := canNoS
  obtain ⟨kn, i1, b1, hi1, hkn, p1, e0⟩ := ev_size_any l hl 0 (Nat.zero_le _) false 1 (by omega)
  rw [show ((1 : Nat) : Int) = 1 from rfl, show ((0 : Nat) : Int) = 0 from rfl] at e0
  obtain ⟨name, i2, b2, hi2, hname, p2, e1⟩ := ev_text_any l hl i1 hi1 b1 2 (by omega)
  rw [show ((2 : Nat) : Int) = 2 from rfl] at e1
  obtain ⟨nc, i3, b3, hi3, hnc, p3, e2⟩ := ev_size_any l hl i2 hi2 b2 1 (by omega)
  rw [show ((1 : Nat) : Int) = 1 from rfl] at e2
  have q3 : b3 = false → l = beB kn 1 ++ ((beB name.size 2 ++ bl name) ++ (beB nc 1 ++ l.drop i3)) ∧ name.size < 65536 := fun h => by
    obtain ⟨g0, g1⟩ := p3 h
    obtain ⟨f0, f1, f2⟩ := p2 g0
    obtain ⟨-, d1⟩ := p1 f0
    rw [List.drop_zero, f1, g1] at d1
    exact ⟨d1, by simpa using f2⟩
  have H := Hd.mk (And.intro h (And.intro hl (And.intro (show kn < 256 by simpa using hkn) (And.intro (show nc < 256 by simpa using hnc) (And.intro hi3 q3)))))
  clear h hl hkn hnc p1 p2 p3 q3 hi1 hi2 hi3 hname
  (refine (evF_codeZ (C := cfg) (g := 7) (fn := Tryz.f7) rfl Tryz.func7 rfl (by rw [Tryz.ntmps7]; simp) (by kernel_rfl)).trans ?_; rw [Tryz.results7, Tryz.ntmps7])
  repeat' (first | with_reducible refine br_split (fun _ => ?_) (fun _ => ?_) | simp only [*, push_cast, simprocAttr] | (rw [drawC_ok]; rotate_left; decide +kernel; exact cfg_mixed))
  rw [show ([] : List (List T)) = ([] : List ByteArray).map sC from rfl]
  generalize hE : evM cfg _ _ _ _ _ = RR
  have key : ∃ z, RR = some z ∧ ∃ (cols : List ByteArray) (i' : Nat) (b' : Bool), cols.length = nc ∧ i' ≤ l.length ∧ (b' = false → b3 = false ∧ l.drop i3 = cols.flatMap col2 ++ l.drop i' ∧ ∀ c ∈ cols, c.size < 65536) ∧ z = (Exit.exit 0, { t := [(0, .d (.s (bs l))), (2, .ptr 50 0), (4, .ptr 51 0), (5, .ptr 52 0)], o := [(50, .box [.d (.i .i64 0), .d (.s ⟨#[]⟩), .nl, .d (.s ⟨#[]⟩), .nl]), (51, .box [.d (.s (bs l)), .d (.i .i64 (i' : Nat)), .d (.b b')]), (52, .box [.d (.i .i64 (kn : Nat)), .d (.s name), .own 53, .d (.s ⟨#[]⟩), .nl]), (53, .arr .any 1 (cols.map sC))], ks := [50, 51, 52, 53], n := 0, sz := 84, u := noU, g := some (0, false) }) := by
    rw [← hE]
    refine evM_ex (α := CT) (fun y => { t := [(0, .d (.s (bs l))), (2, .ptr 50 0), (4, .ptr 51 0), (5, .ptr 52 0), (18, .d (.i .i64 (nc : Nat))), (19, .d (.i .i64 (y.cols.length : Nat)))], o := [(50, .box [.d (.i .i64 0), .d (.s ⟨#[]⟩), .nl, .d (.s ⟨#[]⟩), .nl]), (51, .box [.d (.s (bs l)), .d (.i .i64 (y.i : Nat)), .d (.b y.bad)]), (52, .box [.d (.i .i64 (kn : Nat)), .d (.s name), .own 53, .d (.s ⟨#[]⟩), .nl]), (53, .arr .any 1 (y.cols.map sC))], ks := [50, 51, 52, 53], n := 0, sz := 84, u := noU, g := some (0, false) })
      (fun _ z => ∃ (cols : List ByteArray) (i' : Nat) (b' : Bool), cols.length = nc ∧ i' ≤ l.length ∧ (b' = false → b3 = false ∧ l.drop i3 = cols.flatMap col2 ++ l.drop i' ∧ ∀ c ∈ cols, c.size < 65536) ∧ z = (Exit.exit 0, { t := [(0, .d (.s (bs l))), (2, .ptr 50 0), (4, .ptr 51 0), (5, .ptr 52 0)], o := [(50, .box [.d (.i .i64 0), .d (.s ⟨#[]⟩), .nl, .d (.s ⟨#[]⟩), .nl]), (51, .box [.d (.s (bs l)), .d (.i .i64 (i' : Nat)), .d (.b b')]), (52, .box [.d (.i .i64 (kn : Nat)), .d (.s name), .own 53, .d (.s ⟨#[]⟩), .nl]), (53, .arr .any 1 (cols.map sC))], ks := [50, 51, 52, 53], n := 0, sz := 84, u := noU, g := some (0, false) }))
      (fun y => y.cols.length ≤ nc ∧ y.i ≤ l.length ∧ (y.bad = false → b3 = false ∧ l.drop i3 = y.cols.flatMap col2 ++ l.drop y.i ∧ ∀ c ∈ y.cols, c.size < 65536)) (fun y => nc - y.cols.length) ?_ ⟨[], i3, b3⟩ ⟨Nat.zero_le _, H.out.2.2.2.2.1, fun h => ⟨h, rfl, fun _ h => (nomatch h)⟩⟩
    clear hE RR e0 e1 e2 hcan
    rintro ⟨cols, i, bad⟩ ⟨hq, hi, hp⟩ ih
    simp only at hq hi hp ih ⊢
    obtain ⟨h, hl, hkn, hnc, -, -⟩ := H.out
    by_cases hqc : cols.length < nc
    · have c1 : decide ((cols.length : Int) < (nc : Int)) = true := decide_eq_true (by omega)
      have w1 : IntKind.i64.wrap ((cols.length : Int) + 1) = (cols.length : Int) + 1 := wrap_succ (by omega)
      obtain ⟨c, i', b', hi', -, p2, e1⟩ := ev_text_any l hl i hi bad 2 (by omega)
      rw [show ((2 : Nat) : Int) = 2 from rfl] at e1
      have h3 : cols.map sC ++ [[.s c]] = (cols ++ [c]).map sC := by rw [List.map_append]; rfl
      have h4 := len_ok (n := cols.length + 1) 16 (by omega) (by omega)
      obtain ⟨z, hz1, hz2⟩ := ih ⟨cols ++ [c], i', b'⟩ ⟨by simp; omega, hi', fun hb => by
        obtain ⟨g0, g1, g2⟩ := p2 hb
        obtain ⟨f0, f1, f2⟩ := hp g0
        refine ⟨f0, ?_, fun x hx => ?_⟩
        · rw [f1, g1]; simp [col2, txB]
        · rcases List.mem_append.1 hx with hx | hx
          · exact f2 x hx
          · rw [List.mem_singleton.1 hx]; simpa using g2⟩ (by simp; omega)
      refine ⟨z, ?_, hz2⟩
      simp only [List.length_append, List.length_singleton] at hz1
      rw [show ((cols.length + 1 : Nat) : Int) = (cols.length : Int) + 1 from rfl] at hz1
      clear ih hq hi hp h hl hkn hnc hqc hi' p2 hz2
      repeat' (first | with_reducible refine br_split (fun _ => ?_) (fun _ => ?_) | simp only [*, push_cast, simprocAttr] | (rw [drawC_ok]; rotate_left; decide +kernel; exact cfg_mixed))
    · have c1 : decide ((cols.length : Int) < (nc : Int)) = false := decide_eq_false (by omega)
      refine ⟨_, ?_, cols, i, bad, by omega, hi, hp, rfl⟩
      clear ih hq hi hp h hl hkn hnc hqc
      repeat' (first | with_reducible refine br_split (fun _ => ?_) (fun _ => ?_) | simp only [*, push_cast, simprocAttr] | (rw [drawC_ok]; rotate_left; decide +kernel; exact cfg_mixed))
  obtain ⟨_, rfl, cols, i4, b4, p1, p2, p3, rfl⟩ := key
  clear hE e0 e1 e2
  obtain ⟨h, hl, hkn, hnc, hi3, q3⟩ := H.out
  obtain ⟨query, i5, b5, hi5, hqr, p4, e3⟩ := ev_text_any l hl i4 p2 b4 2 (by omega)
  rw [show ((2 : Nat) : Int) = 2 from rfl] at e3
  obtain ⟨k, i6, b6, hi6, hk, p5, e4⟩ := ev_size_any l hl i5 hi5 b5 1 (by omega)
  rw [show ((1 : Nat) : Int) = 1 from rfl] at e4
  have q6 : b6 = false → l = beB kn 1 ++ ((beB name.size 2 ++ bl name) ++ (beB cols.length 1 ++ (cols.flatMap col2 ++ ((beB query.size 2 ++ bl query) ++ (beB k 1 ++ l.drop i6))))) ∧ name.size < 65536 ∧ (∀ c ∈ cols, c.size < 65536) ∧ query.size < 65536 := fun h => by
    obtain ⟨g0, g1⟩ := p5 h
    obtain ⟨f0, f1, f2⟩ := p4 g0
    obtain ⟨d0, d1, d2⟩ := p3 f0
    obtain ⟨c0, c1⟩ := q3 d0
    rw [d1, f1, g1] at c0
    rw [p1]
    exact ⟨c0, c1, d2, by simpa using f2⟩
  have H2 := Hd.mk (And.intro (show k < 256 by simpa using hk) (And.intro hi6 q6))
  clear h hl hkn hnc hi3 q3 p1 p2 p3 p4 p5 hi5 hi6 hk q6 hqr
  repeat' (first | with_reducible refine br_split (fun _ => ?_) (fun _ => ?_) | simp only [*, push_cast, simprocAttr] | (rw [drawC_ok]; rotate_left; decide +kernel; exact cfg_mixed))
  rw [show ([] : List (List T)) = ([] : List R).mapIdx (rZ fun i => [i, 0, 0, 1]) from rfl]
  generalize hE : evM cfg _ _ _ _ _ = RR
  have key : ∃ z, RR = some z ∧ ∃ (ch : List R) (i' : Nat) (b' : Bool), ch.length = k ∧ i' ≤ l.length ∧ (b' = false → b6 = false ∧ l.drop i6 = ch.flatMap relB ++ l.drop i' ∧ ∀ r ∈ ch, r.name.size < 65536 ∧ OkB r.bag ∧ (pbL r.bag).length < 4294967296) ∧ z = (Exit.exit 2, { t := [(0, .d (.s (bs l))), (2, .ptr 50 0), (4, .ptr 51 0), (5, .ptr 52 0)], o := [(50, .box [.d (.i .i64 0), .d (.s ⟨#[]⟩), .nl, .d (.s ⟨#[]⟩), .nl]), (51, .box [.d (.s (bs l)), .d (.i .i64 (i' : Nat)), .d (.b b')]), (52, .box [.d (.i .i64 (kn : Nat)), .d (.s name), .own 53, .d (.s query), .own 54]), (53, .arr .any 1 (cols.map sC)), (54, .arr .any 3 (ch.mapIdx (rZ fun i => [i, 0, 0, 1])))], ks := [50, 51, 52, 53, 54], n := 0, sz := 84, u := noU, g := some (ch.length, false) }) := by
    rw [← hE]
    refine evM_ex (α := RT) (fun y => { t := [(0, .d (.s (bs l))), (2, .ptr 50 0), (4, .ptr 51 0), (5, .ptr 52 0), (33, .d (.i .i64 (k : Nat))), (34, .d (.i .i64 (y.ch.length : Nat)))], o := [(50, .box [.d (.i .i64 0), .d (.s ⟨#[]⟩), .nl, .d (.s ⟨#[]⟩), .nl]), (51, .box [.d (.s (bs l)), .d (.i .i64 (y.i : Nat)), .d (.b y.bad)]), (52, .box [.d (.i .i64 (kn : Nat)), .d (.s name), .own 53, .d (.s query), .own 54]), (53, .arr .any 1 (cols.map sC)), (54, .arr .any 3 (y.ch.mapIdx (rZ fun i => [i, 0, 0, 1])))], ks := [50, 51, 52, 53, 54], n := 0, sz := 84, u := noU, g := some (y.ch.length, false) })
      (fun _ z => ∃ (ch : List R) (i' : Nat) (b' : Bool), ch.length = k ∧ i' ≤ l.length ∧ (b' = false → b6 = false ∧ l.drop i6 = ch.flatMap relB ++ l.drop i' ∧ ∀ r ∈ ch, r.name.size < 65536 ∧ OkB r.bag ∧ (pbL r.bag).length < 4294967296) ∧ z = (Exit.exit 2, { t := [(0, .d (.s (bs l))), (2, .ptr 50 0), (4, .ptr 51 0), (5, .ptr 52 0)], o := [(50, .box [.d (.i .i64 0), .d (.s ⟨#[]⟩), .nl, .d (.s ⟨#[]⟩), .nl]), (51, .box [.d (.s (bs l)), .d (.i .i64 (i' : Nat)), .d (.b b')]), (52, .box [.d (.i .i64 (kn : Nat)), .d (.s name), .own 53, .d (.s query), .own 54]), (53, .arr .any 1 (cols.map sC)), (54, .arr .any 3 (ch.mapIdx (rZ fun i => [i, 0, 0, 1])))], ks := [50, 51, 52, 53, 54], n := 0, sz := 84, u := noU, g := some (ch.length, false) }))
      (fun y => y.ch.length ≤ k ∧ y.i ≤ l.length ∧ (y.bad = false → b6 = false ∧ l.drop i6 = y.ch.flatMap relB ++ l.drop y.i ∧ ∀ r ∈ y.ch, r.name.size < 65536 ∧ OkB r.bag ∧ (pbL r.bag).length < 4294967296)) (fun y => k - y.ch.length) ?_ ⟨[], i6, b6⟩ ⟨Nat.zero_le _, H2.out.2.1, fun h => ⟨h, rfl, fun _ h => (nomatch h)⟩⟩
    clear hE RR e3 e4 hcan
    rintro ⟨ch, i, bad⟩ ⟨hq, hi, hp⟩ ih
    simp only at hq hi hp ih ⊢
    obtain ⟨h, hl, -, -, -, -⟩ := H.out
    obtain ⟨hk, -, -⟩ := H2.out
    by_cases hqc : ch.length < k
    · have c1 : decide ((ch.length : Int) < (k : Int)) = true := decide_eq_true (by omega)
      have w1 : IntKind.i64.wrap ((ch.length : Int) + 1) = (ch.length : Int) + 1 := wrap_succ (by omega)
      obtain ⟨rn, i', b', hi', -, p2, e1⟩ := ev_text_any l hl i hi bad 2 (by omega)
      rw [show ((2 : Nat) : Int) = 2 from rfl] at e1
      obtain ⟨by4, i'', b'', hi'', hbs, p3, e2⟩ := ev_text_any l hl i' hi' b' 4 (by omega)
      rw [show ((4 : Nat) : Int) = 4 from rfl] at e2
      have h5 : (ch.mapIdx (rZ fun i => [i, 0, 0, 1])).length = ch.length := by simp
      have h4 := len_ok (n := ch.length + 1) 48 (by omega) (by omega)
      by_cases hb : ∃ b, OkB b ∧ bl by4 = pbL b
      · obtain ⟨⟨bw, brows⟩, hb1, hb2⟩ := hb
        have hbb : by4 = bs (pbL ⟨bw, brows⟩) := by rw [← hb2, bs_bl]
        have hlen : (pbL ⟨bw, brows⟩).length = by4.size := by rw [← hb2, bl_size]
        have e5 := ev_GetBag_yes bw brows hb1 (by rw [← pbL_of (b := ⟨bw, brows⟩) hb1, hlen]; omega)
        rw [show kb bw :: brows.flatMap rowB = pbL ⟨bw, brows⟩ from (pbL_of (b := ⟨bw, brows⟩) hb1).symm, ← hbb] at e5
        have h3 : ch.mapIdx (rZ fun i => [i, 0, 0, 1]) ++ [[.s rn, .i .i64 bw, .sl (.tok [ch.length, 0, 0, 1]) (cnEs [ch.length, 0, 0, 1] 0 (brows.map cC))]] = (ch ++ [(⟨rn, ⟨bw, brows⟩⟩ : R)]).mapIdx (rZ fun i => [i, 0, 0, 1]) := by
          rw [List.mapIdx_append]; simp [rZ]
        obtain ⟨z, hz1, hz2⟩ := ih ⟨ch ++ [(⟨rn, ⟨bw, brows⟩⟩ : R)], i'', b''⟩ ⟨by simp; omega, hi'', fun hx => by
          obtain ⟨g0, g1, g2⟩ := p3 hx
          obtain ⟨f0, f1, f2⟩ := p2 g0
          obtain ⟨d0, d1, d2⟩ := hp f0
          refine ⟨d0, ?_, fun r hr => ?_⟩
          · rw [d1, f1, g1]; simp only [relB, txB, List.flatMap_append, List.flatMap_cons, List.flatMap_nil, List.append_nil, List.append_assoc, ← hbb]
          · rcases List.mem_append.1 hr with hr | hr
            · exact d2 r hr
            · rw [List.mem_singleton.1 hr]
              refine ⟨by simpa using f2, hb1, ?_⟩
              show (pbL ⟨bw, brows⟩).length < 4294967296
              rw [hlen]
              simpa using g2⟩ (by simp; omega)
        refine ⟨z, ?_, hz2⟩
        simp only [List.length_append, List.length_singleton] at hz1
        rw [show ((ch.length + 1 : Nat) : Int) = (ch.length : Int) + 1 from rfl] at hz1
        clear ih hq hi hp h hl hk hqc hi' hi'' p2 p3 hbs hb1 hb2 hbb hlen hz2
        cases b'' <;> repeat' (first | with_reducible refine br_split (fun _ => ?_) (fun _ => ?_) | simp only [*, push_cast, simprocAttr] | (rw [drawC_ok]; rotate_left; decide +kernel; exact cfg_mixed))
      · have e5 := ev_GetBag_no (bl by4) (by rw [bl_size]; omega) (fun b hb1 hb2 => hb ⟨b, hb1, hb2⟩)
        rw [bs_bl] at e5
        have h3 : ch.mapIdx (rZ fun i => [i, 0, 0, 1]) ++ [[.s rn, .i .i64 0, .sl (.tok [ch.length, 0, 0, 1]) []]] = (ch ++ [(⟨rn, ⟨0, []⟩⟩ : R)]).mapIdx (rZ fun i => [i, 0, 0, 1]) := by
          rw [List.mapIdx_append]; simp [rZ, cnEs]
        obtain ⟨z, hz1, hz2⟩ := ih ⟨ch ++ [(⟨rn, ⟨0, []⟩⟩ : R)], i'', true⟩ ⟨by simp; omega, hi'', fun hx => (by cases hx)⟩ (by simp; omega)
        refine ⟨z, ?_, hz2⟩
        simp only [List.length_append, List.length_singleton] at hz1
        rw [show ((ch.length + 1 : Nat) : Int) = (ch.length : Int) + 1 from rfl] at hz1
        clear ih hq hi hp h hl hk hqc hi' hi'' p2 p3 hbs hb hz2
        cases b'' <;> repeat' (first | with_reducible refine br_split (fun _ => ?_) (fun _ => ?_) | simp only [*, push_cast, simprocAttr] | (rw [drawC_ok]; rotate_left; decide +kernel; exact cfg_mixed))
    · have c1 : decide ((ch.length : Int) < (k : Int)) = false := decide_eq_false (by omega)
      refine ⟨_, ?_, ch, i, bad, by omega, hi, hp, rfl⟩
      clear ih hq hi hp h hl hk hqc
      repeat' (first | with_reducible refine br_split (fun _ => ?_) (fun _ => ?_) | simp only [*, push_cast, simprocAttr] | (rw [drawC_ok]; rotate_left; decide +kernel; exact cfg_mixed))
  obtain ⟨_, rfl, ch, i7, b7, p5, hi7, p6, rfl⟩ := key
  clear hE e3 e4
  rw [List.mapIdx_nil]
  cases b7 with
  | true =>
    clear H H2 p5 hi7 p6
    repeat' (first | with_reducible refine br_split (fun _ => ?_) (fun _ => ?_) | simp only [*, push_cast, simprocAttr] | (rw [drawC_ok]; rotate_left; decide +kernel; exact cfg_mixed))
  | false =>
    obtain ⟨h, hl, hkn, -, -, -⟩ := H.out
    obtain ⟨hk, -, q6⟩ := H2.out
    obtain ⟨f0, f1, f2⟩ := p6 rfl
    obtain ⟨g1, g2, g3, g4⟩ := q6 f0
    by_cases hc : i7 < l.length
    · have c1 := dec_lt hc
      clear H H2 h hl hkn hk p5 hi7 p6 q6 f0 f1 f2 g1 g2 g3 g4 hc
      repeat' (first | with_reducible refine br_split (fun _ => ?_) (fun _ => ?_) | simp only [*, push_cast, simprocAttr] | (rw [drawC_ok]; rotate_left; decide +kernel; exact cfg_mixed))
    · have c1 : decide ((i7 : Int) < (l.length : Int)) = false := decide_eq_false (by omega)
      rw [f1, show i7 = l.length by omega, List.drop_length, List.append_nil, ← p5] at g1
      have hlen := congrArg List.length g1
      have s1 := szSs_enc cols
      have s2 := szRs_enc (l := ch) fun r hr => (f2 r hr).2.1
      simp only [List.length_append, beB_len, bl_size] at hlen
      have hso := ev_StepOk (kn : Nat) name cols query ch (by simp only [szSp]; omega)
      cases ho : stepOk ⟨(kn : Nat), name, cols, query, ch⟩ with
      | true =>
        have hS : OkS ⟨(kn : Nat), name, cols, query, ch⟩ := ⟨ho, g2, g3, g4, f2⟩
        refine absurd ?_ (h _ hS)
        rw [psL_eq hS, u64_nn (by omega)]
        simp only [tail1, tail2]
        exact g1
      | false =>
        rw [ho] at hso
        have hme : annEs .any (ch.mapIdx (rZ fun i => [i, 0, 0, 1])) = ch.map rC := by
          rw [annEs_mapIdx (g := rC) (fun i x => by simp only [rZ, annCs, T.ann, er_cnEs, er_cC]; rfl) ch]
        clear H H2 h hl hkn hk p5 hi7 p6 q6 f0 f1 f2 g1 g2 g3 g4 hc hlen s1 s2 ho
        repeat' (first | with_reducible refine br_split (fun _ => ?_) (fun _ => ?_) | simp only [*, push_cast, simprocAttr] | (rw [drawC_ok]; rotate_left; decide +kernel; exact cfg_mixed))
end Go.Av
end
section
namespace Go.Av
open Go.Proofs Go.RowKit
set_option linter.unusedSimpArgs false
set_option linter.unusedVariables false
attribute [local instance] noKn
structure StB (x : Sp) : Prop where
  ncol : x.cols.length ≤ 256
  nrel : x.change.length ≤ 256
  rel : ∀ r ∈ x.change, r.bag.rows.length ≤ 400 ∧ ∀ c ∈ r.bag.rows, c.row.length ≤ 12
  lim : limCs (spC x)
end Go.Av
end
section
set_option linter.unusedVariables false
namespace Go.Av
def kTq (x : Sp) (k : Int) : Int := sIt (kR k) x.cols.length
def kTn (x : Sp) (k : Int) : Int := rAt x.change (w6 (kTq x k + 1)) x.change.length
def markT (mt : Int → ByteArray) (x : Sp) (k : Int) : Sp := ⟨k, mt (w6 (k + 1)), markSs mt x.cols (kR k), mt (kTq x k), markRs mt x.change (w6 (kTq x k + 1))⟩
def markTs (mt : Int → ByteArray) : List Sp → Int → List Sp
  | [], _ => []
  | x :: l, k => markT mt x k :: markTs mt l (kTn x k)
def tAt (L : List Sp) (k : Int) (i : Nat) : Int := (L.take i).foldl (fun k x => kTn x k) k
theorem tAt_zero (L : List Sp) (k : Int) : tAt L k 0 = k := by simp [tAt]
theorem tAt_succ {L : List Sp} {k : Int} {i : Nat} (h : i < L.length) : tAt L k (i + 1) = kTn L[i] (tAt L k i) := by
  simp only [tAt]
  rw [List.take_succ_eq_append_getElem h, List.foldl_append]; rfl
theorem tAt_cons (c : Sp) (L : List Sp) (k : Int) (i : Nat) : tAt (c :: L) k (i + 1) = tAt L (kTn c k) i := by
  simp [tAt]
theorem markTs_len (mt : Int → ByteArray) : ∀ (l : List Sp) (k : Int), (markTs mt l k).length = l.length
  | [], _ => rfl
  | _ :: l, k => by simp [markTs, markTs_len mt l]
theorem markTs_get (mt : Int → ByteArray) : ∀ (l : List Sp) (k : Int) (i : Nat) (h : i < l.length), (markTs mt l k)[i]? = some (markT mt l[i] (tAt l k i))
  | c :: l, k, 0, h => by simp [markTs, tAt_zero]
  | c :: l, k, i + 1, h => by
    have := markTs_get mt l (kTn c k) i (by simpa using h)
    simpa [markTs, tAt_cons] using this
theorem mkEs_tC (mt : Int → ByteArray) : ∀ (l : List Sp) (k : Int), mkEs mt (l.map spC) k = ((markTs mt l k).map spC, tAt l k l.length)
  | [], k => rfl
  | c :: l, k => by
    have := mkEs_tC mt l (kTn c k)
    simp only [List.map_cons, mkEs, spC, mkCs, mkT, mkEs_rC, mkEs_sC, markTs, markT, List.length_cons, tAt_cons]
    rw [show IntKind.i64.wrap (IntKind.i64.wrap (k + 1) + 1) = kR k from rfl, show rAt c.change (IntKind.i64.wrap (sIt (kR k) c.cols.length + 1)) c.change.length = kTn c k from rfl, this]
    rfl
def cellsT (x : Sp) : Nat := 4 + x.cols.length + cellsR x.change
structure KT (x : Sp) (k : Int) : Prop where
  a : w6 (k + 1) = k + 1
  b : kR k = k + 2
  c : kTq x k = k + 2 + x.cols.length
  d : w6 (kTq x k + 1) = k + 3 + x.cols.length
  e : kTn x k = k + 3 + x.cols.length + cellsR x.change
theorem kT_in {x : Sp} {k : Int} (h0 : 0 ≤ k) (h1 : k + cellsT x ≤ 9223372036854775807) : KT x k := by
  simp only [cellsT] at h1
  have b : kR k = k + 2 := kR_in h0 (by omega)
  have c : kTq x k = k + 2 + x.cols.length := by rw [kTq, b, sIt_in _ _ (by omega) (by omega)]
  have d : w6 (kTq x k + 1) = k + 3 + x.cols.length := by rw [c]; unfold w6; rw [i64_in (by omega) (by omega)]; omega
  refine ⟨?_, b, c, d, ?_⟩
  · unfold w6; rw [i64_in (by omega) (by omega)]
  · rw [kTn, d, rAt_in _ _ (by omega) (by omega)]
theorem tAt_le {l : List Sp} {N : Nat} (hN : ∀ x ∈ l, cellsT x ≤ N) {k : Int} (h0 : 0 ≤ k) (h1 : k + (l.length : Int) * N ≤ 9223372036854775807) : ∀ i : Nat, i ≤ l.length → 0 ≤ tAt l k i ∧ tAt l k i ≤ k + (i : Int) * N
  | 0, _ => by rw [tAt_zero]; exact ⟨h0, by simp⟩
  | i + 1, h => by
    obtain ⟨g1, g2⟩ := tAt_le hN h0 h1 i (by omega)
    have g3 := hN _ (List.getElem_mem (l := l) (n := i) (by omega))
    have g4 : ((i : Int) + 1) * N ≤ (l.length : Int) * N := Int.mul_le_mul_of_nonneg_right (by omega) (by omega)
    have g5 : ((i : Int) + 1) * N = (i : Int) * N + N := by rw [Int.add_mul, Int.one_mul]
    have g6 := (kT_in (x := l[i]) (k := tAt l k i) g1 (by omega)).e
    rw [tAt_succ (by omega), g6]
    simp only [cellsT] at g3
    push_cast
    omega
end Go.Av
end
section
namespace Go.Av
open Go.Proofs Go.RowKit
set_option linter.unusedVariables false
set_option maxRecDepth 4000 in
theorem raw_StepS (w : World) (B off len cap : Nat) (hlen : len ≤ 1099511627776) (k : Int) (I : Nat → Int → World → Prop) (h0 : I 0 k w)
   (hc : ∀ j kk w, j < len → I j kk w → ∃ u0, w.cell? ⟨B, off + j * 5, none⟩ = some u0 ∧ w.frozen? ⟨B, off + j * 5, none⟩ = false ∧
     Calls Tryz.prog 43 #[.int .i64 (wrap64 (kk + 1))] (w.setCell ⟨B, off + j * 5, none⟩ (.int .i64 kk)) fun e w1 => ∃ s u1 vc, e = .returned (.string s) ∧ w1.cell? ⟨B, off + j * 5 + 1, none⟩ = some u1 ∧ w1.frozen? ⟨B, off + j * 5 + 1, none⟩ = false ∧ (w1.setCell ⟨B, off + j * 5 + 1, none⟩ (.string s)).cell? ⟨B, off + j * 5 + 2, none⟩ = some vc ∧
     Calls Tryz.prog 38 #[vc, .int .i64 (wrap64 (wrap64 (kk + 1) + 1))] (w1.setCell ⟨B, off + j * 5 + 1, none⟩ (.string s)) fun e w2 => ∃ k1, e = .returned (.int .i64 k1) ∧
     Calls Tryz.prog 43 #[.int .i64 k1] w2 fun e w3 => ∃ s3 u3 vr, e = .returned (.string s3) ∧ w3.cell? ⟨B, off + j * 5 + 3, none⟩ = some u3 ∧ w3.frozen? ⟨B, off + j * 5 + 3, none⟩ = false ∧ (w3.setCell ⟨B, off + j * 5 + 3, none⟩ (.string s3)).cell? ⟨B, off + j * 5 + 4, none⟩ = some vr ∧
     Calls Tryz.prog 39 #[vr, .int .i64 (wrap64 (k1 + 1))] (w3.setCell ⟨B, off + j * 5 + 3, none⟩ (.string s3)) fun e w4 => ∃ k', e = .returned (.int .i64 k') ∧ I (j + 1) k' w4) :
   Calls Tryz.prog 14 #[.slice (some ⟨B, off, none⟩) len cap, .int .i64 k] w fun e w' => ∃ k', e = .returned (.int .i64 k') ∧ I len k' w' := by
  go_enter Tryz.func14, Tryz.ntmps14
  go_wp2
  go_loopw [1, 5] (fun kv i wr => ∃ (j : Nat) (kk : Int), j ≤ len ∧ i = .int .i64 j ∧ kv = .int .i64 kk ∧ I j kk wr) (fun _ i _ => len - (Go.RowKit.intOf i).toNat)
  case atStart => exact ⟨0, k, Nat.zero_le _, rfl, rfl, h0⟩
  case round =>
    obtain ⟨j, kk, hj, rfl, rfl, hi⟩ := hrel
    rcases Nat.lt_or_ge j len with hjl | hjl
    · obtain ⟨u0, p1, p2, h1⟩ := hc j kk wr hjl hi
      clear hc hi h0
      go_wp2_with (first | (go_at_call 43; refine h1.mono ?_; clear h1; rintro e w1 ⟨s, u1, vc, rfl, p3, p4, p5, h2⟩) | (go_at_call 38; refine h2.mono ?_; rintro e w2 ⟨k1, rfl, h3⟩) | (go_at_call 43; refine h3.mono ?_; clear h3; rintro e w3 ⟨s3, u3, vr, rfl, p6, p7, p8, h4⟩) | (go_at_call 39; refine h4.mono ?_; rintro e w4 ⟨k', rfl, h8⟩))
      refine ⟨⟨j + 1, _, hjl, by first | rfl | simp, rfl, h8⟩, by simp only [Go.RowKit.intOf]; omega⟩
    · obtain rfl : j = len := by omega
      clear hc h0
      go_wp2
      go_ret
      exact ⟨kk, rfl, hi⟩
theorem raw_nilT (w : World) (a : Option Addr) (cap : Nat) (k : Int) : Calls Tryz.prog 14 #[.slice a 0 cap, .int .i64 k] w fun e w' => e = .returned (.int .i64 k) ∧ w' = w := by
  go_enter Tryz.func14, Tryz.ntmps14
  go_wp2
  go_loopw [1, 5] (fun kv i wr => i = .int .i64 0 ∧ kv = .int .i64 k ∧ wr = w) (fun _ i _ => 0)
  case atStart => exact ⟨rfl, rfl, rfl⟩
  case round =>
    obtain ⟨rfl, rfl, rfl⟩ := hrel
    go_wp2
    go_ret
    exact ⟨rfl, rfl⟩
theorem mok_StepS {mt : Int → ByteArray} (ht : TxtOk mt) : MOk mt Tryz.prog 14 fun es => ∃ l : List Sp, es = l.map spC ∧ l.length ≤ 1099511627776 ∧ ∀ x ∈ l, x.cols.length ≤ 1099511627776 ∧ x.change.length ≤ 1099511627776 ∧ ∀ r ∈ x.change, r.bag.rows.length ≤ 1099511627776 ∧ ∀ c ∈ r.bag.rows, c.row.length ≤ 1099511627776 := by
  intro w S p es v k hp hn hlt hnm ⟨l, hes, hll, hlr⟩ hr
  by_cases he : es = []
  · subst he
    have hv : ∃ a cap, v = .slice a 0 cap := by
      cases hr with
      | nil _ a cap => exact ⟨a, cap, rfl⟩
      | sl _ _ B off m cap vs => exact ⟨_, _, rfl⟩
    obtain ⟨a, cap, rfl⟩ := hv
    refine (raw_nilT w a cap k).mono ?_
    rintro e w' ⟨rfl, rfl⟩
    exact ⟨rfl, hr, .refl hn⟩
  · obtain ⟨B, off, m, cap, vs0, rfl, hcap, h0, row⟩ := Row.of he hr
    have hel : es.length = l.length := by rw [hes]; simp
    have hpos : 0 < es.length := List.length_pos_iff.2 he
    obtain rfl : m = 5 := by
      have := row.hm 0 hpos
      rw [← this]
      simp [hes, spC]
    refine (raw_StepS w B off es.length cap (by omega) k (fun j kk wr => ∃ vs, Row wr S p B off 5 (mkUp mt es k j) vs ∧ kk = mkK mt es k j ∧ Mv p w S wr) ⟨vs0, by rw [mkUp_zero]; exact row, rfl, .refl hn⟩ ?_).mono ?_
    · rintro j kk wr hj ⟨vs, row, rfl, hmv⟩
      have hn1 := hmv.nmd hn
      have hlt1 : ∀ b x, S b x → b < wr.heap.size := fun b x h => Nat.lt_of_lt_of_le (hlt b x h) hmv.size
      have hul : j < (mkUp mt es k j).length := by rw [mkUp_len]; exact hj
      have hlj := hlr l[j] (List.getElem_mem _)
      have hes' : es[j] = spC l[j] := by simp [hes]
      have hE : (mkUp mt es k j)[j] = spC l[j] := by rw [mkUp_get hj, hes']
      generalize l[j] = x at *
      obtain ⟨kind, name, cols, query, change⟩ := x
      simp only [spC] at hes' hE hlj
      obtain ⟨hlc, hlx, hlr⟩ := hlj
      generalize hkk : mkK mt es k j = kk
      obtain ⟨a1, a2, r1, m1⟩ := row.store (t' := .i .i64 kk) (v' := .int .i64 kk) hn1 hp hul (c := 0) (by omega) (fun w q => .i _ _)
      simp only [hE, List.set_cons_zero, List.set_cons_succ, Nat.add_zero] at a1 a2 r1 m1
      have hn2 := m1.nmd hn1
      have mm1 := hmv.trans m1 (List.prefix_refl _)
      have hlt2 : ∀ b x, S b x → b < (wr.setCell ⟨B, off + j * 5, none⟩ (.int .i64 kk)).heap.size := fun b x h => Nat.lt_of_lt_of_le (hlt b x h) mm1.size
      refine ⟨_, a1, a2, (ht _ _).mono ?_⟩
      rintro e w1 ⟨rfl, hb1⟩
      have r2 := r1.below hlt2 hb1
      have m2 : Mv p _ S w1 := Mv.below hn2 hlt2 hnm hb1
      have hn3 := m2.nmd hn2
      have mm2 := mm1.trans m2 (List.prefix_refl _)
      have hul1 : j < ((mkUp mt es k j).set j [.i .i64 kk, .s name, .sl .any (cols.map sC), .s query, .sl .any (change.map rC)]).length := by simpa using hul
      obtain ⟨b1, b2, r3, m3⟩ := r2.store (t' := .s (mt (wrap64 (kk + 1)))) (v' := .string (mt (wrap64 (kk + 1)))) hn3 hp (i := j) hul1 (c := 1) (by omega) (fun w q => .s _)
      simp only [List.getElem_set_self, List.set_set, List.set_cons_zero, List.set_cons_succ] at r3
      have hn4 := m3.nmd hn3
      have mm3 := mm2.trans m3 (List.prefix_refl _)
      have hlt4 : ∀ b x, S b x → b < (w1.setCell ⟨B, off + j * 5 + 1, none⟩ (.string (mt (wrap64 (kk + 1))))).heap.size := fun b x h => Nat.lt_of_lt_of_le (hlt b x h) mm3.size
      have hul3 : j < ((mkUp mt es k j).set j [.i .i64 kk, .s (mt (wrap64 (kk + 1))), .sl .any (cols.map sC), .s query, .sl .any (change.map rC)]).length := by simpa using hul
      have hrow := r3.rep j 2 hul3 (by simp)
      have hg : ((mkUp mt es k j).set j [.i .i64 kk, .s (mt (wrap64 (kk + 1))), .sl .any (cols.map sC), .s query, .sl .any (change.map rC)])[j][2]'(by simp) = .sl .any (cols.map sC) := by simp
      rw [hg] at hrow
      have hcell := r3.cell j 2 hul3 (by omega)
      refine ⟨_, _, _, rfl, b1, b2, hcell, ?_⟩
      have hsub := mok_StringS ht _ S (p ++ [j] ++ [2]) (cols.map sC) _ (wrap64 (wrap64 (kk + 1) + 1)) (by simp) hn4 hlt4 hnm ⟨_, rfl, hlc⟩ hrow
      refine hsub.mono ?_
      rintro e w2 ⟨rfl, hr3, m4⟩
      generalize hk1 : (mkEs mt (cols.map sC) (wrap64 (wrap64 (kk + 1) + 1))).2 = k1
      have r4 := r3.sub hn4 hp hul3 (c := 2) (by omega) (t' := .sl .any (mkEs mt (cols.map sC) (wrap64 (wrap64 (kk + 1) + 1))).1) m4 hlt4 hnm hr3
      simp only [List.getElem_set_self, List.set_set, List.set_cons_zero, List.set_cons_succ] at r4
      generalize hc1 : (mkEs mt (cols.map sC) (wrap64 (wrap64 (kk + 1) + 1))).1 = c1 at r4
      have mm4 := mm3.trans m4 ((List.prefix_append p [j]).trans (List.prefix_append _ _))
      have hn5 := mm4.nmd hn
      have hlt5 : ∀ b x, S b x → b < w2.heap.size := fun b x h => Nat.lt_of_lt_of_le (hlt b x h) mm4.size
      refine ⟨_, rfl, (ht _ _).mono ?_⟩
      rintro e w3 ⟨rfl, hb3⟩
      have r5 := r4.below hlt5 hb3
      have m5 : Mv p _ S w3 := Mv.below hn5 hlt5 hnm hb3
      have hn6 := m5.nmd hn5
      have mm5 := mm4.trans m5 (List.prefix_refl _)
      have hul5 : j < ((mkUp mt es k j).set j [.i .i64 kk, .s (mt (wrap64 (kk + 1))), .sl .any c1, .s query, .sl .any (change.map rC)]).length := by simpa using hul
      obtain ⟨d1, d2, r6, m6⟩ := r5.store (t' := .s (mt k1)) (v' := .string (mt k1)) hn6 hp (i := j) hul5 (c := 3) (by omega) (fun w q => .s _)
      simp only [List.getElem_set_self, List.set_set, List.set_cons_zero, List.set_cons_succ] at r6
      have hn7 := m6.nmd hn6
      have mm6 := mm5.trans m6 (List.prefix_refl _)
      have hlt7 : ∀ b x, S b x → b < (w3.setCell ⟨B, off + j * 5 + 3, none⟩ (.string (mt k1))).heap.size := fun b x h => Nat.lt_of_lt_of_le (hlt b x h) mm6.size
      have hul6 : j < ((mkUp mt es k j).set j [.i .i64 kk, .s (mt (wrap64 (kk + 1))), .sl .any c1, .s (mt k1), .sl .any (change.map rC)]).length := by simpa using hul
      have hrow2 := r6.rep j 4 hul6 (by simp)
      have hg2 : ((mkUp mt es k j).set j [.i .i64 kk, .s (mt (wrap64 (kk + 1))), .sl .any c1, .s (mt k1), .sl .any (change.map rC)])[j][4]'(by simp) = .sl .any (change.map rC) := by simp
      rw [hg2] at hrow2
      have hcell2 := r6.cell j 4 hul6 (by omega)
      refine ⟨_, _, _, rfl, d1, d2, hcell2, ?_⟩
      have hsub2 := mok_RelS ht _ S (p ++ [j] ++ [4]) (change.map rC) _ (wrap64 (k1 + 1)) (by simp) hn7 hlt7 hnm ⟨_, rfl, hlx, hlr⟩ hrow2
      refine hsub2.mono ?_
      rintro e w4 ⟨rfl, hr7, m7⟩
      have r7 := r6.sub hn7 hp hul6 (c := 4) (by omega) (t' := .sl .any (mkEs mt (change.map rC) (wrap64 (k1 + 1))).1) m7 hlt7 hnm hr7
      have hfin : mkUp mt es k (j + 1) = (mkUp mt es k j).set j [.i .i64 kk, .s (mt (wrap64 (kk + 1))), .sl .any c1, .s (mt k1), .sl .any (mkEs mt (change.map rC) (wrap64 (k1 + 1))).1] := by
        rw [← mkUp_succ hj, hkk, hes', ← hk1, ← hc1]
        simp only [mkCs, mkT, wrap64_eq]
      simp only [List.getElem_set_self, List.set_set, List.set_cons_zero, List.set_cons_succ] at r7
      rw [← hfin] at r7
      exact ⟨_, rfl, _, r7, by rw [mkK_succ hj, hkk, hes', ← hk1]; simp only [mkCs, mkT, wrap64_eq], mm6.trans m7 ((List.prefix_append p [j]).trans (List.prefix_append _ _))⟩
    · rintro e w' ⟨k', rfl, vs, row', rfl, hmv⟩
      rw [mkK_all]
      refine ⟨rfl, ?_, hmv⟩
      rw [mkUp_all] at row'
      have := row'.to (cap := cap) h0 (by rw [mkEs_len]; exact hcap)
      rwa [mkEs_len] at this
end Go.Av
end
section
namespace Go.Av
open Go.Proofs
set_option linter.unusedSimpArgs false
def recS (x : Sp) : List UInt8 := recB (psL x)
theorem recS_len (x : Sp) : (recS x).length = (psL x).length + 8 := recB_len _
structure LogD (l : List UInt8) (xs : List Sp) (r : List UInt8) : Prop where
  eq : l = xs.flatMap recS ++ r
  ok : ∀ x ∈ xs, OkS x
  no : ∀ x r', OkS x → r ≠ recS x ++ r'
theorem logD : ∀ (n : Nat) (l : List UInt8), l.length ≤ n → ∃ xs r, LogD l xs r := by
  intro n
  induction n with
  | zero => exact fun l h => ⟨[], l, rfl, by simp, fun x r' _ h' => by
      have := congrArg List.length h'
      rw [List.length_append, recS_len] at this
      omega⟩
  | succ n ih =>
    intro l h
    by_cases hx : ∃ x r', OkS x ∧ l = recS x ++ r'
    · obtain ⟨x, r', hx, rfl⟩ := hx
      rw [List.length_append, recS_len] at h
      obtain ⟨xs, r, h1, h2, h3⟩ := ih r' (by omega)
      refine ⟨x :: xs, r, by rw [h1]; simp, fun y hy => ?_, h3⟩
      rcases List.mem_cons.1 hy with rfl | hy
      · exact hx
      · exact h2 y hy
    · exact ⟨[], l, rfl, by simp, fun x r' h1 h2 => hx ⟨x, r', h1, h2⟩⟩
def posL (xs : List Sp) (i : Nat) : Nat := ((xs.take i).flatMap recS).length
theorem posL_zero (xs : List Sp) : posL xs 0 = 0 := by simp [posL]
theorem posL_succ {xs : List Sp} {i : Nat} (h : i < xs.length) : posL xs (i + 1) = posL xs i + 8 + (psL xs[i]).length := by
  simp only [posL]
  rw [List.take_succ_eq_append_getElem h, List.flatMap_append, List.length_append]
  simp [recS_len]; omega
theorem LogD.drop {l xs r} (h : LogD l xs r) {i : Nat} (hi : i ≤ xs.length) : l.drop (posL xs i) = (xs.drop i).flatMap recS ++ r ∧ posL xs i ≤ l.length := by
  have e : l = (xs.take i).flatMap recS ++ ((xs.drop i).flatMap recS ++ r) := by
    rw [h.eq, ← List.append_assoc, ← List.flatMap_append, List.take_append_drop]
  constructor
  · conv => lhs; rw [e]
    exact List.drop_left
  · have := congrArg List.length e
    rw [List.length_append] at this
    simp only [posL]; omega
theorem flatS_len (xs : List Sp) : xs.length ≤ (xs.flatMap recS).length := by
  induction xs with
  | nil => simp
  | cons x xs ih => rw [List.flatMap_cons, List.length_append, recS_len, List.length_cons]; omega
theorem LogD.len {l xs r} (h : LogD l xs r) : xs.length ≤ l.length := by
  rw [h.eq, List.length_append]
  have := flatS_len xs
  omega
theorem flat_cons {xs : List Sp} {i : Nat} (h : i < xs.length) (r : List UInt8) : (xs.drop i).flatMap recS ++ r = recB (psL xs[i]) ++ ((xs.drop (i + 1)).flatMap recS ++ r) := by
  rw [List.drop_eq_getElem_cons h, List.flatMap_cons, List.append_assoc]; rfl
structure RecAt (l own : List UInt8) (p : Nat) : Prop where
  a : takeP 4 (l.drop p) = some (beB own.length 4, l.drop (p + 4))
  b : takeP 4 (l.drop (p + 4)) = some (beB (sumI own).toNat 4, l.drop (p + 8))
  c : takeP own.length (l.drop (p + 8)) = some (own, l.drop (p + 8 + own.length))
  le : p + 8 + own.length ≤ l.length
  v1 : beV (beB own.length 4) = own.length
  v2 : (beV (beB (sumI own).toNat 4) : Int) = sumI own
theorem recAt {l own rest : List UInt8} {p : Nat} (hd : l.drop p = recB own ++ rest) (hp : p ≤ l.length) (hl : l.length ≤ 1048576) : RecAt l own p := by
  have hlen := congrArg List.length hd
  rw [List.length_drop, List.length_append, recB_len] at hlen
  have hs := sumI_le own
  have d1 : l.drop p = beB own.length 4 ++ (beB (sumI own).toNat 4 ++ (own ++ rest)) := by rw [hd, recB]; simp
  have t1 := takeP_app (n := 4) (a := beB own.length 4) (b := beB (sumI own).toNat 4 ++ (own ++ rest)) (beB_len _ _)
  rw [← d1] at t1
  have e1 := (takeP_at t1 hp).2.2.1
  have t2 := takeP_app (n := 4) (a := beB (sumI own).toNat 4) (b := own ++ rest) (beB_len _ _)
  rw [e1] at t1 t2
  have e2 := (takeP_at t2 (by omega)).2.2.1
  have t3 := takeP_app (n := own.length) (a := own) (b := rest) rfl
  rw [show p + 4 + 4 = p + 8 from rfl] at e2
  rw [e2] at t2 t3
  have e3 := (takeP_at t3 (by omega)).2.2.1
  rw [e3] at t3
  refine ⟨t1, t2, t3, by omega, beV_beB _ 4 (by omega), ?_⟩
  rw [beV_beB _ 4 (by omega)]
  omega
theorem rec_facts {l own : List UInt8} {p : Nat} (hl : l.length ≤ 100000) (R : RecAt l own p) :
    ∃ m q k : Nat, p + 4 = m ∧ m + 4 = q ∧ q + own.length = k ∧ k ≤ l.length ∧ takeP 4 (l.drop p) = some (beB own.length 4, l.drop m) ∧ takeP 4 (l.drop m) = some (beB (sumI own).toNat 4, l.drop q) ∧ takeP own.length (l.drop q) = some (own, l.drop k) ∧ (bs l).extract q k = bs own := by
  refine ⟨p + 4, p + 8, p + 8 + own.length, rfl, rfl, rfl, R.le, R.a, R.b, R.c, ?_⟩
  have g := (takeP_at R.c (by have := R.le; omega)).2.1
  have e : p + 8 + own.length - (p + 8) = own.length := by omega
  rw [bs_extract, List.drop_take, e, ← g]
theorem no_rec {l a b c d own e : List UInt8} {p : Nat} (hno : ∀ x r', OkS x → l.drop p ≠ recS x ++ r') (h1 : takeP 4 (l.drop p) = some (a, b)) (h2 : takeP 4 b = some (c, d)) (h3 : takeP (beV a) d = some (own, e)) (h4 : (beV c : Int) = sumI own) : ∀ x, OkS x → own ≠ psL x := by
  intro x hx he
  refine hno x e hx ?_
  obtain ⟨g1, g2⟩ := takeP_some h1
  obtain ⟨g3, g4⟩ := takeP_some h2
  obtain ⟨g5, g6⟩ := takeP_some h3
  have b1 := beB_beV a
  have b2 := beB_beV c
  rw [g2, ← g6] at b1
  rw [g4, show beV c = (sumI own).toNat by omega] at b2
  rw [g1, g3, g5, recS, ← he, recB, b1, b2]
  simp
end Go.Av
end
section
namespace Go.Av
open Go.Proofs
set_option linter.unusedSimpArgs false
theorem ev_sReadLog (l : List UInt8) (hl : l.length ≤ 100000) {xs : List Sp} {r : List UInt8} (h : LogD l xs r) :
    evF cfg 11 [] [.d (.s (bs l))] = some (.tup [.d (.sl .any (xs.map spC)), .d (.i .i64 (posL xs xs.length : Nat))], []) := by
  have hz := bs_size l
  have H := Hd.mk (And.intro h hl)
  clear h hl
  have c0 : decide ((l.length : Int) ≤ 100000) = true := decide_eq_true (by have := H.out.2; omega)
  (refine (evF_code (C := cfg) (g := 11) (fn := Tryz.f11) rfl Tryz.func11 rfl (by rw [Tryz.ntmps11]; simp) (by kernel_rfl) (by first | decide | simp [keysOf])).trans ?_; rw [Tryz.results11, Tryz.ntmps11])
  repeat' (first | with_reducible refine br_split (fun _ => ?_) (fun _ => ?_) | simp only [*, push_cast, simprocAttr] | (rw [drawC_ok]; rotate_left; decide +kernel; exact cfg_mixed))
  rw [show ({ t := [(0, .d (.s (bs l))), (4, .own 50), (5, .d (.i .i64 0))], o := [(50, .arr .any 5 [])], ks := [50], n := 0, sz := 71, u := noU } : St) = { t := [(0, .d (.s (bs l))), (4, .own 50), (5, .d (.i .i64 (posL xs 0 : Nat)))], o := [(50, .arr .any 5 ((xs.take 0).map spC))], ks := [50], n := 0, sz := 71, u := noU } from by rw [posL_zero]; rfl]
  rw [evM_for0 xs.length (fun i _ => { t := [(0, .d (.s (bs l))), (4, .own 50), (5, .d (.i .i64 (posL xs i : Nat)))], o := [(50, .arr .any 5 ((xs.take i).map spC))], ks := [50], n := 0, sz := 71, u := noU }) (fun i => some (.exit 0, { t := [(4, .own 50), (5, .d (.i .i64 (posL xs xs.length : Nat)))], o := [(50, .arr .any 5 (xs.map spC))], ks := [50], n := 0, sz := 71, u := noU })) ?step ?last]
  case step =>
    intro i hi ih
    obtain ⟨h, hl⟩ := H.out
    obtain ⟨hd, hp⟩ := h.drop (Nat.le_of_lt hi)
    have hR := recAt (own := psL xs[i]) (rest := (xs.drop (i + 1)).flatMap recS ++ r) (by rw [hd, flat_cons hi]) hp (by omega)
    have hok := h.ok _ (List.getElem_mem hi)
    have hs : (xs.take i).map spC ++ [spC xs[i]] = (xs.take (i + 1)).map spC := take_snoc spC hi
    have hps := posL_succ hi
    have hxl : (xs.take i).length ≤ l.length := by
      rw [List.length_take]
      have := h.len
      omega
    clear hd
    generalize xs[i] = x at *
    generalize posL xs i = p at *
    obtain ⟨kind, name, cols, query, change⟩ := x
    simp only [spC] at hs
    obtain ⟨m, q, k, h0, h1, h2, h3, h7, h4, h5, h6⟩ := rec_facts hl hR
    have hv1 := hR.v1
    have hv2 := hR.v2
    have e1 := ev_l10Num_some l (by omega) p 4 m hp h0 (by omega) h7
    have e2 := ev_l10Num_some l (by omega) m 4 q (by omega) h1 (by omega) h4
    rw [hv1] at e1
    rw [hv2] at e2
    rw [show ((4 : Nat) : Int) = 4 from rfl] at e1 e2
    have e3 := ev_sGetStep_yes kind name cols query change hok (by omega)
    have e4 := ev_sSum (psL ⟨kind, name, cols, query, change⟩) (by omega)
    generalize psL ⟨kind, name, cols, query, change⟩ = own at *
    have hsu := sumI_le own
    have hpk : posL xs (i + 1) = k := by omega
    rw [hpk] at ih
    have c1 : decide ((q : Int) < 0) = false := decide_eq_false (by omega)
    have w1 : IntKind.i64.wrap ((l.length : Int) - (q : Int)) = (l.length : Int) - (q : Int) := i64_in (by omega) (by omega)
    have c2 : decide ((own.length : Int) > (l.length : Int) - (q : Int)) = false := decide_eq_false (by omega)
    have w2 : IntKind.i64.wrap ((q : Int) + (own.length : Int)) = (k : Int) := by rw [i64_in (by omega) (by omega)]; omega
    have c3 : decide (0 ≤ (q : Int) ∧ (q : Int) ≤ (k : Int) ∧ (k : Int) ≤ (l.length : Int)) = true := decide_eq_true (by omega)
    have c4 : decide ((q : Int) ≤ (k : Int) ∧ (k : Int) ≤ (l.length : Int)) = true := decide_eq_true (by omega)
    have w3 : IntKind.i64.wrap (sumI own) = sumI own := i64_in (by omega) (by omega)
    have c5 : (sumI own != sumI own) = false := bne_self_eq_false _
    have c6 := len_ok (n := (xs.take i).length + 1) 88 (by omega) (by omega)
    clear h hl hp hR hok hps hi h0 h7 h1 h2 h3 h4 h5 hv1 hv2 hsu hpk hxl
    repeat' (first | with_reducible refine br_split (fun _ => ?_) (fun _ => ?_) | simp only [*, push_cast, simprocAttr] | (rw [drawC_ok]; rotate_left; decide +kernel; exact cfg_mixed))
  case last =>
    obtain ⟨h, hl⟩ := H.out
    obtain ⟨hd, hp⟩ := h.drop (Nat.le_refl _)
    rw [List.drop_length] at hd
    have hno : ∀ x r', OkS x → l.drop (posL xs xs.length) ≠ recS x ++ r' := by rw [hd]; exact h.no
    rw [List.take_length]
    clear hd h H
    generalize posL xs xs.length = p at *
    cases t1 : takeP 4 (l.drop p) with
    | none =>
      have e1 := ev_l10Num_none l (by omega) p 4 hp t1
      have e2 := ev_l10Num_bad (bs l) 4
      rw [show ((4 : Nat) : Int) = 4 from rfl] at e1
      clear hl hp hno t1
      repeat' (first | with_reducible refine br_split (fun _ => ?_) (fun _ => ?_) | simp only [*, push_cast, simprocAttr] | (rw [drawC_ok]; rotate_left; decide +kernel; exact cfg_mixed))
    | some ab =>
      obtain ⟨a, b⟩ := ab
      obtain ⟨m, hm⟩ : ∃ m, p + 4 = m := ⟨_, rfl⟩
      obtain ⟨a1, a2, a3, a4⟩ := takeP_at t1 hp
      have e1 := ev_l10Num_some l (by omega) p 4 m hp hm (by omega) t1
      rw [show ((4 : Nat) : Int) = 4 from rfl] at e1
      rw [hm] at a1 a3
      cases t2 : takeP 4 b with
      | none =>
        have e2 := ev_l10Num_none l (by omega) m 4 a1 (by rw [← a3]; exact t2)
        rw [show ((4 : Nat) : Int) = 4 from rfl] at e2
        clear hl hp hno t1 t2 hm a1 a2 a3 a4
        repeat' (first | with_reducible refine br_split (fun _ => ?_) (fun _ => ?_) | simp only [*, push_cast, simprocAttr] | (rw [drawC_ok]; rotate_left; decide +kernel; exact cfg_mixed))
      | some cd =>
        obtain ⟨c, d⟩ := cd
        obtain ⟨q, hq⟩ : ∃ q, m + 4 = q := ⟨_, rfl⟩
        have t2' := t2
        rw [a3] at t2'
        obtain ⟨b1, b2, b3, b4⟩ := takeP_at t2' a1
        have e2 := ev_l10Num_some l (by omega) m 4 q a1 hq (by omega) t2'
        rw [show ((4 : Nat) : Int) = 4 from rfl] at e2
        rw [hq] at b1 b3
        have w1 : IntKind.i64.wrap ((l.length : Int) - (q : Int)) = (l.length : Int) - (q : Int) := i64_in (by omega) (by omega)
        have d1 : decide ((q : Int) < 0) = false := decide_eq_false (by omega)
        have hva := beV_lt a
        rw [a4] at hva
        cases t3 : takeP (beV a) d with
        | none =>
          have d2 : decide (((beV a : Nat) : Int) > (l.length : Int) - (q : Int)) = true := by
            rw [b3] at t3
            have := takeP_not t3
            exact decide_eq_true (by omega)
          clear hl hp hno t1 t2 t2' t3 hm hq a1 a2 a3 a4 b1 b2 b3 b4 hva
          repeat' (first | with_reducible refine br_split (fun _ => ?_) (fun _ => ?_) | simp only [*, push_cast, simprocAttr] | (rw [drawC_ok]; rotate_left; decide +kernel; exact cfg_mixed))
        | some oe =>
          obtain ⟨own, e⟩ := oe
          have t3' := t3
          rw [b3] at t3'
          obtain ⟨g1, g2, g3, g4⟩ := takeP_at t3' b1
          obtain ⟨k, hk⟩ : ∃ k, q + beV a = k := ⟨_, rfl⟩
          rw [hk] at g1
          have d2 : decide (((beV a : Nat) : Int) > (l.length : Int) - (q : Int)) = false := decide_eq_false (by omega)
          have w2 : IntKind.i64.wrap ((q : Int) + ((beV a : Nat) : Int)) = (k : Int) := by rw [i64_in (by omega) (by omega)]; omega
          have d3 : decide (0 ≤ (q : Int) ∧ (q : Int) ≤ (k : Int) ∧ (k : Int) ≤ (l.length : Int)) = true := decide_eq_true (by omega)
          have d4 : decide ((q : Int) ≤ (k : Int) ∧ (k : Int) ≤ (l.length : Int)) = true := decide_eq_true (by omega)
          have hx := bs_extract l q k
          have ha : (l.take k).drop q = own := by rw [g2, List.drop_take]; congr 1; omega
          rw [ha] at hx
          have hol : own.length ≤ 100000 := by omega
          have e4 := ev_sSum own (by omega)
          have hsu := sumI_le own
          have w3 : IntKind.i64.wrap (sumI own) = sumI own := i64_in (by omega) (by omega)
          by_cases hc : ((beV c : Nat) : Int) = sumI own
          · have d5 : (((beV c : Nat) : Int) != sumI own) = false := by rw [hc]; exact bne_self_eq_false _
            have e3 := ev_sGetStep_no own (by omega) (no_rec hno t1 t2 t3 hc)
            clear hl hp hno t1 t2 t2' t3 t3' hm hq a1 a2 a3 a4 b1 b2 b3 b4 hva g1 g2 g3 g4 hk ha hol hsu hc
            repeat' (first | with_reducible refine br_split (fun _ => ?_) (fun _ => ?_) | simp only [*, push_cast, simprocAttr] | (rw [drawC_ok]; rotate_left; decide +kernel; exact cfg_mixed))
          · have d5 : (((beV c : Nat) : Int) != sumI own) = true := by simpa using hc
            clear hl hp hno t1 t2 t2' t3 t3' hm hq a1 a2 a3 a4 b1 b2 b3 b4 hva g1 g2 g3 g4 hk ha hol hsu hc
            repeat' (first | with_reducible refine br_split (fun _ => ?_) (fun _ => ?_) | simp only [*, push_cast, simprocAttr] | (rw [drawC_ok]; rotate_left; decide +kernel; exact cfg_mixed))
  repeat' (first | with_reducible refine br_split (fun _ => ?_) (fun _ => ?_) | simp only [*, push_cast, simprocAttr] | (rw [drawC_ok]; rotate_left; decide +kernel; exact cfg_mixed))
end Go.Av
end
section
namespace Go.Av
open Go.Proofs
set_option linter.unusedSimpArgs false
@[push_cast] theorem pre_sCs (n : Nat) (l : List ByteArray) : preEs n (l.map sC) = l.map sC := by
  induction l with
  | nil => rfl
  | cons x l ih => simp only [List.map_cons, preEs, ih]; rfl
def sZ (i : Nat) (x : Sp) : List T := [.i .i64 x.kind, .s x.name, .sl (.tok [i, 0, 0, 2]) (x.cols.map sC), .s x.query, .sl (.tok [i, 0, 0, 4]) (cnEs [i, 0, 0, 4] 0 (x.change.map rC))]
theorem sZ_nm (i : Nat) (x : Sp) : Nm [i] (tkCs (sZ i x)) := by
  have h := tk_cn (.sl .any (x.change.map rC)) [i, 0, 0, 4]
  have e : tkCs (sZ i x) = some [i, 0, 0, 2] :: tkT (T.cn [i, 0, 0, 4] (.sl .any (x.change.map rC))) := by
    simp [sZ, tkCs, tkT, T.cn, annTok, tk_sC]
  rw [e]
  refine ⟨fun y hy => ?_, List.nodup_cons.2 ⟨fun hm => ?_, h.nd⟩⟩
  · rcases List.mem_cons.1 hy with rfl | hy
    · exact ⟨_, rfl, ⟨_, rfl⟩⟩
    · obtain ⟨q, h1, h2⟩ := h.some y hy
      exact ⟨q, h1, (List.prefix_append [i] [0, 0, 4]).trans h2⟩
  · obtain ⟨q, h1, h2⟩ := h.some _ hm
    cases h1
    obtain ⟨u, hu⟩ := h2
    simp at hu
theorem er_sZ (l : List Sp) : annEs .any (l.mapIdx sZ) = l.map spC :=
  annEs_mapIdx (g := spC) (fun i x => by simp only [sZ, spC, annCs, T.ann, er_cnEs, er_rC, er_sC]) l
@[push_cast] theorem er_spC (l : List Sp) : annEs .any (l.map spC) = l.map spC := annEs_map (fun x => by simp only [spC, annCs, T.ann, er_rC, er_sC]) l
@[push_cast] theorem cn_sZ (l : List Sp) (p : Tok) (i : Nat) : cnEs p i (l.mapIdx sZ) = cnEs p i (l.map spC) := cnEs_same (by rw [er_sZ, er_spC])
theorem canOk_log (l : List Sp) (n : Nat) (hn : l.length ≤ n) (k : IntKind) (at' : Int) : canOk (.tup [.d (.sl (.tok [n]) (l.mapIdx sZ)), .d (.i k at')]) [] := by
  have h1 := tk_idx sZ l sZ_nm
  have h2 := NmI.lt sZ l sZ_nm
  have e : tkTV (.tup [.d (.sl (.tok [n]) (l.mapIdx sZ)), .d (.i k at')]) ++ tkO [] = some [n] :: tkEs (l.mapIdx sZ) := by
    simp [tkTV, tkL, tkT, annTok, tkO]
  refine ⟨⟨?_, ?_⟩, rfl, rfl, List.nodup_nil⟩
  · rw [e]
    intro hn
    rcases List.mem_cons.1 hn with hn | hn
    · cases hn
    obtain ⟨_, _, _, h3⟩ := h2 _ hn
    cases h3
  · rw [e]
    refine List.nodup_cons.2 ⟨fun hm => ?_, h1.nd⟩
    obtain ⟨k, r, h3, h4⟩ := h2 _ hm
    cases h4
    omega
theorem ev_ReadLog (l : List UInt8) (hl : l.length ≤ 100000) {xs : List Sp} {r : List UInt8} (h : LogD l xs r) :
    evF cfg 12 [] [.d (.s (bs l))] = some (.tup [.d (.sl (.tok [0, 0]) (cnEs [0, 0] 0 (xs.map spC))), .d (.i .i64 (posL xs xs.length : Nat))], []) := by
  have hz := bs_size l
  have H := Hd.mk (And.intro h hl)
  clear h hl
  have c0 : decide ((l.length : Int) > 100000) = false := decide_eq_false (by have := H.out.2; omega)
  (refine (evF_codeZ (C := cfg) (g := 12) (fn := Tryz.f12) rfl Tryz.func12 rfl (by rw [Tryz.ntmps12]; simp) (by kernel_rfl)).trans ?_; rw [Tryz.results12, Tryz.ntmps12])
  repeat' (first | with_reducible refine br_split (fun _ => ?_) (fun _ => ?_) | simp only [*, push_cast, simprocAttr] | (rw [drawC_ok]; rotate_left; decide +kernel; exact cfg_mixed))
  rw [show ({ t := [(4, .own 50), (5, .ptr 51 0)], o := [(50, .arr .any 5 []), (51, .box [.d (.s (bs l)), .d (.i .i64 0), .d (.b false)])], ks := [50, 51], n := 0, sz := 55, u := noU, g := some (0, false) } : St) = { t := [(4, .own 50), (5, .ptr 51 0)], o := [(50, .arr .any 5 ((xs.take 0).mapIdx sZ)), (51, .box [.d (.s (bs l)), .d (.i .i64 (posL xs 0 : Nat)), .d (.b false)])], ks := [50, 51], n := 0, sz := 55, u := noU, g := some (0, false) } from by rw [posL_zero]; rfl]
  rw [evM_for0 xs.length (fun i _ => { t := [(4, .own 50), (5, .ptr 51 0)], o := [(50, .arr .any 5 ((xs.take i).mapIdx sZ)), (51, .box [.d (.s (bs l)), .d (.i .i64 (posL xs i : Nat)), .d (.b false)])], ks := [50, 51], n := 0, sz := 55, u := noU, g := some (i, false) }) (fun i => some (.ret, { t := [(2, .own 50), (3, .d (.i .i64 (posL xs xs.length : Nat)))], o := [(50, .arr .any 5 (xs.mapIdx sZ))], ks := [50], n := 0, sz := 55, u := noU, g := some (xs.length + 1, false) })) ?step ?last]
  case step =>
    intro i hi ih
    obtain ⟨h, hl⟩ := H.out
    obtain ⟨hd, hp⟩ := h.drop (Nat.le_of_lt hi)
    have hR := recAt (own := psL xs[i]) (rest := (xs.drop (i + 1)).flatMap recS ++ r) (by rw [hd, flat_cons hi]) hp (by omega)
    have hok := h.ok _ (List.getElem_mem hi)
    have hs : (xs.take i).mapIdx sZ ++ [sZ i xs[i]] = (xs.take (i + 1)).mapIdx sZ := take_snocI sZ hi
    have hps := posL_succ hi
    have hxl : (xs.take i).length ≤ l.length := by
      rw [List.length_take]
      have := h.len
      omega
    have hml : ((xs.take i).mapIdx sZ).length = (xs.take i).length := by simp
    clear hd
    generalize xs[i] = x at *
    generalize posL xs i = p at *
    obtain ⟨kind, name, cols, query, change⟩ := x
    simp only [sZ] at hs
    obtain ⟨m, q, k, h0, h1, h2, h3, h7, h4, h5, h6⟩ := rec_facts hl hR
    have hv1 := hR.v1
    have hv2 := hR.v2
    have e1 := ev_size_some l (by omega) p 4 m hp h0 h7
    have e2 := ev_size_some l (by omega) m 4 q (by omega) h1 h4
    rw [beV_in (beB_len _ _) (by omega)] at e1 e2
    rw [hv1] at e1
    rw [hv2] at e2
    rw [show ((4 : Nat) : Int) = 4 from rfl] at e1 e2
    have e5 := ev_take_some l (by omega) q _ k (by omega) h2 h5
    have e3 := ev_GetStep_yes kind name cols query change hok (by omega)
    have e4 := ev_Sum (psL ⟨kind, name, cols, query, change⟩) (by omega)
    generalize psL ⟨kind, name, cols, query, change⟩ = own at *
    have hsu := sumI_le own
    have hpk : posL xs (i + 1) = k := by omega
    rw [hpk] at ih
    have w3 : IntKind.i64.wrap (sumI own) = sumI own := i64_in (by omega) (by omega)
    have c5 : (sumI own != sumI own) = false := bne_self_eq_false _
    have c6 := len_ok (n := (xs.take i).length + 1) 88 (by omega) (by omega)
    clear h hl hp hR hok hps hi h0 h7 h1 h2 h3 h4 h5 h6 hv1 hv2 hsu hpk hxl
    repeat' (first | with_reducible refine br_split (fun _ => ?_) (fun _ => ?_) | simp only [*, push_cast, simprocAttr] | (rw [drawC_ok]; rotate_left; decide +kernel; exact cfg_mixed))
  case last =>
    obtain ⟨h, hl⟩ := H.out
    obtain ⟨hd, hp⟩ := h.drop (Nat.le_refl _)
    rw [List.drop_length] at hd
    have hno : ∀ x r', OkS x → l.drop (posL xs xs.length) ≠ recS x ++ r' := by rw [hd]; exact h.no
    rw [List.take_length]
    clear hd h H
    generalize posL xs xs.length = p at *
    have e0 := ev_GetStep_no [] (by simp) (fun x hx he => by
      have h2 := congrArg List.length (he.trans (psL_eq hx))
      rw [List.length_append, beB_len, List.length_nil] at h2
      omega)
    rw [show bs [] = ⟨#[]⟩ from rfl] at e0
    cases t1 : takeP 4 (l.drop p) with
    | none =>
      have e1 := ev_size_none l (by omega) p 4 hp t1
      have e2 := ev_size_bad (bs l) p 4
      have e5 := ev_take_bad (bs l) p 0
      rw [show ((4 : Nat) : Int) = 4 from rfl] at e1
      clear hl hp hno t1
      repeat' (first | with_reducible refine br_split (fun _ => ?_) (fun _ => ?_) | simp only [*, push_cast, simprocAttr] | (rw [drawC_ok]; rotate_left; decide +kernel; exact cfg_mixed))
    | some ab =>
      obtain ⟨a, b⟩ := ab
      obtain ⟨m, hm⟩ : ∃ m, p + 4 = m := ⟨_, rfl⟩
      obtain ⟨a1, a2, a3, a4⟩ := takeP_at t1 hp
      have e1 := ev_size_some l (by omega) p 4 m hp hm t1
      rw [beV_in a4 (by omega), show ((4 : Nat) : Int) = 4 from rfl] at e1
      rw [hm] at a1 a3
      cases t2 : takeP 4 b with
      | none =>
        have e2 := ev_size_none l (by omega) m 4 a1 (by rw [← a3]; exact t2)
        have e5 := ev_take_bad (bs l) m (beV a : Nat)
        rw [show ((4 : Nat) : Int) = 4 from rfl] at e2
        clear hl hp hno t1 t2 hm a1 a2 a3 a4
        repeat' (first | with_reducible refine br_split (fun _ => ?_) (fun _ => ?_) | simp only [*, push_cast, simprocAttr] | (rw [drawC_ok]; rotate_left; decide +kernel; exact cfg_mixed))
      | some cd =>
        obtain ⟨c, d⟩ := cd
        obtain ⟨q, hq⟩ : ∃ q, m + 4 = q := ⟨_, rfl⟩
        have t2' := t2
        rw [a3] at t2'
        obtain ⟨b1, b2, b3, b4⟩ := takeP_at t2' a1
        have e2 := ev_size_some l (by omega) m 4 q a1 hq t2'
        rw [beV_in b4 (by omega), show ((4 : Nat) : Int) = 4 from rfl] at e2
        rw [hq] at b1 b3
        cases t3 : takeP (beV a) d with
        | none =>
          have e5 := ev_take_none l (by omega) q (beV a) b1 (by rw [← b3]; exact t3)
          clear hl hp hno t1 t2 t2' t3 hm hq a1 a2 a3 a4 b1 b2 b3 b4
          repeat' (first | with_reducible refine br_split (fun _ => ?_) (fun _ => ?_) | simp only [*, push_cast, simprocAttr] | (rw [drawC_ok]; rotate_left; decide +kernel; exact cfg_mixed))
        | some oe =>
          obtain ⟨own, e⟩ := oe
          have t3' := t3
          rw [b3] at t3'
          obtain ⟨g1, g2, g3, g4⟩ := takeP_at t3' b1
          obtain ⟨k, hk⟩ : ∃ k, q + beV a = k := ⟨_, rfl⟩
          have e5 := ev_take_some l (by omega) q (beV a) k b1 hk t3'
          have e4 := ev_Sum own (by omega)
          have hsu := sumI_le own
          have w3 : IntKind.i64.wrap (sumI own) = sumI own := i64_in (by omega) (by omega)
          by_cases hx : ∃ x, OkS x ∧ own = psL x
          · obtain ⟨⟨kind, name, cols, query, change⟩, hx, rfl⟩ := hx
            have d5 : (((beV c : Nat) : Int) != sumI (psL ⟨kind, name, cols, query, change⟩)) = true := by
              have : ¬ ((beV c : Nat) : Int) = sumI (psL ⟨kind, name, cols, query, change⟩) := fun hc => no_rec hno t1 t2 t3 hc _ hx rfl
              simpa using this
            have e3 := ev_GetStep_yes kind name cols query change hx (by omega)
            clear hl hp hno t1 t2 t2' t3 t3' hm hq a1 a2 a3 a4 b1 b2 b3 b4 g1 g2 g3 g4 hk hsu hx e0
            repeat' (first | with_reducible refine br_split (fun _ => ?_) (fun _ => ?_) | simp only [*, push_cast, simprocAttr] | (rw [drawC_ok]; rotate_left; decide +kernel; exact cfg_mixed))
          · have e3 := ev_GetStep_no own (by omega) (fun x h1 h2 => hx ⟨x, h1, h2⟩)
            clear hl hp hno t1 t2 t2' t3 t3' hm hq a1 a2 a3 a4 b1 b2 b3 b4 g1 g2 g3 g4 hk hsu hx e0
            repeat' (first | with_reducible refine br_split (fun _ => ?_) (fun _ => ?_) | simp only [*, push_cast, simprocAttr] | (rw [drawC_ok]; rotate_left; decide +kernel; exact cfg_mixed))
  have hcan := canOk_log xs (xs.length + 1) (by omega) .i64 (posL xs xs.length : Nat)
  clear H
  repeat' (first | with_reducible refine br_split (fun _ => ?_) (fun _ => ?_) | simp only [*, push_cast, simprocAttr] | (rw [drawC_ok]; rotate_left; decide +kernel; exact cfg_mixed))
end Go.Av
end
