/- Texts that the last one goes by: G7, G12, G13, G15, G14a, G16, P1, G17, G18, P2, B1, PV, B2, B3, B4, B5. -/
import Derived.Test.YtnbdlncbfjkpcaaGreatAvA5
import Derived.Test.YtnbdlncbfjkpcaaGreatAvA4
set_option linter.all false
set_option linter.unusedVariables false
set_option linter.unusedSimpArgs false
section
namespace Go.Av
open Go.Proofs
set_option linter.unusedSimpArgs false
theorem ev_BagOk (w : Int) (rows : List C) (hl : rows.length ≤ 140737488355328) (hr : ∀ c ∈ rows, c.row.length ≤ 1099511627776) : evF cfg 63 [] [.agg [.d (.i .i64 w), .d (.sl .any (rows.map cC))]] = some (.d (.b (bagOk ⟨w, rows⟩)), []) := by
  cases hw0 : (decide (0 ≤ w) && decide (w ≤ 12)) with
  | false =>
    (refine (evF_code (C := cfg) (g := 63) (fn := Tryz.f63) rfl Tryz.func63 rfl (by rw [Tryz.ntmps63]; simp) (by kernel_rfl) (by first | decide | simp [keysOf])).trans ?_; rw [Tryz.results63, Tryz.ntmps63])
    repeat' (first | with_reducible refine br_split (fun _ => ?_) (fun _ => ?_) | simp only [*, push_cast, simprocAttr] | (rw [drawC_ok]; rotate_left; decide +kernel; exact cfg_mixed))
    simp [bagOk, hw0]
  | true =>
  cases hl0 : decide ((rows.length : Int) > 400) with
  | true =>
    (refine (evF_code (C := cfg) (g := 63) (fn := Tryz.f63) rfl Tryz.func63 rfl (by rw [Tryz.ntmps63]; simp) (by kernel_rfl) (by first | decide | simp [keysOf])).trans ?_; rw [Tryz.results63, Tryz.ntmps63])
    repeat' (first | with_reducible refine br_split (fun _ => ?_) (fun _ => ?_) | simp only [*, push_cast, simprocAttr] | (rw [drawC_ok]; rotate_left; decide +kernel; exact cfg_mixed))
    simp only [bagOk, hw0, hl0]
    rfl
  | false =>
  (refine (evF_code (C := cfg) (g := 63) (fn := Tryz.f63) rfl Tryz.func63 rfl (by rw [Tryz.ntmps63]; simp) (by kernel_rfl) (by first | decide | simp [keysOf])).trans ?_; rw [Tryz.results63, Tryz.ntmps63])
  repeat' (first | with_reducible refine br_split (fun _ => ?_) (fun _ => ?_) | simp only [*, push_cast, simprocAttr] | (rw [drawC_ok]; rotate_left; decide +kernel; exact cfg_mixed))
  rw [evM_for0 rows.length (fun i j => { t := [(1, .ptr 50 0), (16, .d (.sl .any (rows.map cC))), (17, .d (.i .i64 rows.length)), (18, .d (.i .i64 j))], o := [(50, .box [.d (.i .i64 w), .d (.sl .any (rows.map cC))])], ks := [50], n := 0, sz := 58, u := noU })
    (fun i => br (okRest w (prevAt rows i) (rows.drop i)) (some (.exit 0, { t := [], o := [], ks := [], n := 0, sz := 58, u := noU })) (some (.ret, { t := [(2, .d (.b false))], o := [], ks := [], n := 0, sz := 58, u := noU })) ⟨⟩) ?step ?last]
  case step =>
    intro i hi ih
    have hc : (rows.map cC)[i]? = some [.sl .any (rows[i].row.map vC), .i .i64 rows[i].n] := get_map cC rows i hi
    have hd := dec_lt hi
    have hw : IntKind.i64.wrap ((i : Int) + 1) = (i : Int) + 1 := i64_in (by omega) (by omega)
    have h1 := ev_isRow rows[i].row w (hr _ (List.getElem_mem hi))
    rw [okRest_at hi, okC]
    by_cases h0 : i = 0
    · have hp : decide ((i : Int) > 0) = false := decide_eq_false (by omega)
      have h3 : okPrev rows[i] (prevAt rows i) = true := by subst h0; rfl
      rw [h3]
      clear h3 h0
      repeat' (first | with_reducible refine br_split (fun _ => ?_) (fun _ => ?_) | simp only [*, push_cast, simprocAttr] | (rw [drawC_ok]; rotate_left; decide +kernel; exact cfg_mixed))
    · obtain ⟨k, hk⟩ : ∃ k, i = k + 1 := ⟨i - 1, by omega⟩
      have hkl : k < rows.length := by omega
      have hc2 : (rows.map cC)[k]? = some [.sl .any (rows[k].row.map vC), .i .i64 rows[k].n] := get_map cC rows k hkl
      have hp : decide ((i : Int) > 0) = true := decide_eq_true (by omega)
      have hw2 : IntKind.i64.wrap ((i : Int) - 1) = (k : Int) := by rw [i64_in (by omega) (by omega)]; omega
      have h2 := ev_CompareRow rows[k].row rows[i].row (hr _ (List.getElem_mem hkl))
      have h3 : okPrev rows[i] (prevAt rows i) = !(decide (cmpRow rows[k].row rows[i].row ≥ 0)) := by subst hk; simp [prevAt, hkl, okPrev]
      rw [h3]
      clear h3 hk h0
      repeat' (first | with_reducible refine br_split (fun _ => ?_) (fun _ => ?_) | simp only [*, push_cast, simprocAttr] | (rw [drawC_ok]; rotate_left; decide +kernel; exact cfg_mixed))
  case last =>
    rw [List.drop_length, okRest]
    repeat' (first | with_reducible refine br_split (fun _ => ?_) (fun _ => ?_) | simp only [*, push_cast, simprocAttr] | (rw [drawC_ok]; rotate_left; decide +kernel; exact cfg_mixed))
  · rw [List.drop_zero]
    have : prevAt rows 0 = none := rfl
    rw [this]
    have hb : bagOk ⟨w, rows⟩ = okRest w none rows := by simp only [bagOk, hw0, hl0, okRows, Bool.not_false, Bool.true_and]
    rw [hb]
    cases h : okRest w none rows <;> repeat' (first | with_reducible refine br_split (fun _ => ?_) (fun _ => ?_) | simp only [*, push_cast, simprocAttr] | (rw [drawC_ok]; rotate_left; decide +kernel; exact cfg_mixed))
theorem ev_sBagOk (w : Int) (rows : List C) (hl : rows.length ≤ 140737488355328) (hr : ∀ c ∈ rows, c.row.length ≤ 1099511627776) : evF cfg 66 [] [.agg [.d (.i .i64 w), .d (.sl .any (rows.map cC))]] = some (.d (.b (bagOk ⟨w, rows⟩)), []) := by
  (refine (evF_code (C := cfg) (g := 66) (fn := Tryz.f66) rfl Tryz.func66 rfl (by rw [Tryz.ntmps66]; simp) (by kernel_rfl) (by first | decide | simp [keysOf])).trans ?_; rw [Tryz.results66, Tryz.ntmps66])
  repeat' (first | with_reducible refine br_split (fun _ => ?_) (fun _ => ?_) | simp only [*, push_cast, simprocAttr] | (rw [drawC_ok]; rotate_left; decide +kernel; exact cfg_mixed))
  rw [evM_for0 rows.length (fun i j => { t := [(1, .ptr 50 0), (3, .d (.i .i64 j))], o := [(50, .box [.d (.i .i64 w), .d (.sl .any (rows.map cC))])], ks := [50], n := 0, sz := 60, u := noU })
    (fun i => br (okRest w (prevAt rows i) (rows.drop i)) (some (.exit 0, { t := [(1, .ptr 50 0)], o := [(50, .box [.d (.i .i64 w), .d (.sl .any (rows.map cC))])], ks := [50], n := 0, sz := 60, u := noU })) (some (.ret, { t := [(2, .d (.b false))], o := [], ks := [], n := 0, sz := 60, u := noU })) ⟨⟩) ?step ?last]
  case step =>
    intro i hi ih
    have hc : (rows.map cC)[i]? = some [.sl .any (rows[i].row.map vC), .i .i64 rows[i].n] := get_map cC rows i hi
    have hd := dec_lt hi
    have hw : IntKind.i64.wrap ((i : Int) + 1) = (i : Int) + 1 := i64_in (by omega) (by omega)
    have h1 := ev_l02Row rows[i].row w (hr _ (List.getElem_mem hi))
    rw [okRest_at hi, okC]
    by_cases h0 : i = 0
    · have hp : decide ((i : Int) > 0) = false := decide_eq_false (by omega)
      have h3 : okPrev rows[i] (prevAt rows i) = true := by subst h0; rfl
      rw [h3]
      clear h3 h0
      repeat' (first | with_reducible refine br_split (fun _ => ?_) (fun _ => ?_) | simp only [*, push_cast, simprocAttr] | (rw [drawC_ok]; rotate_left; decide +kernel; exact cfg_mixed))
    · obtain ⟨k, hk⟩ : ∃ k, i = k + 1 := ⟨i - 1, by omega⟩
      have hkl : k < rows.length := by omega
      have hc2 : (rows.map cC)[k]? = some [.sl .any (rows[k].row.map vC), .i .i64 rows[k].n] := get_map cC rows k hkl
      have hp : decide ((i : Int) > 0) = true := decide_eq_true (by omega)
      have hw2 : IntKind.i64.wrap ((i : Int) - 1) = (k : Int) := by rw [i64_in (by omega) (by omega)]; omega
      have h2 := ev_sCompareRow rows[k].row rows[i].row (hr _ (List.getElem_mem hkl))
      have h3 : okPrev rows[i] (prevAt rows i) = !(decide (cmpRow rows[k].row rows[i].row ≥ 0)) := by subst hk; simp [prevAt, hkl, okPrev]
      rw [h3]
      clear h3 hk h0
      repeat' (first | with_reducible refine br_split (fun _ => ?_) (fun _ => ?_) | simp only [*, push_cast, simprocAttr] | (rw [drawC_ok]; rotate_left; decide +kernel; exact cfg_mixed))
  case last =>
    rw [List.drop_length, okRest]
    repeat' (first | with_reducible refine br_split (fun _ => ?_) (fun _ => ?_) | simp only [*, push_cast, simprocAttr] | (rw [drawC_ok]; rotate_left; decide +kernel; exact cfg_mixed))
  · rw [List.drop_zero]
    have : prevAt rows 0 = none := rfl
    rw [this]
    cases h : okRest w none rows with
    | false =>
      have hb : bagOk ⟨w, rows⟩ = false := by simp [bagOk, okRows, h]
      repeat' (first | with_reducible refine br_split (fun _ => ?_) (fun _ => ?_) | simp only [*, push_cast, simprocAttr] | (rw [drawC_ok]; rotate_left; decide +kernel; exact cfg_mixed))
    | true =>
      have hb : bagOk ⟨w, rows⟩ = ((decide (0 ≤ w) && decide (w ≤ 12)) && decide ((rows.length : Int) ≤ 400)) := by simp only [bagOk, okRows, h, Bool.and_true]; congr 1; by_cases hx : (rows.length : Int) > 400 <;> simp [hx] <;> omega
      rw [hb]
      cases hw0 : (decide (0 ≤ w) && decide (w ≤ 12)) <;> repeat' (first | with_reducible refine br_split (fun _ => ?_) (fun _ => ?_) | simp only [*, push_cast, simprocAttr] | (rw [drawC_ok]; rotate_left; decide +kernel; exact cfg_mixed))
end Go.Av
end
section
namespace Go.Av
open Go.Proofs
set_option linter.unusedSimpArgs false
def smB (b : UInt8) : Bool := decide (97 ≤ (b.toNat : Int)) && decide ((b.toNat : Int) ≤ 122)
def dgB (b : UInt8) : Bool := decide (48 ≤ (b.toNat : Int)) && decide ((b.toNat : Int) ≤ 57)
@[push_cast] theorem ev_isSmall (b : UInt8) : evF cfg 86 [] [.d (.i .u8 b.toNat)] = some (.d (.b (smB b)), []) := by
  (refine (evF_code (C := cfg) (g := 86) (fn := Tryz.f86) rfl Tryz.func86 rfl (by rw [Tryz.ntmps86]; simp) (by kernel_rfl) (by first | decide | simp [keysOf])).trans ?_; rw [Tryz.results86, Tryz.ntmps86])
  repeat' (first | with_reducible refine br_split (fun _ => ?_) (fun _ => ?_) | simp only [*, push_cast, simprocAttr] | (rw [drawC_ok]; rotate_left; decide +kernel; exact cfg_mixed))
  all_goals simp_all [smB]
  all_goals omega
@[push_cast] theorem ev_isDigit (b : UInt8) : evF cfg 89 [] [.d (.i .u8 b.toNat)] = some (.d (.b (dgB b)), []) := by
  (refine (evF_code (C := cfg) (g := 89) (fn := Tryz.f89) rfl Tryz.func89 rfl (by rw [Tryz.ntmps89]; simp) (by kernel_rfl) (by first | decide | simp [keysOf])).trans ?_; rw [Tryz.results89, Tryz.ntmps89])
  repeat' (first | with_reducible refine br_split (fun _ => ?_) (fun _ => ?_) | simp only [*, push_cast, simprocAttr] | (rw [drawC_ok]; rotate_left; decide +kernel; exact cfg_mixed))
  all_goals simp_all [dgB]
  all_goals omega
@[push_cast] theorem ev_NameOk1 (b : UInt8) : evF cfg 88 [] [.d (.i .u8 b.toNat)] = some (.d (.b (smB b || dgB b)), []) := by
  (refine (evF_code (C := cfg) (g := 88) (fn := Tryz.f88) rfl Tryz.func88 rfl (by rw [Tryz.ntmps88]; simp) (by kernel_rfl) (by first | decide | simp [keysOf])).trans ?_; rw [Tryz.results88, Tryz.ntmps88])
  repeat' (first | with_reducible refine br_split (fun _ => ?_) (fun _ => ?_) | simp only [*, push_cast, simprocAttr] | (rw [drawC_ok]; rotate_left; decide +kernel; exact cfg_mixed))
  all_goals simp_all
def nmB (b : UInt8) : Bool := smB b || dgB b
def nameOk (s : ByteArray) : Bool := (decide (1 ≤ (s.size : Int)) && decide ((s.size : Int) ≤ 10)) && (smB (s.data.toList.headD 0) && s.data.toList.all nmB)
theorem ba_get (s : ByteArray) (i : Nat) : s[i]? = s.data.toList[i]? := by
  by_cases h : i < s.size
  · rw [getElem?_pos s i h, List.getElem?_eq_getElem (by simpa using h)]
    rfl
  · rw [getElem?_neg s i h, List.getElem?_eq_none (by simpa using h)]
theorem ev_NameOk (s : ByteArray) : evF cfg 56 [] [.d (.s s)] = some (.d (.b (nameOk s)), []) := by
  unfold nameOk
  cases hr : (decide (1 ≤ (s.size : Int)) && decide ((s.size : Int) ≤ 10)) with
  | false =>
    (refine (evF_code (C := cfg) (g := 56) (fn := Tryz.f56) rfl Tryz.func56 rfl (by rw [Tryz.ntmps56]; simp) (by kernel_rfl) (by first | decide | simp [keysOf])).trans ?_; rw [Tryz.results56, Tryz.ntmps56])
    repeat' (first | with_reducible refine br_split (fun _ => ?_) (fun _ => ?_) | simp only [*, push_cast, simprocAttr] | (rw [drawC_ok]; rotate_left; decide +kernel; exact cfg_mixed))
  | true =>
    have hsz : 1 ≤ s.size ∧ s.size ≤ 10 := by simp at hr; omega
    have h0 : s[0]? = some (s.data.toList.headD 0) := by
      rw [ba_get]
      have : s.data.toList.length = s.size := by simp
      revert this
      cases s.data.toList with
      | nil => intro h; simp at h; omega
      | cons a l => intro _; rfl
    have ha := ev_areAllbyte_0 (h := 88) (p := nmB) s.data.toList (by simp; omega) (by rfl) (by rfl) (by rfl) (fun x _ => ev_NameOk1 x)
    have hbt : bytesT s = s.data.toList.map byC := rfl
    cases hs : smB (s.data.toList.headD 0) with
    | false =>
      (refine (evF_code (C := cfg) (g := 56) (fn := Tryz.f56) rfl Tryz.func56 rfl (by rw [Tryz.ntmps56]; simp) (by kernel_rfl) (by first | decide | simp [keysOf])).trans ?_; rw [Tryz.results56, Tryz.ntmps56])
      repeat' (first | with_reducible refine br_split (fun _ => ?_) (fun _ => ?_) | simp only [*, push_cast, simprocAttr] | (rw [drawC_ok]; rotate_left; decide +kernel; exact cfg_mixed))
    | true =>
      (refine (evF_code (C := cfg) (g := 56) (fn := Tryz.f56) rfl Tryz.func56 rfl (by rw [Tryz.ntmps56]; simp) (by kernel_rfl) (by first | decide | simp [keysOf])).trans ?_; rw [Tryz.results56, Tryz.ntmps56])
      repeat' (first | with_reducible refine br_split (fun _ => ?_) (fun _ => ?_) | simp only [*, push_cast, simprocAttr] | (rw [drawC_ok]; rotate_left; decide +kernel; exact cfg_mixed))
theorem nm_sm {b : UInt8} (h : smB b = true) : nmB b = true := by simp [nmB, h]
theorem smB_def (b : UInt8) : (decide (97 ≤ (b.toNat : Int)) && decide ((b.toNat : Int) ≤ 122)) = smB b := rfl
theorem dgB_def (b : UInt8) : (decide (48 ≤ (b.toNat : Int)) && decide ((b.toNat : Int) ≤ 57)) = dgB b := rfl
theorem ev_sNameOk (s : ByteArray) (hsz : s.size ≤ 1099511627776) : evF cfg 65 [] [.d (.s s)] = some (.d (.b (nameOk s)), []) := by
  have hq : nameOk s = ((decide (1 ≤ (s.size : Int)) && decide ((s.size : Int) ≤ 10)) && (smB (s.data.toList.headD 0) && s.data.toList.all nmB)) := rfl
  have hg0 := ba_get s
  have hlen : s.data.toList.length = s.size := by simp
  rw [hq]
  clear hq
  generalize hL : s.data.toList = l at *
  clear hL
  (refine (evF_code (C := cfg) (g := 65) (fn := Tryz.f65) rfl Tryz.func65 rfl (by rw [Tryz.ntmps65]; simp) (by kernel_rfl) (by first | decide | simp [keysOf])).trans ?_; rw [Tryz.results65, Tryz.ntmps65])
  repeat' (first | with_reducible refine br_split (fun _ => ?_) (fun _ => ?_) | simp only [*, push_cast, simprocAttr] | (rw [drawC_ok]; rotate_left; decide +kernel; exact cfg_mixed))
  rw [evM_for0 s.size (fun i j => { t := [(0, .d (.s s)), (3, .d (.i .i64 j))], o := [], ks := [], n := 0, sz := 31, u := noU })
    (fun i => br ((l.drop i).all nmB && (decide (0 < i) || smB (l.headD 0) || decide (l.length = 0))) (some (.exit 0, { t := [(0, .d (.s s))], o := [], ks := [], n := 0, sz := 31, u := noU })) (some (.ret, { t := [(2, .d (.b false))], o := [], ks := [], n := 0, sz := 31, u := noU })) ⟨⟩) ?step ?last]
  case step =>
    intro i hi ih
    have hd := dec_lt hi
    have hg : s[i]? = some l[i] := by rw [hg0, List.getElem?_eq_getElem (by omega)]
    have hw := wrap_succ (i := i) (by omega)
    have hcw : IntKind.i64.wrap (l[i].toNat : Int) = (l[i].toNat : Int) := i64_in (by omega) (by have := l[i].toNat_lt; omega)
    have h97 := smB_def l[i]
    have h48 := dgB_def l[i]
    have hdr : (l.drop i).all nmB = (nmB l[i] && (l.drop (i + 1)).all nmB) := by rw [List.drop_eq_getElem_cons (by omega), List.all_cons]
    have hlast : decide (0 < i + 1) = true := by simp
    have hne : decide (l.length = 0) = false := decide_eq_false (by omega)
    rw [hlast, Bool.true_or, Bool.true_or, Bool.and_true] at ih
    rw [hdr, hne, Bool.or_false]
    clear hdr hlast hne hg0
    cases hs : smB l[i] with
    | true =>
      have hn := nm_sm hs
      by_cases h0 : i = 0
      · have hi0 : (((i : Nat) : Int) == 0) = true := by simp [h0]
        have hh : l.headD 0 = l[i] := by subst h0; cases l with
          | nil => simp at hlen; omega
          | cons a b => rfl
        rw [hn, hh, hs, Bool.true_and, Bool.or_true, Bool.and_true]
        clear hh h0
        repeat' (first | with_reducible refine br_split (fun _ => ?_) (fun _ => ?_) | simp only [*, push_cast, simprocAttr] | (rw [drawC_ok]; rotate_left; decide +kernel; exact cfg_mixed))
      · have hp : decide (0 < i) = true := decide_eq_true (by omega)
        rw [hn, hp, Bool.true_and, Bool.true_or, Bool.and_true]
        repeat' (first | with_reducible refine br_split (fun _ => ?_) (fun _ => ?_) | simp only [*, push_cast, simprocAttr] | (rw [drawC_ok]; rotate_left; decide +kernel; exact cfg_mixed))
    | false =>
      have hn : nmB l[i] = dgB l[i] := by simp [nmB, hs]
      by_cases h0 : i = 0
      · have hi0 : (((i : Nat) : Int) == 0) = true := by simp [h0]
        have hh : l.headD 0 = l[i] := by subst h0; cases l with
          | nil => simp at hlen; omega
          | cons a b => rfl
        have hz : decide (0 < i) = false := by simp [h0]
        rw [hh, hs, hz, Bool.or_false, Bool.and_false]
        clear hh hz hn h0
        repeat' (first | with_reducible refine br_split (fun _ => ?_) (fun _ => ?_) | simp only [*, push_cast, simprocAttr] | (rw [drawC_ok]; rotate_left; decide +kernel; exact cfg_mixed))
      · have hp : decide (0 < i) = true := decide_eq_true (by omega)
        have hi0 : (((i : Nat) : Int) == 0) = false := by simp [h0]
        rw [hp, Bool.true_or, Bool.and_true, hn]
        cases hdg : dgB l[i] with
        | true =>
          rw [Bool.true_and]
          repeat' (first | with_reducible refine br_split (fun _ => ?_) (fun _ => ?_) | simp only [*, push_cast, simprocAttr] | (rw [drawC_ok]; rotate_left; decide +kernel; exact cfg_mixed))
        | false =>
          rw [Bool.false_and]
          repeat' (first | with_reducible refine br_split (fun _ => ?_) (fun _ => ?_) | simp only [*, push_cast, simprocAttr] | (rw [drawC_ok]; rotate_left; decide +kernel; exact cfg_mixed))
  case last =>
    have h1 : (l.drop s.size).all nmB = true := by rw [← hlen]; simp
    have h2 : (decide (0 < s.size) || smB (l.headD 0) || decide (l.length = 0)) = true := by
      rw [hlen]
      by_cases h : s.size = 0
      · simp [h]
      · simp [Nat.pos_of_ne_zero h]
    rw [h1, h2]
    repeat' (first | with_reducible refine br_split (fun _ => ?_) (fun _ => ?_) | simp only [*, push_cast, simprocAttr] | (rw [drawC_ok]; rotate_left; decide +kernel; exact cfg_mixed))
  · rw [List.drop_zero]
    have hz : decide ((0 : Nat) < 0) = false := rfl
    rw [hz, Bool.false_or]
    by_cases hl0 : l.length = 0
    · have h1 : decide (1 ≤ (s.size : Int)) = false := decide_eq_false (by omega)
      have : l = [] := List.eq_nil_of_length_eq_zero hl0
      subst this
      simp only [h1, List.length_nil, decide_true, Bool.or_true, Bool.and_true, List.all_nil, Bool.false_and]
      rw [br]
      repeat' (first | with_reducible refine br_split (fun _ => ?_) (fun _ => ?_) | simp only [*, push_cast, simprocAttr] | (rw [drawC_ok]; rotate_left; decide +kernel; exact cfg_mixed))
    · have h1 : decide (l.length = 0) = false := decide_eq_false hl0
      rw [h1, Bool.or_false, Bool.and_comm (smB _)]
      cases hx : (l.all nmB && smB (l.headD 0)) with
      | true =>
        rw [Bool.and_true]
        repeat' (first | with_reducible refine br_split (fun _ => ?_) (fun _ => ?_) | simp only [*, push_cast, simprocAttr] | (rw [drawC_ok]; rotate_left; decide +kernel; exact cfg_mixed))
      | false =>
        rw [Bool.and_false]
        repeat' (first | with_reducible refine br_split (fun _ => ?_) (fun _ => ?_) | simp only [*, push_cast, simprocAttr] | (rw [drawC_ok]; rotate_left; decide +kernel; exact cfg_mixed))
end Go.Av
end
section
namespace Go.Av
open Go.Proofs
set_option linter.unusedSimpArgs false
def risFrom : Option ByteArray → List ByteArray → Bool
  | _, [] => true
  | none, a :: l => nameOk a && risFrom (some a) l
  | some p, a :: l => (nameOk a && Op.bytesLess p.toList a.toList) && risFrom (some a) l
def rising (l : List ByteArray) : Bool := risFrom none l
def prevOf (l : List ByteArray) (i : Nat) : Option ByteArray := if i = 0 then none else l[i - 1]?
theorem ev_isRising (l : List ByteArray) (hl : l.length ≤ 1099511627776) : evF cfg 59 [] [.d (.sl .any (l.map sC))] = some (.d (.b (rising l)), []) := by
  (refine (evF_code (C := cfg) (g := 59) (fn := Tryz.f59) rfl Tryz.func59 rfl (by rw [Tryz.ntmps59]; simp) (by kernel_rfl) (by first | decide | simp [keysOf])).trans ?_; rw [Tryz.results59, Tryz.ntmps59])
  repeat' (first | with_reducible refine br_split (fun _ => ?_) (fun _ => ?_) | simp only [*, push_cast, simprocAttr] | (rw [drawC_ok]; rotate_left; decide +kernel; exact cfg_mixed))
  rw [evM_for0 l.length (fun i j => { t := [(0, .d (.sl .any (l.map sC))), (5, .d (.sl .any (l.map sC))), (6, .d (.i .i64 l.length)), (7, .d (.i .i64 j))], o := [], ks := [], n := 0, sz := 29, u := noU })
    (fun i => br (risFrom (prevOf l i) (l.drop i)) (some (.exit 0, { t := [], o := [], ks := [], n := 0, sz := 29, u := noU })) (some (.ret, { t := [(2, .d (.b false))], o := [], ks := [], n := 0, sz := 29, u := noU })) ⟨⟩) ?step ?last]
  case step =>
    intro i hi ih
    have hc : (l.map sC)[i]? = some [.s l[i]] := get_map sC l i hi
    have hd := dec_lt hi
    have hw := wrap_succ (i := i) (by omega)
    have hn := ev_NameOk l[i]
    have hdr : l.drop i = l[i] :: l.drop (i + 1) := List.drop_eq_getElem_cons hi
    have hnx : prevOf l (i + 1) = some l[i] := by simp [prevOf, hi]
    rw [hnx] at ih
    rw [hdr]
    clear hnx hdr
    by_cases h0 : i = 0
    · have hp : prevOf l i = none := by simp [prevOf, h0]
      have hg : decide ((i : Int) > 0) = false := decide_eq_false (by omega)
      rw [hp, risFrom]
      clear hp h0
      cases hno : nameOk l[i] with
      | false =>
        rw [Bool.false_and]
        repeat' (first | with_reducible refine br_split (fun _ => ?_) (fun _ => ?_) | simp only [*, push_cast, simprocAttr] | (rw [drawC_ok]; rotate_left; decide +kernel; exact cfg_mixed))
      | true =>
        rw [Bool.true_and]
        repeat' (first | with_reducible refine br_split (fun _ => ?_) (fun _ => ?_) | simp only [*, push_cast, simprocAttr] | (rw [drawC_ok]; rotate_left; decide +kernel; exact cfg_mixed))
    · obtain ⟨k, hk⟩ : ∃ k, k = i - 1 := ⟨_, rfl⟩
      have hki : k < l.length := by omega
      have hp : prevOf l i = some l[k] := by simp [prevOf, h0, hk, List.getElem?_eq_getElem (by omega : i - 1 < l.length)]
      have hg : decide ((i : Int) > 0) = true := decide_eq_true (by omega)
      have hwk : IntKind.i64.wrap ((i : Int) - 1) = (k : Int) := by rw [i64_in (by omega) (by omega)]; omega
      have hck : (l.map sC)[k]? = some [.s l[k]] := get_map sC l k hki
      have hdk := dec_lt hki
      rw [hp, risFrom]
      clear hp h0 hk
      cases hno : nameOk l[i] with
      | false =>
        rw [Bool.false_and, Bool.false_and]
        repeat' (first | with_reducible refine br_split (fun _ => ?_) (fun _ => ?_) | simp only [*, push_cast, simprocAttr] | (rw [drawC_ok]; rotate_left; decide +kernel; exact cfg_mixed))
      | true =>
        rw [Bool.true_and]
        cases hls : Op.bytesLess l[k].toList l[i].toList with
        | false =>
          rw [Bool.false_and]
          repeat' (first | with_reducible refine br_split (fun _ => ?_) (fun _ => ?_) | simp only [*, push_cast, simprocAttr] | (rw [drawC_ok]; rotate_left; decide +kernel; exact cfg_mixed))
        | true =>
          rw [Bool.true_and]
          repeat' (first | with_reducible refine br_split (fun _ => ?_) (fun _ => ?_) | simp only [*, push_cast, simprocAttr] | (rw [drawC_ok]; rotate_left; decide +kernel; exact cfg_mixed))
  case last =>
    have h1 : risFrom (prevOf l l.length) (l.drop l.length) = true := by
      rw [List.drop_length]
      unfold risFrom
      rfl
    rw [h1]
    repeat' (first | with_reducible refine br_split (fun _ => ?_) (fun _ => ?_) | simp only [*, push_cast, simprocAttr] | (rw [drawC_ok]; rotate_left; decide +kernel; exact cfg_mixed))
  · have h1 : risFrom (prevOf l 0) (l.drop 0) = rising l := by simp [prevOf, rising]
    rw [h1]
    repeat' (first | with_reducible refine br_split (fun _ => ?_) (fun _ => ?_) | simp only [*, push_cast, simprocAttr] | (rw [drawC_ok]; rotate_left; decide +kernel; exact cfg_mixed))
def hasS (l : List ByteArray) (s : ByteArray) : Bool := l.any fun x => decide (x = s)
theorem ev_l03Has (l : List ByteArray) (s : ByteArray) (hl : l.length ≤ 1099511627776) : evF cfg 96 [] [.d (.sl .any (l.map sC)), .d (.s s)] = some (.d (.b (hasS l s)), []) := by
  (refine (evF_code (C := cfg) (g := 96) (fn := Tryz.f96) rfl Tryz.func96 rfl (by rw [Tryz.ntmps96]; simp) (by kernel_rfl) (by first | decide | simp [keysOf])).trans ?_; rw [Tryz.results96, Tryz.ntmps96])
  repeat' (first | with_reducible refine br_split (fun _ => ?_) (fun _ => ?_) | simp only [*, push_cast, simprocAttr] | (rw [drawC_ok]; rotate_left; decide +kernel; exact cfg_mixed))
  rw [evM_for0 l.length (fun i j => { t := [(0, .d (.sl .any (l.map sC))), (1, .d (.s s)), (5, .d (.i .i64 j))], o := [], ks := [], n := 0, sz := 18, u := noU })
    (fun i => br (hasS (l.drop i) s) (some (.ret, { t := [(4, .d (.b true))], o := [], ks := [], n := 0, sz := 18, u := noU })) (some (.exit 0, { t := [], o := [], ks := [], n := 0, sz := 18, u := noU })) ⟨⟩) ?step ?last]
  case step =>
    intro i hi ih
    have hc : (l.map sC)[i]? = some [.s l[i]] := get_map sC l i hi
    have hd := dec_lt hi
    have hw := wrap_succ (i := i) (by omega)
    have hdr : hasS (l.drop i) s = (decide (l[i] = s) || hasS (l.drop (i + 1)) s) := by unfold hasS; rw [List.drop_eq_getElem_cons hi, List.any_cons]
    rw [hdr]
    clear hdr
    cases he : decide (l[i] = s) with
    | true =>
      rw [Bool.true_or]
      repeat' (first | with_reducible refine br_split (fun _ => ?_) (fun _ => ?_) | simp only [*, push_cast, simprocAttr] | (rw [drawC_ok]; rotate_left; decide +kernel; exact cfg_mixed))
    | false =>
      rw [Bool.false_or]
      repeat' (first | with_reducible refine br_split (fun _ => ?_) (fun _ => ?_) | simp only [*, push_cast, simprocAttr] | (rw [drawC_ok]; rotate_left; decide +kernel; exact cfg_mixed))
  case last =>
    rw [List.drop_length]
    have : hasS [] s = false := rfl
    repeat' (first | with_reducible refine br_split (fun _ => ?_) (fun _ => ?_) | simp only [*, push_cast, simprocAttr] | (rw [drawC_ok]; rotate_left; decide +kernel; exact cfg_mixed))
  · rw [List.drop_zero]
    cases hasS l s <;> repeat' (first | with_reducible refine br_split (fun _ => ?_) (fun _ => ?_) | simp only [*, push_cast, simprocAttr] | (rw [drawC_ok]; rotate_left; decide +kernel; exact cfg_mixed))
theorem ev_Values (es : List (List T)) : evF cfg 91 [] [.d (.sl .any es)] = some (.clo 116 [.ptr 40 0], [(40, .box [.d (.sl .any es)])]) := by
  (refine (evF_code (C := cfg) (g := 91) (fn := Tryz.f91) rfl Tryz.func91 rfl (by rw [Tryz.ntmps91]; simp) (by kernel_rfl) (by first | decide | simp [keysOf])).trans ?_; rw [Tryz.results91, Tryz.ntmps91])
  repeat' (first | with_reducible refine br_split (fun _ => ?_) (fun _ => ?_) | simp only [*, push_cast, simprocAttr] | (rw [drawC_ok]; rotate_left; decide +kernel; exact cfg_mixed))
def colsOk (l : List ByteArray) : Bool := (decide (1 ≤ (l.length : Int)) && decide ((l.length : Int) ≤ 12)) && rising (sStr l)
theorem sStr_length (l : List ByteArray) : (sStr l).length = l.length := by simp [sStr, List.length_mergeSort]
theorem ev_areCols (l : List ByteArray) (hl : l.length ≤ 1099511627776) : evF cfg 57 [] [.d (.sl .any (l.map sC))] = some (.d (.b (colsOk l)), []) := by
  have hv := ev_Values (l.map sC)
  have hs : evF cfg 90 [(0, .box [.d (.sl .any (l.map sC))])] [.clo 116 [.ptr 0 0]] = some (.own 40, [(40, .arr .any 1 ((sStr l).map sC))]) := ev_Sorted l hl
  have hr := ev_isRising (sStr l) (by rw [sStr_length]; exact hl)
  unfold colsOk
  (refine (evF_code (C := cfg) (g := 57) (fn := Tryz.f57) rfl Tryz.func57 rfl (by rw [Tryz.ntmps57]; simp) (by kernel_rfl) (by first | decide | simp [keysOf])).trans ?_; rw [Tryz.results57, Tryz.ntmps57])
  repeat' (first | with_reducible refine br_split (fun _ => ?_) (fun _ => ?_) | simp only [*, push_cast, simprocAttr] | (rw [drawC_ok]; rotate_left; decide +kernel; exact cfg_mixed))
end Go.Av
end
section
namespace Go.Av
open Go.Proofs
set_option linter.unusedSimpArgs false
structure Sp where
  kind : Int
  name : ByteArray
  cols : List ByteArray
  query : ByteArray
  change : List R
  deriving DecidableEq
def spC (x : Sp) : List T := [.i .i64 x.kind, .s x.name, .sl .any (x.cols.map sC), .s x.query, .sl .any (x.change.map rC)]
@[push_cast] theorem spC_all (l : List Sp) : ((l.map spC).all fun e => e.length == 5) = true := by simp [spC]
def szSp (x : Sp) : Nat := x.name.size + szSs x.cols + x.query.size + szRs x.change
theorem ev_IndexFuncRel_A0 {h : FuncId} {p : R → Bool} (l : List R) (hl : l.length ≤ 1099511627776) (hp : ∀ x ∈ l, evF cfg 93 [(0, .box [.clo h []])] [.agg [.d (.s x.name), .d (.i .i64 x.bag.w), .d (.sl .any (x.bag.rows.map cC))], .ptr 0 0] = some (.d (.b (p x)), [(0, .box [.clo h []])])) :
    evF cfg 117 [(0, .box [.clo h []])] [.d (.sl .any (l.map rC)), .clo 93 [.ptr 0 0]] = some (.d (.i .i64 (idxOf p l)), [(0, .box [.clo h []])]) := by
  (refine (evF_code (C := cfg) (g := 117) (fn := Tryz.f117) rfl Tryz.func117 rfl (by rw [Tryz.ntmps117]; simp) (by kernel_rfl) (by first | decide | simp [keysOf])).trans ?_; rw [Tryz.results117, Tryz.ntmps117])
  repeat' (first | with_reducible refine br_split (fun _ => ?_) (fun _ => ?_) | simp only [*, push_cast, simprocAttr] | (rw [drawC_ok]; rotate_left; decide +kernel; exact cfg_mixed))
  rw [evM_for0 l.length (fun i j => { t := [(0, .d (.sl .any (l.map rC))), (1, .clo 93 [.ptr 0 0]), (7, .d (.i .i64 l.length)), (8, .d (.i .i64 j))], o := [(0, .box [.clo h []])], ks := [0], n := 0, sz := 19, u := noU })
    (fun i => br ((l.drop i).any p) (some (.ret, { t := [(4, .d (.i .i64 (i + (l.drop i).findIdx p : Nat)))], o := [(0, .box [.clo h []])], ks := [0], n := 0, sz := 19, u := noU })) (some (.exit 0, { t := [], o := [(0, .box [.clo h []])], ks := [0], n := 0, sz := 19, u := noU })) ⟨⟩) ?step ?last]
  case step =>
    intro i hi ih
    have hc : (l.map rC)[i]? = some [.s l[i].name, .i .i64 l[i].bag.w, .sl .any (l[i].bag.rows.map cC)] := get_map rC l i hi
    have hd := dec_lt hi
    have hw : IntKind.i64.wrap ((i : Int) + 1) = (i : Int) + 1 := wrap_succ (by omega)
    have he := hp _ (List.getElem_mem hi)
    have hx := List.drop_eq_getElem_cons hi
    cases hpi : p l[i] with
    | true =>
      have h1 : (l.drop i).any p = true := by rw [hx, List.any_cons, hpi, Bool.true_or]
      have h2 : (l.drop i).findIdx p = 0 := by rw [hx, List.findIdx_cons, hpi]; rfl
      rw [h1, h2]
      clear hx h1 h2
      repeat' (first | with_reducible refine br_split (fun _ => ?_) (fun _ => ?_) | simp only [*, push_cast, simprocAttr] | (rw [drawC_ok]; rotate_left; decide +kernel; exact cfg_mixed))
    | false =>
      have h1 : (l.drop i).any p = (l.drop (i + 1)).any p := by rw [hx, List.any_cons, hpi, Bool.false_or]
      have h2 : i + (l.drop i).findIdx p = i + 1 + (l.drop (i + 1)).findIdx p := by rw [hx, List.findIdx_cons, hpi, cond_false]; omega
      rw [h1, h2]
      clear hx h1 h2
      repeat' (first | with_reducible refine br_split (fun _ => ?_) (fun _ => ?_) | simp only [*, push_cast, simprocAttr] | (rw [drawC_ok]; rotate_left; decide +kernel; exact cfg_mixed))
  case last =>
    rw [List.drop_length, List.any_nil]
    repeat' (first | with_reducible refine br_split (fun _ => ?_) (fun _ => ?_) | simp only [*, push_cast, simprocAttr] | (rw [drawC_ok]; rotate_left; decide +kernel; exact cfg_mixed))
  · unfold idxOf
    rw [List.drop_zero, Nat.zero_add]
    cases l.any p <;> repeat' (first | with_reducible refine br_split (fun _ => ?_) (fun _ => ?_) | simp only [*, push_cast, simprocAttr] | (rw [drawC_ok]; rotate_left; decide +kernel; exact cfg_mixed))
theorem ev_ContainsFuncRel_A0 {h : FuncId} {p : R → Bool} (l : List R) (hl : l.length ≤ 1099511627776) (hp : ∀ x ∈ l, evF cfg 93 [(0, .box [.clo h []])] [.agg [.d (.s x.name), .d (.i .i64 x.bag.w), .d (.sl .any (x.bag.rows.map cC))], .ptr 0 0] = some (.d (.b (p x)), [(0, .box [.clo h []])])) :
    evF cfg 92 [(0, .box [.clo h []])] [.d (.sl .any (l.map rC)), .clo 93 [.ptr 0 0]] = some (.d (.b (l.any p)), [(0, .box [.clo h []])]) := by
  have hi := ev_IndexFuncRel_A0  l hl hp
  have ha := idxOf_any p l
  clear hp
  (refine (evF_code (C := cfg) (g := 92) (fn := Tryz.f92) rfl Tryz.func92 rfl (by rw [Tryz.ntmps92]; simp) (by kernel_rfl) (by first | decide | simp [keysOf])).trans ?_; rw [Tryz.results92, Tryz.ntmps92])
  repeat' (first | with_reducible refine br_split (fun _ => ?_) (fun _ => ?_) | simp only [*, push_cast, simprocAttr] | (rw [drawC_ok]; rotate_left; decide +kernel; exact cfg_mixed))
theorem ev_areAll1Rel_0 {h : FuncId} {p : Bool} (x : R) (hx : cfg.E h = none) (hX : cfg.Y h = false) (hZ : cfg.Z h = false) (hp : evF cfg h [] [.agg [.d (.s x.name), .d (.i .i64 x.bag.w), .d (.sl .any (x.bag.rows.map cC))]] = some (.d (.b p), [])) :
    evF cfg 93 [(0, .box [.clo h []])] [.agg [.d (.s x.name), .d (.i .i64 x.bag.w), .d (.sl .any (x.bag.rows.map cC))], .ptr 0 0] = some (.d (.b (!p)), [(0, .box [.clo h []])]) := by
  simp only [push_cast, simprocAttr] at hx hX hZ
  (refine (evF_code (C := cfg) (g := 93) (fn := Tryz.f93) rfl Tryz.func93 rfl (by rw [Tryz.ntmps93]; simp) (by kernel_rfl) (by first | decide | simp [keysOf])).trans ?_; rw [Tryz.results93, Tryz.ntmps93])
  repeat' (first | with_reducible refine br_split (fun _ => ?_) (fun _ => ?_) | simp only [*, push_cast, simprocAttr] | (rw [drawC_ok]; rotate_left; decide +kernel; exact cfg_mixed))
theorem ev_areAllRel_0 {h : FuncId} {p : R → Bool} (l : List R) (hl : l.length ≤ 1099511627776) (hx : cfg.E h = none) (hX : cfg.Y h = false) (hZ : cfg.Z h = false)
    (hp : ∀ x ∈ l, evF cfg h [] [.agg [.d (.s x.name), .d (.i .i64 x.bag.w), .d (.sl .any (x.bag.rows.map cC))]] = some (.d (.b (p x)), [])) :
    evF cfg 61 [] [.d (.sl .any (l.map rC)), .clo h []] = some (.d (.b (l.all p)), []) := by
  have hc := ev_ContainsFuncRel_A0 (h := h)  l hl (fun x hm => ev_areAll1Rel_0  x hx hX hZ (hp x hm))
  have ha : (!l.any fun x => !p x) = l.all p := not_any p l
  clear hp
  (refine (evF_code (C := cfg) (g := 61) (fn := Tryz.f61) rfl Tryz.func61 rfl (by rw [Tryz.ntmps61]; simp) (by kernel_rfl) (by first | decide | simp [keysOf])).trans ?_; rw [Tryz.results61, Tryz.ntmps61])
  repeat' (first | with_reducible refine br_split (fun _ => ?_) (fun _ => ?_) | simp only [*, push_cast, simprocAttr] | (rw [drawC_ok]; rotate_left; decide +kernel; exact cfg_mixed))
end Go.Av
end
section
namespace Go.Av
open Go.Proofs
set_option linter.unusedSimpArgs false
def schemasOk (l : List Sc) : Bool := (decide ((l.length : Int) ≤ 20) && rising (l.map Sc.name)) && l.all fun x => colsOk x.cols
def colFrom : List ByteArray → List ByteArray → Bool
  | _, [] => true
  | p, a :: l => (nameOk a && !hasS p a) && colFrom (p ++ [a]) l
def upOk : Option ByteArray → ByteArray → Bool
  | none, _ => true
  | some p, a => !(Op.bytesLess a.toList p.toList || a.toList == p.toList)
def wOk (l : List ByteArray) : Bool := decide (1 ≤ (l.length : Int)) && decide ((l.length : Int) ≤ 12)
def spFrom : Option ByteArray → List Sc → Bool
  | _, [] => true
  | p, x :: l => (((nameOk x.name && upOk p x.name) && wOk x.cols) && colFrom [] x.cols) && spFrom (some x.name) l
set_option maxHeartbeats 2000000 in
theorem ev_sSchemasOk (l : List Sc) (hl : l.length ≤ 1048576) (hc : ∀ x ∈ l, x.cols.length ≤ 1048576 ∧ x.name.size ≤ 1048576 ∧ ∀ c ∈ x.cols, c.size ≤ 1048576) : evF cfg 64 [] [.d (.sl .any (l.map scC))] =
    some (.d (.b (spFrom none l && decide ((l.length : Int) ≤ 20))), []) := by
  (refine (evF_code (C := cfg) (g := 64) (fn := Tryz.f64) rfl Tryz.func64 rfl (by rw [Tryz.ntmps64]; simp) (by kernel_rfl) (by first | decide | simp [keysOf])).trans ?_; rw [Tryz.results64, Tryz.ntmps64])
  repeat' (first | with_reducible refine br_split (fun _ => ?_) (fun _ => ?_) | simp only [*, push_cast, simprocAttr] | (rw [drawC_ok]; rotate_left; decide +kernel; exact cfg_mixed))
  rw [evM_for0 l.length (fun i j => { t := [(0, .d (.sl .any (l.map scC))), (3, .d (.i .i64 j))], o := [], ks := [], n := 0, sz := 71, u := noU })
    (fun i => br (spFrom (prevOf (l.map Sc.name) i) (l.drop i)) (some (.exit 0, { t := [(0, .d (.sl .any (l.map scC)))], o := [], ks := [], n := 0, sz := 71, u := noU })) (some (.ret, { t := [(2, .d (.b false))], o := [], ks := [], n := 0, sz := 71, u := noU })) ⟨⟩) ?step ?last]
  case step =>
    intro i hi ih
    have hcc : (l.map scC)[i]? = some [.s l[i].name, .sl .any (l[i].cols.map sC)] := get_map scC l i hi
    have hd := dec_lt hi
    have hw := wrap_succ (i := i) (by omega)
    obtain ⟨c1, c2, c3⟩ := hc _ (List.getElem_mem hi)
    have hn := ev_sNameOk l[i].name (by omega)
    have hdr : l.drop i = l[i] :: l.drop (i + 1) := List.drop_eq_getElem_cons hi
    have hnx : prevOf (l.map Sc.name) (i + 1) = some l[i].name := by simp [prevOf, hi]
    rw [hnx] at ih
    rw [hdr, spFrom]
    clear hnx hdr hc
    by_cases h0 : i = 0
    · have hp : prevOf (l.map Sc.name) i = none := by simp [prevOf, h0]
      have hg : decide ((i : Int) > 0) = false := decide_eq_false (by omega)
      have hu : upOk none l[i].name = true := rfl
      rw [hp, hu, Bool.and_true]
      clear hp h0 hu
      cases hno : nameOk l[i].name with
      | false =>
        rw [Bool.false_and, Bool.false_and, Bool.false_and]
        clear c3
        repeat' (first | with_reducible refine br_split (fun _ => ?_) (fun _ => ?_) | simp only [*, push_cast, simprocAttr] | (rw [drawC_ok]; rotate_left; decide +kernel; exact cfg_mixed))
      | true =>
        rw [Bool.true_and]
        cases hwo : wOk l[i].cols with
        | false =>
          rw [Bool.false_and, Bool.false_and]
          unfold wOk at hwo
          clear c3
          repeat' (first | with_reducible refine br_split (fun _ => ?_) (fun _ => ?_) | simp only [*, push_cast, simprocAttr] | (rw [drawC_ok]; rotate_left; decide +kernel; exact cfg_mixed))
        | true =>
          rw [Bool.true_and]
          unfold wOk at hwo
          repeat' (first | with_reducible refine br_split (fun _ => ?_) (fun _ => ?_) | simp only [*, push_cast, simprocAttr] | (rw [drawC_ok]; rotate_left; decide +kernel; exact cfg_mixed))
          generalize hcg : l[i].cols = cs at *
          rw [evM_for0 cs.length (fun k j => { t := [(0, .d (.sl .any (l.map scC))), (3, .d (.i .i64 i)), (4, .ptr 50 0), (5, .d (.i .i64 j))], o := [(50, .box [.d (.s l[i].name), .d (.sl .any (cs.map sC))])], ks := [50], n := 0, sz := 71, u := noU })
            (fun k => br (colFrom (cs.take k) (cs.drop k)) (some (.exit 2, { t := [(0, .d (.sl .any (l.map scC))), (3, .d (.i .i64 i))], o := [], ks := [], n := 0, sz := 71, u := noU })) (some (.ret, { t := [(2, .d (.b false))], o := [], ks := [], n := 0, sz := 71, u := noU })) ⟨⟩) ?istep ?ilast]
          case istep =>
            intro k hk ihk
            have hkc : (cs.map sC)[k]? = some [.s cs[k]] := get_map sC cs k hk
            have hkd := dec_lt hk
            have hkw := wrap_succ (i := k) (by omega)
            have hkn := ev_sNameOk cs[k] (by have := c3 _ (List.getElem_mem hk); omega)
            have hkh := ev_l03Has (cs.take k) cs[k] (by rw [List.length_take]; omega)
            have hkt : (cs.map sC).take k = (cs.take k).map sC := List.map_take.symm
            have hkb : decide (0 ≤ (k : Int) ∧ (k : Int) ≤ (cs.length : Int)) = true := decide_eq_true (by omega)
            have hkdr : cs.drop k = cs[k] :: cs.drop (k + 1) := List.drop_eq_getElem_cons hk
            have hktk : cs.take k ++ [cs[k]] = cs.take (k + 1) := (List.take_succ_eq_append_getElem hk).symm
            rw [hkdr, colFrom, hktk]
            clear hkdr hktk ih c3 hcc
            cases hkno : nameOk cs[k] with
            | false =>
              rw [Bool.false_and, Bool.false_and]
              repeat' (first | with_reducible refine br_split (fun _ => ?_) (fun _ => ?_) | simp only [*, push_cast, simprocAttr] | (rw [drawC_ok]; rotate_left; decide +kernel; exact cfg_mixed))
            | true =>
              rw [Bool.true_and]
              cases hkhs : hasS (cs.take k) cs[k] with
              | true =>
                rw [Bool.not_true, Bool.false_and]
                repeat' (first | with_reducible refine br_split (fun _ => ?_) (fun _ => ?_) | simp only [*, push_cast, simprocAttr] | (rw [drawC_ok]; rotate_left; decide +kernel; exact cfg_mixed))
              | false =>
                rw [Bool.not_false, Bool.true_and]
                repeat' (first | with_reducible refine br_split (fun _ => ?_) (fun _ => ?_) | simp only [*, push_cast, simprocAttr] | (rw [drawC_ok]; rotate_left; decide +kernel; exact cfg_mixed))
          case ilast =>
            have h1 : colFrom (cs.take cs.length) (cs.drop cs.length) = true := by rw [List.drop_length]; unfold colFrom; rfl
            rw [h1]
            clear ih c3
            repeat' (first | with_reducible refine br_split (fun _ => ?_) (fun _ => ?_) | simp only [*, push_cast, simprocAttr] | (rw [drawC_ok]; rotate_left; decide +kernel; exact cfg_mixed))
          · rw [List.take_zero, List.drop_zero]
            clear c3
            cases hcf : colFrom [] cs with
            | false =>
              rw [Bool.false_and]
              repeat' (first | with_reducible refine br_split (fun _ => ?_) (fun _ => ?_) | simp only [*, push_cast, simprocAttr] | (rw [drawC_ok]; rotate_left; decide +kernel; exact cfg_mixed))
            | true =>
              rw [Bool.true_and]
              repeat' (first | with_reducible refine br_split (fun _ => ?_) (fun _ => ?_) | simp only [*, push_cast, simprocAttr] | (rw [drawC_ok]; rotate_left; decide +kernel; exact cfg_mixed))
    · obtain ⟨q, hq⟩ : ∃ q, q = i - 1 := ⟨_, rfl⟩
      have hqi : q < l.length := by omega
      have hp : prevOf (l.map Sc.name) i = some l[q].name := by simp [prevOf, h0, hq, List.getElem?_eq_getElem (by omega : i - 1 < l.length)]
      have hg : decide ((i : Int) > 0) = true := decide_eq_true (by omega)
      have hwq : IntKind.i64.wrap ((i : Int) - 1) = (q : Int) := by rw [i64_in (by omega) (by omega)]; omega
      have hcq : (l.map scC)[q]? = some [.s l[q].name, .sl .any (l[q].cols.map sC)] := get_map scC l q hqi
      have hdq := dec_lt hqi
      have hu : upOk (some l[q].name) l[i].name = !(Op.bytesLess l[i].name.toList l[q].name.toList || l[i].name.toList == l[q].name.toList) := rfl
      rw [hp, hu]
      clear hp h0 hu hq
      cases hno : nameOk l[i].name with
      | false =>
        rw [Bool.false_and, Bool.false_and, Bool.false_and, Bool.false_and]
        clear c3
        repeat' (first | with_reducible refine br_split (fun _ => ?_) (fun _ => ?_) | simp only [*, push_cast, simprocAttr] | (rw [drawC_ok]; rotate_left; decide +kernel; exact cfg_mixed))
      | true =>
        rw [Bool.true_and]
        cases hls : Op.bytesLess l[i].name.toList l[q].name.toList with
        | true =>
          rw [Bool.true_or, Bool.not_true, Bool.false_and, Bool.false_and, Bool.false_and]
          clear c3
          repeat' (first | with_reducible refine br_split (fun _ => ?_) (fun _ => ?_) | simp only [*, push_cast, simprocAttr] | (rw [drawC_ok]; rotate_left; decide +kernel; exact cfg_mixed))
        | false =>
         rw [Bool.false_or]
         cases hls2 : (l[i].name.toList == l[q].name.toList) with
         | true =>
          rw [Bool.not_true, Bool.false_and, Bool.false_and, Bool.false_and]
          clear c3
          repeat' (first | with_reducible refine br_split (fun _ => ?_) (fun _ => ?_) | simp only [*, push_cast, simprocAttr] | (rw [drawC_ok]; rotate_left; decide +kernel; exact cfg_mixed))
         | false =>
         rw [Bool.not_false, Bool.true_and]
         cases hwo : wOk l[i].cols with
         | false =>
          rw [Bool.false_and, Bool.false_and]
          unfold wOk at hwo
          clear c3
          repeat' (first | with_reducible refine br_split (fun _ => ?_) (fun _ => ?_) | simp only [*, push_cast, simprocAttr] | (rw [drawC_ok]; rotate_left; decide +kernel; exact cfg_mixed))
         | true =>
          rw [Bool.true_and]
          unfold wOk at hwo
          repeat' (first | with_reducible refine br_split (fun _ => ?_) (fun _ => ?_) | simp only [*, push_cast, simprocAttr] | (rw [drawC_ok]; rotate_left; decide +kernel; exact cfg_mixed))
          generalize hcg : l[i].cols = cs at *
          rw [evM_for0 cs.length (fun k j => { t := [(0, .d (.sl .any (l.map scC))), (3, .d (.i .i64 i)), (4, .ptr 50 0), (5, .d (.i .i64 j))], o := [(50, .box [.d (.s l[i].name), .d (.sl .any (cs.map sC))])], ks := [50], n := 0, sz := 71, u := noU })
            (fun k => br (colFrom (cs.take k) (cs.drop k)) (some (.exit 2, { t := [(0, .d (.sl .any (l.map scC))), (3, .d (.i .i64 i))], o := [], ks := [], n := 0, sz := 71, u := noU })) (some (.ret, { t := [(2, .d (.b false))], o := [], ks := [], n := 0, sz := 71, u := noU })) ⟨⟩) ?istep ?ilast]
          case istep =>
            intro k hk ihk
            have hkc : (cs.map sC)[k]? = some [.s cs[k]] := get_map sC cs k hk
            have hkd := dec_lt hk
            have hkw := wrap_succ (i := k) (by omega)
            have hkn := ev_sNameOk cs[k] (by have := c3 _ (List.getElem_mem hk); omega)
            have hkh := ev_l03Has (cs.take k) cs[k] (by rw [List.length_take]; omega)
            have hkt : (cs.map sC).take k = (cs.take k).map sC := List.map_take.symm
            have hkb : decide (0 ≤ (k : Int) ∧ (k : Int) ≤ (cs.length : Int)) = true := decide_eq_true (by omega)
            have hkdr : cs.drop k = cs[k] :: cs.drop (k + 1) := List.drop_eq_getElem_cons hk
            have hktk : cs.take k ++ [cs[k]] = cs.take (k + 1) := (List.take_succ_eq_append_getElem hk).symm
            rw [hkdr, colFrom, hktk]
            clear hkdr hktk ih c3 hcc
            cases hkno : nameOk cs[k] with
            | false =>
              rw [Bool.false_and, Bool.false_and]
              repeat' (first | with_reducible refine br_split (fun _ => ?_) (fun _ => ?_) | simp only [*, push_cast, simprocAttr] | (rw [drawC_ok]; rotate_left; decide +kernel; exact cfg_mixed))
            | true =>
              rw [Bool.true_and]
              cases hkhs : hasS (cs.take k) cs[k] with
              | true =>
                rw [Bool.not_true, Bool.false_and]
                repeat' (first | with_reducible refine br_split (fun _ => ?_) (fun _ => ?_) | simp only [*, push_cast, simprocAttr] | (rw [drawC_ok]; rotate_left; decide +kernel; exact cfg_mixed))
              | false =>
                rw [Bool.not_false, Bool.true_and]
                repeat' (first | with_reducible refine br_split (fun _ => ?_) (fun _ => ?_) | simp only [*, push_cast, simprocAttr] | (rw [drawC_ok]; rotate_left; decide +kernel; exact cfg_mixed))
          case ilast =>
            have h1 : colFrom (cs.take cs.length) (cs.drop cs.length) = true := by rw [List.drop_length]; unfold colFrom; rfl
            rw [h1]
            clear ih c3
            repeat' (first | with_reducible refine br_split (fun _ => ?_) (fun _ => ?_) | simp only [*, push_cast, simprocAttr] | (rw [drawC_ok]; rotate_left; decide +kernel; exact cfg_mixed))
          · rw [List.take_zero, List.drop_zero]
            clear c3
            cases hcf : colFrom [] cs with
            | false =>
              rw [Bool.false_and]
              repeat' (first | with_reducible refine br_split (fun _ => ?_) (fun _ => ?_) | simp only [*, push_cast, simprocAttr] | (rw [drawC_ok]; rotate_left; decide +kernel; exact cfg_mixed))
            | true =>
              rw [Bool.true_and]
              repeat' (first | with_reducible refine br_split (fun _ => ?_) (fun _ => ?_) | simp only [*, push_cast, simprocAttr] | (rw [drawC_ok]; rotate_left; decide +kernel; exact cfg_mixed))
  case last =>
    have h1 : spFrom (prevOf (l.map Sc.name) l.length) (l.drop l.length) = true := by
      rw [List.drop_length]
      unfold spFrom
      rfl
    rw [h1]
    clear hc
    repeat' (first | with_reducible refine br_split (fun _ => ?_) (fun _ => ?_) | simp only [*, push_cast, simprocAttr] | (rw [drawC_ok]; rotate_left; decide +kernel; exact cfg_mixed))
  · have h1 : spFrom (prevOf (l.map Sc.name) 0) (l.drop 0) = spFrom none l := by simp [prevOf]
    rw [h1]
    clear hc
    repeat' (first | with_reducible refine br_split (fun _ => ?_) (fun _ => ?_) | simp only [*, push_cast, simprocAttr] | (rw [drawC_ok]; rotate_left; decide +kernel; exact cfg_mixed))
end Go.Av
end
section
namespace Go.Av
open Go.Proofs
set_option linter.unusedSimpArgs false
theorem ev_relNames (l : List R) (hl : l.length ≤ 1048576) : evF cfg 60 [] [.d (.sl .any (l.map rC))] = some (.d (.sl .any ((l.map R.name).map sC)), []) := by
  (refine (evF_code (C := cfg) (g := 60) (fn := Tryz.f60) rfl Tryz.func60 rfl (by rw [Tryz.ntmps60]; simp) (by kernel_rfl) (by first | decide | simp [keysOf])).trans ?_; rw [Tryz.results60, Tryz.ntmps60])
  repeat' (first | with_reducible refine br_split (fun _ => ?_) (fun _ => ?_) | simp only [*, push_cast, simprocAttr] | (rw [drawC_ok]; rotate_left; decide +kernel; exact cfg_mixed))
  rw [show ([] : List (List T)) = ((l.map R.name).take 0).map sC from rfl]
  rw [evM_for0 l.length (fun i j => { t := [(3, .own 50), (6, .d (.sl .any (l.map rC))), (7, .d (.i .i64 l.length)), (8, .d (.i .i64 j))], o := [(50, .arr .any 1 (((l.map R.name).take i).map sC))], ks := [50], n := 0, sz := 19, u := noU })
    (fun i => some (.exit 0, { t := [(3, .own 50)], o := [(50, .arr .any 1 ((l.map R.name).map sC))], ks := [50], n := 0, sz := 19, u := noU })) ?step ?last]
  case step =>
    intro i hi ih
    have hcc : (l.map rC)[i]? = some [.s l[i].name, .i .i64 l[i].bag.w, .sl .any (l[i].bag.rows.map cC)] := get_map rC l i hi
    have hd := dec_lt hi
    have hw := wrap_succ (i := i) (by omega)
    have h2 := len_ok (n := ((l.map R.name).take i).length + 1) 16 (by simp; omega) (by omega)
    have h3 : ((l.map R.name).take i).map sC ++ [[.s l[i].name]] = ((l.map R.name).take (i + 1)).map sC := by
      have := take_snoc sC (l := l.map R.name) (i := i) (by simpa using hi)
      simpa [sC] using this
    repeat' (first | with_reducible refine br_split (fun _ => ?_) (fun _ => ?_) | simp only [*, push_cast, simprocAttr] | (rw [drawC_ok]; rotate_left; decide +kernel; exact cfg_mixed))
  case last =>
    have : (l.map R.name).take l.length = l.map R.name := List.take_of_length_le (by simp)
    repeat' (first | with_reducible refine br_split (fun _ => ?_) (fun _ => ?_) | simp only [*, push_cast, simprocAttr] | (rw [drawC_ok]; rotate_left; decide +kernel; exact cfg_mixed))
  · repeat' (first | with_reducible refine br_split (fun _ => ?_) (fun _ => ?_) | simp only [*, push_cast, simprocAttr] | (rw [drawC_ok]; rotate_left; decide +kernel; exact cfg_mixed))
@[push_cast] theorem ev_StepOk1 (name : ByteArray) (w : Int) (rows : List C) (hl : rows.length ≤ 1099511627776) (hr : ∀ c ∈ rows, c.row.length ≤ 1099511627776) : evF cfg 62 [] [.agg [.d (.s name), .d (.i .i64 w), .d (.sl .any (rows.map cC))]] = some (.d (.b (bagOk ⟨w, rows⟩)), []) := by
  have h := ev_BagOk w rows (by omega) hr
  clear hr
  (refine (evF_code (C := cfg) (g := 62) (fn := Tryz.f62) rfl Tryz.func62 rfl (by rw [Tryz.ntmps62]; simp) (by kernel_rfl) (by first | decide | simp [keysOf])).trans ?_; rw [Tryz.results62, Tryz.ntmps62])
  repeat' (first | with_reducible refine br_split (fun _ => ?_) (fun _ => ?_) | simp only [*, push_cast, simprocAttr] | (rw [drawC_ok]; rotate_left; decide +kernel; exact cfg_mixed))
def noS : ByteArray := ⟨#[]⟩
def stepRest (x : Sp) : Bool :=
  if x.kind = 0 then nameOk x.name && colsOk x.cols
  else if x.kind = 1 then nameOk x.name && decide ((x.query.size : Int) ≤ 1000)
  else if x.kind = 2 then nameOk x.name
  else if x.kind = 3 then ((decide (x.name = noS) && (decide (1 ≤ (x.change.length : Int)) && decide ((x.change.length : Int) ≤ 20))) && rising (x.change.map R.name)) && x.change.all fun r => bagOk r.bag
  else false
def stepBad (x : Sp) : Bool := (decide (x.kind ≠ 0) && decide (0 < x.cols.length)) || (decide (x.kind ≠ 1) && decide (x.query ≠ noS)) || (decide (x.kind ≠ 3) && decide (0 < x.change.length))
def stepOk (x : Sp) : Bool := !stepBad x && stepRest x
set_option maxHeartbeats 4000000 in
theorem ev_StepOk (kind : Int) (name : ByteArray) (cols : List ByteArray) (query : ByteArray) (change : List R) (h : szSp ⟨kind, name, cols, query, change⟩ ≤ 1048576) :
    evF cfg 27 [] [.agg [.d (.i .i64 kind), .d (.s name), .d (.sl .any (cols.map sC)), .d (.s query), .d (.sl .any (change.map rC))]] = some (.d (.b (stepOk ⟨kind, name, cols, query, change⟩)), []) := by
  simp only [szSp] at h
  obtain ⟨c1, _⟩ := szSs_mem (l := cols) (n := 1048576) (by omega)
  obtain ⟨c2, c3⟩ := szRs_mem (l := change) (n := 1048576) (by omega)
  have c4 : ∀ x ∈ change, x.bag.rows.length ≤ 1099511627776 ∧ ∀ c ∈ x.bag.rows, c.row.length ≤ 1099511627776 := by
    intro x hx
    have := c3 x hx
    simp only [szR, szB] at this
    obtain ⟨d1, d2⟩ := szCs_mem (l := x.bag.rows) (n := 1048576) (by omega)
    refine ⟨by omega, fun c hc => ?_⟩
    have := d2 c hc
    simp only [szC] at this
    obtain ⟨e1, _⟩ := szVs_mem (l := c.row) (n := 1048576) (by omega)
    omega
  have hac := ev_areCols cols (by omega)
  have hrn := ev_relNames change c2
  have hri := ev_isRising (change.map R.name) (by simp; omega)
  have haa := ev_areAllRel_0 (h := 62) (p := fun x => bagOk x.bag) change (by omega) (by rfl) (by rfl) (by rfl) (fun x hx => ev_StepOk1 x.name x.bag.w x.bag.rows (c4 x hx).1 (c4 x hx).2)
  have hno := ev_NameOk name
  clear c1 c2 c3 c4 h
  by_cases k0 : kind = 0
  · subst k0
    (refine (evF_code (C := cfg) (g := 27) (fn := Tryz.f27) rfl Tryz.func27 rfl (by rw [Tryz.ntmps27]; simp) (by kernel_rfl) (by first | decide | simp [keysOf])).trans ?_; rw [Tryz.results27, Tryz.ntmps27])
    repeat' (first | with_reducible refine br_split (fun _ => ?_) (fun _ => ?_) | simp only [*, push_cast, simprocAttr] | (rw [drawC_ok]; rotate_left; decide +kernel; exact cfg_mixed))
    all_goals simp_all [stepOk, stepBad, stepRest, noS]
  by_cases k1 : kind = 1
  · subst k1
    (refine (evF_code (C := cfg) (g := 27) (fn := Tryz.f27) rfl Tryz.func27 rfl (by rw [Tryz.ntmps27]; simp) (by kernel_rfl) (by first | decide | simp [keysOf])).trans ?_; rw [Tryz.results27, Tryz.ntmps27])
    repeat' (first | with_reducible refine br_split (fun _ => ?_) (fun _ => ?_) | simp only [*, push_cast, simprocAttr] | (rw [drawC_ok]; rotate_left; decide +kernel; exact cfg_mixed))
    all_goals simp_all [stepOk, stepBad, stepRest, noS]
  by_cases k2 : kind = 2
  · subst k2
    (refine (evF_code (C := cfg) (g := 27) (fn := Tryz.f27) rfl Tryz.func27 rfl (by rw [Tryz.ntmps27]; simp) (by kernel_rfl) (by first | decide | simp [keysOf])).trans ?_; rw [Tryz.results27, Tryz.ntmps27])
    repeat' (first | with_reducible refine br_split (fun _ => ?_) (fun _ => ?_) | simp only [*, push_cast, simprocAttr] | (rw [drawC_ok]; rotate_left; decide +kernel; exact cfg_mixed))
    all_goals simp_all [stepOk, stepBad, stepRest, noS]
  by_cases k3 : kind = 3
  · subst k3
    have hr : stepOk ⟨3, name, cols, query, change⟩ = ((!decide (0 < cols.length) && !decide (query ≠ noS)) && (((decide (name = noS) && (decide (1 ≤ (change.length : Int)) && decide ((change.length : Int) ≤ 20))) && rising (change.map R.name)) && change.all fun r => bagOk r.bag)) := by
      simp [stepOk, stepBad, stepRest]
    rw [hr]
    clear hr
    generalize (change.all fun r => bagOk r.bag) = ba at *
    generalize rising (change.map R.name) = ri at *
    (refine (evF_code (C := cfg) (g := 27) (fn := Tryz.f27) rfl Tryz.func27 rfl (by rw [Tryz.ntmps27]; simp) (by kernel_rfl) (by first | decide | simp [keysOf])).trans ?_; rw [Tryz.results27, Tryz.ntmps27])
    repeat' (first | with_reducible refine br_split (fun _ => ?_) (fun _ => ?_) | simp only [*, push_cast, simprocAttr] | (rw [drawC_ok]; rotate_left; decide +kernel; exact cfg_mixed))
    all_goals simp_all [noS]
  · have e0 : (kind != 0) = true := by simpa using k0
    have e1 : (kind != 1) = true := by simpa using k1
    have e3 : (kind != 3) = true := by simpa using k3
    have f0 : (kind == 0) = false := by simpa using k0
    have f1 : (kind == 1) = false := by simpa using k1
    have f2 : (kind == 2) = false := by simpa using k2
    have f3 : (kind == 3) = false := by simpa using k3
    have hr : stepOk ⟨kind, name, cols, query, change⟩ = false := by simp [stepOk, stepRest, k0, k1, k2, k3]
    rw [hr]
    clear hr
    (refine (evF_code (C := cfg) (g := 27) (fn := Tryz.f27) rfl Tryz.func27 rfl (by rw [Tryz.ntmps27]; simp) (by kernel_rfl) (by first | decide | simp [keysOf])).trans ?_; rw [Tryz.results27, Tryz.ntmps27])
    repeat' (first | with_reducible refine br_split (fun _ => ?_) (fun _ => ?_) | simp only [*, push_cast, simprocAttr] | (rw [drawC_ok]; rotate_left; decide +kernel; exact cfg_mixed))
end Go.Av
end
section
namespace Go.Av
set_option linter.unusedSimpArgs false
theorem up_eq (p a : ByteArray) : upOk (some p) a = decide (bl p < bl a) := by
  show (!(Op.bytesLess a.toList p.toList || a.toList == p.toList)) = _
  rw [less_eq, ba_toList, ba_toList]
  show (!(decide (bl a < bl p) || bl a == bl p)) = _
  by_cases h1 : bl p < bl a
  · have h2 : ¬ bl a < bl p := fun h => List.lt_irrefl _ (List.lt_trans h h1)
    have h3 : bl a ≠ bl p := fun h => by rw [h] at h1; exact List.lt_irrefl _ h1
    simp [h1, h2, h3]
  · by_cases h2 : bl a < bl p
    · simp [h1, h2]
    · have h3 : bl a = bl p := List.le_antisymm (List.not_lt.1 h1) (List.not_lt.1 h2)
      simp [h3, List.lt_irrefl]
def strictFrom : Option ByteArray → List ByteArray → Bool
  | _, [] => true
  | none, a :: l => strictFrom (some a) l
  | some p, a :: l => decide (bl p < bl a) && strictFrom (some a) l
theorem ris_split : ∀ (p : Option ByteArray) (l : List ByteArray), risFrom p l = (l.all nameOk && strictFrom p l)
  | _, [] => by simp [risFrom, strictFrom]
  | none, a :: l => by simp only [risFrom, strictFrom, ris_split, List.all_cons, Bool.and_assoc]
  | some p, a :: l => by
    simp only [risFrom, strictFrom, ris_split, List.all_cons, less_eq]
    cases nameOk a <;> cases decide (bl p < bl a) <;> simp
theorem sp_split : ∀ (p : Option ByteArray) (l : List Sc), spFrom p l = (risFrom p (l.map Sc.name) && l.all fun x => wOk x.cols && colFrom [] x.cols)
  | _, [] => by simp [spFrom, risFrom]
  | none, x :: l => by
    simp only [spFrom, risFrom, sp_split, List.all_cons, List.map_cons, upOk]
    cases nameOk x.name <;> cases wOk x.cols <;> cases colFrom [] x.cols <;> simp
  | some p, x :: l => by
    simp only [spFrom, risFrom, sp_split, List.all_cons, List.map_cons, up_eq, less_eq]
    cases nameOk x.name <;> cases wOk x.cols <;> cases colFrom [] x.cols <;> cases decide (bl p < bl x.name) <;> simp
theorem col_iff : ∀ (p l : List ByteArray), colFrom p l = true ↔ l.all nameOk = true ∧ l.Nodup ∧ ∀ a ∈ l, a ∉ p
  | p, [] => by simp [colFrom]
  | p, a :: l => by
    rw [colFrom, Bool.and_eq_true, Bool.and_eq_true, col_iff (p ++ [a]) l]
    simp only [hasS, List.all_cons, Bool.and_eq_true, List.nodup_cons, List.mem_cons, List.mem_append, List.not_mem_nil, or_false, Bool.not_eq_true', List.any_eq_false, decide_eq_true_eq]
    constructor
    · rintro ⟨⟨h1, h2⟩, h3, h4, h5⟩
      refine ⟨⟨h1, h3⟩, ⟨fun h => h5 a h (.inr rfl), h4⟩, ?_⟩
      rintro b (rfl | hb) hbp
      · exact h2 b hbp rfl
      · exact h5 b hb (.inl hbp)
    · rintro ⟨⟨h1, h3⟩, ⟨h6, h4⟩, h5⟩
      refine ⟨⟨h1, fun x hx hxa => h5 a (.inl rfl) (by rw [← hxa]; exact hx)⟩, h3, h4, ?_⟩
      rintro b hb (h | rfl)
      · exact h5 b (.inr hb) h
      · exact h6 hb
theorem strict_iff : ∀ (l : List ByteArray), (∀ p, strictFrom (some p) l = true ↔ (l.Pairwise fun a b => bl a < bl b) ∧ ∀ a ∈ l, bl p < bl a) ∧ (strictFrom none l = true ↔ l.Pairwise fun a b => bl a < bl b)
  | [] => by simp [strictFrom]
  | a :: l => by
    obtain ⟨ih, _⟩ := strict_iff l
    have h0 : (strictFrom (some a) l = true) ↔ (a :: l).Pairwise (fun a b => bl a < bl b) := by
      rw [ih a, List.pairwise_cons]
      exact And.comm
    refine ⟨fun p => ?_, ?_⟩
    · simp only [strictFrom, Bool.and_eq_true, decide_eq_true_eq]
      rw [h0]
      constructor
      · rintro ⟨h1, h2⟩
        refine ⟨h2, ?_⟩
        intro b hb
        rcases List.mem_cons.1 hb with rfl | hb
        · exact h1
        · exact List.lt_trans h1 ((List.pairwise_cons.1 h2).1 b hb)
      · rintro ⟨h1, h2⟩
        exact ⟨h2 a (List.mem_cons_self ..), h1⟩
    · simp only [strictFrom]
      exact h0
theorem sStr_perm (l : List ByteArray) : (sStr l).Perm l := by
  have h := ((l.map fun s => s.data.toList).mergeSort_perm fun x y => decide (x ≤ y)).map fun s : List UInt8 => (⟨s.toArray⟩ : ByteArray)
  have e : (l.map fun s => s.data.toList).map (fun s : List UInt8 => (⟨s.toArray⟩ : ByteArray)) = l := by
    rw [List.map_map]
    conv => rhs; rw [← List.map_id l]
    apply List.map_congr_left
    intro a _
    simp
  rw [e] at h
  exact h
theorem sStr_sorted (l : List ByteArray) : (sStr l).Pairwise fun a b => bl a ≤ bl b := by
  have h := List.pairwise_mergeSort (le := fun x y : List UInt8 => decide (x ≤ y)) (fun a b c h1 h2 => decide_eq_true (List.le_trans (of_decide_eq_true h1) (of_decide_eq_true h2)))
    (fun a b => by rcases List.le_total a b with h | h <;> simp [h]) (l.map fun s => s.data.toList)
  unfold sStr
  rw [List.pairwise_map]
  refine h.imp ?_
  intro a b hab
  simpa [bl] using hab
theorem rising_sStr (l : List ByteArray) : rising (sStr l) = colFrom [] l := by
  rw [rising, ris_split, Bool.eq_iff_iff, Bool.and_eq_true, (strict_iff (sStr l)).2, col_iff]
  have hp := sStr_perm l
  have ha : (sStr l).all nameOk = l.all nameOk := by
    rw [Bool.eq_iff_iff, List.all_eq_true, List.all_eq_true]
    exact ⟨fun h x hx => h x (hp.mem_iff.2 hx), fun h x hx => h x (hp.mem_iff.1 hx)⟩
  rw [ha, ← hp.nodup_iff]
  refine and_congr_right fun _ => ⟨fun h => ⟨?_, fun a _ h => by cases h⟩, fun ⟨h, _⟩ => ?_⟩
  · exact h.imp fun hab e => by rw [e] at hab; exact List.lt_irrefl _ hab
  · have hs := sStr_sorted l
    refine (hs.and h).imp ?_
    rintro a b ⟨h1, h2⟩
    by_cases h3 : bl a < bl b
    · exact h3
    · exact absurd (bl_inj (List.le_antisymm h1 (List.not_lt.1 h3))) h2
theorem schemas_same (l : List Sc) : (spFrom none l && decide ((l.length : Int) ≤ 20)) = schemasOk l := by
  unfold schemasOk
  rw [sp_split]
  have : (fun x : Sc => wOk x.cols && colFrom [] x.cols) = fun x => colsOk x.cols := by
    funext x
    rw [colsOk, rising_sStr]
    rfl
  rw [this]
  show (rising (l.map Sc.name) && _ && _) = _
  cases rising (l.map Sc.name) <;> cases decide ((l.length : Int) ≤ 20) <;> simp
end Go.Av
end
section
namespace Go.Av
open Go.Proofs
set_option linter.unusedSimpArgs false
def chFrom : Option ByteArray → List R → Bool
  | _, [] => true
  | p, x :: l => ((nameOk x.name && bagOk x.bag) && upOk p x.name) && chFrom (some x.name) l
theorem ch_split : ∀ (p : Option ByteArray) (l : List R), chFrom p l = (risFrom p (l.map R.name) && l.all fun x => bagOk x.bag)
  | _, [] => by simp [chFrom, risFrom]
  | none, x :: l => by
    simp only [chFrom, risFrom, ch_split, List.all_cons, List.map_cons, upOk]
    cases nameOk x.name <;> cases bagOk x.bag <;> simp
  | some p, x :: l => by
    simp only [chFrom, risFrom, ch_split, List.all_cons, List.map_cons, up_eq, less_eq]
    cases nameOk x.name <;> cases bagOk x.bag <;> cases decide (bl p < bl x.name) <;> simp
def stepTail (kind : Int) (name : ByteArray) (change : List R) : Bool := (decide (kind = 3) && decide (name = noS)) && (decide (1 ≤ (change.length : Int)) && decide ((change.length : Int) ≤ 20))
set_option maxHeartbeats 4000000 in
theorem ev_sStepOk3 (kind : Int) (name : ByteArray) (cols : List ByteArray) (query : ByteArray) (change : List R) (h : szSp ⟨kind, name, cols, query, change⟩ ≤ 1048576) (k0 : ¬ kind = 0) (k1 : ¬ kind = 1) (k2 : ¬ kind = 2)
    (hb : stepBad ⟨kind, name, cols, query, change⟩ = false) :
    evF cfg 28 [] [.agg [.d (.i .i64 kind), .d (.s name), .d (.sl .any (cols.map sC)), .d (.s query), .d (.sl .any (change.map rC))]] = some (.d (.b (chFrom none change && stepTail kind name change)), []) := by
  simp only [szSp] at h
  obtain ⟨c2, c3⟩ := szRs_mem (l := change) (n := 1048576) (by omega)
  have c4 : ∀ x ∈ change, x.name.size ≤ 1048576 ∧ x.bag.rows.length ≤ 1099511627776 ∧ ∀ c ∈ x.bag.rows, c.row.length ≤ 1099511627776 := by
    intro x hx
    have := c3 x hx
    simp only [szR, szB] at this
    obtain ⟨d1, d2⟩ := szCs_mem (l := x.bag.rows) (n := 1048576) (by omega)
    refine ⟨by omega, by omega, fun c hc => ?_⟩
    have := d2 c hc
    simp only [szC] at this
    obtain ⟨e1, _⟩ := szVs_mem (l := c.row) (n := 1048576) (by omega)
    omega
  have e0 : (kind != 0) = true := by simpa using k0
  have e1 : (kind != 1) = true := by simpa using k1
  have f0 : (kind == 0) = false := by simpa using k0
  have f1 : (kind == 1) = false := by simpa using k1
  have f2 : (kind == 2) = false := by simpa using k2
  have hb1 : cols = [] := by
    simp only [stepBad, Bool.or_eq_false_iff, Bool.and_eq_false_iff, decide_eq_false_iff_not] at hb
    rcases hb.1.1 with h | h
    · exact absurd k0 h
    · exact List.eq_nil_of_length_eq_zero (by omega)
  have hb2 : query = noS := by
    simp only [stepBad, Bool.or_eq_false_iff, Bool.and_eq_false_iff, decide_eq_false_iff_not] at hb
    rcases hb.1.2 with h | h
    · exact absurd k1 h
    · exact Classical.not_not.1 h
  have hb3 : ((kind != 3) && decide (0 < change.length)) = false := by
    simp only [stepBad, Bool.or_eq_false_iff] at hb
    have := hb.2
    simpa using this
  subst hb1
  subst hb2
  clear hb k0 k1 k2 c3 h
  unfold noS
  unfold stepTail
  cases k3 : (kind != 3) with
  | true =>
    rw [k3, Bool.true_and] at hb3
    have hc0 : change = [] := List.eq_nil_of_length_eq_zero (by have := of_decide_eq_false hb3; omega)
    have k3' : (kind == 3) = false := by simpa using k3
    have k3'' : decide (kind = 3) = false := by simpa using k3
    subst hc0
    rw [k3'', Bool.false_and, Bool.false_and, Bool.and_false]
    clear hb3 c4 c2 k3''
    (refine (evF_code (C := cfg) (g := 28) (fn := Tryz.f28) rfl Tryz.func28 rfl (by rw [Tryz.ntmps28]; simp) (by kernel_rfl) (by first | decide | simp [keysOf])).trans ?_; rw [Tryz.results28, Tryz.ntmps28])
    repeat' (first | with_reducible refine br_split (fun _ => ?_) (fun _ => ?_) | simp only [*, push_cast, simprocAttr] | (rw [drawC_ok]; rotate_left; decide +kernel; exact cfg_mixed))
    rw [evM_eq]
    repeat' (first | with_reducible refine br_split (fun _ => ?_) (fun _ => ?_) | simp only [*, push_cast, simprocAttr] | (rw [drawC_ok]; rotate_left; decide +kernel; exact cfg_mixed))
  | false =>
    have k3' : kind = 3 := by simpa using k3
    subst k3'
    clear hb3 e0 e1 f0 f1 f2 k3
    (refine (evF_code (C := cfg) (g := 28) (fn := Tryz.f28) rfl Tryz.func28 rfl (by rw [Tryz.ntmps28]; simp) (by kernel_rfl) (by first | decide | simp [keysOf])).trans ?_; rw [Tryz.results28, Tryz.ntmps28])
    repeat' (first | with_reducible refine br_split (fun _ => ?_) (fun _ => ?_) | simp only [*, push_cast, simprocAttr] | (rw [drawC_ok]; rotate_left; decide +kernel; exact cfg_mixed))
    rw [evM_for0 change.length (fun i j => { t := [(1, .ptr 50 0), (3, .d (.i .i64 j))], o := [(50, .box [.d (.i .i64 3), .d (.s name), .d (.sl .any []), .d (.s ⟨#[]⟩), .d (.sl .any (change.map rC))])], ks := [50], n := 0, sz := 120, u := noU })
      (fun i => br (chFrom (prevOf (change.map R.name) i) (change.drop i)) (some (.exit 1, { t := [(1, .ptr 50 0)], o := [(50, .box [.d (.i .i64 3), .d (.s name), .d (.sl .any []), .d (.s ⟨#[]⟩), .d (.sl .any (change.map rC))])], ks := [50], n := 0, sz := 120, u := noU })) (some (.ret, { t := [(2, .d (.b false))], o := [], ks := [], n := 0, sz := 120, u := noU })) ⟨⟩) ?step ?last]
    case step =>
      intro i hi ih
      have hcc : (change.map rC)[i]? = some [.s change[i].name, .i .i64 change[i].bag.w, .sl .any (change[i].bag.rows.map cC)] := get_map rC change i hi
      have hd := dec_lt hi
      have hw := wrap_succ (i := i) (by omega)
      obtain ⟨g1, g2, g3⟩ := c4 _ (List.getElem_mem hi)
      have hn := ev_sNameOk change[i].name (by omega)
      have hbg := ev_sBagOk change[i].bag.w change[i].bag.rows (by omega) g3
      have hdr : change.drop i = change[i] :: change.drop (i + 1) := List.drop_eq_getElem_cons hi
      have hnx : prevOf (change.map R.name) (i + 1) = some change[i].name := by simp [prevOf, hi]
      rw [hnx] at ih
      rw [hdr, chFrom]
      clear hnx hdr c4 g3
      cases hno : nameOk change[i].name with
      | false =>
        rw [Bool.false_and, Bool.false_and, Bool.false_and]
        repeat' (first | with_reducible refine br_split (fun _ => ?_) (fun _ => ?_) | simp only [*, push_cast, simprocAttr] | (rw [drawC_ok]; rotate_left; decide +kernel; exact cfg_mixed))
      | true =>
        rw [Bool.true_and]
        cases hbo : bagOk change[i].bag with
        | false =>
          rw [Bool.false_and, Bool.false_and]
          repeat' (first | with_reducible refine br_split (fun _ => ?_) (fun _ => ?_) | simp only [*, push_cast, simprocAttr] | (rw [drawC_ok]; rotate_left; decide +kernel; exact cfg_mixed))
        | true =>
          rw [Bool.true_and]
          by_cases h0 : i = 0
          · have hp : prevOf (change.map R.name) i = none := by simp [prevOf, h0]
            have hg : decide ((i : Int) > 0) = false := decide_eq_false (by omega)
            have hu : upOk none change[i].name = true := rfl
            rw [hp, hu, Bool.true_and]
            clear hp h0 hu
            repeat' (first | with_reducible refine br_split (fun _ => ?_) (fun _ => ?_) | simp only [*, push_cast, simprocAttr] | (rw [drawC_ok]; rotate_left; decide +kernel; exact cfg_mixed))
          · obtain ⟨q, hq⟩ : ∃ q, q = i - 1 := ⟨_, rfl⟩
            have hqi : q < change.length := by omega
            have hp : prevOf (change.map R.name) i = some change[q].name := by simp [prevOf, h0, hq, List.getElem?_eq_getElem (by omega : i - 1 < change.length)]
            have hg : decide ((i : Int) > 0) = true := decide_eq_true (by omega)
            have hwq : IntKind.i64.wrap ((i : Int) - 1) = (q : Int) := by rw [i64_in (by omega) (by omega)]; omega
            have hcq : (change.map rC)[q]? = some [.s change[q].name, .i .i64 change[q].bag.w, .sl .any (change[q].bag.rows.map cC)] := get_map rC change q hqi
            have hdq := dec_lt hqi
            have hu : upOk (some change[q].name) change[i].name = !(Op.bytesLess change[i].name.toList change[q].name.toList || change[i].name.toList == change[q].name.toList) := rfl
            rw [hp, hu]
            clear hp h0 hu hq
            cases hls : Op.bytesLess change[i].name.toList change[q].name.toList with
            | true =>
              rw [Bool.true_or, Bool.not_true, Bool.false_and]
              repeat' (first | with_reducible refine br_split (fun _ => ?_) (fun _ => ?_) | simp only [*, push_cast, simprocAttr] | (rw [drawC_ok]; rotate_left; decide +kernel; exact cfg_mixed))
            | false =>
              rw [Bool.false_or]
              cases hls2 : (change[i].name.toList == change[q].name.toList) with
              | true =>
                rw [Bool.not_true, Bool.false_and]
                repeat' (first | with_reducible refine br_split (fun _ => ?_) (fun _ => ?_) | simp only [*, push_cast, simprocAttr] | (rw [drawC_ok]; rotate_left; decide +kernel; exact cfg_mixed))
              | false =>
                rw [Bool.not_false, Bool.true_and]
                repeat' (first | with_reducible refine br_split (fun _ => ?_) (fun _ => ?_) | simp only [*, push_cast, simprocAttr] | (rw [drawC_ok]; rotate_left; decide +kernel; exact cfg_mixed))
    case last =>
      have h1 : chFrom (prevOf (change.map R.name) change.length) (change.drop change.length) = true := by
        rw [List.drop_length]
        unfold chFrom
        rfl
      rw [h1]
      clear c4
      repeat' (first | with_reducible refine br_split (fun _ => ?_) (fun _ => ?_) | simp only [*, push_cast, simprocAttr] | (rw [drawC_ok]; rotate_left; decide +kernel; exact cfg_mixed))
    · have h1 : chFrom (prevOf (change.map R.name) 0) (change.drop 0) = chFrom none change := by simp [prevOf]
      rw [h1]
      clear c4
      cases chFrom none change with
      | false =>
        rw [Bool.false_and]
        repeat' (first | with_reducible refine br_split (fun _ => ?_) (fun _ => ?_) | simp only [*, push_cast, simprocAttr] | (rw [drawC_ok]; rotate_left; decide +kernel; exact cfg_mixed))
      | true =>
        rw [Bool.true_and]
        repeat' (first | with_reducible refine br_split (fun _ => ?_) (fun _ => ?_) | simp only [*, push_cast, simprocAttr] | (rw [drawC_ok]; rotate_left; decide +kernel; exact cfg_mixed))
        all_goals simp_all [noS]
end Go.Av
end
section
namespace Go.Av
open Go.Proofs
set_option linter.unusedSimpArgs false
theorem ev_sSchema1 (name : ByteArray) (cols : List ByteArray) (hn : name.size ≤ 1048576) (hl : cols.length ≤ 1048576) (hc : ∀ c ∈ cols, c.size ≤ 1048576) : evF cfg 64 [] [.d (.sl .any [[.s name, .sl .any (cols.map sC)]])] =
    some (.d (.b (nameOk name && colsOk cols)), []) := by
  have h := ev_sSchemasOk [⟨name, cols⟩] (by simp) (by
    intro x hx
    obtain rfl : x = ⟨name, cols⟩ := by simpa using hx
    exact ⟨hl, hn, hc⟩)
  have e : (spFrom none [(⟨name, cols⟩ : Sc)] && decide ((([(⟨name, cols⟩ : Sc)].length : Nat) : Int) ≤ 20)) = (nameOk name && colsOk cols) := by
    rw [schemas_same]
    simp [schemasOk, rising, risFrom]
  rw [e] at h
  exact h
set_option maxHeartbeats 4000000 in
theorem ev_sStepOk (kind : Int) (name : ByteArray) (cols : List ByteArray) (query : ByteArray) (change : List R) (h : szSp ⟨kind, name, cols, query, change⟩ ≤ 1048576) :
    evF cfg 28 [] [.agg [.d (.i .i64 kind), .d (.s name), .d (.sl .any (cols.map sC)), .d (.s query), .d (.sl .any (change.map rC))]] = some (.d (.b (stepOk ⟨kind, name, cols, query, change⟩)), []) := by
  have h' := h
  simp only [szSp] at h
  obtain ⟨c1, c2⟩ := szSs_mem (l := cols) (n := 1048576) (by omega)
  have hsc := ev_sSchema1 name cols (by omega) c1 c2
  have hno := ev_sNameOk name (by omega)
  clear c1 c2 h
  by_cases k0 : kind = 0
  · subst k0
    clear h'
    (refine (evF_code (C := cfg) (g := 28) (fn := Tryz.f28) rfl Tryz.func28 rfl (by rw [Tryz.ntmps28]; simp) (by kernel_rfl) (by first | decide | simp [keysOf])).trans ?_; rw [Tryz.results28, Tryz.ntmps28])
    repeat' (first | with_reducible refine br_split (fun _ => ?_) (fun _ => ?_) | simp only [*, push_cast, simprocAttr] | (rw [drawC_ok]; rotate_left; decide +kernel; exact cfg_mixed))
    all_goals simp_all [stepOk, stepBad, stepRest, noS]
  by_cases k1 : kind = 1
  · subst k1
    clear h'
    (refine (evF_code (C := cfg) (g := 28) (fn := Tryz.f28) rfl Tryz.func28 rfl (by rw [Tryz.ntmps28]; simp) (by kernel_rfl) (by first | decide | simp [keysOf])).trans ?_; rw [Tryz.results28, Tryz.ntmps28])
    repeat' (first | with_reducible refine br_split (fun _ => ?_) (fun _ => ?_) | simp only [*, push_cast, simprocAttr] | (rw [drawC_ok]; rotate_left; decide +kernel; exact cfg_mixed))
    all_goals simp_all [stepOk, stepBad, stepRest, noS]
  by_cases k2 : kind = 2
  · subst k2
    clear h'
    (refine (evF_code (C := cfg) (g := 28) (fn := Tryz.f28) rfl Tryz.func28 rfl (by rw [Tryz.ntmps28]; simp) (by kernel_rfl) (by first | decide | simp [keysOf])).trans ?_; rw [Tryz.results28, Tryz.ntmps28])
    repeat' (first | with_reducible refine br_split (fun _ => ?_) (fun _ => ?_) | simp only [*, push_cast, simprocAttr] | (rw [drawC_ok]; rotate_left; decide +kernel; exact cfg_mixed))
    all_goals simp_all [stepOk, stepBad, stepRest, noS]
  have e0 : (kind != 0) = true := by simpa using k0
  have e1 : (kind != 1) = true := by simpa using k1
  cases hb : stepBad ⟨kind, name, cols, query, change⟩ with
  | false =>
    rw [ev_sStepOk3 kind name cols query change h' k0 k1 k2 hb, ch_split]
    have : stepOk ⟨kind, name, cols, query, change⟩ = ((risFrom none (change.map R.name) && change.all fun x => bagOk x.bag) && stepTail kind name change) := by
      unfold stepOk
      rw [hb]
      simp only [stepRest, k0, k1, k2, if_false, stepTail, rising]
      by_cases k3 : kind = 3
      · simp only [k3, if_true, decide_true, Bool.true_and]
        cases decide (name = noS) <;> cases (decide (1 ≤ (change.length : Int)) && decide ((change.length : Int) ≤ 20)) <;> cases risFrom none (change.map R.name) <;> simp
      · simp [k3]
    rw [this]
  | true =>
    have hr : stepOk ⟨kind, name, cols, query, change⟩ = false := by unfold stepOk; rw [hb]; rfl
    rw [hr]
    have hx : cols.length > 0 ∨ query ≠ noS ∨ (kind ≠ 3 ∧ 0 < change.length) := by
      simp only [stepBad, Bool.or_eq_true, Bool.and_eq_true, decide_eq_true_eq] at hb
      rcases hb with (⟨_, h⟩ | ⟨_, h⟩) | ⟨h1, h2⟩
      · exact .inl h
      · exact .inr (.inl h)
      · exact .inr (.inr ⟨h1, h2⟩)
    clear hb hr h' k0 k1 k2 hsc hno
    rcases hx with hx | hx | ⟨h1, h2⟩
    · have d1 : decide ((cols.length : Int) > 0) = true := decide_eq_true (by omega)
      clear hx
      (refine (evF_code (C := cfg) (g := 28) (fn := Tryz.f28) rfl Tryz.func28 rfl (by rw [Tryz.ntmps28]; simp) (by kernel_rfl) (by first | decide | simp [keysOf])).trans ?_; rw [Tryz.results28, Tryz.ntmps28])
      repeat' (first | with_reducible refine br_split (fun _ => ?_) (fun _ => ?_) | simp only [*, push_cast, simprocAttr] | (rw [drawC_ok]; rotate_left; decide +kernel; exact cfg_mixed))
    · cases d1 : decide ((cols.length : Int) > 0) with
      | true =>
        clear hx
        (refine (evF_code (C := cfg) (g := 28) (fn := Tryz.f28) rfl Tryz.func28 rfl (by rw [Tryz.ntmps28]; simp) (by kernel_rfl) (by first | decide | simp [keysOf])).trans ?_; rw [Tryz.results28, Tryz.ntmps28])
        repeat' (first | with_reducible refine br_split (fun _ => ?_) (fun _ => ?_) | simp only [*, push_cast, simprocAttr] | (rw [drawC_ok]; rotate_left; decide +kernel; exact cfg_mixed))
      | false =>
        have d2 : decide (query = ⟨#[]⟩) = false := decide_eq_false hx
        clear hx
        (refine (evF_code (C := cfg) (g := 28) (fn := Tryz.f28) rfl Tryz.func28 rfl (by rw [Tryz.ntmps28]; simp) (by kernel_rfl) (by first | decide | simp [keysOf])).trans ?_; rw [Tryz.results28, Tryz.ntmps28])
        repeat' (first | with_reducible refine br_split (fun _ => ?_) (fun _ => ?_) | simp only [*, push_cast, simprocAttr] | (rw [drawC_ok]; rotate_left; decide +kernel; exact cfg_mixed))
    · have d4 : (kind != 3) = true := by simpa using h1
      have d5 : decide ((change.length : Int) > 0) = true := decide_eq_true (by omega)
      clear h1 h2
      cases d1 : decide ((cols.length : Int) > 0) with
      | true =>
        (refine (evF_code (C := cfg) (g := 28) (fn := Tryz.f28) rfl Tryz.func28 rfl (by rw [Tryz.ntmps28]; simp) (by kernel_rfl) (by first | decide | simp [keysOf])).trans ?_; rw [Tryz.results28, Tryz.ntmps28])
        repeat' (first | with_reducible refine br_split (fun _ => ?_) (fun _ => ?_) | simp only [*, push_cast, simprocAttr] | (rw [drawC_ok]; rotate_left; decide +kernel; exact cfg_mixed))
      | false =>
        cases d2 : decide (query = ⟨#[]⟩) with
        | true =>
          (refine (evF_code (C := cfg) (g := 28) (fn := Tryz.f28) rfl Tryz.func28 rfl (by rw [Tryz.ntmps28]; simp) (by kernel_rfl) (by first | decide | simp [keysOf])).trans ?_; rw [Tryz.results28, Tryz.ntmps28])
          repeat' (first | with_reducible refine br_split (fun _ => ?_) (fun _ => ?_) | simp only [*, push_cast, simprocAttr] | (rw [drawC_ok]; rotate_left; decide +kernel; exact cfg_mixed))
        | false =>
          (refine (evF_code (C := cfg) (g := 28) (fn := Tryz.f28) rfl Tryz.func28 rfl (by rw [Tryz.ntmps28]; simp) (by kernel_rfl) (by first | decide | simp [keysOf])).trans ?_; rw [Tryz.results28, Tryz.ntmps28])
          repeat' (first | with_reducible refine br_split (fun _ => ?_) (fun _ => ?_) | simp only [*, push_cast, simprocAttr] | (rw [drawC_ok]; rotate_left; decide +kernel; exact cfg_mixed))
end Go.Av
end
section
namespace Go.Av
def bs (l : List UInt8) : ByteArray := ⟨l.toArray⟩
theorem bl_bs (l : List UInt8) : bl (bs l) = l := by simp [bl, bs]
theorem bs_bl (x : ByteArray) : bs (bl x) = x := ByteArray.ext (by simp [bl, bs])
theorem bs_inj {l m : List UInt8} (h : bs l = bs m) : l = m := by rw [← bl_bs l, h, bl_bs]
theorem bs_size (l : List UInt8) : (bs l).size = l.length := by simp [bs, ByteArray.size]
theorem bs_app (l m : List UInt8) : bs l ++ bs m = bs (l ++ m) := by
  apply ByteArray.ext
  rw [ByteArray.data_append]
  simp [bs]
theorem bs_appX (l : List UInt8) (x : ByteArray) : bs l ++ x = bs (l ++ bl x) := by rw [← bs_app, bs_bl]
theorem bs_appE (l : List UInt8) : bs l ++ (⟨#[]⟩ : ByteArray) = bs l := by rw [bs_appX]; simp [bl]
theorem size_nil : (⟨#[]⟩ : ByteArray).size = 0 := rfl
theorem bl_size (x : ByteArray) : (bl x).length = x.size := Array.length_toList
theorem bytesT_bs (l : List UInt8) : bytesT (bs l) = l.map byC := by unfold bytesT bs byC; simp
theorem strOf_map (l : List UInt8) : strOf (l.map byC) = some (bs l) := by rw [← bytesT_bs, strOf_bytesT]
def beB (n : Nat) : Nat → List UInt8
  | 0 => []
  | i + 1 => UInt8.ofNat (n / 256 ^ i % 256) :: beB n i
theorem beB_len (n : Nat) : ∀ i, (beB n i).length = i
  | 0 => rfl
  | i + 1 => by rw [beB, List.length_cons, beB_len]
def u64 (n : Int) : Nat := (n % 18446744073709551616).toNat
theorem u64_nn {n : Nat} (h : n < 18446744073709551616) : u64 n = n := by unfold u64; omega
theorem byte_at (n : Int) (i : Nat) (hi : i < 8) : T.i IntKind.u8 (IntKind.u8.wrap (n.fdiv (2 ^ (min (8 * (i : Int)).toNat IntKind.i64.bits)))) = .i .u8 ((UInt8.ofNat (u64 n / 256 ^ i % 256)).toNat : Nat) := by
  have hw : ∀ x : Int, IntKind.u8.wrap x = x % 256 := fun x => by
    have a : ((2 : Int) ^ IntKind.u8.bits) = 256 := by decide
    have c : IntKind.u8.signed = false := rfl
    simp only [IntKind.wrap, a, c, Bool.false_and]
    rfl
  have hb : IntKind.i64.bits = 64 := rfl
  rw [hw, hb]
  congr 1
  have e1 : ∀ m : Nat, m < 256 → (UInt8.ofNat m).toNat = m := fun m h => by simp [UInt8.toNat_ofNat']; omega
  rw [e1 _ (Nat.mod_lt _ (by omega))]
  unfold u64
  match i, hi with
  | 0, _ => simp; omega
  | 1, _ => simp only [show (min (8 * ((1 : Nat) : Int)).toNat 64) = 8 from rfl, show (2 : Int) ^ 8 = 256 from rfl, Nat.pow_one]; rw [Int.fdiv_eq_ediv_of_nonneg _ (by omega)]; omega
  | 2, _ => simp only [show (min (8 * ((2 : Nat) : Int)).toNat 64) = 16 from rfl, show (2 : Int) ^ 16 = 65536 from rfl, show 256 ^ 2 = 65536 from rfl]; rw [Int.fdiv_eq_ediv_of_nonneg _ (by omega)]; omega
  | 3, _ => simp only [show (min (8 * ((3 : Nat) : Int)).toNat 64) = 24 from rfl, show (2 : Int) ^ 24 = 16777216 from rfl, show 256 ^ 3 = 16777216 from rfl]; rw [Int.fdiv_eq_ediv_of_nonneg _ (by omega)]; omega
  | 4, _ => simp only [show (min (8 * ((4 : Nat) : Int)).toNat 64) = 32 from rfl, show (2 : Int) ^ 32 = 4294967296 from rfl, show 256 ^ 4 = 4294967296 from rfl]; rw [Int.fdiv_eq_ediv_of_nonneg _ (by omega)]; omega
  | 5, _ => simp only [show (min (8 * ((5 : Nat) : Int)).toNat 64) = 40 from rfl, show (2 : Int) ^ 40 = 1099511627776 from rfl, show 256 ^ 5 = 1099511627776 from rfl]; rw [Int.fdiv_eq_ediv_of_nonneg _ (by omega)]; omega
  | 6, _ => simp only [show (min (8 * ((6 : Nat) : Int)).toNat 64) = 48 from rfl, show (2 : Int) ^ 48 = 281474976710656 from rfl, show 256 ^ 6 = 281474976710656 from rfl]; rw [Int.fdiv_eq_ediv_of_nonneg _ (by omega)]; omega
  | 7, _ => simp only [show (min (8 * ((7 : Nat) : Int)).toNat 64) = 56 from rfl, show (2 : Int) ^ 56 = 72057594037927936 from rfl, show 256 ^ 7 = 72057594037927936 from rfl]; rw [Int.fdiv_eq_ediv_of_nonneg _ (by omega)]; omega
def dv (n i : Nat) : Nat := n / 256 ^ i
theorem dv_zero (n : Nat) : dv n 0 = n := by simp [dv]
theorem dv_succ (n i : Nat) : dv n (i + 1) = dv n i / 256 := by unfold dv; rw [Nat.pow_succ, ← Nat.div_div_eq_div_mul]
theorem dv_le (n i : Nat) : dv n i ≤ n := Nat.div_le_self ..
theorem u8_nat (x : Nat) : IntKind.u8.wrap ((x : Int) % 256) = ((UInt8.ofNat (x % 256)).toNat : Nat) := by
  have a : ((2 : Int) ^ IntKind.u8.bits) = 256 := by decide
  have c : IntKind.u8.signed = false := rfl
  have e1 : (UInt8.ofNat (x % 256)).toNat = x % 256 := by simp [UInt8.toNat_ofNat']
  simp only [IntKind.wrap, a, c, Bool.false_and, e1]
  show ((x : Int) % 256) % 256 = _
  omega
def bigE (n : Int) (m i : Nat) : List (List T) := List.replicate (m - i) [.i .u8 0] ++ (beB (u64 n) i).map byC
theorem bigE_zero (n : Int) (m : Nat) : List.replicate m [T.i .u8 0] = bigE n m 0 := by simp [bigE, beB]
theorem bigE_full (n : Int) (m : Nat) : bigE n m m = (beB (u64 n) m).map byC := by simp [bigE]
theorem bigE_len (n : Int) {m i : Nat} (h : i ≤ m) : (bigE n m i).length = m := by simp [bigE, beB_len]; omega
theorem bigE_get (n : Int) {m i : Nat} (h : i < m) : (bigE n m i)[m - 1 - i]? = some [.i .u8 0] := by
  unfold bigE
  rw [List.getElem?_append_left (by simp; omega), List.getElem?_replicate, if_pos (by omega)]
theorem bigE_set (n : Int) {m i : Nat} (h : i < m) : (bigE n m i).set (m - 1 - i) [.i .u8 ((UInt8.ofNat (u64 n / 256 ^ i % 256)).toNat : Nat)] = bigE n m (i + 1) := by
  unfold bigE
  rw [List.set_append_left _ _ (by simp; omega)]
  have e : m - i = (m - (i + 1)) + 1 := by omega
  have e2 : m - 1 - i = m - (i + 1) := by omega
  rw [e, List.replicate_succ', e2, List.set_append_right _ _ (by simp)]
  simp only [List.length_replicate, Nat.sub_self, List.set_cons_zero, beB, List.map_cons, List.append_assoc, List.cons_append, List.nil_append]
  rfl
theorem u64_lt (n : Int) : u64 n < 18446744073709551616 := by unfold u64; omega
theorem u64_wrap (n : Int) : IntKind.u64.wrap n = (u64 n : Nat) := by
  have a : ((2 : Int) ^ IntKind.u64.bits) = 18446744073709551616 := by decide
  have c : IntKind.u64.signed = false := rfl
  simp only [IntKind.wrap, a, c, Bool.false_and]
  unfold u64
  show n % 18446744073709551616 = _
  omega
theorem u8_any (n : Int) : IntKind.u8.wrap n = ((UInt8.ofNat (dv (u64 n) 0 % 256)).toNat : Nat) := by
  have a : ((2 : Int) ^ IntKind.u8.bits) = 256 := by decide
  have c : IntKind.u8.signed = false := rfl
  have e1 : ∀ x : Nat, (UInt8.ofNat (x % 256)).toNat = x % 256 := fun x => by simp [UInt8.toNat_ofNat']
  simp only [IntKind.wrap, a, c, Bool.false_and, e1, dv_zero]
  unfold u64
  show n % 256 = _
  omega
def wv (i : Nat) : Nat := 72057594037927936 / 256 ^ i
theorem wv_zero : wv 0 = 72057594037927936 := by simp [wv]
theorem wv_succ (i : Nat) : wv (i + 1) = wv i / 256 := by unfold wv; rw [Nat.pow_succ, ← Nat.div_div_eq_div_mul]
theorem wv_le (i : Nat) : wv i ≤ 72057594037927936 := Nat.div_le_self ..
theorem wv_pos {i : Nat} (h : i < 8) : 0 < wv i := by
  match i, h with
  | 0, _ => decide
  | 1, _ => decide
  | 2, _ => decide
  | 3, _ => decide
  | 4, _ => decide
  | 5, _ => decide
  | 6, _ => decide
  | 7, _ => decide
theorem wv_zeroI : (72057594037927936 : Int) = ((wv 0 : Nat) : Int) := by rw [wv_zero]; rfl
def kb (k : Int) : UInt8 := UInt8.ofNat (dv (u64 k) 0 % 256)
theorem beB1 (k : Int) : beB (u64 k) 1 = [kb k] := rfl
theorem u8_kb (k : Int) : IntKind.u8.wrap k = ((kb k).toNat : Nat) := u8_any k
def arrK (k n : Int) (i : Nat) : List (List T) := (kb k :: (beB (u64 n) 8).take i).map byC
theorem arrK_zero (k n : Int) : [byC (kb k)] = arrK k n 0 := rfl
theorem arrK_full (k n : Int) : arrK k n 8 = (kb k :: beB (u64 n) 8).map byC := rfl
theorem arrK_len (k n : Int) {i : Nat} (h : i ≤ 8) : (arrK k n i).length = i + 1 := by simp [arrK, beB_len]; omega
theorem be8_take (n : Nat) {i : Nat} (h : i < 8) : (beB n 8).take i ++ [UInt8.ofNat (n / wv i % 256)] = (beB n 8).take (i + 1) := by
  match i, h with
  | 0, _ => rfl
  | 1, _ => rfl
  | 2, _ => rfl
  | 3, _ => rfl
  | 4, _ => rfl
  | 5, _ => rfl
  | 6, _ => rfl
  | 7, _ => simp [beB, wv]
theorem arrK_succ (k n : Int) {i : Nat} (h : i < 8) : arrK k n i ++ [byC (UInt8.ofNat (u64 n / wv i % 256))] = arrK k n (i + 1) := by
  unfold arrK
  rw [← be8_take (u64 n) h]
  simp
end Go.Av
end
section
namespace Go.Av
open Go.Proofs
set_option linter.unusedSimpArgs false
attribute [push_cast] strOf_map bs_app
@[push_cast] theorem beB_zero (n : Nat) : beB n 0 = [] := rfl
theorem strEmpty : (⟨#[]⟩ : ByteArray) = bs [] := rfl
theorem ev_big (n : Int) (m : Nat) (hm : m ≤ 8) : evF cfg 47 [] [.d (.i .i64 n), .d (.i .i64 m)] = some (.d (.s (bs (beB (u64 n) m))), []) := by
  have hmk := mk_ok (n := m) 1 (by omega) (by omega)
  have hz := bigE_zero n m
  have hl0 := bigE_len n (m := m) (i := 0) (by omega)
  (refine (evF_code (C := cfg) (g := 47) (fn := Tryz.f47) rfl Tryz.func47 rfl (by rw [Tryz.ntmps47]; simp) (by kernel_rfl) (by first | decide | simp [keysOf])).trans ?_; rw [Tryz.results47, Tryz.ntmps47])
  repeat' (first | with_reducible refine br_split (fun _ => ?_) (fun _ => ?_) | simp only [*, push_cast, simprocAttr] | (rw [drawC_ok]; rotate_left; decide +kernel; exact cfg_mixed))
  rw [evM_for0 m (fun i j => { t := [(0, .d (.i .i64 n)), (1, .d (.i .i64 m)), (5, .own 50), (10, .d (.i .i64 m)), (11, .d (.i .i64 j))], o := [(50, .arr (.u8 5) 1 (bigE n m i))], ks := [50], n := 0, sz := 28, u := noU })
    (fun i => some (.exit 0, { t := [(5, .own 50)], o := [(50, .arr (.u8 5) 1 (bigE n m m))], ks := [50], n := 0, sz := 28, u := noU })) ?step ?last]
  case step =>
    intro i hi ih
    have hd := dec_lt hi
    have hw := wrap_succ (i := i) (by omega)
    have h1 : IntKind.i64.wrap ((m : Int) - 1) = ((m - 1 : Nat) : Int) := by rw [i64_in (by omega) (by omega)]; omega
    have h2 : IntKind.i64.wrap (((m - 1 : Nat) : Int) - (i : Int)) = ((m - 1 - i : Nat) : Int) := by rw [i64_in (by omega) (by omega)]; omega
    have h3 : IntKind.i64.wrap (8 * (i : Int)) = 8 * (i : Int) := i64_in (by omega) (by omega)
    have h4 : decide (0 ≤ 8 * (i : Int)) = true := decide_eq_true (by omega)
    have hl := bigE_len n (m := m) (i := i) (by omega)
    have hg := bigE_get n hi
    have hb := byte_at n i (by omega)
    have hs := bigE_set n hi
    have hlt : decide (m - 1 - i < m) = true := decide_eq_true (by omega)
    repeat' (first | with_reducible refine br_split (fun _ => ?_) (fun _ => ?_) | simp only [*, push_cast, simprocAttr] | (rw [drawC_ok]; rotate_left; decide +kernel; exact cfg_mixed))
  case last =>
    repeat' (first | with_reducible refine br_split (fun _ => ?_) (fun _ => ?_) | simp only [*, push_cast, simprocAttr] | (rw [drawC_ok]; rotate_left; decide +kernel; exact cfg_mixed))
  · have hf := bigE_full n m
    repeat' (first | with_reducible refine br_split (fun _ => ?_) (fun _ => ?_) | simp only [*, push_cast, simprocAttr] | (rw [drawC_ok]; rotate_left; decide +kernel; exact cfg_mixed))
@[push_cast] theorem ev_big1 (n : Int) : evF cfg 47 [] [.d (.i .i64 n), .d (.i .i64 1)] = some (.d (.s (bs (beB (u64 n) 1))), []) := ev_big n 1 (by omega)
@[push_cast] theorem ev_big4 (n : Int) : evF cfg 47 [] [.d (.i .i64 n), .d (.i .i64 4)] = some (.d (.s (bs (beB (u64 n) 4))), []) := ev_big n 4 (by omega)
@[push_cast] theorem ev_big8 (n : Int) : evF cfg 47 [] [.d (.i .i64 n), .d (.i .i64 8)] = some (.d (.s (bs (beB (u64 n) 8))), []) := ev_big n 8 (by omega)
attribute [push_cast] beB_len
@[push_cast] theorem strOf_one (b : UInt8) : strOf [[T.i .u8 (b.toNat : Nat)]] = some (bs [b]) := strOf_map [b]
@[push_cast] theorem bs_size' (l : List UInt8) : (bs l).size = l.length := bs_size l
theorem ev_l10Size (x m : Nat) (hm : m ≤ 8) (hx : x ≤ 9223372036854775807) : evF cfg 51 [] [.d (.i .i64 x), .d (.i .i64 m)] = some (.d (.s (bs (beB x m))), []) := by
  (refine (evF_code (C := cfg) (g := 51) (fn := Tryz.f51) rfl Tryz.func51 rfl (by rw [Tryz.ntmps51]; simp) (by kernel_rfl) (by first | decide | simp [keysOf])).trans ?_; rw [Tryz.results51, Tryz.ntmps51])
  repeat' (first | with_reducible refine br_split (fun _ => ?_) (fun _ => ?_) | simp only [*, push_cast, simprocAttr] | (rw [drawC_ok]; rotate_left; decide +kernel; exact cfg_mixed))
  rw [strEmpty, ← beB_zero x]
  have e0 : ((dv x 0 : Nat) : Int) = (x : Int) := congrArg (fun y : Nat => (y : Int)) (dv_zero x)
  rw [← e0]
  clear e0
  rw [evM_for0 m (fun i j => { t := [(0, .d (.i .i64 (dv x i : Nat))), (1, .d (.i .i64 m)), (5, .d (.s (bs (beB x i)))), (6, .d (.i .i64 j))], o := [], ks := [], n := 0, sz := 22, u := noU })
    (fun i => some (.exit 0, { t := [(5, .d (.s (bs (beB x m))))], o := [], ks := [], n := 0, sz := 22, u := noU })) ?step ?last]
  case step =>
    intro i hi ih
    have hd := dec_lt hi
    have hw := wrap_succ (i := i) (by omega)
    have hle := dv_le x i
    have h1 : ((dv x i : Nat) : Int).tmod 256 = (dv x i : Int) % 256 := Int.tmod_eq_emod_of_nonneg (by omega)
    have h2 : IntKind.i64.wrap (((dv x i : Nat) : Int).tdiv 256) = ((dv x (i + 1) : Nat) : Int) := by
      rw [Int.tdiv_eq_ediv_of_nonneg (by omega), i64_in (by omega) (by omega), dv_succ]
      omega
    have h3 := u8_nat (dv x i)
    have h4 : UInt8.ofNat (dv x i % 256) :: beB x i = beB x (i + 1) := rfl
    have hbl := beB_len x i
    have h5 : decide (1 + i ≤ 1099511627776) = true := decide_eq_true (by omega)
    have hne : decide ((256 : Int) ≠ 0) = true := rfl
    clear hle
    repeat' (first | with_reducible refine br_split (fun _ => ?_) (fun _ => ?_) | simp only [*, push_cast, simprocAttr] | (rw [drawC_ok]; rotate_left; decide +kernel; exact cfg_mixed))
  case last =>
    repeat' (first | with_reducible refine br_split (fun _ => ?_) (fun _ => ?_) | simp only [*, push_cast, simprocAttr] | (rw [drawC_ok]; rotate_left; decide +kernel; exact cfg_mixed))
  · repeat' (first | with_reducible refine br_split (fun _ => ?_) (fun _ => ?_) | simp only [*, push_cast, simprocAttr] | (rw [drawC_ok]; rotate_left; decide +kernel; exact cfg_mixed))
theorem ev_sized (s : ByteArray) (m : Nat) (hm : m ≤ 8) (hs : s.size ≤ 1099511627000) : evF cfg 48 [] [.d (.s s), .d (.i .i64 m)] = some (.d (.s (bs (beB s.size m ++ bl s))), []) := by
  have hb := ev_big s.size m hm
  have hu : u64 (s.size : Int) = s.size := u64_nn (by omega)
  rw [hu] at hb
  have hl := beB_len s.size m
  have h5 : decide (m + s.size ≤ 1099511627776) = true := decide_eq_true (by omega)
  have ha := bs_appX (beB s.size m) s
  clear hu hs
  (refine (evF_code (C := cfg) (g := 48) (fn := Tryz.f48) rfl Tryz.func48 rfl (by rw [Tryz.ntmps48]; simp) (by kernel_rfl) (by first | decide | simp [keysOf])).trans ?_; rw [Tryz.results48, Tryz.ntmps48])
  repeat' (first | with_reducible refine br_split (fun _ => ?_) (fun _ => ?_) | simp only [*, push_cast, simprocAttr] | (rw [drawC_ok]; rotate_left; decide +kernel; exact cfg_mixed))
theorem ev_l10Text (s : ByteArray) (m : Nat) (hm : m ≤ 8) (hs : s.size ≤ 1099511627000) : evF cfg 52 [] [.d (.s s), .d (.i .i64 m)] = some (.d (.s (bs (beB s.size m ++ bl s))), []) := by
  have hb := ev_l10Size s.size m hm (by omega)
  have hl := beB_len s.size m
  have h5 : decide (m + s.size ≤ 1099511627776) = true := decide_eq_true (by omega)
  have ha := bs_appX (beB s.size m) s
  clear hs
  (refine (evF_code (C := cfg) (g := 52) (fn := Tryz.f52) rfl Tryz.func52 rfl (by rw [Tryz.ntmps52]; simp) (by kernel_rfl) (by first | decide | simp [keysOf])).trans ?_; rw [Tryz.results52, Tryz.ntmps52])
  repeat' (first | with_reducible refine br_split (fun _ => ?_) (fun _ => ?_) | simp only [*, push_cast, simprocAttr] | (rw [drawC_ok]; rotate_left; decide +kernel; exact cfg_mixed))
@[push_cast] theorem ev_number (n : Int) : evF cfg 81 [] [.d (.i .i64 n)] = some (.agg [.d (.i .i64 1), .d (.i .i64 n), .d (.s ⟨#[]⟩)], []) := by
  (refine (evF_code (C := cfg) (g := 81) (fn := Tryz.f81) rfl Tryz.func81 rfl (by rw [Tryz.ntmps81]; simp) (by kernel_rfl) (by first | decide | simp [keysOf])).trans ?_; rw [Tryz.results81, Tryz.ntmps81])
  repeat' (first | with_reducible refine br_split (fun _ => ?_) (fun _ => ?_) | simp only [*, push_cast, simprocAttr] | (rw [drawC_ok]; rotate_left; decide +kernel; exact cfg_mixed))
@[push_cast] theorem ev_l01Int (n : Int) : evF cfg 84 [] [.d (.i .i64 n)] = some (.agg [.d (.i .i64 1), .d (.i .i64 n), .d (.s ⟨#[]⟩)], []) := by
  (refine (evF_code (C := cfg) (g := 84) (fn := Tryz.f84) rfl Tryz.func84 rfl (by rw [Tryz.ntmps84]; simp) (by kernel_rfl) (by first | decide | simp [keysOf])).trans ?_; rw [Tryz.results84, Tryz.ntmps84])
  repeat' (first | with_reducible refine br_split (fun _ => ?_) (fun _ => ?_) | simp only [*, push_cast, simprocAttr] | (rw [drawC_ok]; rotate_left; decide +kernel; exact cfg_mixed))
end Go.Av
end
section
namespace Go.Av
def pvL (v : V) : List UInt8 :=
  if valueOk v = true then beB (u64 v.k) 1 ++ (if v.k = 1 then beB (u64 v.n) 8 else if v.k = 2 then beB (u64 v.n) 1 else if v.k = 3 then beB v.s.size 1 ++ bl v.s else []) else []
theorem valueOk_size {v : V} (h : valueOk v = true) (h3 : v.k = 3) : v.s.size ≤ 100 := by
  simp [valueOk, h3] at h
  omega
def numV (n : Int) : V := ⟨1, n, ⟨#[]⟩⟩
def rowB (c : C) : List UInt8 := pvL (numV c.n) ++ c.row.flatMap pvL
def pbL (b : B) : List UInt8 := if bagOk b = true then kb b.w :: b.rows.flatMap rowB else []
end Go.Av
end
section
namespace Go.Av
open Go.Proofs
set_option linter.unusedSimpArgs false
theorem ev_PutValue (k n : Int) (s : ByteArray) : evF cfg 80 [] [.agg [.d (.i .i64 k), .d (.i .i64 n), .d (.s s)]] = some (.d (.s (bs (pvL ⟨k, n, s⟩))), []) := by
  cases hv : valueOk ⟨k, n, s⟩ with
  | false =>
    have hr : pvL ⟨k, n, s⟩ = [] := by simp [pvL, hv]
    have he := strEmpty
    rw [hr, ← he]
    clear he hr
    (refine (evF_code (C := cfg) (g := 80) (fn := Tryz.f80) rfl Tryz.func80 rfl (by rw [Tryz.ntmps80]; simp) (by kernel_rfl) (by first | decide | simp [keysOf])).trans ?_; rw [Tryz.results80, Tryz.ntmps80])
    repeat' (first | with_reducible refine br_split (fun _ => ?_) (fun _ => ?_) | simp only [*, push_cast, simprocAttr] | (rw [drawC_ok]; rotate_left; decide +kernel; exact cfg_mixed))
  | true =>
    by_cases h1 : k = 1
    · subst h1
      have hr : pvL ⟨1, n, s⟩ = beB (u64 1) 1 ++ beB (u64 n) 8 := by simp [pvL, hv]
      rw [hr]
      clear hr
      (refine (evF_code (C := cfg) (g := 80) (fn := Tryz.f80) rfl Tryz.func80 rfl (by rw [Tryz.ntmps80]; simp) (by kernel_rfl) (by first | decide | simp [keysOf])).trans ?_; rw [Tryz.results80, Tryz.ntmps80])
      repeat' (first | with_reducible refine br_split (fun _ => ?_) (fun _ => ?_) | simp only [*, push_cast, simprocAttr] | (rw [drawC_ok]; rotate_left; decide +kernel; exact cfg_mixed))
    by_cases h2 : k = 2
    · subst h2
      have hr : pvL ⟨2, n, s⟩ = beB (u64 2) 1 ++ beB (u64 n) 1 := by simp [pvL, hv]
      rw [hr]
      clear hr h1
      (refine (evF_code (C := cfg) (g := 80) (fn := Tryz.f80) rfl Tryz.func80 rfl (by rw [Tryz.ntmps80]; simp) (by kernel_rfl) (by first | decide | simp [keysOf])).trans ?_; rw [Tryz.results80, Tryz.ntmps80])
      repeat' (first | with_reducible refine br_split (fun _ => ?_) (fun _ => ?_) | simp only [*, push_cast, simprocAttr] | (rw [drawC_ok]; rotate_left; decide +kernel; exact cfg_mixed))
    by_cases h3 : k = 3
    · subst h3
      have hsz := valueOk_size hv rfl
      simp only [] at hsz
      have hu : u64 (s.size : Int) = s.size := u64_nn (by omega)
      have hr : pvL ⟨3, n, s⟩ = (beB (u64 3) 1 ++ beB s.size 1) ++ bl s := by simp [pvL, hv]
      have ha := bs_appX (beB (u64 3) 1 ++ beB s.size 1) s
      have hd : decide (1 + 1 + s.size ≤ 1099511627776) = true := decide_eq_true (by omega)
      have hd2 : decide (2 + s.size ≤ 1099511627776) = true := decide_eq_true (by omega)
      rw [hr, ← ha]
      clear hr h1 h2 hsz ha
      (refine (evF_code (C := cfg) (g := 80) (fn := Tryz.f80) rfl Tryz.func80 rfl (by rw [Tryz.ntmps80]; simp) (by kernel_rfl) (by first | decide | simp [keysOf])).trans ?_; rw [Tryz.results80, Tryz.ntmps80])
      repeat' (first | with_reducible refine br_split (fun _ => ?_) (fun _ => ?_) | simp only [*, push_cast, simprocAttr] | (rw [drawC_ok]; rotate_left; decide +kernel; exact cfg_mixed))
    · have e1 : (k == 1) = false := by simpa using h1
      have e2 : (k == 2) = false := by simpa using h2
      have e3 : (k == 3) = false := by simpa using h3
      have hr : pvL ⟨k, n, s⟩ = beB (u64 k) 1 := by simp [pvL, hv, h1, h2, h3]
      rw [hr]
      clear hr h1 h2 h3
      (refine (evF_code (C := cfg) (g := 80) (fn := Tryz.f80) rfl Tryz.func80 rfl (by rw [Tryz.ntmps80]; simp) (by kernel_rfl) (by first | decide | simp [keysOf])).trans ?_; rw [Tryz.results80, Tryz.ntmps80])
      repeat' (first | with_reducible refine br_split (fun _ => ?_) (fun _ => ?_) | simp only [*, push_cast, simprocAttr] | (rw [drawC_ok]; rotate_left; decide +kernel; exact cfg_mixed))
attribute [push_cast] bs_appE size_nil
@[push_cast] theorem ml1 : decide (1 ≤ maxLen) = true := by decide
@[push_cast] theorem ml2 : decide (2 ≤ maxLen) = true := by decide
@[push_cast] theorem by_one (b : UInt8) : [T.i .u8 (b.toNat : Nat)] = byC b := rfl
@[push_cast] theorem byC_len (b : UInt8) : (byC b).length = 1 := rfl
theorem strOf_by (l : List UInt8) (x : UInt8) : strOf (byC x :: l.map byC) = some (bs (x :: l)) := strOf_map (x :: l)
@[push_cast] theorem strOf_by1 (x : UInt8) : strOf [byC x] = some (bs [x]) := strOf_map [x]
@[push_cast] theorem strOf_by2 (x y : UInt8) : strOf [byC x, byC y] = some (bs [x, y]) := strOf_map [x, y]
theorem ev_sPutValue (k n : Int) (s : ByteArray) : evF cfg 83 [] [.agg [.d (.i .i64 k), .d (.i .i64 n), .d (.s s)]] = some (.d (.s (bs (pvL ⟨k, n, s⟩))), []) := by
  cases hv : valueOk ⟨k, n, s⟩ with
  | false =>
    have hr : pvL ⟨k, n, s⟩ = [] := by simp [pvL, hv]
    have he := strEmpty
    rw [hr, ← he]
    clear he hr
    (refine (evF_code (C := cfg) (g := 83) (fn := Tryz.f83) rfl Tryz.func83 rfl (by rw [Tryz.ntmps83]; simp) (by kernel_rfl) (by first | decide | simp [keysOf])).trans ?_; rw [Tryz.results83, Tryz.ntmps83])
    repeat' (first | with_reducible refine br_split (fun _ => ?_) (fun _ => ?_) | simp only [*, push_cast, simprocAttr] | (rw [drawC_ok]; rotate_left; decide +kernel; exact cfg_mixed))
  | true =>
    have hu := u8_kb k
    by_cases h1 : k = 1
    · subst h1
      have hs0 : s = ⟨#[]⟩ := by
        simp [valueOk] at hv
        exact hv
      have hn := u64_wrap n
      have hr : pvL ⟨1, n, s⟩ = beB (u64 1) 1 ++ beB (u64 n) 8 := by simp [pvL, hv]
      rw [hr, beB1]
      subst hs0
      clear hr
      have hl := u64_lt n
      (refine (evF_code (C := cfg) (g := 83) (fn := Tryz.f83) rfl Tryz.func83 rfl (by rw [Tryz.ntmps83]; simp) (by kernel_rfl) (by first | decide | simp [keysOf])).trans ?_; rw [Tryz.results83, Tryz.ntmps83])
      repeat' (first | with_reducible refine br_split (fun _ => ?_) (fun _ => ?_) | simp only [*, push_cast, simprocAttr] | (rw [drawC_ok]; rotate_left; decide +kernel; exact cfg_mixed))
      rw [wv_zeroI, arrK_zero 1 n]
      rw [evM_for0 8 (fun i j => { t := [(1, .ptr 50 0), (3, .own 51), (4, .d (.i .u64 (u64 n : Nat))), (5, .d (.i .u64 (wv i : Nat))), (6, .d (.i .i64 j))], o := [(50, .box [.d (.i .i64 1), .d (.i .i64 n), .d (.s ⟨#[]⟩)]), (51, .arr (.u8 5) 1 (arrK 1 n i))], ks := [50, 51], n := 0, sz := 57, u := noU })
        (fun i => some (.exit 1, { t := [(1, .ptr 50 0), (3, .own 51)], o := [(50, .box [.d (.i .i64 1), .d (.i .i64 n), .d (.s ⟨#[]⟩)]), (51, .arr (.u8 5) 1 ((kb 1 :: beB (u64 n) 8).map byC))], ks := [50, 51], n := 0, sz := 57, u := noU })) ?step ?last]
      case step =>
        intro i hi ih
        have hd : decide ((i : Int) < 8) = true := decide_eq_true (by omega)
        have hw := wrap_succ (i := i) (by omega)
        have hp := wv_pos hi
        have hle := wv_le i
        have hne : decide (((wv i : Nat) : Int) ≠ 0) = true := decide_eq_true (by omega)
        have hq : IntKind.u64.wrap (((u64 n : Nat) : Int).tdiv (wv i : Nat)) = ((u64 n / wv i : Nat) : Int) := by
          rw [u64_wrap, Int.tdiv_eq_ediv_of_nonneg (by omega)]
          have h1 : ((u64 n : Nat) : Int) / ((wv i : Nat) : Int) = ((u64 n / wv i : Nat) : Int) := by simp
          have h2 : u64 n / wv i ≤ u64 n := Nat.div_le_self ..
          rw [h1, u64_nn (by omega)]
        have hne2 : decide ((256 : Int) ≠ 0) = true := rfl
        have hq2 : IntKind.u64.wrap (((wv i : Nat) : Int).tdiv 256) = ((wv (i + 1) : Nat) : Int) := by
          rw [u64_wrap, Int.tdiv_eq_ediv_of_nonneg (by omega), wv_succ]
          have h1 : ((wv i : Nat) : Int) / 256 = ((wv i / 256 : Nat) : Int) := by omega
          rw [h1, u64_nn (by omega)]
        have ha := arrK_succ 1 n hi
        have hal := arrK_len 1 n (i := i) (by omega)
        have hc := len_ok (n := i + 1 + 1) 1 (by omega) (by omega)
        obtain ⟨q, hqq⟩ : ∃ q, q = u64 n / wv i := ⟨_, rfl⟩
        rw [← hqq] at hq ha
        have hm : ((q : Nat) : Int).tmod 256 = (q : Int) % 256 := Int.tmod_eq_emod_of_nonneg (by omega)
        have h8 := u8_nat q
        clear hqq hp hle
        repeat' (first | with_reducible refine br_split (fun _ => ?_) (fun _ => ?_) | simp only [*, push_cast, simprocAttr] | (rw [drawC_ok]; rotate_left; decide +kernel; exact cfg_mixed))
      case last =>
        have hf := arrK_full 1 n
        have hd : decide ((8 : Int) < 8) = false := rfl
        repeat' (first | with_reducible refine br_split (fun _ => ?_) (fun _ => ?_) | simp only [*, push_cast, simprocAttr] | (rw [drawC_ok]; rotate_left; decide +kernel; exact cfg_mixed))
      · have hs := strOf_by (beB (u64 n) 8) (kb 1)
        repeat' (first | with_reducible refine br_split (fun _ => ?_) (fun _ => ?_) | simp only [*, push_cast, simprocAttr] | (rw [drawC_ok]; rotate_left; decide +kernel; exact cfg_mixed))
    have e1 : (k == 1) = false := by simpa using h1
    by_cases h2 : k = 2
    · subst h2
      have hs0 : s = ⟨#[]⟩ := by
        simp [valueOk] at hv
        exact hv.2
      have hr : pvL ⟨2, n, s⟩ = [kb 2, kb n] := by simp [pvL, hv, beB1]
      have hn := u8_kb n
      rw [hr]
      subst hs0
      clear hr h1
      (refine (evF_code (C := cfg) (g := 83) (fn := Tryz.f83) rfl Tryz.func83 rfl (by rw [Tryz.ntmps83]; simp) (by kernel_rfl) (by first | decide | simp [keysOf])).trans ?_; rw [Tryz.results83, Tryz.ntmps83])
      repeat' (first | with_reducible refine br_split (fun _ => ?_) (fun _ => ?_) | simp only [*, push_cast, simprocAttr] | (rw [drawC_ok]; rotate_left; decide +kernel; exact cfg_mixed))
    have e2 : (k == 2) = false := by simpa using h2
    by_cases h3 : k = 3
    · subst h3
      have hsz := valueOk_size hv rfl
      simp only [] at hsz
      have hr : pvL ⟨3, n, s⟩ = [kb 3, kb (s.size : Int)] ++ bl s := by
        simp [pvL, hv, beB1]
        have := beB1 (s.size : Int)
        rw [u64_nn (by omega)] at this
        rw [this]
        rfl
      have hn := u8_kb (s.size : Int)
      have hx := bs_appX [kb 3, kb (s.size : Int)] s
      have hd2 : decide (2 + s.size ≤ 1099511627776) = true := decide_eq_true (by omega)
      rw [hr, ← hx]
      clear hr h1 h2 hx hsz
      (refine (evF_code (C := cfg) (g := 83) (fn := Tryz.f83) rfl Tryz.func83 rfl (by rw [Tryz.ntmps83]; simp) (by kernel_rfl) (by first | decide | simp [keysOf])).trans ?_; rw [Tryz.results83, Tryz.ntmps83])
      repeat' (first | with_reducible refine br_split (fun _ => ?_) (fun _ => ?_) | simp only [*, push_cast, simprocAttr] | (rw [drawC_ok]; rotate_left; decide +kernel; exact cfg_mixed))
    · have e3 : (k == 3) = false := by simpa using h3
      have hs0 : s = ⟨#[]⟩ := by
        by_cases h0 : k = 0
        · subst h0
          simp [valueOk] at hv
          exact hv.2
        · exfalso
          simp [valueOk, h0, h1, h2, h3] at hv
      have hr : pvL ⟨k, n, s⟩ = [kb k] := by simp [pvL, hv, h1, h2, h3, beB1]
      rw [hr]
      subst hs0
      clear hr h1 h2 h3
      (refine (evF_code (C := cfg) (g := 83) (fn := Tryz.f83) rfl Tryz.func83 rfl (by rw [Tryz.ntmps83]; simp) (by kernel_rfl) (by first | decide | simp [keysOf])).trans ?_; rw [Tryz.results83, Tryz.ntmps83])
      repeat' (first | with_reducible refine br_split (fun _ => ?_) (fun _ => ?_) | simp only [*, push_cast, simprocAttr] | (rw [drawC_ok]; rotate_left; decide +kernel; exact cfg_mixed))
end Go.Av
end
section
namespace Go.Av
open Go.Proofs
set_option linter.unusedSimpArgs false
@[push_cast] theorem byC_all (l : List UInt8) : ((l.map byC).all fun e => e.length == 1) = true := by simp [byC]
attribute [push_cast] bytesT_bs
theorem map_app_by (a b : List UInt8) : a.map byC ++ b.map byC = (a ++ b).map byC := by simp
theorem pvL_len (v : V) : (pvL v).length ≤ 110 := by
  unfold pvL
  split
  · rename_i hv
    rw [List.length_append, beB_len]
    split
    · rw [beB_len]; omega
    · split
      · rw [beB_len]; omega
      · split
        · rename_i h3
          have := valueOk_size hv h3
          rw [List.length_append, beB_len, bl_size]; omega
        · simp
  · simp
theorem flat_len {α : Type} (f : α → List UInt8) (K : Nat) (hf : ∀ x, (f x).length ≤ K) : ∀ l : List α, (l.flatMap f).length ≤ l.length * K
  | [] => by simp
  | a :: l => by
    have h1 := flat_len f K hf l
    have h2 := hf a
    rw [List.flatMap_cons, List.length_append, List.length_cons, Nat.succ_mul]
    omega
def accR (w : Int) (rows : List C) (i : Nat) : List UInt8 := kb w :: (rows.take i).flatMap rowB
def accI (w : Int) (rows : List C) (i : Nat) (c : C) (j : Nat) : List UInt8 := (accR w rows i ++ pvL (numV c.n)) ++ (c.row.take j).flatMap pvL
theorem accR_full (w : Int) (rows : List C) : accR w rows rows.length = kb w :: rows.flatMap rowB := by simp [accR]
theorem accI_zero (w : Int) (rows : List C) (i : Nat) (c : C) : accR w rows i ++ pvL (numV c.n) = accI w rows i c 0 := by simp [accI]
theorem accI_succ (w : Int) (rows : List C) (i : Nat) (c : C) {j : Nat} (h : j < c.row.length) : accI w rows i c j ++ pvL c.row[j] = accI w rows i c (j + 1) := by
  simp only [accI]
  rw [List.take_succ_eq_append_getElem h, List.flatMap_append]
  simp
theorem accI_full (w : Int) (rows : List C) {i : Nat} (h : i < rows.length) : accI w rows i rows[i] rows[i].row.length = accR w rows (i + 1) := by
  simp only [accI, accR]
  rw [List.take_succ_eq_append_getElem h, List.flatMap_append, List.take_length]
  simp [rowB]
theorem rowB_len {c : C} {M : Nat} (h : c.row.length ≤ M) : (rowB c).length ≤ 110 + M * 110 := by
  have h1 := pvL_len (numV c.n)
  have h2 := flat_len pvL 110 pvL_len c.row
  have h3 : c.row.length * 110 ≤ M * 110 := Nat.mul_le_mul_right _ h
  rw [rowB, List.length_append]
  omega
theorem rows_len {M : Nat} : ∀ {rows : List C}, (∀ c ∈ rows, c.row.length ≤ M) → (rows.flatMap rowB).length ≤ rows.length * (110 + M * 110)
  | [], _ => by simp
  | c :: rows, h => by
    have h1 := rows_len (M := M) (rows := rows) fun c hc => h c (List.mem_cons_of_mem _ hc)
    have h2 := rowB_len (h c (List.mem_cons_self ..))
    rw [List.flatMap_cons, List.length_append, List.length_cons, Nat.succ_mul]
    omega
theorem accR_len {w : Int} {rows : List C} {i : Nat} (hl : rows.length ≤ 400) (hr : ∀ c ∈ rows, c.row.length ≤ 1048576) : (accR w rows i).length ≤ 50000000000 := by
  have h1 := rows_len (M := 1048576) (rows := rows.take i) fun c hc => hr c (List.mem_of_mem_take hc)
  have h2 : (rows.take i).length ≤ 400 := by rw [List.length_take]; omega
  have h3 : (rows.take i).length * (110 + 1048576 * 110) ≤ 400 * (110 + 1048576 * 110) := Nat.mul_le_mul_right _ h2
  rw [accR, List.length_cons]
  omega
theorem accI_len {w : Int} {rows : List C} {i : Nat} {c : C} {j : Nat} (hl : rows.length ≤ 400) (hr : ∀ c ∈ rows, c.row.length ≤ 1048576) (hc : c.row.length ≤ 1048576) : (accI w rows i c j).length ≤ 60000000000 := by
  have h1 := accR_len (w := w) (i := i) hl hr
  have h2 := pvL_len (numV c.n)
  have h3 := flat_len pvL 110 pvL_len (c.row.take j)
  have h4 : (c.row.take j).length ≤ 1048576 := by rw [List.length_take]; omega
  have h5 : (c.row.take j).length * 110 ≤ 1048576 * 110 := Nat.mul_le_mul_right _ h4
  rw [accI, List.length_append, List.length_append]
  omega
theorem pbL_len {b : B} (hr : ∀ c ∈ b.rows, c.row.length ≤ 1048576) : (pbL b).length ≤ 50000000000 := by
  unfold pbL
  split
  · rename_i h
    have hl : b.rows.length ≤ 400 := by simp [bagOk] at h; omega
    have := accR_len (w := b.w) (i := b.rows.length) hl hr
    rwa [accR_full] at this
  · simp
theorem ev_sPutBag (w : Int) (rows : List C) (hl : rows.length ≤ 1048576) (hr : ∀ c ∈ rows, c.row.length ≤ 1048576) : evF cfg 53 [] [.agg [.d (.i .i64 w), .d (.sl .any (rows.map cC))]] = some (.d (.s (bs (pbL ⟨w, rows⟩))), []) := by
  have hb := ev_sBagOk w rows (by omega) (fun c hc => by have := hr c hc; omega)
  cases hv : bagOk ⟨w, rows⟩ with
  | false =>
    have hp : pbL ⟨w, rows⟩ = [] := by simp [pbL, hv]
    have he := strEmpty
    rw [hp, ← he]
    clear hp he
    (refine (evF_code (C := cfg) (g := 53) (fn := Tryz.f53) rfl Tryz.func53 rfl (by rw [Tryz.ntmps53]; simp) (by kernel_rfl) (by first | decide | simp [keysOf])).trans ?_; rw [Tryz.results53, Tryz.ntmps53])
    repeat' (first | with_reducible refine br_split (fun _ => ?_) (fun _ => ?_) | simp only [*, push_cast, simprocAttr] | (rw [drawC_ok]; rotate_left; decide +kernel; exact cfg_mixed))
  | true =>
    have hp : pbL ⟨w, rows⟩ = kb w :: rows.flatMap rowB := by simp [pbL, hv]
    have h400 : rows.length ≤ 400 := by simp [bagOk] at hv; omega
    have hu := u8_kb w
    rw [hp, ← accR_full]
    clear hp
    (refine (evF_code (C := cfg) (g := 53) (fn := Tryz.f53) rfl Tryz.func53 rfl (by rw [Tryz.ntmps53]; simp) (by kernel_rfl) (by first | decide | simp [keysOf])).trans ?_; rw [Tryz.results53, Tryz.ntmps53])
    repeat' (first | with_reducible refine br_split (fun _ => ?_) (fun _ => ?_) | simp only [*, push_cast, simprocAttr] | (rw [drawC_ok]; rotate_left; decide +kernel; exact cfg_mixed))
    have e0 : [byC (kb w)] = (accR w rows 0).map byC := rfl
    rw [e0]
    clear e0 hu
    rw [evM_for0 rows.length (fun i j => { t := [(1, .ptr 50 0), (3, .own 51), (4, .d (.i .i64 j))], o := [(50, .box [.d (.i .i64 w), .d (.sl .any (rows.map cC))]), (51, .arr (.u8 5) 1 ((accR w rows i).map byC))], ks := [50, 51], n := 0, sz := 57, u := noU })
      (fun i => some (.exit 0, { t := [(3, .own 50)], o := [(50, .arr (.u8 5) 1 ((accR w rows rows.length).map byC))], ks := [50], n := 0, sz := 57, u := noU })) ?step ?last]
    case step =>
      intro i hi ih
      have hd := dec_lt hi
      have hw := wrap_succ (i := i) (by omega)
      have hci : (rows.map cC)[i]? = some [.sl .any (rows[i].row.map vC), .i .i64 rows[i].n] := get_map cC rows i hi
      have hpn := ev_sPutValue 1 rows[i].n ⟨#[]⟩
      have hnv : (⟨1, rows[i].n, ⟨#[]⟩⟩ : V) = numV rows[i].n := rfl
      rw [hnv] at hpn
      have hz := accI_zero w rows i rows[i]
      have hrl := hr _ (List.getElem_mem hi)
      have ha := map_app_by (accR w rows i) (pvL (numV rows[i].n))
      have hln := accR_len (w := w) (i := i) h400 hr
      have hpl := pvL_len (numV rows[i].n)
      have hc := len_ok (n := (accR w rows i).length + (pvL (numV rows[i].n)).length) 1 (by omega) (by omega)
      have hf := accI_full w rows hi
      rw [hz] at ha
      clear hln hpl hz hnv
      repeat' (first | with_reducible refine br_split (fun _ => ?_) (fun _ => ?_) | simp only [*, push_cast, simprocAttr] | (rw [drawC_ok]; rotate_left; decide +kernel; exact cfg_mixed))
      rw [evM_for0 rows[i].row.length (fun j k => { t := [(1, .ptr 50 0), (3, .own 51), (4, .d (.i .i64 i)), (5, .d (.i .i64 k))], o := [(50, .box [.d (.i .i64 w), .d (.sl .any (rows.map cC))]), (51, .arr (.u8 5) 1 ((accI w rows i rows[i] j).map byC))], ks := [50, 51], n := 0, sz := 57, u := noU })
        (fun j => some (.exit 2, { t := [(1, .ptr 50 0), (3, .own 51), (4, .d (.i .i64 i))], o := [(50, .box [.d (.i .i64 w), .d (.sl .any (rows.map cC))]), (51, .arr (.u8 5) 1 ((accR w rows (i + 1)).map byC))], ks := [50, 51], n := 0, sz := 57, u := noU })) ?step2 ?last2]
      case step2 =>
        intro j hj ih2
        have hd2 := dec_lt hj
        have hw2 := wrap_succ (i := j) (by omega)
        have hcj : (rows[i].row.map vC)[j]? = some [.i .i64 rows[i].row[j].k, .i .i64 rows[i].row[j].n, .s rows[i].row[j].s] := get_map vC _ j hj
        have hpv := ev_sPutValue rows[i].row[j].k rows[i].row[j].n rows[i].row[j].s
        have hss := accI_succ w rows i rows[i] hj
        have ha2 := map_app_by (accI w rows i rows[i] j) (pvL rows[i].row[j])
        have hln := accI_len (w := w) (i := i) (c := rows[i]) (j := j) h400 hr hrl
        have hpl := pvL_len rows[i].row[j]
        have hc2 := len_ok (n := (accI w rows i rows[i] j).length + (pvL rows[i].row[j]).length) 1 (by omega) (by omega)
        rw [hss] at ha2
        clear hln hpl hss ih hc ha hpn hf
        repeat' (first | with_reducible refine br_split (fun _ => ?_) (fun _ => ?_) | simp only [*, push_cast, simprocAttr] | (rw [drawC_ok]; rotate_left; decide +kernel; exact cfg_mixed))
      case last2 =>
        clear ih
        repeat' (first | with_reducible refine br_split (fun _ => ?_) (fun _ => ?_) | simp only [*, push_cast, simprocAttr] | (rw [drawC_ok]; rotate_left; decide +kernel; exact cfg_mixed))
      · repeat' (first | with_reducible refine br_split (fun _ => ?_) (fun _ => ?_) | simp only [*, push_cast, simprocAttr] | (rw [drawC_ok]; rotate_left; decide +kernel; exact cfg_mixed))
    case last =>
      repeat' (first | with_reducible refine br_split (fun _ => ?_) (fun _ => ?_) | simp only [*, push_cast, simprocAttr] | (rw [drawC_ok]; rotate_left; decide +kernel; exact cfg_mixed))
    · repeat' (first | with_reducible refine br_split (fun _ => ?_) (fun _ => ?_) | simp only [*, push_cast, simprocAttr] | (rw [drawC_ok]; rotate_left; decide +kernel; exact cfg_mixed))
end Go.Av
end
section
namespace Go.Av
open Go.Proofs
set_option linter.unusedSimpArgs false
attribute [push_cast] tyV106
@[push_cast] theorem tyC5 : Tryz.prog.cellsOf 5 = 1 := by kernel_rfl
@[push_cast] theorem dec20 : decide ((2 : Nat) ≠ 0) = true := rfl
@[push_cast] theorem tt_eq : (true == true) = true := rfl
@[push_cast] theorem ft_eq : (false == true) = false := rfl
@[push_cast] theorem noesc_eq (k o : Nat) : noescE [.ptr k o] = some (.ptr k o) := rfl
@[push_cast] theorem ev_copyCheck0 : evF cfg 110 [(0, .box [.d (.raw (.pointer none)), .nl] (some 106))] [.ptr 0 0] = some (.tup [], [(0, .box [.ptr 0 0, .nl] (some 106))]) := by
  (refine (evF_code (C := cfg) (g := 110) (fn := Tryz.f110) rfl Tryz.func110 rfl (by rw [Tryz.ntmps110]; simp) (by kernel_rfl) (by first | decide | simp [keysOf])).trans ?_; rw [Tryz.results110, Tryz.ntmps110])
  repeat' (first | with_reducible refine br_split (fun _ => ?_) (fun _ => ?_) | simp only [*, push_cast, simprocAttr] | (rw [drawC_ok]; rotate_left; decide +kernel; exact cfg_mixed))
@[push_cast] theorem ev_copyCheck1 (es : List (List T)) : evF cfg 110 [(0, .box [.ptr 0 0, .own 1] (some 106)), (1, .arr (.u8 5) 1 es)] [.ptr 0 0] = some (.tup [], [(0, .box [.ptr 0 0, .own 1] (some 106)), (1, .arr (.u8 5) 1 es)]) := by
  (refine (evF_code (C := cfg) (g := 110) (fn := Tryz.f110) rfl Tryz.func110 rfl (by rw [Tryz.ntmps110]; simp) (by kernel_rfl) (by first | decide | simp [keysOf])).trans ?_; rw [Tryz.results110, Tryz.ntmps110])
  repeat' (first | with_reducible refine br_split (fun _ => ?_) (fun _ => ?_) | simp only [*, push_cast, simprocAttr] | (rw [drawC_ok]; rotate_left; decide +kernel; exact cfg_mixed))
theorem str_all (s : ByteArray) : ((bytesT s).all fun e => e.length == 1) = true := by
  rw [List.all_eq_true]
  intro e he
  unfold bytesT at he
  obtain ⟨b, _, rfl⟩ := List.mem_map.1 he
  rfl
theorem len_ok' {n : Nat} (h : n ≤ 140737488355328) : decide (n ≤ maxLen ∧ n * 1 ≤ 140737488355328) = true := by
  have hm : maxLen = 9223372036854775807 := by decide
  exact decide_eq_true ⟨by omega, by omega⟩
theorem str_len (s : ByteArray) : (bytesT s).length = s.size := by unfold bytesT; rw [List.length_map]; exact Array.length_toList
theorem ev_Write0 (s : ByteArray) (h : s.size ≤ 140737488355328) : evF cfg 79 [(0, .box [.d (.raw (.pointer none)), .nl] (some 106))] [.ptr 0 0, .d (.s s)] =
    some (.tup [.d (.i .i64 s.size), .unk], [(0, .box [.ptr 0 0, .own 40] (some 106)), (40, .arr (.u8 5) 1 (bytesT s))]) := by
  have h1 := str_all s
  have h2 := str_len s
  have h3 : decide (s.size ≤ maxLen ∧ s.size * 1 ≤ 140737488355328) = true := len_ok' h
  (refine (evF_codeU (C := cfg) (g := 79) (fn := Tryz.f79) rfl rfl Tryz.func79 rfl (by rw [Tryz.ntmps79]; simp) (by kernel_rfl) (by first | decide | simp [keysOf])).trans ?_; rw [Tryz.results79, Tryz.ntmps79])
  repeat' (first | with_reducible refine br_split (fun _ => ?_) (fun _ => ?_) | simp only [*, push_cast, simprocAttr] | (rw [drawC_ok]; rotate_left; decide +kernel; exact cfg_mixed))
theorem ev_Write1 (es : List (List T)) (s : ByteArray) (h : es.length + s.size ≤ 140737488355328) : evF cfg 79 [(0, .box [.ptr 0 0, .own 1] (some 106)), (1, .arr (.u8 5) 1 es)] [.ptr 0 0, .d (.s s)] =
    some (.tup [.d (.i .i64 s.size), .unk], [(0, .box [.ptr 0 0, .own 40] (some 106)), (40, .arr (.u8 5) 1 (es ++ bytesT s))]) := by
  have h1 := str_all s
  have h2 := str_len s
  have h3 : decide (es.length + s.size ≤ maxLen ∧ (es.length + s.size) * 1 ≤ 140737488355328) = true := len_ok' h
  (refine (evF_codeU (C := cfg) (g := 79) (fn := Tryz.f79) rfl rfl Tryz.func79 rfl (by rw [Tryz.ntmps79]; simp) (by kernel_rfl) (by first | decide | simp [keysOf])).trans ?_; rw [Tryz.results79, Tryz.ntmps79])
  repeat' (first | with_reducible refine br_split (fun _ => ?_) (fun _ => ?_) | simp only [*, push_cast, simprocAttr] | (rw [drawC_ok]; rotate_left; decide +kernel; exact cfg_mixed))
theorem ev_BString (l : List UInt8) (h : 0 < l.length) : evF cfg 82 [(0, .box [.ptr 0 0, .own 1] (some 106)), (1, .arr (.u8 5) 1 (l.map byC))] [.ptr 0 0] =
    some (.d (.s (bs l)), [(0, .box [.ptr 0 0, .own 1] (some 106)), (1, .fz (.u8 5) 1 (l.map byC))]) := by
  have h1 : decide (0 < l.length) = true := decide_eq_true h
  (refine (evF_code (C := cfg) (g := 82) (fn := Tryz.f82) rfl Tryz.func82 rfl (by rw [Tryz.ntmps82]; simp) (by kernel_rfl) (by first | decide | simp [keysOf])).trans ?_; rw [Tryz.results82, Tryz.ntmps82])
  repeat' (first | with_reducible refine br_split (fun _ => ?_) (fun _ => ?_) | simp only [*, push_cast, simprocAttr] | (rw [drawC_ok]; rotate_left; decide +kernel; exact cfg_mixed))
end Go.Av
end
section
namespace Go.Av
open Go.Proofs
set_option linter.unusedSimpArgs false
theorem map_app_bs (a b : List UInt8) : a.map byC ++ bytesT (bs b) = (a ++ b).map byC := by rw [bytesT_bs, map_app_by]
theorem ev_PutBag (w : Int) (rows : List C) (hl : rows.length ≤ 1048576) (hr : ∀ c ∈ rows, c.row.length ≤ 1048576) : evF cfg 49 [] [.agg [.d (.i .i64 w), .d (.sl .any (rows.map cC))]] = some (.d (.s (bs (pbL ⟨w, rows⟩))), []) := by
  have hb := ev_BagOk w rows (by omega) (fun c hc => by have := hr c hc; omega)
  cases hv : bagOk ⟨w, rows⟩ with
  | false =>
    have hp : pbL ⟨w, rows⟩ = [] := by simp [pbL, hv]
    have he := strEmpty
    rw [hp, ← he]
    clear hp he
    (refine (evF_code (C := cfg) (g := 49) (fn := Tryz.f49) rfl Tryz.func49 rfl (by rw [Tryz.ntmps49]; simp) (by kernel_rfl) (by first | decide | simp [keysOf])).trans ?_; rw [Tryz.results49, Tryz.ntmps49])
    repeat' (first | with_reducible refine br_split (fun _ => ?_) (fun _ => ?_) | simp only [*, push_cast, simprocAttr] | (rw [drawC_ok]; rotate_left; decide +kernel; exact cfg_mixed))
  | true =>
    have hp : pbL ⟨w, rows⟩ = kb w :: rows.flatMap rowB := by simp [pbL, hv]
    have h400 : rows.length ≤ 400 := by simp [bagOk] at hv; omega
    rw [hp, ← accR_full]
    clear hp
    have h1 := ev_Write0 (bs (beB (u64 w) 1)) (by rw [bs_size, beB_len]; omega)
    have h2 : bytesT (bs (beB (u64 w) 1)) = (accR w rows 0).map byC := by rw [bytesT_bs]; rfl
    rw [h2] at h1
    clear h2
    (refine (evF_code (C := cfg) (g := 49) (fn := Tryz.f49) rfl Tryz.func49 rfl (by rw [Tryz.ntmps49]; simp) (by kernel_rfl) (by first | decide | simp [keysOf])).trans ?_; rw [Tryz.results49, Tryz.ntmps49])
    repeat' (first | with_reducible refine br_split (fun _ => ?_) (fun _ => ?_) | simp only [*, push_cast, simprocAttr] | (rw [drawC_ok]; rotate_left; decide +kernel; exact cfg_mixed))
    rw [evM_for0 rows.length (fun i j => { t := [(3, .ptr 50 0), (16, .d (.sl .any (rows.map cC))), (17, .d (.i .i64 rows.length)), (18, .d (.i .i64 j))], o := [(50, .box [.ptr 50 0, .own 51] (some 106)), (51, .arr (.u8 5) 1 ((accR w rows i).map byC))], ks := [50, 51], n := 0, sz := 40, u := noU })
      (fun i => some (.exit 0, { t := [(3, .ptr 50 0)], o := [(50, .box [.ptr 50 0, .own 51] (some 106)), (51, .arr (.u8 5) 1 ((accR w rows rows.length).map byC))], ks := [50, 51], n := 0, sz := 40, u := noU })) ?step ?last]
    case step =>
      intro i hi ih
      have hd := dec_lt hi
      have hw := wrap_succ (i := i) (by omega)
      have hci : (rows.map cC)[i]? = some [.sl .any (rows[i].row.map vC), .i .i64 rows[i].n] := get_map cC rows i hi
      have hpn := ev_PutValue 1 rows[i].n ⟨#[]⟩
      have hnv : (⟨1, rows[i].n, ⟨#[]⟩⟩ : V) = numV rows[i].n := rfl
      rw [hnv] at hpn
      have hz := accI_zero w rows i rows[i]
      have hrl := hr _ (List.getElem_mem hi)
      have ha := map_app_bs (accR w rows i) (pvL (numV rows[i].n))
      have hln := accR_len (w := w) (i := i) h400 hr
      have hpl := pvL_len (numV rows[i].n)
      have hwr := ev_Write1 ((accR w rows i).map byC) (bs (pvL (numV rows[i].n))) (by rw [List.length_map, bs_size]; omega)
      have hf := accI_full w rows hi
      rw [hz] at ha
      rw [ha] at hwr
      clear hln hpl hz hnv ha h1
      repeat' (first | with_reducible refine br_split (fun _ => ?_) (fun _ => ?_) | simp only [*, push_cast, simprocAttr] | (rw [drawC_ok]; rotate_left; decide +kernel; exact cfg_mixed))
      rw [evM_for0 rows[i].row.length (fun j k => { t := [(3, .ptr 50 0), (16, .d (.sl .any (rows.map cC))), (17, .d (.i .i64 rows.length)), (18, .d (.i .i64 i)), (28, .d (.sl .any (rows[i].row.map vC))), (29, .d (.i .i64 rows[i].row.length)), (30, .d (.i .i64 k))], o := [(50, .box [.ptr 50 0, .own 51] (some 106)), (51, .arr (.u8 5) 1 ((accI w rows i rows[i] j).map byC))], ks := [50, 51], n := 0, sz := 40, u := noU })
        (fun j => some (.exit 2, { t := [(3, .ptr 50 0), (16, .d (.sl .any (rows.map cC))), (17, .d (.i .i64 rows.length)), (18, .d (.i .i64 i))], o := [(50, .box [.ptr 50 0, .own 51] (some 106)), (51, .arr (.u8 5) 1 ((accR w rows (i + 1)).map byC))], ks := [50, 51], n := 0, sz := 40, u := noU })) ?step2 ?last2]
      case step2 =>
        intro j hj ih2
        have hd2 := dec_lt hj
        have hw2 := wrap_succ (i := j) (by omega)
        have hcj : (rows[i].row.map vC)[j]? = some [.i .i64 rows[i].row[j].k, .i .i64 rows[i].row[j].n, .s rows[i].row[j].s] := get_map vC _ j hj
        have hpv := ev_PutValue rows[i].row[j].k rows[i].row[j].n rows[i].row[j].s
        have hss := accI_succ w rows i rows[i] hj
        have ha2 := map_app_bs (accI w rows i rows[i] j) (pvL rows[i].row[j])
        have hln := accI_len (w := w) (i := i) (c := rows[i]) (j := j) h400 hr hrl
        have hpl := pvL_len rows[i].row[j]
        have hwr2 := ev_Write1 ((accI w rows i rows[i] j).map byC) (bs (pvL rows[i].row[j])) (by rw [List.length_map, bs_size]; omega)
        rw [hss] at ha2
        rw [ha2] at hwr2
        clear hln hpl hss ih hwr ha2 hpn hf
        repeat' (first | with_reducible refine br_split (fun _ => ?_) (fun _ => ?_) | simp only [*, push_cast, simprocAttr] | (rw [drawC_ok]; rotate_left; decide +kernel; exact cfg_mixed))
      case last2 =>
        clear ih
        repeat' (first | with_reducible refine br_split (fun _ => ?_) (fun _ => ?_) | simp only [*, push_cast, simprocAttr] | (rw [drawC_ok]; rotate_left; decide +kernel; exact cfg_mixed))
      · repeat' (first | with_reducible refine br_split (fun _ => ?_) (fun _ => ?_) | simp only [*, push_cast, simprocAttr] | (rw [drawC_ok]; rotate_left; decide +kernel; exact cfg_mixed))
    case last =>
      repeat' (first | with_reducible refine br_split (fun _ => ?_) (fun _ => ?_) | simp only [*, push_cast, simprocAttr] | (rw [drawC_ok]; rotate_left; decide +kernel; exact cfg_mixed))
    · have hbs := ev_BString (accR w rows rows.length) (by rw [accR]; exact Nat.succ_pos _)
      repeat' (first | with_reducible refine br_split (fun _ => ?_) (fun _ => ?_) | simp only [*, push_cast, simprocAttr] | (rw [drawC_ok]; rotate_left; decide +kernel; exact cfg_mixed))
end Go.Av
end
