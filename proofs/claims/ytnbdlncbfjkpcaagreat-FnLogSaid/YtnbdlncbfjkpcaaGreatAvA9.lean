/- Texts that the last one goes by: W1, SM1, W2, W3, W4, WA, WB, WC, WD, WE, WF, WG, WH, WI, RL2. -/
import Derived.Test.YtnbdlncbfjkpcaaGreatAvA8
import Derived.Test.YtnbdlncbfjkpcaaGreatAvA4
import Derived.Test.YtnbdlncbfjkpcaaGreatAvA6
import Derived.Test.YtnbdlncbfjkpcaaGreatAvA7
set_option linter.all false
set_option linter.unusedVariables false
set_option linter.unusedSimpArgs false
section
namespace Go.Av
open Go.Proofs
set_option linter.unusedSimpArgs false
def cuC (n : Int) : List T := [.i .u8 n]
def byN (x : Int) : Nat := (bitsI .and .i64 x 255).toNat
theorem band_255 (x : Int) : bitsI .and .i64 x 255 = (byN x : Int) ∧ byN x ≤ 255 := by
  have h : (BitVec.ofInt 64 x &&& BitVec.ofInt 64 255).toNat ≤ 255 := by
    rw [BitVec.toNat_and]
    exact Nat.and_le_right
  have h2 : bitsI .and .i64 x 255 = ((BitVec.ofInt 64 x &&& BitVec.ofInt 64 255).toNat : Int) := by
    show IntKind.i64.wrap ((BitVec.ofInt 64 x &&& BitVec.ofInt 64 255).toNat : Int) = _
    exact i64_in (by omega) (by omega)
  constructor
  · unfold byN; rw [h2, Int.toNat_natCast]
  · unfold byN; rw [h2, Int.toNat_natCast]; exact h
theorem band_eq (x : Int) : bitsI .and .i64 x 255 = (byN x : Int) := (band_255 x).1
theorem byN_le (x : Int) : byN x ≤ 255 := (band_255 x).2
theorem ev_l01New (l : List Int) (hl : l.length ≤ 1048576) : ∃ r, evF cfg 44 [] [.d (.sl .any (l.map cuC))] = some r ∧ ∃ h : Int, r = (.ptr 40 0, [(40, .box [.d (.sl .any (l.map cuC)), .d (.i .i64 0), .d (.i .i64 h)])]) := by
  refine exQ fun Q hQ => ?_
  have HQ := Hd.mk hQ; clear hQ
  have H := Hd.mk hl; clear hl
  (refine Eq.mpr (congrArg Q (evF_code (C := cfg) (g := 44) (fn := Tryz.f44) rfl Tryz.func44 rfl (by rw [Tryz.ntmps44]; simp) (by kernel_rfl) (by first | decide | simp [keysOf]))) ?_; rw [Tryz.results44, Tryz.ntmps44])
  repeat' (first | with_reducible refine br_split (fun _ => ?_) (fun _ => ?_) | simp only [*, push_cast, simprocAttr] | (rw [drawC_ok]; rotate_left; decide +kernel; exact cfg_mixed))
  generalize hE : evM cfg _ _ _ _ _ = RR
  have key : ∃ r, RR = some r ∧ ∃ h : Int, r = (Exit.exit 0, { t := [(0, .d (.sl .any (l.map cuC))), (3, .d (.i .i64 h))], o := [], ks := [], n := 0, sz := 32, u := noU }) := by
    rw [← hE]
    refine evM_ex (α := Nat × Int) (fun z => { t := [(0, .d (.sl .any (l.map cuC))), (3, .d (.i .i64 z.2)), (4, .d (.i .i64 (z.1 : Nat)))], o := [], ks := [], n := 0, sz := 32, u := noU })
      (fun _ r => ∃ h : Int, r = (Exit.exit 0, { t := [(0, .d (.sl .any (l.map cuC))), (3, .d (.i .i64 h))], o := [], ks := [], n := 0, sz := 32, u := noU })) (fun _ => True) (fun z => l.length - z.1) ?_ (0, _) trivial
    clear hE RR
    rintro ⟨i, h⟩ - ih
    have hl := H.out
    simp only
    by_cases hc : i < l.length
    · have c1 := dec_lt hc
      have c2 := dec_ltN hc
      have g1 : (l.map cuC)[i]? = some [.i .u8 l[i]] := get_map cuC l i hc
      have w1 : IntKind.i64.wrap ((i : Int) + 1) = (i : Int) + 1 := wrap_succ (by omega)
      by_cases h4 : (i : Int) < 4000
      · have c3 : decide ((i : Int) < 4000) = true := decide_eq_true h4
        obtain ⟨r, hr, hq⟩ := ih (i + 1, bitsI .and .i64 (IntKind.i64.wrap (IntKind.i64.wrap (IntKind.i64.wrap (h * 131) + IntKind.i64.wrap l[i]) + 7)) 1073741823) trivial (by simp only; omega)
        refine ⟨r, ?_, hq⟩
        simp only at hr
        rw [show ((i + 1 : Nat) : Int) = (i : Int) + 1 from rfl] at hr
        clear ih hl hq h4
        repeat' (first | with_reducible refine br_split (fun _ => ?_) (fun _ => ?_) | simp only [*, push_cast, simprocAttr] | (rw [drawC_ok]; rotate_left; decide +kernel; exact cfg_mixed))
      · have c3 : decide ((i : Int) < 4000) = false := decide_eq_false h4
        refine ⟨_, ?_, h, rfl⟩
        clear ih hl h4
        repeat' (first | with_reducible refine br_split (fun _ => ?_) (fun _ => ?_) | simp only [*, push_cast, simprocAttr] | (rw [drawC_ok]; rotate_left; decide +kernel; exact cfg_mixed))
    · have c1 : decide ((i : Int) < (l.length : Int)) = false := decide_eq_false (by omega)
      refine ⟨_, ?_, h, rfl⟩
      clear ih hl hc
      repeat' (first | with_reducible refine br_split (fun _ => ?_) (fun _ => ?_) | simp only [*, push_cast, simprocAttr] | (rw [drawC_ok]; rotate_left; decide +kernel; exact cfg_mixed))
  obtain ⟨_, rfl, h, rfl⟩ := key
  clear hE
  repeat' (first | with_reducible refine br_split (fun _ => ?_) (fun _ => ?_) | simp only [*, push_cast, simprocAttr] | (rw [drawC_ok]; rotate_left; decide +kernel; exact cfg_mixed))
  exact HQ.out _ ⟨_, rfl⟩
theorem ev_l01Byte (l : List Int) (hl : l.length ≤ 1048576) (i : Nat) (hi : i ≤ l.length) (h : Int) : ∃ r, evF cfg 104 [(0, .box [.d (.sl .any (l.map cuC)), .d (.i .i64 (i : Nat)), .d (.i .i64 h)])] [.ptr 0 0] = some r ∧
    ∃ (x i' : Nat) (h' : Int), x ≤ 255 ∧ i' ≤ l.length ∧ r = (.d (.i .i64 (x : Nat)), [(0, .box [.d (.sl .any (l.map cuC)), .d (.i .i64 (i' : Nat)), .d (.i .i64 h')])]) := by
  refine exQ fun Q hQ => ?_
  have HQ := Hd.mk hQ; clear hQ
  by_cases hc : i < l.length
  · have c1 := dec_lt hc
    have c2 := dec_ltN hc
    have g1 : (l.map cuC)[i]? = some [.i .u8 l[i]] := get_map cuC l i hc
    have w1 : IntKind.i64.wrap ((i : Int) + 1) = (i : Int) + 1 := wrap_succ (by omega)
    have H := Hd.mk (And.intro hl hc)
    clear hl hi
    (refine Eq.mpr (congrArg Q (evF_code (C := cfg) (g := 104) (fn := Tryz.f104) rfl Tryz.func104 rfl (by rw [Tryz.ntmps104]; simp) (by kernel_rfl) (by first | decide | simp [keysOf]))) ?_; rw [Tryz.results104, Tryz.ntmps104])
    repeat' (first | with_reducible refine br_split (fun _ => ?_) (fun _ => ?_) | simp only [*, band_eq, push_cast, simprocAttr] | (rw [drawC_ok]; rotate_left; decide +kernel; exact cfg_mixed))
    exact HQ.out _ ⟨byN _, i + 1, _, byN_le _, H.out.2, rfl⟩
  · have c1 : decide ((i : Int) < (l.length : Int)) = false := decide_eq_false (by omega)
    have H := Hd.mk hi
    clear hl hc hi
    (refine Eq.mpr (congrArg Q (evF_code (C := cfg) (g := 104) (fn := Tryz.f104) rfl Tryz.func104 rfl (by rw [Tryz.ntmps104]; simp) (by kernel_rfl) (by first | decide | simp [keysOf]))) ?_; rw [Tryz.results104, Tryz.ntmps104])
    repeat' (first | with_reducible refine br_split (fun _ => ?_) (fun _ => ?_) | simp only [*, band_eq, push_cast, simprocAttr] | (rw [drawC_ok]; rotate_left; decide +kernel; exact cfg_mixed))
    exact HQ.out _ ⟨byN _, i, _, byN_le _, H.out, rfl⟩
theorem ev_l01Below (l : List Int) (hl : l.length ≤ 1048576) (i : Nat) (hi : i ≤ l.length) (h : Int) (n : Int) (N : Nat) (hn : n = N) (h0 : 0 < N) (h1 : N ≤ 256) : ∃ r, evF cfg 74 [(0, .box [.d (.sl .any (l.map cuC)), .d (.i .i64 (i : Nat)), .d (.i .i64 h)])] [.ptr 0 0, .d (.i .i64 n)] = some r ∧
    ∃ (x i' : Nat) (h' : Int), x < N ∧ i' ≤ l.length ∧ r = (.d (.i .i64 (x : Nat)), [(0, .box [.d (.sl .any (l.map cuC)), .d (.i .i64 (i' : Nat)), .d (.i .i64 h')])]) := by
  refine exQ fun Q hQ => ?_
  have HQ := Hd.mk hQ; clear hQ
  obtain ⟨_, e1, x, i', h', hx, hi', rfl⟩ := ev_l01Byte l hl i hi h
  have c1 : decide (n ≤ 0) = false := decide_eq_false (by omega)
  have c2 : decide (n ≤ 256) = true := decide_eq_true (by omega)
  have c3 : decide (n ≠ 0) = true := decide_eq_true (by omega)
  have c4 : decide (n = 0) = false := decide_eq_false (by omega)
  have c5 : (x : Int).tmod n = ((x % N : Nat) : Int) := by rw [hn]; exact (Int.ofNat_tmod x N).symm
  have H := Hd.mk (And.intro hi' (Nat.mod_lt x h0))
  clear hl hi hn h0 h1 hx hi'
  (refine Eq.mpr (congrArg Q (evF_code (C := cfg) (g := 74) (fn := Tryz.f74) rfl Tryz.func74 rfl (by rw [Tryz.ntmps74]; simp) (by kernel_rfl) (by first | decide | simp [keysOf]))) ?_; rw [Tryz.results74, Tryz.ntmps74])
  repeat' (first | with_reducible refine br_split (fun _ => ?_) (fun _ => ?_) | simp only [*, push_cast, simprocAttr] | (rw [drawC_ok]; rotate_left; decide +kernel; exact cfg_mixed))
  exact HQ.out _ ⟨x % N, i', h', H.out.2, H.out.1, by first | rfl | simp⟩
theorem ev_l01Once (l : List Int) (hl : l.length ≤ 1048576) (i : Nat) (hi : i ≤ l.length) (h : Int) (n : Int) (N : Nat) (hn : n = N) (h0 : 0 < N) (h1 : N ≤ 256) : ∃ r, evF cfg 105 [(0, .box [.d (.sl .any (l.map cuC)), .d (.i .i64 (i : Nat)), .d (.i .i64 h)])] [.ptr 0 0, .d (.i .i64 n)] = some r ∧
    ∃ (b : Bool) (i' : Nat) (h' : Int), i' ≤ l.length ∧ r = (.d (.b b), [(0, .box [.d (.sl .any (l.map cuC)), .d (.i .i64 (i' : Nat)), .d (.i .i64 h')])]) := by
  refine exQ fun Q hQ => ?_
  have HQ := Hd.mk hQ; clear hQ
  obtain ⟨_, e1, x, i', h', hx, hi', rfl⟩ := ev_l01Below l hl i hi h n N hn h0 h1
  have H := Hd.mk hi'
  clear hl hi hn h0 h1 hx hi'
  (refine Eq.mpr (congrArg Q (evF_code (C := cfg) (g := 105) (fn := Tryz.f105) rfl Tryz.func105 rfl (by rw [Tryz.ntmps105]; simp) (by kernel_rfl) (by first | decide | simp [keysOf]))) ?_; rw [Tryz.results105, Tryz.ntmps105])
  repeat' (first | with_reducible refine br_split (fun _ => ?_) (fun _ => ?_) | simp only [*, push_cast, simprocAttr] | (rw [drawC_ok]; rotate_left; decide +kernel; exact cfg_mixed))
  exact HQ.out _ ⟨_, i', h', H.out, rfl⟩
def inC (n : Int) : List T := [.i .i64 n]
theorem ev_l01PickInt (l : List Int) (hl : l.length ≤ 1048576) (i : Nat) (hi : i ≤ l.length) (h : Int) (es : List Int) (h0 : 0 < es.length) (h1 : es.length ≤ 256) : ∃ r, evF cfg 125 [(0, .box [.d (.sl .any (l.map cuC)), .d (.i .i64 (i : Nat)), .d (.i .i64 h)])] [.ptr 0 0, .d (.sl .any (es.map inC))] = some r ∧
    ∃ (x : Int) (i' : Nat) (h' : Int), x ∈ es ∧ i' ≤ l.length ∧ r = (.d (.i .i64 x), [(0, .box [.d (.sl .any (l.map cuC)), .d (.i .i64 (i' : Nat)), .d (.i .i64 h')])]) := by
  refine exQ fun Q hQ => ?_
  have HQ := Hd.mk hQ; clear hQ
  obtain ⟨_, e1, x, i', h', hx, hi', rfl⟩ := ev_l01Below l hl i hi h es.length es.length rfl h0 h1
  have c1 := dec_lt hx
  have c2 := dec_ltN hx
  have g1 : (es.map inC)[x]? = some [.i .i64 es[x]] := get_map inC es x hx
  have H := Hd.mk (And.intro hi' (List.getElem_mem hx))
  clear hl hi h0 h1 hi'
  (refine Eq.mpr (congrArg Q (evF_code (C := cfg) (g := 125) (fn := Tryz.f125) rfl Tryz.func125 rfl (by rw [Tryz.ntmps125]; simp) (by kernel_rfl) (by first | decide | simp [keysOf]))) ?_; rw [Tryz.results125, Tryz.ntmps125])
  repeat' (first | with_reducible refine br_split (fun _ => ?_) (fun _ => ?_) | simp only [*, push_cast, simprocAttr] | (rw [drawC_ok]; rotate_left; decide +kernel; exact cfg_mixed))
  exact HQ.out _ ⟨_, i', h', H.out.2, H.out.1, rfl⟩
theorem ev_l01Pick (l : List Int) (hl : l.length ≤ 1048576) (i : Nat) (hi : i ≤ l.length) (h : Int) (es : List ByteArray) (h0 : 0 < es.length) (h1 : es.length ≤ 256) : ∃ r, evF cfg 75 [(0, .box [.d (.sl .any (l.map cuC)), .d (.i .i64 (i : Nat)), .d (.i .i64 h)])] [.ptr 0 0, .d (.sl .any (es.map fun s => [T.s s]))] = some r ∧
    ∃ (x : ByteArray) (i' : Nat) (h' : Int), x ∈ es ∧ i' ≤ l.length ∧ r = (.d (.s x), [(0, .box [.d (.sl .any (l.map cuC)), .d (.i .i64 (i' : Nat)), .d (.i .i64 h')])]) := by
  refine exQ fun Q hQ => ?_
  have HQ := Hd.mk hQ; clear hQ
  obtain ⟨_, e1, x, i', h', hx, hi', rfl⟩ := ev_l01Below l hl i hi h es.length es.length rfl h0 h1
  have c1 := dec_lt hx
  have c2 := dec_ltN hx
  have g1 : (es.map fun s => [T.s s])[x]? = some [.s es[x]] := get_map (fun s => [T.s s]) es x hx
  have H := Hd.mk (And.intro hi' (List.getElem_mem hx))
  clear hl hi h0 h1 hi'
  (refine Eq.mpr (congrArg Q (evF_code (C := cfg) (g := 75) (fn := Tryz.f75) rfl Tryz.func75 rfl (by rw [Tryz.ntmps75]; simp) (by kernel_rfl) (by first | decide | simp [keysOf]))) ?_; rw [Tryz.results75, Tryz.ntmps75])
  repeat' (first | with_reducible refine br_split (fun _ => ?_) (fun _ => ?_) | simp only [*, push_cast, simprocAttr] | (rw [drawC_ok]; rotate_left; decide +kernel; exact cfg_mixed))
  exact HQ.out _ ⟨_, i', h', H.out.2, H.out.1, rfl⟩
end Go.Av
end
section
namespace Go.Av
open Go.Proofs
set_option linter.unusedSimpArgs false
theorem ev_sameTexts1 (l : List ByteArray) (hl : l.length ≤ 1048576) : evF cfg 54 [] [.d (.sl .any (l.map sC)), .d (.sl .any (l.map sC))] = some (.d (.b true), []) := by
  have hd0 : ((l.length : Int) != (l.length : Int)) = false := bne_self_eq_false _
  have H := Hd.mk (And.intro hl trivial)
  clear hl
  (refine (evF_code (C := cfg) (g := 54) (fn := Tryz.f54) rfl Tryz.func54 rfl (by rw [Tryz.ntmps54]; simp) (by kernel_rfl) (by first | decide | simp [keysOf])).trans ?_; rw [Tryz.results54, Tryz.ntmps54])
  repeat' (first | with_reducible refine br_split (fun _ => ?_) (fun _ => ?_) | simp only [*, push_cast, simprocAttr] | (rw [drawC_ok]; rotate_left; decide +kernel; exact cfg_mixed))
  rw [evM_for0 l.length (fun i j => { t := [(0, .d (.sl .any (l.map sC))), (1, .d (.sl .any (l.map sC))), (5, .d (.i .i64 j))], o := [], ks := [], n := 0, sz := 26, u := noU }) (fun i => some (.exit 0, { t := [], o := [], ks := [], n := 0, sz := 26, u := noU })) ?step ?last]
  case step =>
    intro i hi ih
    obtain ⟨hl, h⟩ := H.out
    have hc : (l.map sC)[i]? = some [.s l[i]] := get_map sC l i hi
    have hd := dec_lt hi
    have hdn := dec_ltN hi
    have hw : IntKind.i64.wrap ((i : Int) + 1) = (i : Int) + 1 := wrap_succ (by omega)
    clear hl h H
    repeat' (first | with_reducible refine br_split (fun _ => ?_) (fun _ => ?_) | simp only [*, push_cast, simprocAttr] | (rw [drawC_ok]; rotate_left; decide +kernel; exact cfg_mixed))
  case last =>
    clear H
    repeat' (first | with_reducible refine br_split (fun _ => ?_) (fun _ => ?_) | simp only [*, push_cast, simprocAttr] | (rw [drawC_ok]; rotate_left; decide +kernel; exact cfg_mixed))
  repeat' (first | with_reducible refine br_split (fun _ => ?_) (fun _ => ?_) | simp only [*, push_cast, simprocAttr] | (rw [drawC_ok]; rotate_left; decide +kernel; exact cfg_mixed))
theorem ev_sameRow1 (l : List V) (hl : l.length ≤ 1048576) : evF cfg 111 [] [.d (.sl .any (l.map vC)), .d (.sl .any (l.map vC))] = some (.d (.b true), []) := by
  have hd0 : ((l.length : Int) != (l.length : Int)) = false := bne_self_eq_false _
  have H := Hd.mk (And.intro hl trivial)
  clear hl
  (refine (evF_code (C := cfg) (g := 111) (fn := Tryz.f111) rfl Tryz.func111 rfl (by rw [Tryz.ntmps111]; simp) (by kernel_rfl) (by first | decide | simp [keysOf])).trans ?_; rw [Tryz.results111, Tryz.ntmps111])
  repeat' (first | with_reducible refine br_split (fun _ => ?_) (fun _ => ?_) | simp only [*, push_cast, simprocAttr] | (rw [drawC_ok]; rotate_left; decide +kernel; exact cfg_mixed))
  rw [evM_for0 l.length (fun i j => { t := [(0, .d (.sl .any (l.map vC))), (1, .d (.sl .any (l.map vC))), (5, .d (.i .i64 j))], o := [], ks := [], n := 0, sz := 26, u := noU }) (fun i => some (.exit 0, { t := [], o := [], ks := [], n := 0, sz := 26, u := noU })) ?step ?last]
  case step =>
    intro i hi ih
    obtain ⟨hl, h⟩ := H.out
    have hc : (l.map vC)[i]? = some [.i .i64 l[i].k, .i .i64 l[i].n, .s l[i].s] := get_map vC l i hi
    have hd := dec_lt hi
    have hdn := dec_ltN hi
    have hw : IntKind.i64.wrap ((i : Int) + 1) = (i : Int) + 1 := wrap_succ (by omega)
    have hb1 : (l[i].k != l[i].k) = false := bne_self_eq_false _
    have hb2 : (l[i].n != l[i].n) = false := bne_self_eq_false _
    clear hl h H
    repeat' (first | with_reducible refine br_split (fun _ => ?_) (fun _ => ?_) | simp only [*, push_cast, simprocAttr] | (rw [drawC_ok]; rotate_left; decide +kernel; exact cfg_mixed))
  case last =>
    clear H
    repeat' (first | with_reducible refine br_split (fun _ => ?_) (fun _ => ?_) | simp only [*, push_cast, simprocAttr] | (rw [drawC_ok]; rotate_left; decide +kernel; exact cfg_mixed))
  repeat' (first | with_reducible refine br_split (fun _ => ?_) (fun _ => ?_) | simp only [*, push_cast, simprocAttr] | (rw [drawC_ok]; rotate_left; decide +kernel; exact cfg_mixed))
theorem ev_sameBag1 (w : Int) (l : List C) (hl : l.length ≤ 1048576) (h : ∀ c ∈ l, c.row.length ≤ 1048576) : evF cfg 85 [] [.agg [.d (.i .i64 w), .d (.sl .any (l.map cC))], .agg [.d (.i .i64 w), .d (.sl .any (l.map cC))]] = some (.d (.b true), []) := by
  have hd0 : ((l.length : Int) != (l.length : Int)) = false := bne_self_eq_false _
  have hd1 : (w != w) = false := bne_self_eq_false _
  have H := Hd.mk (And.intro hl h)
  clear hl h
  (refine (evF_code (C := cfg) (g := 85) (fn := Tryz.f85) rfl Tryz.func85 rfl (by rw [Tryz.ntmps85]; simp) (by kernel_rfl) (by first | decide | simp [keysOf])).trans ?_; rw [Tryz.results85, Tryz.ntmps85])
  repeat' (first | with_reducible refine br_split (fun _ => ?_) (fun _ => ?_) | simp only [*, push_cast, simprocAttr] | (rw [drawC_ok]; rotate_left; decide +kernel; exact cfg_mixed))
  rw [evM_for0 l.length (fun i j => { t := [(2, .ptr 50 0), (3, .ptr 51 0), (5, .d (.i .i64 j))], o := [(50, .box [.d (.i .i64 w), .d (.sl .any (l.map cC))]), (51, .box [.d (.i .i64 w), .d (.sl .any (l.map cC))])], ks := [50, 51], n := 0, sz := 56, u := noU }) (fun i => some (.exit 0, { t := [], o := [], ks := [], n := 0, sz := 56, u := noU })) ?step ?last]
  case step =>
    intro i hi ih
    obtain ⟨hl, h⟩ := H.out
    have hc : (l.map cC)[i]? = some [.sl .any (l[i].row.map vC), .i .i64 l[i].n] := get_map cC l i hi
    have hd := dec_lt hi
    have hdn := dec_ltN hi
    have hw : IntKind.i64.wrap ((i : Int) + 1) = (i : Int) + 1 := wrap_succ (by omega)
    have hb : (l[i].n != l[i].n) = false := bne_self_eq_false _
    have he := ev_sameRow1 l[i].row (h _ (List.getElem_mem hi))
    clear hl h H
    repeat' (first | with_reducible refine br_split (fun _ => ?_) (fun _ => ?_) | simp only [*, push_cast, simprocAttr] | (rw [drawC_ok]; rotate_left; decide +kernel; exact cfg_mixed))
  case last =>
    clear H
    repeat' (first | with_reducible refine br_split (fun _ => ?_) (fun _ => ?_) | simp only [*, push_cast, simprocAttr] | (rw [drawC_ok]; rotate_left; decide +kernel; exact cfg_mixed))
  repeat' (first | with_reducible refine br_split (fun _ => ?_) (fun _ => ?_) | simp only [*, push_cast, simprocAttr] | (rw [drawC_ok]; rotate_left; decide +kernel; exact cfg_mixed))
theorem ev_sameDb1 (l : List R) (hl : l.length ≤ 1048576) (h : ∀ r ∈ l, r.bag.rows.length ≤ 1048576 ∧ ∀ c ∈ r.bag.rows, c.row.length ≤ 1048576) : evF cfg 55 [] [.d (.sl .any (l.map rC)), .d (.sl .any (l.map rC))] = some (.d (.b true), []) := by
  have hd0 : ((l.length : Int) != (l.length : Int)) = false := bne_self_eq_false _
  have H := Hd.mk (And.intro hl h)
  clear hl h
  (refine (evF_code (C := cfg) (g := 55) (fn := Tryz.f55) rfl Tryz.func55 rfl (by rw [Tryz.ntmps55]; simp) (by kernel_rfl) (by first | decide | simp [keysOf])).trans ?_; rw [Tryz.results55, Tryz.ntmps55])
  repeat' (first | with_reducible refine br_split (fun _ => ?_) (fun _ => ?_) | simp only [*, push_cast, simprocAttr] | (rw [drawC_ok]; rotate_left; decide +kernel; exact cfg_mixed))
  rw [evM_for0 l.length (fun i j => { t := [(0, .d (.sl .any (l.map rC))), (1, .d (.sl .any (l.map rC))), (5, .d (.i .i64 j))], o := [], ks := [], n := 0, sz := 42, u := noU }) (fun i => some (.exit 0, { t := [], o := [], ks := [], n := 0, sz := 42, u := noU })) ?step ?last]
  case step =>
    intro i hi ih
    obtain ⟨hl, h⟩ := H.out
    have hc : (l.map rC)[i]? = some [.s l[i].name, .i .i64 l[i].bag.w, .sl .any (l[i].bag.rows.map cC)] := get_map rC l i hi
    have hd := dec_lt hi
    have hdn := dec_ltN hi
    have hw : IntKind.i64.wrap ((i : Int) + 1) = (i : Int) + 1 := wrap_succ (by omega)
    obtain ⟨h1, h2⟩ := h _ (List.getElem_mem hi)
    have he := ev_sameBag1 l[i].bag.w l[i].bag.rows h1 h2
    clear hl h H h1 h2
    repeat' (first | with_reducible refine br_split (fun _ => ?_) (fun _ => ?_) | simp only [*, push_cast, simprocAttr] | (rw [drawC_ok]; rotate_left; decide +kernel; exact cfg_mixed))
  case last =>
    clear H
    repeat' (first | with_reducible refine br_split (fun _ => ?_) (fun _ => ?_) | simp only [*, push_cast, simprocAttr] | (rw [drawC_ok]; rotate_left; decide +kernel; exact cfg_mixed))
  repeat' (first | with_reducible refine br_split (fun _ => ?_) (fun _ => ?_) | simp only [*, push_cast, simprocAttr] | (rw [drawC_ok]; rotate_left; decide +kernel; exact cfg_mixed))
structure SmS (x : Sp) : Prop where
  cols : x.cols.length ≤ 1048576
  ch : x.change.length ≤ 1048576
  rel : ∀ r ∈ x.change, r.bag.rows.length ≤ 1048576 ∧ ∀ c ∈ r.bag.rows, c.row.length ≤ 1048576
theorem ev_sameStep1 (kind : Int) (name : ByteArray) (cols : List ByteArray) (query : ByteArray) (change : List R) (h : SmS ⟨kind, name, cols, query, change⟩) :
    evF cfg 24 [] [.agg [.d (.i .i64 kind), .d (.s name), .d (.sl .any (cols.map sC)), .d (.s query), .d (.sl .any (change.map rC))], .agg [.d (.i .i64 kind), .d (.s name), .d (.sl .any (cols.map sC)), .d (.s query), .d (.sl .any (change.map rC))]] = some (.d (.b true), []) := by
  have e1 := ev_sameTexts1 cols h.cols
  have e2 := ev_sameDb1 change h.ch h.rel
  have hb : (kind == kind) = true := beq_self_eq_true _
  clear h
  (refine (evF_code (C := cfg) (g := 24) (fn := Tryz.f24) rfl Tryz.func24 rfl (by rw [Tryz.ntmps24]; simp) (by kernel_rfl) (by first | decide | simp [keysOf])).trans ?_; rw [Tryz.results24, Tryz.ntmps24])
  repeat' (first | with_reducible refine br_split (fun _ => ?_) (fun _ => ?_) | simp only [*, push_cast, simprocAttr] | (rw [drawC_ok]; rotate_left; decide +kernel; exact cfg_mixed))
theorem ev_sameSteps1 (l : List Sp) (hl : l.length ≤ 1048576) (h : ∀ x ∈ l, SmS x) : evF cfg 22 [] [.d (.sl .any (l.map spC)), .d (.sl .any (l.map spC))] = some (.d (.b true), []) := by
  have hd0 : ((l.length : Int) != (l.length : Int)) = false := bne_self_eq_false _
  have H := Hd.mk (And.intro hl h)
  clear hl h
  (refine (evF_code (C := cfg) (g := 22) (fn := Tryz.f22) rfl Tryz.func22 rfl (by rw [Tryz.ntmps22]; simp) (by kernel_rfl) (by first | decide | simp [keysOf])).trans ?_; rw [Tryz.results22, Tryz.ntmps22])
  repeat' (first | with_reducible refine br_split (fun _ => ?_) (fun _ => ?_) | simp only [*, push_cast, simprocAttr] | (rw [drawC_ok]; rotate_left; decide +kernel; exact cfg_mixed))
  rw [evM_for0 l.length (fun i j => { t := [(0, .d (.sl .any (l.map spC))), (1, .d (.sl .any (l.map spC))), (5, .d (.i .i64 j))], o := [], ks := [], n := 0, sz := 27, u := noU }) (fun i => some (.exit 0, { t := [], o := [], ks := [], n := 0, sz := 27, u := noU })) ?step ?last]
  case step =>
    intro i hi ih
    obtain ⟨hl, h⟩ := H.out
    have hc : (l.map spC)[i]? = some (spC l[i]) := get_map spC l i hi
    have hd := dec_lt hi
    have hdn := dec_ltN hi
    have hw : IntKind.i64.wrap ((i : Int) + 1) = (i : Int) + 1 := wrap_succ (by omega)
    have hx := h _ (List.getElem_mem hi)
    generalize l[i] = x at *
    obtain ⟨kind, name, cols, query, change⟩ := x
    have he := ev_sameStep1 kind name cols query change hx
    simp only [spC] at hc
    clear hl h H hx
    repeat' (first | with_reducible refine br_split (fun _ => ?_) (fun _ => ?_) | simp only [*, push_cast, simprocAttr] | (rw [drawC_ok]; rotate_left; decide +kernel; exact cfg_mixed))
  case last =>
    clear H
    repeat' (first | with_reducible refine br_split (fun _ => ?_) (fun _ => ?_) | simp only [*, push_cast, simprocAttr] | (rw [drawC_ok]; rotate_left; decide +kernel; exact cfg_mixed))
  repeat' (first | with_reducible refine br_split (fun _ => ?_) (fun _ => ?_) | simp only [*, push_cast, simprocAttr] | (rw [drawC_ok]; rotate_left; decide +kernel; exact cfg_mixed))
theorem ev_lawBig (l : List Int) : evF cfg 16 [] [.d (.sl .any (l.map cuC))] = some (.d (.b (decide ((l.length : Int) > 1048576))), []) := by
  (refine (evF_code (C := cfg) (g := 16) (fn := Tryz.f16) rfl Tryz.func16 rfl (by rw [Tryz.ntmps16]; simp) (by kernel_rfl) (by first | decide | simp [keysOf])).trans ?_; rw [Tryz.results16, Tryz.ntmps16])
  repeat' (first | with_reducible refine br_split (fun _ => ?_) (fun _ => ?_) | simp only [*, push_cast, simprocAttr] | (rw [drawC_ok]; rotate_left; decide +kernel; exact cfg_mixed))
theorem ev_at (l : List Int) (hl : l.length ≤ 1048576) (hu : ∀ x ∈ l, 0 ≤ x ∧ x ≤ 255) (i : Nat) (hi : i ≤ 100) : ∃ x : Nat, x ≤ 255 ∧ evF cfg 29 [] [.d (.sl .any (l.map cuC)), .d (.i .i64 (i : Nat))] = some (.d (.i .i64 (x : Nat)), []) := by
  by_cases hc : i < l.length
  · have c1 := dec_lt hc
    have c2 := dec_ltN hc
    have g1 : (l.map cuC)[i]? = some [.i .u8 l[i]] := get_map cuC l i hc
    obtain ⟨h1, h2⟩ := hu _ (List.getElem_mem hc)
    have w1 : IntKind.i64.wrap l[i] = (l[i].toNat : Nat) := by rw [i64_in (by omega) (by omega)]; omega
    refine ⟨l[i].toNat, by omega, ?_⟩
    clear hl hu hi h1 h2
    (refine (evF_code (C := cfg) (g := 29) (fn := Tryz.f29) rfl Tryz.func29 rfl (by rw [Tryz.ntmps29]; simp) (by kernel_rfl) (by first | decide | simp [keysOf])).trans ?_; rw [Tryz.results29, Tryz.ntmps29])
    repeat' (first | with_reducible refine br_split (fun _ => ?_) (fun _ => ?_) | simp only [*, push_cast, simprocAttr] | (rw [drawC_ok]; rotate_left; decide +kernel; exact cfg_mixed))
  · have c1 : decide ((i : Int) < (l.length : Int)) = false := decide_eq_false (by omega)
    have w1 : IntKind.i64.wrap ((i : Int) * 7) = (i : Int) * 7 := i64_in (by omega) (by omega)
    have w2 : IntKind.i64.wrap ((i : Int) * 7 + (l.length : Int)) = ((i * 7 + l.length : Nat) : Int) := by rw [i64_in (by omega) (by omega)]; omega
    have w3 : ((i * 7 + l.length : Nat) : Int).tmod 256 = (((i * 7 + l.length) % 256 : Nat) : Int) := (Int.ofNat_tmod _ 256).symm
    obtain ⟨Y, hY⟩ : ∃ Y, (i * 7 + l.length) % 256 = Y := ⟨_, rfl⟩
    refine ⟨Y, by omega, ?_⟩
    rw [hY] at w3
    clear hY
    generalize i * 7 + l.length = X at *
    clear hl hu hi hc
    (refine (evF_code (C := cfg) (g := 29) (fn := Tryz.f29) rfl Tryz.func29 rfl (by rw [Tryz.ntmps29]; simp) (by kernel_rfl) (by first | decide | simp [keysOf])).trans ?_; rw [Tryz.results29, Tryz.ntmps29])
    repeat' (first | with_reducible refine br_split (fun _ => ?_) (fun _ => ?_) | simp only [*, push_cast, simprocAttr] | (rw [drawC_ok]; rotate_left; decide +kernel; exact cfg_mixed))
end Go.Av
end
section
namespace Go.Av
open Go.Proofs
set_option linter.unusedSimpArgs false
@[push_cast] theorem ev_sl01Int (n : Int) : evF cfg 84 [] [.d (.i .i64 n)] = some (.agg [.d (.i .i64 1), .d (.i .i64 n), .d (.s ⟨#[]⟩)], []) := by
  (refine (evF_code (C := cfg) (g := 84) (fn := Tryz.f84) rfl Tryz.func84 rfl (by rw [Tryz.ntmps84]; simp) (by kernel_rfl) (by first | decide | simp [keysOf])).trans ?_; rw [Tryz.results84, Tryz.ntmps84])
  repeat' (first | with_reducible refine br_split (fun _ => ?_) (fun _ => ?_) | simp only [*, push_cast, simprocAttr] | (rw [drawC_ok]; rotate_left; decide +kernel; exact cfg_mixed))
@[push_cast] theorem ev_sl01Bool (b : Bool) : evF cfg 153 [] [.d (.b b)] = some (.agg [.d (.i .i64 2), .d (.i .i64 (if b then 1 else 0)), .d (.s ⟨#[]⟩)], []) := by
  cases b <;>
  · (refine (evF_code (C := cfg) (g := 153) (fn := Tryz.f153) rfl Tryz.func153 rfl (by rw [Tryz.ntmps153]; simp) (by kernel_rfl) (by first | decide | simp [keysOf])).trans ?_; rw [Tryz.results153, Tryz.ntmps153])
    repeat' (first | with_reducible refine br_split (fun _ => ?_) (fun _ => ?_) | simp only [*, push_cast, simprocAttr] | (rw [drawC_ok]; rotate_left; decide +kernel; exact cfg_mixed))
theorem ev_l01Value (l : List Int) (hl : l.length ≤ 1048576) (i : Nat) (hi : i ≤ l.length) (h : Int) : ∃ r, evF cfg 137 [(0, .box [.d (.sl .any (l.map cuC)), .d (.i .i64 (i : Nat)), .d (.i .i64 h)])] [.ptr 0 0] = some r ∧
    ∃ (v : V) (i' : Nat) (h' : Int), (v.s.size ≤ 4 ∧ w64 v.n = v.n) ∧ i' ≤ l.length ∧ r = (.agg [.d (.i .i64 v.k), .d (.i .i64 v.n), .d (.s v.s)], [(0, .box [.d (.sl .any (l.map cuC)), .d (.i .i64 (i' : Nat)), .d (.i .i64 h')])]) := by
  refine exQ fun Q hQ => ?_
  have HQ := Hd.mk hQ; clear hQ
  obtain ⟨_, e0, x, i1, h1, hx, hi1, rfl⟩ := ev_l01Below l hl i hi h 9 9 rfl (by omega) (by omega)
  obtain ⟨_, e1, x1, j1, k1, hx1, hj1, rfl⟩ := ev_l01Below l hl i1 hi1 h1 5 5 rfl (by omega) (by omega)
  obtain ⟨_, e2, x2, j2, k2, hx2, hj2, rfl⟩ := ev_l01PickInt l hl i1 hi1 h1 [9223372036854775807, -9223372036854775808, -1, 4294967296, -7, 100] (by simp) (by simp)
  obtain ⟨_, e3, x3, j3, k3, hj3, rfl⟩ := ev_l01Once l hl i1 hi1 h1 2 2 rfl (by omega) (by omega)
  obtain ⟨_, e4, x4, j4, k4, hx4, hj4, rfl⟩ := ev_l01Pick l hl i1 hi1 h1 [⟨#[97]⟩, ⟨#[98]⟩, ⟨#[97, 98]⟩, ⟨#[]⟩, ⟨#[105, 116, 39, 115]⟩] (by simp) (by simp)
  have h4 : x4.size ≤ 4 := by
    simp only [List.mem_cons, List.not_mem_nil, or_false] at hx4
    rcases hx4 with rfl | rfl | rfl | rfl | rfl <;> decide
  simp only [List.map_cons, List.map_nil, inC] at e2 e4
  have n1 : w64 (x1 : Int) = x1 := i64_in (by omega) (by omega)
  have n2 : w64 x2 = x2 := by
    simp only [List.mem_cons, List.not_mem_nil, or_false] at hx2
    rcases hx2 with rfl | rfl | rfl | rfl | rfl | rfl <;> exact i64_in (by omega) (by omega)
  have n3 : w64 (if x3 = true then 1 else 0) = (if x3 = true then 1 else 0) := by
    cases x3 <;> exact i64_in (by simp) (by simp)
  have n0 : w64 0 = 0 := i64_in (by omega) (by omega)
  have H := Hd.mk (And.intro hi1 (And.intro hj1 (And.intro hj2 (And.intro hj3 (And.intro hj4 h4)))))
  have HN := Hd.mk (And.intro n0 (And.intro n1 (And.intro n2 n3)))
  have hx9 : x = 0 ∨ x = 1 ∨ x = 2 ∨ x = 3 ∨ x = 4 ∨ x = 5 ∨ x = 6 ∨ x = 7 ∨ x = 8 := by omega
  clear hl hi hi1 hj1 hj2 hj3 hj4 hx hx1 hx2 hx4 h4 n0 n1 n2 n3
  rcases hx9 with rfl | rfl | rfl | rfl | rfl | rfl | rfl | rfl | rfl
  all_goals
    (refine Eq.mpr (congrArg Q (evF_code (C := cfg) (g := 137) (fn := Tryz.f137) rfl Tryz.func137 rfl (by rw [Tryz.ntmps137]; simp) (by kernel_rfl) (by first | decide | simp [keysOf]))) ?_; rw [Tryz.results137, Tryz.ntmps137])
    repeat' (first | with_reducible refine br_split (fun _ => ?_) (fun _ => ?_) | simp only [*, push_cast, simprocAttr] | (rw [drawC_ok]; rotate_left; decide +kernel; exact cfg_mixed))
  all_goals first
    | exact HQ.out _ ⟨⟨0, 0, ⟨#[]⟩⟩, i1, h1, ⟨(Nat.zero_le 4 : (0 : Nat) ≤ 4), HN.out.1⟩, H.out.1, rfl⟩
    | exact HQ.out _ ⟨⟨1, x1, ⟨#[]⟩⟩, j1, k1, ⟨(Nat.zero_le 4 : (0 : Nat) ≤ 4), HN.out.2.1⟩, H.out.2.1, rfl⟩
    | exact HQ.out _ ⟨⟨1, x2, ⟨#[]⟩⟩, j2, k2, ⟨(Nat.zero_le 4 : (0 : Nat) ≤ 4), HN.out.2.2.1⟩, H.out.2.2.1, rfl⟩
    | exact HQ.out _ ⟨⟨2, if x3 = true then 1 else 0, ⟨#[]⟩⟩, j3, k3, ⟨(Nat.zero_le 4 : (0 : Nat) ≤ 4), HN.out.2.2.2⟩, H.out.2.2.2.1, rfl⟩
    | exact HQ.out _ ⟨⟨3, 0, x4⟩, j4, k4, ⟨H.out.2.2.2.2.2, HN.out.1⟩, H.out.2.2.2.2.1, rfl⟩
structure RS where
  j : Nat
  rows : List (List V)
  i : Nat
  h : Int
structure KS where
  k : Nat
  row : List V
  i : Nat
  h : Int
def roC (r : List V) : List T := [.sl .any (r.map vC)]
@[push_cast] theorem roC_all (l : List (List V)) : ((l.map roC).all fun e => e.length == 1) = true := by simp [roC]
def RowOk (w : Int) (r : List V) : Prop := r.length = w.toNat ∧ ∀ v ∈ r, v.s.size ≤ 5 ∧ w64 v.n = v.n
theorem ev_l02Rows (l : List Int) (hl : l.length ≤ 1048576) (i : Nat) (hi : i ≤ l.length) (h : Int) (w : Int) (hw : w ≤ 1000) (n : Int) (N : Nat) (hn : n = N) (hN : N ≤ 1000) : ∃ r, evF cfg 123 [(0, .box [.d (.sl .any (l.map cuC)), .d (.i .i64 (i : Nat)), .d (.i .i64 h)])] [.ptr 0 0, .d (.i .i64 w), .d (.i .i64 n)] = some r ∧
    ∃ (rows : List (List V)) (i' : Nat) (h' : Int), rows.length = N ∧ (∀ r ∈ rows, RowOk w r) ∧ i' ≤ l.length ∧ r = (.own 40, [(0, .box [.d (.sl .any (l.map cuC)), .d (.i .i64 (i' : Nat)), .d (.i .i64 h')]), (40, .arr .any 1 (rows.map roC))]) := by
  refine exQ fun Q hQ => ?_
  have HQ := Hd.mk hQ; clear hQ
  have H := Hd.mk (And.intro hl (And.intro hi (And.intro hw (And.intro hn hN))))
  clear hl hi hw hn hN
  (refine Eq.mpr (congrArg Q (evF_code (C := cfg) (g := 123) (fn := Tryz.f123) rfl Tryz.func123 rfl (by rw [Tryz.ntmps123]; simp) (by kernel_rfl) (by first | decide | simp [keysOf]))) ?_; rw [Tryz.results123, Tryz.ntmps123])
  repeat' (first | with_reducible refine br_split (fun _ => ?_) (fun _ => ?_) | simp only [*, push_cast, simprocAttr] | (rw [drawC_ok]; rotate_left; decide +kernel; exact cfg_mixed))
  rw [show ([] : List (List T)) = ([] : List (List V)).map roC from rfl]
  generalize hE : evM cfg _ _ _ _ _ = RR
  have key : ∃ r, RR = some r ∧ ∃ (rows : List (List V)) (i' : Nat) (h' : Int), rows.length = N ∧ (∀ r ∈ rows, RowOk w r) ∧ i' ≤ l.length ∧ r = (Exit.exit 0, { t := [(7, .own 50)], o := [(0, .box [.d (.sl .any (l.map cuC)), .d (.i .i64 (i' : Nat)), .d (.i .i64 h')]), (50, .arr .any 1 (rows.map roC))], ks := [0, 50], n := 0, sz := 33, u := noU }) := by
    rw [← hE]
    refine evM_ex (α := RS) (fun z => { t := [(0, .ptr 0 0), (1, .d (.i .i64 w)), (2, .d (.i .i64 n)), (7, .own 50), (8, .d (.i .i64 (z.j : Nat)))], o := [(0, .box [.d (.sl .any (l.map cuC)), .d (.i .i64 (z.i : Nat)), .d (.i .i64 z.h)]), (50, .arr .any 1 (z.rows.map roC))], ks := [0, 50], n := 0, sz := 33, u := noU })
      (fun _ r => ∃ (rows : List (List V)) (i' : Nat) (h' : Int), rows.length = N ∧ (∀ r ∈ rows, RowOk w r) ∧ i' ≤ l.length ∧ r = (Exit.exit 0, { t := [(7, .own 50)], o := [(0, .box [.d (.sl .any (l.map cuC)), .d (.i .i64 (i' : Nat)), .d (.i .i64 h')]), (50, .arr .any 1 (rows.map roC))], ks := [0, 50], n := 0, sz := 33, u := noU }))
      (fun z => z.j = z.rows.length ∧ z.j ≤ N ∧ (∀ r ∈ z.rows, RowOk w r) ∧ z.i ≤ l.length) (fun z => N - z.j) ?_ ⟨0, [], i, h⟩ ⟨rfl, Nat.zero_le _, fun _ h => (nomatch h), H.out.2.1⟩
    clear hE RR
    rintro ⟨j, rows, i, h⟩ ⟨hj, hjN, hrows, hi⟩ ih
    simp only at hj hjN hrows hi ih ⊢
    obtain ⟨hl, -, hw, hn, hN⟩ := H.out
    by_cases hc : j < N
    · have c1 : decide ((j : Int) < n) = true := decide_eq_true (by omega)
      have w1 : IntKind.i64.wrap ((j : Int) + 1) = (j : Int) + 1 := wrap_succ (by omega)
      refine exQ fun Q hQ => ?_
      have HQ := Hd.mk hQ; clear hQ
      have H2 := Hd.mk (And.intro hj (And.intro hjN (And.intro hrows (And.intro hc ih))))
      clear hj hjN hrows ih hc hw hn hN
      have H3 := Hd.mk (And.intro hl hi)
      clear hl hi
      repeat' (first | with_reducible refine br_split (fun _ => ?_) (fun _ => ?_) | simp only [*, push_cast, simprocAttr] | (rw [drawC_ok]; rotate_left; decide +kernel; exact cfg_mixed))
      rw [show ([] : List (List T)) = ([] : List V).map vC from rfl]
      generalize hE : evM cfg _ _ _ _ _ = RR
      have key : ∃ r, RR = some r ∧ ∃ (row : List V) (i' : Nat) (h' : Int), RowOk w row ∧ i' ≤ l.length ∧ r = (Exit.exit 2, { t := [(0, .ptr 0 0), (1, .d (.i .i64 w)), (2, .d (.i .i64 n)), (7, .own 50), (8, .d (.i .i64 (j : Nat))), (9, .own 51)], o := [(0, .box [.d (.sl .any (l.map cuC)), .d (.i .i64 (i' : Nat)), .d (.i .i64 h')]), (50, .arr .any 1 (rows.map roC)), (51, .arr .any 3 (row.map vC))], ks := [0, 50, 51], n := 0, sz := 33, u := noU }) := by
        rw [← hE]
        refine evM_ex (α := KS) (fun z => { t := [(0, .ptr 0 0), (1, .d (.i .i64 w)), (2, .d (.i .i64 n)), (7, .own 50), (8, .d (.i .i64 (j : Nat))), (9, .own 51), (10, .d (.i .i64 (z.k : Nat)))], o := [(0, .box [.d (.sl .any (l.map cuC)), .d (.i .i64 (z.i : Nat)), .d (.i .i64 z.h)]), (50, .arr .any 1 (rows.map roC)), (51, .arr .any 3 (z.row.map vC))], ks := [0, 50, 51], n := 0, sz := 33, u := noU })
          (fun _ r => ∃ (row : List V) (i' : Nat) (h' : Int), RowOk w row ∧ i' ≤ l.length ∧ r = (Exit.exit 2, { t := [(0, .ptr 0 0), (1, .d (.i .i64 w)), (2, .d (.i .i64 n)), (7, .own 50), (8, .d (.i .i64 (j : Nat))), (9, .own 51)], o := [(0, .box [.d (.sl .any (l.map cuC)), .d (.i .i64 (i' : Nat)), .d (.i .i64 h')]), (50, .arr .any 1 (rows.map roC)), (51, .arr .any 3 (row.map vC))], ks := [0, 50, 51], n := 0, sz := 33, u := noU }))
          (fun z => z.k = z.row.length ∧ z.k ≤ w.toNat ∧ (∀ v ∈ z.row, v.s.size ≤ 5 ∧ w64 v.n = v.n) ∧ z.i ≤ l.length) (fun z => w.toNat - z.k) ?_ ⟨0, [], i, h⟩ ⟨rfl, Nat.zero_le _, fun _ h => (nomatch h), H3.out.2⟩
        clear hE RR
        rintro ⟨k, row, i, h⟩ ⟨hk, hkw, hrow, hi⟩ ih
        simp only at hk hkw hrow hi ih ⊢
        obtain ⟨hl, -, hw, hn, hN⟩ := H.out
        by_cases hc : (k : Int) < w
        · have d1 : decide ((k : Int) < w) = true := decide_eq_true hc
          have w2 : IntKind.i64.wrap ((k : Int) + 1) = (k : Int) + 1 := wrap_succ (by omega)
          have h2 := len_ok (n := row.length + 1) 32 (by omega) (by omega)
          obtain ⟨_, e1, ⟨vk, vn, vs⟩, i', h', hv, hi', rfl⟩ := ev_l01Value l hl i hi h
          have h3 : row.map vC ++ [[.i .i64 vk, .i .i64 vn, .s vs]] = (row ++ [(⟨vk, vn, vs⟩ : V)]).map vC := by rw [List.map_append]; rfl
          obtain ⟨r, hr, hq⟩ := ih ⟨k + 1, row ++ [(⟨vk, vn, vs⟩ : V)], i', h'⟩ ⟨by simp [hk], by simp only; omega, by
            intro v hv'
            rcases List.mem_append.1 hv' with h | h
            · exact hrow v h
            · rw [List.mem_singleton.1 h]; simp only at hv ⊢; omega, hi'⟩ (by simp only; omega)
          refine ⟨r, ?_, hq⟩
          simp only at hr
          rw [show ((k + 1 : Nat) : Int) = (k : Int) + 1 from rfl] at hr
          clear ih hl hi hk hkw hrow hw hn hN hc hq hv hi'
          repeat' (first | with_reducible refine br_split (fun _ => ?_) (fun _ => ?_) | simp only [*, push_cast, simprocAttr] | (rw [drawC_ok]; rotate_left; decide +kernel; exact cfg_mixed))
        · have d1 : decide ((k : Int) < w) = false := decide_eq_false hc
          refine ⟨_, ?_, row, i, h, ⟨by omega, hrow⟩, hi, rfl⟩
          clear ih hl hi hk hkw hrow hw hn hN hc
          repeat' (first | with_reducible refine br_split (fun _ => ?_) (fun _ => ?_) | simp only [*, push_cast, simprocAttr] | (rw [drawC_ok]; rotate_left; decide +kernel; exact cfg_mixed))
      obtain ⟨_, rfl, row, i', h', p1, p2, rfl⟩ := key
      obtain ⟨hj, hjN, hrows, hc, ih⟩ := H2.out
      obtain ⟨hl, -, hw, hn, hN⟩ := H.out
      have h3 : rows.map roC ++ [[.sl .any (row.map vC)]] = (rows ++ [row]).map roC := by rw [List.map_append]; rfl
      have h4 := len_ok (n := rows.length + 1) 24 (by omega) (by omega)
      obtain ⟨r, hr, hq⟩ := ih ⟨j + 1, rows ++ [row], i', h'⟩ ⟨by simp [hj], by simp only; omega, by
        intro v hv'
        rcases List.mem_append.1 hv' with h | h
        · exact hrows v h
        · rw [List.mem_singleton.1 h]; exact p1, p2⟩ (by simp only; omega)
      simp only at hr
      rw [show ((j + 1 : Nat) : Int) = (j : Int) + 1 from rfl] at hr
      have HQ2 := Hd.mk hq
      clear ih hl hj hjN hrows hw hn hN hc hq p1 p2 hE
      repeat' (first | with_reducible refine br_split (fun _ => ?_) (fun _ => ?_) | simp only [*, push_cast, simprocAttr] | (rw [drawC_ok]; rotate_left; decide +kernel; exact cfg_mixed))
      exact HQ.out _ HQ2.out
    · have c1 : decide ((j : Int) < n) = false := decide_eq_false (by omega)
      refine ⟨_, ?_, rows, i, h, by omega, hrows, hi, rfl⟩
      clear ih hl hi hw hn hN hc hj hjN hrows
      repeat' (first | with_reducible refine br_split (fun _ => ?_) (fun _ => ?_) | simp only [*, push_cast, simprocAttr] | (rw [drawC_ok]; rotate_left; decide +kernel; exact cfg_mixed))
  obtain ⟨_, rfl, rows, i', h', p1, p2, p3, rfl⟩ := key
  have H2 := Hd.mk (And.intro p1 (And.intro p2 p3))
  clear hE p1 p2 p3
  repeat' (first | with_reducible refine br_split (fun _ => ?_) (fun _ => ?_) | simp only [*, push_cast, simprocAttr] | (rw [drawC_ok]; rotate_left; decide +kernel; exact cfg_mixed))
  exact HQ.out _ ⟨rows, i', h', H2.out.1, H2.out.2.1, H2.out.2.2, rfl⟩
end Go.Av
end
section
namespace Go.Av
open Go.Proofs
set_option linter.unusedSimpArgs false
theorem putC_n {l : List C} {x d : C} (h : d ∈ putC l x) : d ∈ l ∨ d = x ∨ ∃ c ∈ l, d = ⟨x.row, w64 (x.n + c.n)⟩ := by
  induction l with
  | nil =>
    simp only [putC] at h
    split at h
    · cases h
    · exact .inr (.inl (List.mem_singleton.1 h))
  | cons c l ih =>
    simp only [putC] at h
    split at h
    · rcases List.mem_cons.1 h with rfl | h
      · exact .inl (List.mem_cons_self ..)
      · rcases ih h with h | h | ⟨e, he, h⟩
        · exact .inl (List.mem_cons_of_mem _ h)
        · exact .inr (.inl h)
        · exact .inr (.inr ⟨e, List.mem_cons_of_mem _ he, h⟩)
    · split at h
      · split at h
        · exact .inl (List.mem_cons_of_mem _ h)
        · rcases List.mem_cons.1 h with rfl | h
          · exact .inr (.inr ⟨c, List.mem_cons_self .., rfl⟩)
          · exact .inl (List.mem_cons_of_mem _ h)
      · split at h
        · exact .inl h
        · rcases List.mem_cons.1 h with rfl | h
          · exact .inr (.inl rfl)
          · exact .inl h
structure BagP (w : Int) (rows : List C) (k : Nat) : Prop where
  can : Canon rows
  len : rows.length ≤ k
  row : ∀ c ∈ rows, RowOk w c.row
  num : ∀ c ∈ rows, -(3 * (k : Int)) ≤ c.n ∧ c.n ≤ 3 * (k : Int)
theorem BagP.put {w : Int} {rows : List C} {k : Nat} (h : BagP w rows k) (hk : k ≤ 5) {r : List V} (hr : RowOk w r) {n : Int} (h1 : -3 ≤ n) (h2 : n ≤ 3) : BagP w (putC rows ⟨r, n⟩) (k + 1) := by
  refine ⟨putC_canon h.can (i64_in (by simp only; omega) (by simp only; omega)), ?_, fun c hc => ?_, fun c hc => ?_⟩
  · have := putC_len rows ⟨r, n⟩
    have := h.len
    omega
  · rcases putC_n hc with hc | rfl | ⟨d, hd, rfl⟩
    · exact h.row c hc
    · exact hr
    · exact hr
  · rcases putC_n hc with hc | rfl | ⟨d, hd, rfl⟩
    · have := h.num c hc
      omega
    · simp only; omega
    · have := h.num d hd
      have e : w64 (n + d.n) = n + d.n := i64_in (by omega) (by omega)
      simp only [e]
      omega
structure BS where
  j : Nat
  rows : List C
  i : Nat
  h : Int
theorem ev_l02Bag (l : List Int) (hl : l.length ≤ 1048576) (i : Nat) (hi : i ≤ l.length) (h : Int) (w : Int) (hw : w ≤ 1000) : ∃ r, evF cfg 107 [(0, .box [.d (.sl .any (l.map cuC)), .d (.i .i64 (i : Nat)), .d (.i .i64 h)])] [.ptr 0 0, .d (.i .i64 w), .d (.b true)] = some r ∧
    ∃ (rows : List C) (i' : Nat) (h' : Int), BagP w rows 5 ∧ i' ≤ l.length ∧ r = (.agg [.d (.i .i64 w), .own 40], [(0, .box [.d (.sl .any (l.map cuC)), .d (.i .i64 (i' : Nat)), .d (.i .i64 h')]), (40, .arr .any 2 (rows.map cC))]) := by
  refine exQ fun Q hQ => ?_
  have HQ := Hd.mk hQ; clear hQ
  obtain ⟨_, e0, N, i1, h1, hN, hi1, rfl⟩ := ev_l01Below l hl i hi h 6 6 rfl (by omega) (by omega)
  obtain ⟨_, e1, R, i2, h2, p1, p2, hi2, rfl⟩ := ev_l02Rows l hl i1 hi1 h1 w hw N N rfl (by omega)
  have H := Hd.mk (And.intro hl (And.intro hi2 (And.intro hw (And.intro hN (And.intro p1 p2)))))
  clear hl hi hi1 hi2 hw hN p1 p2
  (refine Eq.mpr (congrArg Q (evF_code (C := cfg) (g := 107) (fn := Tryz.f107) rfl Tryz.func107 rfl (by rw [Tryz.ntmps107]; simp) (by kernel_rfl) (by first | decide | simp [keysOf]))) ?_; rw [Tryz.results107, Tryz.ntmps107])
  repeat' (first | with_reducible refine br_split (fun _ => ?_) (fun _ => ?_) | simp only [*, push_cast, simprocAttr] | (rw [drawC_ok]; rotate_left; decide +kernel; exact cfg_mixed))
  rw [show ([] : List (List T)) = ([] : List C).map cC from rfl]
  generalize hE : evM cfg _ _ _ _ _ = RR
  have key : ∃ r, RR = some r ∧ ∃ (rows : List C) (i' : Nat) (h' : Int), BagP w rows 5 ∧ i' ≤ l.length ∧ r = (Exit.exit 0, { t := [(6, .ptr 50 0), (7, .ptr 51 0)], o := [(0, .box [.d (.sl .any (l.map cuC)), .d (.i .i64 (i' : Nat)), .d (.i .i64 h')]), (50, .box [.d (.i .i64 0), .nl]), (51, .box [.d (.i .i64 w), .own 52]), (52, .arr .any 2 (rows.map cC))], ks := [0, 50, 51, 52], n := 0, sz := 42, u := noU }) := by
    rw [← hE]
    refine evM_ex (α := BS) (fun z => { t := [(0, .ptr 0 0), (2, .d (.b true)), (6, .ptr 50 0), (7, .ptr 51 0), (8, .own 52), (9, .d (.i .i64 (z.j : Nat)))], o := [(0, .box [.d (.sl .any (l.map cuC)), .d (.i .i64 (z.i : Nat)), .d (.i .i64 z.h)]), (50, .box [.d (.i .i64 0), .nl]), (51, .box [.d (.i .i64 w), .own 53]), (52, .arr .any 1 (R.map roC)), (53, .arr .any 2 (z.rows.map cC))], ks := [0, 50, 51, 52, 53], n := 0, sz := 42, u := noU })
      (fun _ r => ∃ (rows : List C) (i' : Nat) (h' : Int), BagP w rows 5 ∧ i' ≤ l.length ∧ r = (Exit.exit 0, { t := [(6, .ptr 50 0), (7, .ptr 51 0)], o := [(0, .box [.d (.sl .any (l.map cuC)), .d (.i .i64 (i' : Nat)), .d (.i .i64 h')]), (50, .box [.d (.i .i64 0), .nl]), (51, .box [.d (.i .i64 w), .own 52]), (52, .arr .any 2 (rows.map cC))], ks := [0, 50, 51, 52], n := 0, sz := 42, u := noU }))
      (fun z => z.j ≤ N ∧ BagP w z.rows z.j ∧ z.i ≤ l.length) (fun z => N - z.j) ?_ ⟨0, [], i2, h2⟩ ⟨Nat.zero_le _, ⟨canon_nil, Nat.le_refl _, fun _ h => (nomatch h), fun _ h => (nomatch h)⟩, H.out.2.1⟩
    clear hE RR e0 e1
    rintro ⟨j, rows, i, h⟩ ⟨hj, hB, hi⟩ ih
    simp only at hj hB hi ih ⊢
    obtain ⟨hl, -, hw, hN, hR1, hR2⟩ := H.out
    by_cases hc : j < R.length
    · have c1 : decide ((j : Int) < (R.length : Int)) = true := dec_lt hc
      have c2 := dec_ltN hc
      have w1 : IntKind.i64.wrap ((j : Int) + 1) = (j : Int) + 1 := wrap_succ (by omega)
      have g1 : (R.map roC)[j]? = some [.sl .any (R[j].map vC)] := get_map roC R j hc
      obtain ⟨_, e0, x, i1, h1, hx, hi1, rfl⟩ := ev_l01Below l hl i hi h 3 3 rfl (by omega) (by omega)
      obtain ⟨_, e1, b, i2, h2, hi2, rfl⟩ := ev_l01Once l hl i1 hi1 h1 3 3 rfl (by omega) (by omega)
      have w2 : IntKind.i64.wrap (1 + (x : Int)) = 1 + (x : Int) := i64_in (by omega) (by omega)
      have w3 : IntKind.i64.wrap (0 - (1 + (x : Int))) = -(1 + (x : Int)) := by rw [i64_in (by omega) (by omega)]; omega
      have hrj := hR2 _ (List.getElem_mem hc)
      have hrl : R[j].length ≤ 1048576 := by have := hrj.1; omega
      have hrows : ∀ c ∈ rows, c.row.length ≤ 1048576 := fun c hc => by have := (hB.row c hc).1; omega
      have hjk : j ≤ 5 := by omega
      have hlen : rows.length ≤ 1048576 := by have := hB.len; omega
      cases b with
      | false =>
        obtain ⟨r, hr, hq⟩ := ih ⟨j + 1, putC rows ⟨R[j], 1 + (x : Int)⟩, i2, h2⟩ ⟨by simp only; omega, hB.put hjk hrj (by omega) (by omega), hi2⟩ (by simp only; omega)
        simp only at hr
        rw [show ((j + 1 : Nat) : Int) = (j : Int) + 1 from rfl] at hr
        refine ⟨r, ?_, hq⟩
        rcases ev_l02Put w (1 + (x : Int)) rows R[j] hlen hrows hrl hB.can.1 with hput | hput
        · clear ih hl hi hj hB hw hN hR1 hR2 hq hx hi1 hi2 hrj hrl hrows hlen hjk w3
          repeat' (first | with_reducible refine br_split (fun _ => ?_) (fun _ => ?_) | simp only [*, push_cast, simprocAttr] | (rw [drawC_ok]; rotate_left; decide +kernel; exact cfg_mixed))
        · clear ih hl hi hj hB hw hN hR1 hR2 hq hx hi1 hi2 hrj hrl hrows hlen hjk w3
          repeat' (first | with_reducible refine br_split (fun _ => ?_) (fun _ => ?_) | simp only [*, push_cast, simprocAttr] | (rw [drawC_ok]; rotate_left; decide +kernel; exact cfg_mixed))
      | true =>
        obtain ⟨r, hr, hq⟩ := ih ⟨j + 1, putC rows ⟨R[j], -(1 + (x : Int))⟩, i2, h2⟩ ⟨by simp only; omega, hB.put hjk hrj (by omega) (by omega), hi2⟩ (by simp only; omega)
        simp only at hr
        rw [show ((j + 1 : Nat) : Int) = (j : Int) + 1 from rfl] at hr
        refine ⟨r, ?_, hq⟩
        rcases ev_l02Put w (-(1 + (x : Int))) rows R[j] hlen hrows hrl hB.can.1 with hput | hput
        · clear ih hl hi hj hB hw hN hR1 hR2 hq hx hi1 hi2 hrj hrl hrows hlen hjk
          repeat' (first | with_reducible refine br_split (fun _ => ?_) (fun _ => ?_) | simp only [*, push_cast, simprocAttr] | (rw [drawC_ok]; rotate_left; decide +kernel; exact cfg_mixed))
        · clear ih hl hi hj hB hw hN hR1 hR2 hq hx hi1 hi2 hrj hrl hrows hlen hjk
          repeat' (first | with_reducible refine br_split (fun _ => ?_) (fun _ => ?_) | simp only [*, push_cast, simprocAttr] | (rw [drawC_ok]; rotate_left; decide +kernel; exact cfg_mixed))
    · have c1 : decide ((j : Int) < (R.length : Int)) = false := decide_eq_false (by omega)
      refine ⟨_, ?_, rows, i, h, ⟨hB.can, by have := hB.len; omega, hB.row, fun c hc => by have := hB.num c hc; omega⟩, hi, rfl⟩
      clear ih hl hi hj hB hw hN hR1 hR2 hc
      repeat' (first | with_reducible refine br_split (fun _ => ?_) (fun _ => ?_) | simp only [*, push_cast, simprocAttr] | (rw [drawC_ok]; rotate_left; decide +kernel; exact cfg_mixed))
  obtain ⟨_, rfl, rows, i', h', q1, q2, rfl⟩ := key
  have H2 := Hd.mk (And.intro q1 q2)
  clear hE q1 q2
  repeat' (first | with_reducible refine br_split (fun _ => ?_) (fun _ => ?_) | simp only [*, push_cast, simprocAttr] | (rw [drawC_ok]; rotate_left; decide +kernel; exact cfg_mixed))
  exact HQ.out _ ⟨rows, i', h', H2.out.1, H2.out.2, rfl⟩
end Go.Av
end
section
namespace Go.Av
open Go.Proofs
set_option linter.unusedSimpArgs false
structure AnyP (w : Int) (rows : List C) : Prop where
  wid : w ≤ 13
  len : rows.length ≤ 6
  row : ∀ c ∈ rows, c.row.length ≤ 13 ∧ ∀ v ∈ c.row, v.s.size ≤ 5 ∧ w64 v.n = v.n
  num : (∀ c ∈ rows, -15 ≤ c.n ∧ c.n ≤ 15) ∨ ∃ c l, rows = c :: l ∧ (c.n = 1000000000 ∨ c.n = 1000000001 ∨ c.n = -1000000000) ∧ ∀ d ∈ l, -15 ≤ d.n ∧ d.n ≤ 15
theorem BagP.any {w : Int} {rows : List C} (h : BagP w rows 5) (hw : w ≤ 3) {w' : Int} (hw' : w' ≤ 13) : AnyP w' rows :=
  ⟨hw', Nat.le_trans h.len (by omega), fun c hc => ⟨by have := (h.row c hc).1; omega, (h.row c hc).2⟩, .inl fun c hc => by have := h.num c hc; omega⟩
theorem ev_l02Any (l : List Int) (hl : l.length ≤ 1048576) (i : Nat) (hi : i ≤ l.length) (h : Int) : ∃ r, evF cfg 109 [(0, .box [.d (.sl .any (l.map cuC)), .d (.i .i64 (i : Nat)), .d (.i .i64 h)])] [.ptr 0 0] = some r ∧
    ∃ (w : Int) (rows : List C) (i' : Nat) (h' : Int), AnyP w rows ∧ i' ≤ l.length ∧ r = (.agg [.d (.i .i64 w), .d (.sl .any (rows.map cC))], [(0, .box [.d (.sl .any (l.map cuC)), .d (.i .i64 (i' : Nat)), .d (.i .i64 h')])]) := by
  refine exQ fun Q hQ => ?_
  have HQ := Hd.mk hQ; clear hQ
  obtain ⟨_, e0, w, i1, h1, hw, hi1, rfl⟩ := ev_l01Below l hl i hi h 4 4 rfl (by omega) (by omega)
  obtain ⟨_, e1, rows, i2, h2, hB, hi2, rfl⟩ := ev_l02Bag l hl i1 hi1 h1 w (by omega)
  obtain ⟨_, e2, x, i3, h3, hx, hi3, rfl⟩ := ev_l01Below l hl i2 hi2 h2 16 16 rfl (by omega) (by omega)
  have hw3 : (w : Int) ≤ 3 := by omega
  by_cases k0 : x = 0
  · obtain ⟨_, e3, y, i4, h4, hy, hi4, rfl⟩ := ev_l01PickInt l hl i3 hi3 h3 [-1, 13, (w : Int) + 1] (by simp) (by simp)
    have w1 : IntKind.i64.wrap ((w : Int) + 1) = (w : Int) + 1 := i64_in (by omega) (by omega)
    have hy13 : y ≤ 13 := by
      simp only [List.mem_cons, List.not_mem_nil, or_false] at hy
      omega
    have H := Hd.mk (And.intro hi4 (hB.any hw3 hy13))
    simp only [List.map_cons, List.map_nil, inC] at e3
    have k1 : ((x : Int) == 0) = true := by rw [k0]; rfl
    clear hl hi hi1 hi2 hi3 hi4 hw hB hx hw3 hy hy13 k0
    (refine Eq.mpr (congrArg Q (evF_code (C := cfg) (g := 109) (fn := Tryz.f109) rfl Tryz.func109 rfl (by rw [Tryz.ntmps109]; simp) (by kernel_rfl) (by first | decide | simp [keysOf]))) ?_; rw [Tryz.results109, Tryz.ntmps109])
    repeat' (first | with_reducible refine br_split (fun _ => ?_) (fun _ => ?_) | simp only [*, push_cast, simprocAttr] | (rw [drawC_ok]; rotate_left; decide +kernel; exact cfg_mixed))
    exact HQ.out _ ⟨y, rows, i4, h4, H.out.2, H.out.1, rfl⟩
  by_cases k1 : x = 1
  · obtain ⟨_, e3, R, i4, h4, hR1, hR2, hi4, rfl⟩ := ev_l02Rows l hl i3 hi3 h3 w (by omega) 1 1 rfl (by omega)
    obtain ⟨_, e4, y, i5, h5, hy, hi5, rfl⟩ := ev_l01Below l hl i4 hi4 h4 3 3 rfl (by omega) (by omega)
    obtain ⟨r0, rfl⟩ := List.length_eq_one_iff.1 hR1
    have hr0 := hR2 r0 (List.mem_singleton.2 rfl)
    have h3' : rows.map cC ++ [[.sl .any (r0.map vC), .i .i64 (y : Int)]] = (rows ++ [(⟨r0, (y : Int)⟩ : C)]).map cC := by rw [List.map_append]; rfl
    have hA : AnyP w (rows ++ [⟨r0, (y : Int)⟩]) := by
      refine ⟨by omega, by simp only [List.length_append, List.length_singleton]; have := hB.len; omega, fun c hc => ?_, .inl fun c hc => ?_⟩
      · rcases List.mem_append.1 hc with hc | hc
        · exact ⟨by have := (hB.row c hc).1; omega, (hB.row c hc).2⟩
        · rw [List.mem_singleton.1 hc]
          exact ⟨by have := hr0.1; simp only; omega, hr0.2⟩
      · rcases List.mem_append.1 hc with hc | hc
        · have := hB.num c hc; omega
        · rw [List.mem_singleton.1 hc]; simp only; omega
    have hlen := len_ok (n := rows.length + 1) 32 (by have := hB.len; omega) (by omega)
    have H := Hd.mk (And.intro hi5 hA)
    simp only [List.map_cons, List.map_nil, roC] at e3
    have q0 : ((x : Int) == 0) = false := by rw [k1]; rfl
    have q1 : ((x : Int) == 1) = true := by rw [k1]; rfl
    clear hl hi hi1 hi2 hi3 hi4 hi5 hw hB hx hw3 hy hR1 hR2 hr0 hA k0 k1
    (refine Eq.mpr (congrArg Q (evF_code (C := cfg) (g := 109) (fn := Tryz.f109) rfl Tryz.func109 rfl (by rw [Tryz.ntmps109]; simp) (by kernel_rfl) (by first | decide | simp [keysOf]))) ?_; rw [Tryz.results109, Tryz.ntmps109])
    repeat' (first | with_reducible refine br_split (fun _ => ?_) (fun _ => ?_) | simp only [*, push_cast, simprocAttr] | (rw [drawC_ok]; rotate_left; decide +kernel; exact cfg_mixed))
    exact HQ.out _ ⟨w, rows ++ [⟨r0, (y : Int)⟩], i5, h5, H.out.2, H.out.1, rfl⟩
  have q0 : ((x : Int) == 0) = false := by rw [beq_eq_false_iff_ne]; omega
  have q1 : ((x : Int) == 1) = false := by rw [beq_eq_false_iff_ne]; omega
  by_cases k2 : x = 2
  · have q2 : ((x : Int) == 2) = true := by rw [k2]; rfl
    cases rows with
    | nil =>
      have H := Hd.mk (And.intro hi3 (hB.any hw3 (w' := w) (by omega)))
      simp only [List.map_nil] at e1
      have g0 : decide ((0 : Int) > 0) = false := rfl
      clear hl hi hi1 hi2 hi3 hw hB hx hw3 k0 k1 k2
      (refine Eq.mpr (congrArg Q (evF_code (C := cfg) (g := 109) (fn := Tryz.f109) rfl Tryz.func109 rfl (by rw [Tryz.ntmps109]; simp) (by kernel_rfl) (by first | decide | simp [keysOf]))) ?_; rw [Tryz.results109, Tryz.ntmps109])
      repeat' (first | with_reducible refine br_split (fun _ => ?_) (fun _ => ?_) | simp only [*, push_cast, simprocAttr] | (rw [drawC_ok]; rotate_left; decide +kernel; exact cfg_mixed))
      exact HQ.out _ ⟨w, [], i3, h3, H.out.2, H.out.1, rfl⟩
    | cons c rest =>
      obtain ⟨_, e3, y, i4, h4, hy, hi4, rfl⟩ := ev_l01PickInt l hl i3 hi3 h3 [0, 1000000000, 1000000001, -1000000000] (by simp) (by simp)
      have hA : AnyP w (⟨c.row, y⟩ :: rest) := by
        have hP := hB.any hw3 (w' := w) (by omega)
        refine ⟨by omega, hP.len, fun d hd => ?_, ?_⟩
        · rcases List.mem_cons.1 hd with rfl | hd
          · exact hP.row c (List.mem_cons_self ..)
          · exact hP.row d (List.mem_cons_of_mem _ hd)
        · have hrest : ∀ d ∈ rest, -15 ≤ d.n ∧ d.n ≤ 15 := fun d hd => by have := hB.num d (List.mem_cons_of_mem _ hd); omega
          simp only [List.mem_cons, List.not_mem_nil, or_false] at hy
          rcases hy with rfl | hy
          · left
            intro d hd
            rcases List.mem_cons.1 hd with rfl | hd
            · simp
            · exact hrest d hd
          · exact .inr ⟨_, _, rfl, hy, hrest⟩
      have H := Hd.mk (And.intro hi4 hA)
      have g0 : decide (((rest.length : Int) + 1) > 0) = true := decide_eq_true (by omega)
      have g1 : decide ((0 : Int) < (rest.length : Int) + 1) = true := decide_eq_true (by omega)
      have g2 : decide (0 < rest.length + 1) = true := decide_eq_true (by omega)
      simp only [List.map_cons, List.map_nil, inC] at e3 e1
      rw [show cC c = [.sl .any (c.row.map vC), .i .i64 c.n] from rfl] at e1
      clear hl hi hi1 hi2 hi3 hi4 hw hB hx hw3 hy hA k0 k1 k2
      (refine Eq.mpr (congrArg Q (evF_code (C := cfg) (g := 109) (fn := Tryz.f109) rfl Tryz.func109 rfl (by rw [Tryz.ntmps109]; simp) (by kernel_rfl) (by first | decide | simp [keysOf]))) ?_; rw [Tryz.results109, Tryz.ntmps109])
      repeat' (first | with_reducible refine br_split (fun _ => ?_) (fun _ => ?_) | simp only [*, push_cast, simprocAttr] | (rw [drawC_ok]; rotate_left; decide +kernel; exact cfg_mixed))
      exact HQ.out _ ⟨w, ⟨c.row, y⟩ :: rest, i4, h4, H.out.2, H.out.1, rfl⟩
  have q2 : ((x : Int) == 2) = false := by rw [beq_eq_false_iff_ne]; omega
  have H := Hd.mk (And.intro hi3 (hB.any hw3 (w' := w) (by omega)))
  clear hl hi hi1 hi2 hi3 hw hB hx hw3 k0 k1 k2
  (refine Eq.mpr (congrArg Q (evF_code (C := cfg) (g := 109) (fn := Tryz.f109) rfl Tryz.func109 rfl (by rw [Tryz.ntmps109]; simp) (by kernel_rfl) (by first | decide | simp [keysOf]))) ?_; rw [Tryz.results109, Tryz.ntmps109])
  repeat' (first | with_reducible refine br_split (fun _ => ?_) (fun _ => ?_) | simp only [*, push_cast, simprocAttr] | (rw [drawC_ok]; rotate_left; decide +kernel; exact cfg_mixed))
  exact HQ.out _ ⟨w, rows, i3, h3, H.out.2, H.out.1, rfl⟩
end Go.Av
end
section
namespace Go.Av
open Go.Proofs
set_option linter.unusedSimpArgs false
theorem size_mk (a : Array UInt8) : (⟨a⟩ : ByteArray).size = a.size := rfl
theorem ev_l01BelowN (l : List Int) (hl : l.length ≤ 1048576) (i : Nat) (hi : i ≤ l.length) (h : Int) (n : Int) (N : Nat) (hn : n = N) (h0 : 0 < N) (h1 : N ≤ 4294967296) : ∃ r, evF cfg 74 [(0, .box [.d (.sl .any (l.map cuC)), .d (.i .i64 (i : Nat)), .d (.i .i64 h)])] [.ptr 0 0, .d (.i .i64 n)] = some r ∧
    ∃ (x i' : Nat) (h' : Int), x < N ∧ i' ≤ l.length ∧ r = (.d (.i .i64 (x : Nat)), [(0, .box [.d (.sl .any (l.map cuC)), .d (.i .i64 (i' : Nat)), .d (.i .i64 h')])]) := by
  by_cases hN : N ≤ 256
  · exact ev_l01Below l hl i hi h n N hn h0 hN
  refine exQ fun Q hQ => ?_
  have HQ := Hd.mk hQ; clear hQ
  obtain ⟨_, e1, x, i1, h1', hx, hi1, rfl⟩ := ev_l01Byte l hl i hi h
  obtain ⟨_, e2, y, i2, h2, hy, hi2, rfl⟩ := ev_l01Byte l hl i1 hi1 h1'
  obtain ⟨_, e3, z, i3, h3, hz, hi3, rfl⟩ := ev_l01Byte l hl i2 hi2 h2
  obtain ⟨_, e4, w, i4, h4, hw, hi4, rfl⟩ := ev_l01Byte l hl i3 hi3 h3
  have c1 : decide (n ≤ 0) = false := decide_eq_false (by omega)
  have c2 : decide (n ≤ 256) = false := decide_eq_false (by omega)
  have c3 : decide (n ≠ 0) = true := decide_eq_true (by omega)
  have c4 : decide (n = 0) = false := decide_eq_false (by omega)
  have w1 : IntKind.i64.wrap ((x : Int) * 16777216) = (x : Int) * 16777216 := i64_in (by omega) (by omega)
  have w2 : IntKind.i64.wrap ((y : Int) * 65536) = (y : Int) * 65536 := i64_in (by omega) (by omega)
  have w3 : IntKind.i64.wrap ((z : Int) * 256) = (z : Int) * 256 := i64_in (by omega) (by omega)
  have w4 : IntKind.i64.wrap ((x : Int) * 16777216 + (y : Int) * 65536) = (x : Int) * 16777216 + (y : Int) * 65536 := i64_in (by omega) (by omega)
  have w5 : IntKind.i64.wrap ((x : Int) * 16777216 + (y : Int) * 65536 + (z : Int) * 256) = (x : Int) * 16777216 + (y : Int) * 65536 + (z : Int) * 256 := i64_in (by omega) (by omega)
  have w6 : IntKind.i64.wrap ((x : Int) * 16777216 + (y : Int) * 65536 + (z : Int) * 256 + (w : Int)) = ((x * 16777216 + y * 65536 + z * 256 + w : Nat) : Int) := by rw [i64_in (by omega) (by omega)]; omega
  have c5 : ((x * 16777216 + y * 65536 + z * 256 + w : Nat) : Int).tmod n = (((x * 16777216 + y * 65536 + z * 256 + w) % N : Nat) : Int) := by rw [hn]; exact (Int.ofNat_tmod _ N).symm
  generalize x * 16777216 + y * 65536 + z * 256 + w = X at *
  have H := Hd.mk (And.intro hi4 (Nat.mod_lt X h0))
  clear hl hi hi1 hi2 hi3 hi4 hn h0 h1 hN hx hy hz hw
  (refine Eq.mpr (congrArg Q (evF_code (C := cfg) (g := 74) (fn := Tryz.f74) rfl Tryz.func74 rfl (by rw [Tryz.ntmps74]; simp) (by kernel_rfl) (by first | decide | simp [keysOf]))) ?_; rw [Tryz.results74, Tryz.ntmps74])
  repeat' (first | with_reducible refine br_split (fun _ => ?_) (fun _ => ?_) | simp only [*, push_cast, simprocAttr] | (rw [drawC_ok]; rotate_left; decide +kernel; exact cfg_mixed))
  exact HQ.out _ ⟨X % N, i4, h4, H.out.2, H.out.1, by first | rfl | simp⟩
def ExT (l : List Int) (d : Nat) : Prop := ∀ (i : Nat), i ≤ l.length → ∀ h : Int, ∃ r, evF cfg 106 [(0, .box [.d (.sl .any (l.map cuC)), .d (.i .i64 (i : Nat)), .d (.i .i64 h)])] [.ptr 0 0, .d (.i .i64 (d : Nat))] = some r ∧
    ∃ (s : ByteArray) (i' : Nat) (h' : Int), s.size ≤ 20 * 5 ^ d ∧ i' ≤ l.length ∧ r = (.d (.s s), [(0, .box [.d (.sl .any (l.map cuC)), .d (.i .i64 (i' : Nat)), .d (.i .i64 h')])])
theorem mem_le {l : List ByteArray} {s : ByteArray} {n : Nat} (h : s ∈ l) (hl : ∀ x ∈ l, x.size ≤ n) : s.size ≤ n := hl s h
theorem ev_l08ExpText0 (l : List Int) (hl : l.length ≤ 1048576) : ExT l 0 := by
  intro i hi h
  refine exQ fun Q hQ => ?_
  have HQ := Hd.mk hQ; clear hQ
  obtain ⟨_, e4, x4, j4, k4, hx4, hj4, rfl⟩ := ev_l01Pick l hl i hi h [⟨#[120]⟩, ⟨#[121]⟩, ⟨#[122]⟩, ⟨#[49]⟩, ⟨#[50]⟩, ⟨#[39, 97, 39]⟩, ⟨#[110, 117, 108, 108]⟩, ⟨#[116, 114, 117, 101]⟩, ⟨#[45, 51]⟩, ⟨#[116, 46, 120]⟩, ⟨#[120]⟩, ⟨#[98, 46, 121]⟩, ⟨#[48]⟩] (by simp) (by simp)
  have h4 : x4.size ≤ 20 * 5 ^ 0 := mem_le hx4 (by decide)
  simp only [List.map_cons, List.map_nil] at e4
  have H := Hd.mk (And.intro hj4 h4)
  clear hl hi hj4 hx4 h4
  (refine Eq.mpr (congrArg Q (evF_code (C := cfg) (g := 106) (fn := Tryz.f106) rfl Tryz.func106 rfl (by rw [Tryz.ntmps106]; simp) (by kernel_rfl) (by first | decide | simp [keysOf]))) ?_; rw [Tryz.results106, Tryz.ntmps106])
  repeat' (first | with_reducible refine br_split (fun _ => ?_) (fun _ => ?_) | simp only [*, push_cast, simprocAttr] | (rw [drawC_ok]; rotate_left; decide +kernel; exact cfg_mixed))
  exact HQ.out _ ⟨x4, j4, k4, H.out.2, H.out.1, rfl⟩
theorem ev_l08ExpText1 (l : List Int) (hl : l.length ≤ 1048576) (d : Nat) (hd : d ≤ 3) (ih : ExT l d) : ExT l (d + 1) := by
  intro i hi h
  refine exQ fun Q hQ => ?_
  have HQ := Hd.mk hQ; clear hQ
  have hp : 20 * 5 ^ (d + 1) = 5 * (20 * 5 ^ d) := by rw [Nat.pow_succ 5 d]; omega
  have hp1 : 20 ≤ 20 * 5 ^ d := by have := Nat.pow_le_pow_right (n := 5) (by omega) (show 0 ≤ d by omega); omega
  have hp2 : 20 * 5 ^ d ≤ 100000000 := by have := Nat.pow_le_pow_right (n := 5) (by omega) (show d ≤ 4 by omega); omega
  have w1 : IntKind.i64.wrap (((d + 1 : Nat) : Int) - 1) = (d : Int) := by rw [i64_in (by omega) (by omega)]; omega
  have c1 : decide (((d + 1 : Nat) : Int) ≤ 0) = false := decide_eq_false (by omega)
  obtain ⟨_, e0, b, i1, h1, hi1, rfl⟩ := ev_l01Once l hl i hi h 3 3 rfl (by omega) (by omega)
  cases b with
  | true =>
    obtain ⟨_, e4, x4, j4, k4, hx4, hj4, rfl⟩ := ev_l01Pick l hl i1 hi1 h1 [⟨#[120]⟩, ⟨#[121]⟩, ⟨#[122]⟩, ⟨#[49]⟩, ⟨#[50]⟩, ⟨#[39, 97, 39]⟩, ⟨#[110, 117, 108, 108]⟩, ⟨#[116, 114, 117, 101]⟩, ⟨#[45, 51]⟩, ⟨#[116, 46, 120]⟩, ⟨#[120]⟩, ⟨#[98, 46, 121]⟩, ⟨#[48]⟩] (by simp) (by simp)
    have h4 : x4.size ≤ 20 * 5 ^ 0 := mem_le hx4 (by decide)
    simp only [List.map_cons, List.map_nil] at e4
    have H := Hd.mk (And.intro hj4 (show x4.size ≤ 20 * 5 ^ (d + 1) by rw [hp]; omega))
    generalize ((d + 1 : Nat) : Int) = D at *
    clear hl hi hi1 hj4 hx4 h4 ih hp hp1 hp2 hd
    (refine Eq.mpr (congrArg Q (evF_code (C := cfg) (g := 106) (fn := Tryz.f106) rfl Tryz.func106 rfl (by rw [Tryz.ntmps106]; simp) (by kernel_rfl) (by first | decide | simp [keysOf]))) ?_; rw [Tryz.results106, Tryz.ntmps106])
    repeat' (first | with_reducible refine br_split (fun _ => ?_) (fun _ => ?_) | simp only [*, push_cast, simprocAttr] | (rw [drawC_ok]; rotate_left; decide +kernel; exact cfg_mixed))
    exact HQ.out _ ⟨x4, j4, k4, H.out.2, H.out.1, rfl⟩
  | false =>
    obtain ⟨_, e1, a, i2, h2, ha, hi2, rfl⟩ := ih i1 hi1 h1
    obtain ⟨_, e2, x, i3, h3, hx, hi3, rfl⟩ := ev_l01Below l hl i2 hi2 h2 9 9 rfl (by omega) (by omega)
    obtain ⟨_, e3, a3, i4, h4, ha3, hi4, rfl⟩ := ih i3 hi3 h3
    obtain ⟨_, e4, x4, i5, h5, hx4, hi5, rfl⟩ := ev_l01Pick l hl i3 hi3 h3 [⟨#[43]⟩, ⟨#[45]⟩, ⟨#[42]⟩, ⟨#[47]⟩, ⟨#[97, 110, 100]⟩, ⟨#[111, 114]⟩, ⟨#[43]⟩] (by simp) (by simp)
    obtain ⟨_, e5, a5, i6, h6, ha5, hi6, rfl⟩ := ih i5 hi5 h5
    have hx4' : x4.size ≤ 3 := mem_le hx4 (by decide)
    simp only [List.map_cons, List.map_nil] at e4
    have HI := Hd.mk (And.intro hi3 (And.intro hi4 hi6))
    have hx9 : x = 0 ∨ x = 1 ∨ x = 2 ∨ x = 3 ∨ x = 4 ∨ x = 5 ∨ x = 6 ∨ x = 7 ∨ x = 8 := by omega
    generalize ((d + 1 : Nat) : Int) = D at *
    generalize 20 * 5 ^ d = M at *
    clear hl hi hi1 hi2 hi3 hi4 hi5 hi6 hx hx4 ih hd
    rcases hx9 with rfl | rfl | rfl | rfl | rfl | rfl | rfl | rfl | rfl
    all_goals
      (refine Eq.mpr (congrArg Q (evF_code (C := cfg) (g := 106) (fn := Tryz.f106) rfl Tryz.func106 rfl (by rw [Tryz.ntmps106]; simp) (by kernel_rfl) (by first | decide | simp [keysOf]))) ?_; rw [Tryz.results106, Tryz.ntmps106])
      repeat' (first | with_reducible refine br_split (fun _ => ?_) (fun _ => ?_) | simp only [*, push_cast, simprocAttr] | (rw [drawC_ok]; rotate_left; decide +kernel; exact cfg_mixed) | (rw [dec40]; rotate_left; simp only [ByteArray.size_append, size_mk, List.size_toArray, List.length_cons, List.length_nil]; omega))
    all_goals first
      | exact HQ.out _ ⟨_, i3, h3, by rw [hp]; simp only [ByteArray.size_append, size_mk, List.size_toArray, List.length_cons, List.length_nil]; omega, HI.out.1, rfl⟩
      | exact HQ.out _ ⟨_, i4, h4, by rw [hp]; simp only [ByteArray.size_append, size_mk, List.size_toArray, List.length_cons, List.length_nil]; omega, HI.out.2.1, rfl⟩
      | exact HQ.out _ ⟨_, i6, h6, by rw [hp]; simp only [ByteArray.size_append, size_mk, List.size_toArray, List.length_cons, List.length_nil]; omega, HI.out.2.2, rfl⟩
end Go.Av
end
section
namespace Go.Av
open Go.Proofs
set_option linter.unusedSimpArgs false
set_option maxHeartbeats 4000000 in
theorem ev_l08Query (l : List Int) (hl : l.length ≤ 1048576) (i : Nat) (hi : i ≤ l.length) (h : Int) : ∃ r, evF cfg 76 [(0, .box [.d (.sl .any (l.map cuC)), .d (.i .i64 (i : Nat)), .d (.i .i64 h)])] [.ptr 0 0] = some r ∧
    ∃ (s : ByteArray) (i' : Nat) (h' : Int), s.size ≤ 5000 ∧ i' ≤ l.length ∧ r = (.d (.s s), [(0, .box [.d (.sl .any (l.map cuC)), .d (.i .i64 (i' : Nat)), .d (.i .i64 h')])]) := by
  refine exQ fun Q hQ => ?_
  have HQ := Hd.mk hQ; clear hQ
  have E0 := ev_l08ExpText0 l hl
  have E1 := ev_l08ExpText1 l hl 0 (by omega) E0
  have E2 := ev_l08ExpText1 l hl 1 (by omega) E1
  obtain ⟨_, e0, fr, i1, h1, hfr, hi1, rfl⟩ := ev_l01Pick l hl i hi h [⟨#[116]⟩, ⟨#[98]⟩, ⟨#[97]⟩, ⟨#[116, 44, 32, 98]⟩, ⟨#[97, 44, 32, 98]⟩, ⟨#[116]⟩] (by simp) (by simp)
  have hfr' : fr.size ≤ 4 := mem_le hfr (by decide)
  simp only [List.map_cons, List.map_nil] at e0
  obtain ⟨_, e1, b1, i2, h2, hi2, rfl⟩ := ev_l01Once l hl i1 hi1 h1 2 2 rfl (by omega) (by omega)
  obtain ⟨_, e2, p, i3, h3, hp, hi3, rfl⟩ := ev_l01Pick l hl i2 hi2 h2 [⟨#[120, 32, 61, 32]⟩, ⟨#[120, 32, 60, 32]⟩, ⟨#[50, 32, 62, 32]⟩] (by simp) (by simp)
  have hp' : p.size ≤ 4 := mem_le hp (by decide)
  simp only [List.map_cons, List.map_nil] at e2
  obtain ⟨_, e3, t1, i4, h4, ht1, hi4, rfl⟩ := E1 i3 hi3 h3
  obtain ⟨_, e4, b2, i5, h5, hi5, rfl⟩ := ev_l01Once l hl i4 hi4 h4 2 2 rfl (by omega) (by omega)
  obtain ⟨_, e5, t2, i6, h6, ht2, hi6, rfl⟩ := E2 i5 hi5 h5
  have H := Hd.mk (And.intro hl (And.intro E1 (And.intro E2 (And.intro hi2 (And.intro hi5 hi6)))))
  rw [show ((0 + 1 : Nat) : Int) = 1 from rfl] at e3
  rw [show ((1 + 1 : Nat) : Int) = 2 from rfl] at e5
  simp only [Nat.reduceAdd, Nat.reducePow, Nat.reduceMul] at ht1 ht2
  clear hl E0 E1 E2 hi hi1 hi2 hi3 hi4 hi5 hi6 hfr hp
  cases b1 with
  | false =>
    clear e2 e3 e4 e5
    obtain ⟨hl, E1, E2, hi2, -, -⟩ := H.out
    obtain ⟨_, e6, x, j1, k1, hx, hj1, rfl⟩ := ev_l01Below l hl i2 hi2 h2 6 6 rfl (by omega) (by omega)
    obtain ⟨_, e7, su, j2, k2, hsu, hj2, rfl⟩ := ev_l01Pick l hl j1 hj1 k1 [⟨#[]⟩, ⟨#[44, 32, 115, 117, 109, 40, 121, 41]⟩, ⟨#[44, 32, 115, 117, 109, 40, 120, 32, 43, 32, 49, 41]⟩] (by simp) (by simp)
    have hsu' : su.size ≤ 20 := mem_le hsu (by decide)
    simp only [List.map_cons, List.map_nil] at e7
    obtain ⟨_, e8, u1, j3, k3, hu1, hj3, rfl⟩ := E1 j1 hj1 k1
    obtain ⟨_, e9, u2, j4, k4, hu2, hj4, rfl⟩ := E2 j1 hj1 k1
    rw [show ((0 + 1 : Nat) : Int) = 1 from rfl] at e8
    rw [show ((1 + 1 : Nat) : Int) = 2 from rfl] at e9
    simp only [Nat.reduceAdd, Nat.reducePow, Nat.reduceMul] at hu1 hu2
    have HI := Hd.mk (And.intro hj1 (And.intro hj2 (And.intro hj3 hj4)))
    have hx6 : x = 0 ∨ x = 1 ∨ x = 2 ∨ x = 3 ∨ x = 4 ∨ x = 5 := by omega
    clear H hl E1 E2 hj1 hj2 hj3 hj4 hx hsu
    rcases hx6 with rfl | rfl | rfl | rfl | rfl | rfl
    all_goals
      (refine Eq.mpr (congrArg Q (evF_code (C := cfg) (g := 76) (fn := Tryz.f76) rfl Tryz.func76 rfl (by rw [Tryz.ntmps76]; simp) (by kernel_rfl) (by first | decide | simp [keysOf]))) ?_; rw [Tryz.results76, Tryz.ntmps76])
      repeat' (first | with_reducible refine br_split (fun _ => ?_) (fun _ => ?_) | simp only [*, push_cast, simprocAttr] | (rw [drawC_ok]; rotate_left; decide +kernel; exact cfg_mixed) | (rw [dec40]; rotate_left; simp only [ByteArray.size_append, size_mk, List.size_toArray, List.length_cons, List.length_nil]; omega))
    all_goals first
      | exact HQ.out _ ⟨_, j1, k1, by simp only [ByteArray.size_append, size_mk, List.size_toArray, List.length_cons, List.length_nil]; omega, HI.out.1, rfl⟩
      | exact HQ.out _ ⟨_, j2, k2, by simp only [ByteArray.size_append, size_mk, List.size_toArray, List.length_cons, List.length_nil]; omega, HI.out.2.1, rfl⟩
      | exact HQ.out _ ⟨_, j3, k3, by simp only [ByteArray.size_append, size_mk, List.size_toArray, List.length_cons, List.length_nil]; omega, HI.out.2.2.1, rfl⟩
      | exact HQ.out _ ⟨_, j4, k4, by simp only [ByteArray.size_append, size_mk, List.size_toArray, List.length_cons, List.length_nil]; omega, HI.out.2.2.2, rfl⟩
  | true =>
    cases b2 with
    | false =>
      clear e5
      obtain ⟨hl, E1, E2, -, hi5, -⟩ := H.out
      obtain ⟨_, e6, x, j1, k1, hx, hj1, rfl⟩ := ev_l01Below l hl i5 hi5 h5 6 6 rfl (by omega) (by omega)
      obtain ⟨_, e7, su, j2, k2, hsu, hj2, rfl⟩ := ev_l01Pick l hl j1 hj1 k1 [⟨#[]⟩, ⟨#[44, 32, 115, 117, 109, 40, 121, 41]⟩, ⟨#[44, 32, 115, 117, 109, 40, 120, 32, 43, 32, 49, 41]⟩] (by simp) (by simp)
      have hsu' : su.size ≤ 20 := mem_le hsu (by decide)
      simp only [List.map_cons, List.map_nil] at e7
      obtain ⟨_, e8, u1, j3, k3, hu1, hj3, rfl⟩ := E1 j1 hj1 k1
      obtain ⟨_, e9, u2, j4, k4, hu2, hj4, rfl⟩ := E2 j1 hj1 k1
      rw [show ((0 + 1 : Nat) : Int) = 1 from rfl] at e8
      rw [show ((1 + 1 : Nat) : Int) = 2 from rfl] at e9
      simp only [Nat.reduceAdd, Nat.reducePow, Nat.reduceMul] at hu1 hu2
      have HI := Hd.mk (And.intro hj1 (And.intro hj2 (And.intro hj3 hj4)))
      have hx6 : x = 0 ∨ x = 1 ∨ x = 2 ∨ x = 3 ∨ x = 4 ∨ x = 5 := by omega
      clear H hl E1 E2 hj1 hj2 hj3 hj4 hx hsu
      rcases hx6 with rfl | rfl | rfl | rfl | rfl | rfl
      all_goals
        (refine Eq.mpr (congrArg Q (evF_code (C := cfg) (g := 76) (fn := Tryz.f76) rfl Tryz.func76 rfl (by rw [Tryz.ntmps76]; simp) (by kernel_rfl) (by first | decide | simp [keysOf]))) ?_; rw [Tryz.results76, Tryz.ntmps76])
        repeat' (first | with_reducible refine br_split (fun _ => ?_) (fun _ => ?_) | simp only [*, push_cast, simprocAttr] | (rw [drawC_ok]; rotate_left; decide +kernel; exact cfg_mixed) | (rw [dec40]; rotate_left; simp only [ByteArray.size_append, size_mk, List.size_toArray, List.length_cons, List.length_nil]; omega))
      all_goals first
        | exact HQ.out _ ⟨_, j1, k1, by simp only [ByteArray.size_append, size_mk, List.size_toArray, List.length_cons, List.length_nil]; omega, HI.out.1, rfl⟩
        | exact HQ.out _ ⟨_, j2, k2, by simp only [ByteArray.size_append, size_mk, List.size_toArray, List.length_cons, List.length_nil]; omega, HI.out.2.1, rfl⟩
        | exact HQ.out _ ⟨_, j3, k3, by simp only [ByteArray.size_append, size_mk, List.size_toArray, List.length_cons, List.length_nil]; omega, HI.out.2.2.1, rfl⟩
        | exact HQ.out _ ⟨_, j4, k4, by simp only [ByteArray.size_append, size_mk, List.size_toArray, List.length_cons, List.length_nil]; omega, HI.out.2.2.2, rfl⟩
    | true =>
      obtain ⟨hl, E1, E2, -, -, hi6⟩ := H.out
      obtain ⟨_, e6, x, j1, k1, hx, hj1, rfl⟩ := ev_l01Below l hl i6 hi6 h6 6 6 rfl (by omega) (by omega)
      obtain ⟨_, e7, su, j2, k2, hsu, hj2, rfl⟩ := ev_l01Pick l hl j1 hj1 k1 [⟨#[]⟩, ⟨#[44, 32, 115, 117, 109, 40, 121, 41]⟩, ⟨#[44, 32, 115, 117, 109, 40, 120, 32, 43, 32, 49, 41]⟩] (by simp) (by simp)
      have hsu' : su.size ≤ 20 := mem_le hsu (by decide)
      simp only [List.map_cons, List.map_nil] at e7
      obtain ⟨_, e8, u1, j3, k3, hu1, hj3, rfl⟩ := E1 j1 hj1 k1
      obtain ⟨_, e9, u2, j4, k4, hu2, hj4, rfl⟩ := E2 j1 hj1 k1
      rw [show ((0 + 1 : Nat) : Int) = 1 from rfl] at e8
      rw [show ((1 + 1 : Nat) : Int) = 2 from rfl] at e9
      simp only [Nat.reduceAdd, Nat.reducePow, Nat.reduceMul] at hu1 hu2
      have HI := Hd.mk (And.intro hj1 (And.intro hj2 (And.intro hj3 hj4)))
      have hx6 : x = 0 ∨ x = 1 ∨ x = 2 ∨ x = 3 ∨ x = 4 ∨ x = 5 := by omega
      clear H hl E1 E2 hj1 hj2 hj3 hj4 hx hsu
      rcases hx6 with rfl | rfl | rfl | rfl | rfl | rfl
      all_goals
        (refine Eq.mpr (congrArg Q (evF_code (C := cfg) (g := 76) (fn := Tryz.f76) rfl Tryz.func76 rfl (by rw [Tryz.ntmps76]; simp) (by kernel_rfl) (by first | decide | simp [keysOf]))) ?_; rw [Tryz.results76, Tryz.ntmps76])
        repeat' (first | with_reducible refine br_split (fun _ => ?_) (fun _ => ?_) | simp only [*, push_cast, simprocAttr] | (rw [drawC_ok]; rotate_left; decide +kernel; exact cfg_mixed) | (rw [dec40]; rotate_left; simp only [ByteArray.size_append, size_mk, List.size_toArray, List.length_cons, List.length_nil]; omega))
      all_goals first
        | exact HQ.out _ ⟨_, j1, k1, by simp only [ByteArray.size_append, size_mk, List.size_toArray, List.length_cons, List.length_nil]; omega, HI.out.1, rfl⟩
        | exact HQ.out _ ⟨_, j2, k2, by simp only [ByteArray.size_append, size_mk, List.size_toArray, List.length_cons, List.length_nil]; omega, HI.out.2.1, rfl⟩
        | exact HQ.out _ ⟨_, j3, k3, by simp only [ByteArray.size_append, size_mk, List.size_toArray, List.length_cons, List.length_nil]; omega, HI.out.2.2.1, rfl⟩
        | exact HQ.out _ ⟨_, j4, k4, by simp only [ByteArray.size_append, size_mk, List.size_toArray, List.length_cons, List.length_nil]; omega, HI.out.2.2.2, rfl⟩
end Go.Av
end
section
namespace Go.Av
open Go.Proofs
set_option linter.unusedSimpArgs false
theorem ev_l02Bag0 (l : List Int) (hl : l.length ≤ 1048576) (i : Nat) (hi : i ≤ l.length) (h : Int) (w : Int) (hw : w ≤ 1000) : ∃ r, evF cfg 107 [(0, .box [.d (.sl .any (l.map cuC)), .d (.i .i64 (i : Nat)), .d (.i .i64 h)])] [.ptr 0 0, .d (.i .i64 w), .d (.b false)] = some r ∧
    ∃ (rows : List C) (i' : Nat) (h' : Int), BagP w rows 5 ∧ i' ≤ l.length ∧ r = (.agg [.d (.i .i64 w), .own 40], [(0, .box [.d (.sl .any (l.map cuC)), .d (.i .i64 (i' : Nat)), .d (.i .i64 h')]), (40, .arr .any 2 (rows.map cC))]) := by
  refine exQ fun Q hQ => ?_
  have HQ := Hd.mk hQ; clear hQ
  obtain ⟨_, e0, N, i1, h1, hN, hi1, rfl⟩ := ev_l01Below l hl i hi h 6 6 rfl (by omega) (by omega)
  obtain ⟨_, e1, R, i2, h2, p1, p2, hi2, rfl⟩ := ev_l02Rows l hl i1 hi1 h1 w hw N N rfl (by omega)
  have H := Hd.mk (And.intro hl (And.intro hi2 (And.intro hw (And.intro hN (And.intro p1 p2)))))
  clear hl hi hi1 hi2 hw hN p1 p2
  (refine Eq.mpr (congrArg Q (evF_code (C := cfg) (g := 107) (fn := Tryz.f107) rfl Tryz.func107 rfl (by rw [Tryz.ntmps107]; simp) (by kernel_rfl) (by first | decide | simp [keysOf]))) ?_; rw [Tryz.results107, Tryz.ntmps107])
  repeat' (first | with_reducible refine br_split (fun _ => ?_) (fun _ => ?_) | simp only [*, push_cast, simprocAttr] | (rw [drawC_ok]; rotate_left; decide +kernel; exact cfg_mixed))
  rw [show ([] : List (List T)) = ([] : List C).map cC from rfl]
  generalize hE : evM cfg _ _ _ _ _ = RR
  have key : ∃ r, RR = some r ∧ ∃ (rows : List C) (i' : Nat) (h' : Int), BagP w rows 5 ∧ i' ≤ l.length ∧ r = (Exit.exit 0, { t := [(6, .ptr 50 0), (7, .ptr 51 0)], o := [(0, .box [.d (.sl .any (l.map cuC)), .d (.i .i64 (i' : Nat)), .d (.i .i64 h')]), (50, .box [.d (.i .i64 0), .nl]), (51, .box [.d (.i .i64 w), .own 52]), (52, .arr .any 2 (rows.map cC))], ks := [0, 50, 51, 52], n := 0, sz := 42, u := noU }) := by
    rw [← hE]
    refine evM_ex (α := BS) (fun z => { t := [(0, .ptr 0 0), (2, .d (.b false)), (6, .ptr 50 0), (7, .ptr 51 0), (8, .own 52), (9, .d (.i .i64 (z.j : Nat)))], o := [(0, .box [.d (.sl .any (l.map cuC)), .d (.i .i64 (z.i : Nat)), .d (.i .i64 z.h)]), (50, .box [.d (.i .i64 0), .nl]), (51, .box [.d (.i .i64 w), .own 53]), (52, .arr .any 1 (R.map roC)), (53, .arr .any 2 (z.rows.map cC))], ks := [0, 50, 51, 52, 53], n := 0, sz := 42, u := noU })
      (fun _ r => ∃ (rows : List C) (i' : Nat) (h' : Int), BagP w rows 5 ∧ i' ≤ l.length ∧ r = (Exit.exit 0, { t := [(6, .ptr 50 0), (7, .ptr 51 0)], o := [(0, .box [.d (.sl .any (l.map cuC)), .d (.i .i64 (i' : Nat)), .d (.i .i64 h')]), (50, .box [.d (.i .i64 0), .nl]), (51, .box [.d (.i .i64 w), .own 52]), (52, .arr .any 2 (rows.map cC))], ks := [0, 50, 51, 52], n := 0, sz := 42, u := noU }))
      (fun z => z.j ≤ N ∧ BagP w z.rows z.j ∧ z.i ≤ l.length) (fun z => N - z.j) ?_ ⟨0, [], i2, h2⟩ ⟨Nat.zero_le _, ⟨canon_nil, Nat.le_refl _, fun _ h => (nomatch h), fun _ h => (nomatch h)⟩, H.out.2.1⟩
    clear hE RR e0 e1
    rintro ⟨j, rows, i, h⟩ ⟨hj, hB, hi⟩ ih
    simp only at hj hB hi ih ⊢
    obtain ⟨hl, -, hw, hN, hR1, hR2⟩ := H.out
    by_cases hc : j < R.length
    · have c1 : decide ((j : Int) < (R.length : Int)) = true := dec_lt hc
      have c2 := dec_ltN hc
      have w1 : IntKind.i64.wrap ((j : Int) + 1) = (j : Int) + 1 := wrap_succ (by omega)
      have g1 : (R.map roC)[j]? = some [.sl .any (R[j].map vC)] := get_map roC R j hc
      obtain ⟨_, e0, x, i1, h1, hx, hi1, rfl⟩ := ev_l01Below l hl i hi h 3 3 rfl (by omega) (by omega)
      have w2 : IntKind.i64.wrap (1 + (x : Int)) = 1 + (x : Int) := i64_in (by omega) (by omega)
      have hrj := hR2 _ (List.getElem_mem hc)
      have hrl : R[j].length ≤ 1048576 := by have := hrj.1; omega
      have hrows : ∀ c ∈ rows, c.row.length ≤ 1048576 := fun c hc => by have := (hB.row c hc).1; omega
      have hjk : j ≤ 5 := by omega
      have hlen : rows.length ≤ 1048576 := by have := hB.len; omega
      obtain ⟨r, hr, hq⟩ := ih ⟨j + 1, putC rows ⟨R[j], 1 + (x : Int)⟩, i1, h1⟩ ⟨by simp only; omega, hB.put hjk hrj (by omega) (by omega), hi1⟩ (by simp only; omega)
      simp only at hr
      rw [show ((j + 1 : Nat) : Int) = (j : Int) + 1 from rfl] at hr
      refine ⟨r, ?_, hq⟩
      rcases ev_l02Put w (1 + (x : Int)) rows R[j] hlen hrows hrl hB.can.1 with hput | hput
      · clear ih hl hi hj hB hw hN hR1 hR2 hq hx hi1 hrj hrl hrows hlen hjk
        repeat' (first | with_reducible refine br_split (fun _ => ?_) (fun _ => ?_) | simp only [*, push_cast, simprocAttr] | (rw [drawC_ok]; rotate_left; decide +kernel; exact cfg_mixed))
      · clear ih hl hi hj hB hw hN hR1 hR2 hq hx hi1 hrj hrl hrows hlen hjk
        repeat' (first | with_reducible refine br_split (fun _ => ?_) (fun _ => ?_) | simp only [*, push_cast, simprocAttr] | (rw [drawC_ok]; rotate_left; decide +kernel; exact cfg_mixed))
    · have c1 : decide ((j : Int) < (R.length : Int)) = false := decide_eq_false (by omega)
      refine ⟨_, ?_, rows, i, h, ⟨hB.can, by have := hB.len; omega, hB.row, fun c hc => by have := hB.num c hc; omega⟩, hi, rfl⟩
      clear ih hl hi hj hB hw hN hR1 hR2 hc
      repeat' (first | with_reducible refine br_split (fun _ => ?_) (fun _ => ?_) | simp only [*, push_cast, simprocAttr] | (rw [drawC_ok]; rotate_left; decide +kernel; exact cfg_mixed))
  obtain ⟨_, rfl, rows, i', h', q1, q2, rfl⟩ := key
  have H2 := Hd.mk (And.intro q1 q2)
  clear hE q1 q2
  repeat' (first | with_reducible refine br_split (fun _ => ?_) (fun _ => ?_) | simp only [*, push_cast, simprocAttr] | (rw [drawC_ok]; rotate_left; decide +kernel; exact cfg_mixed))
  exact HQ.out _ ⟨rows, i', h', H2.out.1, H2.out.2, rfl⟩
end Go.Av
end
section
namespace Go.Av
open Go.Proofs
set_option linter.unusedSimpArgs false
structure DbP (db : List R) : Prop where
  len : db.length = 3
  bag : ∀ r ∈ db, ∃ k : Nat, k ≤ 3 ∧ r.bag.w = k ∧ BagP k r.bag.rows 5 ∧ r.name.size = 1
theorem ev_l04Db (l : List Int) (hl : l.length ≤ 1048576) (i : Nat) (hi : i ≤ l.length) (h : Int) : ∃ r, evF cfg 78 [(0, .box [.d (.sl .any (l.map cuC)), .d (.i .i64 (i : Nat)), .d (.i .i64 h)])] [.ptr 0 0] = some r ∧
    ∃ (db : List R) (i' : Nat) (h' : Int), DbP db ∧ i' ≤ l.length ∧ r = (.d (.sl .any (db.map rC)), [(0, .box [.d (.sl .any (l.map cuC)), .d (.i .i64 (i' : Nat)), .d (.i .i64 h')])]) := by
  refine exQ fun Q hQ => ?_
  have HQ := Hd.mk hQ; clear hQ
  obtain ⟨_, e0, r0, i1, h1, p0, hi1, rfl⟩ := ev_l02Bag0 l hl i hi h 1 (by omega)
  obtain ⟨_, e1, r1, i2, h2, p1, hi2, rfl⟩ := ev_l02Bag0 l hl i1 hi1 h1 2 (by omega)
  obtain ⟨_, e2, r2, i3, h3, p2, hi3, rfl⟩ := ev_l02Bag0 l hl i2 hi2 h2 3 (by omega)
  have q3 : decide (3 ≤ maxLen) = true := by decide
  have H := Hd.mk (And.intro hi3 (And.intro p0 (And.intro p1 p2)))
  clear hl hi hi1 hi2 hi3 p0 p1 p2
  (refine Eq.mpr (congrArg Q (evF_code (C := cfg) (g := 78) (fn := Tryz.f78) rfl Tryz.func78 rfl (by rw [Tryz.ntmps78]; simp) (by kernel_rfl) (by first | decide | simp [keysOf]))) ?_; rw [Tryz.results78, Tryz.ntmps78])
  repeat' (first | with_reducible refine br_split (fun _ => ?_) (fun _ => ?_) | simp only [*, push_cast, simprocAttr] | (rw [drawC_ok]; rotate_left; decide +kernel; exact cfg_mixed))
  rw [evM_eq]
  repeat' (first | with_reducible refine br_split (fun _ => ?_) (fun _ => ?_) | simp only [*, push_cast, simprocAttr] | (rw [drawC_ok]; rotate_left; decide +kernel; exact cfg_mixed))
  rw [evM_eq]
  repeat' (first | with_reducible refine br_split (fun _ => ?_) (fun _ => ?_) | simp only [*, push_cast, simprocAttr] | (rw [drawC_ok]; rotate_left; decide +kernel; exact cfg_mixed))
  rw [evM_eq]
  repeat' (first | with_reducible refine br_split (fun _ => ?_) (fun _ => ?_) | simp only [*, push_cast, simprocAttr] | (rw [drawC_ok]; rotate_left; decide +kernel; exact cfg_mixed))
  rw [evM_eq]
  repeat' (first | with_reducible refine br_split (fun _ => ?_) (fun _ => ?_) | simp only [*, push_cast, simprocAttr] | (rw [drawC_ok]; rotate_left; decide +kernel; exact cfg_mixed))
  refine HQ.out _ ⟨[⟨⟨#[97]⟩, ⟨1, r0⟩⟩, ⟨⟨#[98]⟩, ⟨2, r1⟩⟩, ⟨⟨#[116]⟩, ⟨3, r2⟩⟩], i3, h3, ⟨rfl, fun r hr => ?_⟩, H.out.1, rfl⟩
  simp only [List.mem_cons, List.not_mem_nil, or_false] at hr
  rcases hr with rfl | rfl | rfl
  · exact ⟨1, by omega, rfl, H.out.2.1, rfl⟩
  · exact ⟨2, by omega, rfl, H.out.2.2.1, rfl⟩
  · exact ⟨3, by omega, rfl, H.out.2.2.2, rfl⟩
end Go.Av
end
section
namespace Go.Av
open Go.Proofs
set_option linter.unusedSimpArgs false
structure ChR (r : R) : Prop where
  name : r.name.size ≤ 2
  len : r.bag.rows.length ≤ 10
  row : ∀ c ∈ r.bag.rows, c.row.length ≤ 13 ∧ ∀ v ∈ c.row, v.s.size ≤ 5 ∧ w64 v.n = v.n
structure BagQ (w : Int) (rows : List C) (k m : Nat) : Prop where
  can : Canon rows
  len : rows.length ≤ k
  row : ∀ c ∈ rows, RowOk w c.row
  num : ∀ c ∈ rows, -(m : Int) ≤ c.n ∧ c.n ≤ (m : Int)
theorem BagP.q {w : Int} {rows : List C} (h : BagP w rows 5) : BagQ w rows 5 15 := ⟨h.can, h.len, h.row, fun c hc => by have := h.num c hc; omega⟩
theorem BagQ.put {w : Int} {rows : List C} {k m a : Nat} (h : BagQ w rows k m) (hm : m + a ≤ 1000000) {r : List V} (hr : RowOk w r) {n : Int} (h1 : -(a : Int) ≤ n) (h2 : n ≤ a) : BagQ w (putC rows ⟨r, n⟩) (k + 1) (m + a) := by
  refine ⟨putC_canon h.can (i64_in (by simp only; omega) (by simp only; omega)), ?_, fun c hc => ?_, fun c hc => ?_⟩
  · have := putC_len rows ⟨r, n⟩
    have := h.len
    omega
  · rcases putC_n hc with hc | rfl | ⟨d, hd, rfl⟩
    · exact h.row c hc
    · exact hr
    · exact hr
  · rcases putC_n hc with hc | rfl | ⟨d, hd, rfl⟩
    · have := h.num c hc
      omega
    · simp only; omega
    · have := h.num d hd
      have e : w64 (n + d.n) = n + d.n := i64_in (by omega) (by omega)
      simp only [e]
      omega
structure CS5 where
  j : Nat
  out : List R
  i : Nat
  h : Int
structure KS5 where
  k : Nat
  rows : List C
  i : Nat
  h : Int
theorem ev_l05Change (l : List Int) (hl : l.length ≤ 1048576) (i : Nat) (hi : i ≤ l.length) (h : Int) (db : List R) (hdb : DbP db) : ∃ r, evF cfg 77 [(0, .box [.d (.sl .any (l.map cuC)), .d (.i .i64 (i : Nat)), .d (.i .i64 h)])] [.ptr 0 0, .d (.sl .any (db.map rC))] = some r ∧
    ∃ (ch : List R) (i' : Nat) (h' : Int), (ch.length ≤ 4 ∧ ∀ r ∈ ch, ChR r) ∧ i' ≤ l.length ∧ r = (.d (.sl .any (ch.map rC)), [(0, .box [.d (.sl .any (l.map cuC)), .d (.i .i64 (i' : Nat)), .d (.i .i64 h')])]) := by
  refine exQ fun Q hQ => ?_
  have HQ := Hd.mk hQ; clear hQ
  have H := Hd.mk (And.intro hl (And.intro hi hdb))
  clear hl hi hdb
  (refine Eq.mpr (congrArg Q (evF_code (C := cfg) (g := 77) (fn := Tryz.f77) rfl Tryz.func77 rfl (by rw [Tryz.ntmps77]; simp) (by kernel_rfl) (by first | decide | simp [keysOf]))) ?_; rw [Tryz.results77, Tryz.ntmps77])
  repeat' (first | with_reducible refine br_split (fun _ => ?_) (fun _ => ?_) | simp only [*, push_cast, simprocAttr] | (rw [drawC_ok]; rotate_left; decide +kernel; exact cfg_mixed))
  rw [show ([] : List (List T)) = ([] : List R).map rC from rfl]
  generalize hE : evM cfg _ _ _ _ _ = RR
  have key : ∃ r, RR = some r ∧ ∃ (ch : List R) (i' : Nat) (h' : Int), (ch.length ≤ 3 ∧ ∀ r ∈ ch, ChR r) ∧ i' ≤ l.length ∧ r = (Exit.exit 0, { t := [(0, .ptr 0 0), (5, .own 50)], o := [(0, .box [.d (.sl .any (l.map cuC)), .d (.i .i64 (i' : Nat)), .d (.i .i64 h')]), (50, .arr .any 3 (ch.map rC))], ks := [0, 50], n := 0, sz := 92, u := noU }) := by
    rw [← hE]
    refine evM_ex (α := CS5) (fun y => { t := [(0, .ptr 0 0), (1, .d (.sl .any (db.map rC))), (5, .own 50), (6, .d (.i .i64 (y.j : Nat)))], o := [(0, .box [.d (.sl .any (l.map cuC)), .d (.i .i64 (y.i : Nat)), .d (.i .i64 y.h)]), (50, .arr .any 3 (y.out.map rC))], ks := [0, 50], n := 0, sz := 92, u := noU })
      (fun _ r => ∃ (ch : List R) (i' : Nat) (h' : Int), (ch.length ≤ 3 ∧ ∀ r ∈ ch, ChR r) ∧ i' ≤ l.length ∧ r = (Exit.exit 0, { t := [(0, .ptr 0 0), (5, .own 50)], o := [(0, .box [.d (.sl .any (l.map cuC)), .d (.i .i64 (i' : Nat)), .d (.i .i64 h')]), (50, .arr .any 3 (ch.map rC))], ks := [0, 50], n := 0, sz := 92, u := noU }))
      (fun y => y.j ≤ 3 ∧ y.out.length ≤ y.j ∧ (∀ r ∈ y.out, ChR r) ∧ y.i ≤ l.length) (fun y => 3 - y.j) ?_ ⟨0, [], i, h⟩ ⟨Nat.zero_le _, Nat.le_refl _, fun _ h => (nomatch h), H.out.2.1⟩
    clear hE RR
    rintro ⟨j, out, i, h⟩ ⟨hj, hout, hch, hi⟩ ih
    simp only at hj hout hch hi ih ⊢
    obtain ⟨hl, -, hdb⟩ := H.out
    by_cases hc : j < 3
    · have c1 : decide ((j : Int) < (db.length : Int)) = true := decide_eq_true (by have := hdb.len; omega)
      have c2 : decide ((j : Int) < 3) = true := decide_eq_true (by omega)
      have hjd : j < db.length := by rw [hdb.len]; exact hc
      have c3 := dec_ltN hjd
      have g1 : (db.map rC)[j]? = some [.s db[j].name, .i .i64 db[j].bag.w, .sl .any (db[j].bag.rows.map cC)] := get_map rC db j hjd
      have w1 : IntKind.i64.wrap ((j : Int) + 1) = (j : Int) + 1 := wrap_succ (by omega)
      obtain ⟨_, e0, b, i1, h1, hi1, rfl⟩ := ev_l01Once l hl i hi h 3 3 rfl (by omega) (by omega)
      cases b with
      | true =>
        obtain ⟨r, hr, hq⟩ := ih ⟨j + 1, out, i1, h1⟩ ⟨by simp only; omega, by simp only; omega, hch, hi1⟩ (by simp only; omega)
        simp only at hr
        rw [show ((j + 1 : Nat) : Int) = (j : Int) + 1 from rfl] at hr
        refine ⟨r, ?_, hq⟩
        clear ih hl hi hj hout hch hc hdb hi1 hq H
        repeat' (first | with_reducible refine br_split (fun _ => ?_) (fun _ => ?_) | simp only [*, push_cast, simprocAttr] | (rw [drawC_ok]; rotate_left; decide +kernel; exact cfg_mixed))
      | false =>
        obtain ⟨w, hw3, hw, hP, hnm⟩ := hdb.bag _ (List.getElem_mem hjd)
        generalize db[j] = T at *
        obtain ⟨nm, ⟨bw, rows0⟩⟩ := T
        simp only at hw hP hnm g1
        have c4 : (decide (0 ≤ bw) && decide (bw ≤ 3)) = true := by rw [hw]; simp; omega
        obtain ⟨_, e2, rows, i2, h2, hB, hi2, rfl⟩ := ev_l02Bag0 l hl i1 hi1 h1 bw (by omega)
        refine exQ fun Q hQ => ?_
        have HQ := Hd.mk hQ; clear hQ
        have H2 := Hd.mk (And.intro hw3 (And.intro hw (And.intro hP (And.intro hnm (And.intro hB (And.intro hi2 (And.intro hc (And.intro hout (And.intro hch ih)))))))))
        clear ih hl hi hj hout hch hc hdb hi1 hi2 hB hw3 hP hnm hw
        repeat' (first | with_reducible refine br_split (fun _ => ?_) (fun _ => ?_) | simp only [*, push_cast, simprocAttr] | (rw [drawC_ok]; rotate_left; decide +kernel; exact cfg_mixed))
        generalize hE : evM cfg _ _ _ _ _ = RR
        have key : ∃ r, RR = some r ∧ ∃ (rows' : List C) (i' : Nat) (h' : Int), BagQ bw rows' 10 90 ∧ i' ≤ l.length ∧ r = (Exit.exit 2, { t := [(0, .ptr 0 0), (1, .d (.sl .any (db.map rC))), (5, .own 50), (6, .d (.i .i64 (j : Nat))), (7, .ptr 51 0)], o := [(0, .box [.d (.sl .any (l.map cuC)), .d (.i .i64 (i' : Nat)), .d (.i .i64 h')]), (50, .arr .any 3 (out.map rC)), (51, .box [.d (.i .i64 bw), .own 52]), (52, .arr .any 2 (rows'.map cC))], ks := [0, 50, 51, 52], n := 0, sz := 92, u := noU }) := by
          rw [← hE]
          refine evM_ex (α := KS5) (fun y => { t := [(0, .ptr 0 0), (1, .d (.sl .any (db.map rC))), (5, .own 50), (6, .d (.i .i64 (j : Nat))), (7, .ptr 51 0), (8, .d (.i .i64 (y.k : Nat)))], o := [(0, .box [.d (.sl .any (l.map cuC)), .d (.i .i64 (y.i : Nat)), .d (.i .i64 y.h)]), (50, .arr .any 3 (out.map rC)), (51, .box [.d (.i .i64 bw), .own 52]), (52, .arr .any 2 (y.rows.map cC))], ks := [0, 50, 51, 52], n := 0, sz := 92, u := noU })
            (fun _ r => ∃ (rows' : List C) (i' : Nat) (h' : Int), BagQ bw rows' 10 90 ∧ i' ≤ l.length ∧ r = (Exit.exit 2, { t := [(0, .ptr 0 0), (1, .d (.sl .any (db.map rC))), (5, .own 50), (6, .d (.i .i64 (j : Nat))), (7, .ptr 51 0)], o := [(0, .box [.d (.sl .any (l.map cuC)), .d (.i .i64 (i' : Nat)), .d (.i .i64 h')]), (50, .arr .any 3 (out.map rC)), (51, .box [.d (.i .i64 bw), .own 52]), (52, .arr .any 2 (rows'.map cC))], ks := [0, 50, 51, 52], n := 0, sz := 92, u := noU }))
            (fun y => y.k ≤ rows0.length ∧ BagQ bw y.rows (5 + y.k) (15 + 15 * y.k) ∧ y.i ≤ l.length) (fun y => rows0.length - y.k) ?_ ⟨0, rows, i2, h2⟩ ⟨Nat.zero_le _, H2.out.2.2.2.2.1.q, H2.out.2.2.2.2.2.1⟩
          clear hE RR e2
          rintro ⟨k, rows, i, h⟩ ⟨hk, hB, hi⟩ ih
          simp only at hk hB hi ih ⊢
          obtain ⟨hw3, hw, hP, -, -, -, -, -, -, -⟩ := H2.out
          have hl := H.out.1
          have hP5 := hP.len
          by_cases hc : k < rows0.length
          · have d1 := dec_lt hc
            have d2 := dec_ltN hc
            have g2 : (rows0.map cC)[k]? = some [.sl .any (rows0[k].row.map vC), .i .i64 rows0[k].n] := get_map cC rows0 k hc
            have w2 : IntKind.i64.wrap ((k : Int) + 1) = (k : Int) + 1 := wrap_succ (by omega)
            obtain ⟨_, e1, b, i1, h1, hi1, rfl⟩ := ev_l01Once l hl i hi h 2 2 rfl (by omega) (by omega)
            cases b with
            | false =>
              obtain ⟨r, hr, hq⟩ := ih ⟨k + 1, rows, i1, h1⟩ ⟨by simp only; omega, ⟨hB.can, by have := hB.len; simp only; omega, hB.row, fun c hc => by have := hB.num c hc; simp only; omega⟩, hi1⟩ (by simp only; omega)
              simp only at hr
              rw [show ((k + 1 : Nat) : Int) = (k : Int) + 1 from rfl] at hr
              refine ⟨r, ?_, hq⟩
              clear ih hl hi hk hB hw3 hw hP hP5 hi1 hq H H2
              repeat' (first | with_reducible refine br_split (fun _ => ?_) (fun _ => ?_) | simp only [*, push_cast, simprocAttr] | (rw [drawC_ok]; rotate_left; decide +kernel; exact cfg_mixed))
            | true =>
              have hrk := hP.row _ (List.getElem_mem hc)
              have hnk := hP.num _ (List.getElem_mem hc)
              rw [← hw] at hrk
              have w3 : IntKind.i64.wrap (0 - rows0[k].n) = -rows0[k].n := by rw [i64_in (by omega) (by omega)]; omega
              have hrl : rows0[k].row.length ≤ 1048576 := by have := hrk.1; omega
              have hrows : ∀ c ∈ rows, c.row.length ≤ 1048576 := fun c hc => by have := (hB.row c hc).1; omega
              have hlen : rows.length ≤ 1048576 := by have := hB.len; omega
              generalize rows0[k] = X at *
              obtain ⟨xr, xn⟩ := X
              simp only at hrk hnk w3 hrl g2
              obtain ⟨r, hr, hq⟩ := ih ⟨k + 1, putC rows ⟨xr, -xn⟩, i1, h1⟩ ⟨by simp only; omega, by
                have := hB.put (a := 15) (by omega) hrk (n := -xn) (by omega) (by omega)
                exact ⟨this.can, by have := this.len; simp only; omega, this.row, fun c hc => by have := this.num c hc; simp only; omega⟩, hi1⟩ (by simp only; omega)
              simp only at hr
              rw [show ((k + 1 : Nat) : Int) = (k : Int) + 1 from rfl] at hr
              refine ⟨r, ?_, hq⟩
              rcases ev_l02Put bw (-xn) rows xr hlen hrows hrl hB.can.1 with hput | hput
              · clear ih hl hi hk hB hw3 hw hP hP5 hi1 hq hrk hnk hrl hrows hlen H H2
                repeat' (first | with_reducible refine br_split (fun _ => ?_) (fun _ => ?_) | simp only [*, push_cast, simprocAttr] | (rw [drawC_ok]; rotate_left; decide +kernel; exact cfg_mixed))
              · clear ih hl hi hk hB hw3 hw hP hP5 hi1 hq hrk hnk hrl hrows hlen H H2
                repeat' (first | with_reducible refine br_split (fun _ => ?_) (fun _ => ?_) | simp only [*, push_cast, simprocAttr] | (rw [drawC_ok]; rotate_left; decide +kernel; exact cfg_mixed))
          · have d1 : decide ((k : Int) < (rows0.length : Int)) = false := decide_eq_false (by omega)
            refine ⟨_, ?_, rows, i, h, ⟨hB.can, by have := hB.len; omega, hB.row, fun c hc => by have := hB.num c hc; omega⟩, hi, rfl⟩
            clear ih hl hi hk hB hw3 hw hP hP5 H H2 hc
            repeat' (first | with_reducible refine br_split (fun _ => ?_) (fun _ => ?_) | simp only [*, push_cast, simprocAttr] | (rw [drawC_ok]; rotate_left; decide +kernel; exact cfg_mixed))
        obtain ⟨_, rfl, rows', i', h', q1, q2, rfl⟩ := key
        obtain ⟨hw3, hw, -, hnm, -, -, hj, hout, hch, ih⟩ := H2.out
        have h3 : out.map rC ++ [[.s nm, .i .i64 bw, .sl .any (rows'.map cC)]] = (out ++ [(⟨nm, ⟨bw, rows'⟩⟩ : R)]).map rC := by rw [List.map_append]; rfl
        have h4 := len_ok (n := out.length + 1) 48 (by omega) (by omega)
        obtain ⟨r, hr, hq⟩ := ih ⟨j + 1, out ++ [⟨nm, ⟨bw, rows'⟩⟩], i', h'⟩ ⟨by simp only; have := hj; omega, by simp only [List.length_append, List.length_singleton]; omega, fun x hx => by
          rcases List.mem_append.1 hx with hx | hx
          · exact hch x hx
          · rw [List.mem_singleton.1 hx]
            exact ⟨by simp only; omega, q1.len, fun c hc => ⟨by have := (q1.row c hc).1; omega, (q1.row c hc).2⟩⟩, q2⟩ (by simp only; omega)
        simp only at hr
        rw [show ((j + 1 : Nat) : Int) = (j : Int) + 1 from rfl] at hr
        have HQ2 := Hd.mk hq
        clear hE ih hj hout hch hq q1 q2 hw3 hnm hw H2 e0 e2
        repeat' (first | with_reducible refine br_split (fun _ => ?_) (fun _ => ?_) | simp only [*, push_cast, simprocAttr] | (rw [drawC_ok]; rotate_left; decide +kernel; exact cfg_mixed))
        exact HQ.out _ HQ2.out
    · have c1 : decide ((j : Int) < (db.length : Int)) = false := decide_eq_false (by have := hdb.len; omega)
      refine ⟨_, ?_, out, i, h, ⟨by omega, hch⟩, hi, rfl⟩
      clear ih hl hi hj hout hch hc hdb H
      repeat' (first | with_reducible refine br_split (fun _ => ?_) (fun _ => ?_) | simp only [*, push_cast, simprocAttr] | (rw [drawC_ok]; rotate_left; decide +kernel; exact cfg_mixed))
  obtain ⟨_, rfl, ch, i1, h1, ⟨p1, p2⟩, p3, rfl⟩ := key
  obtain ⟨hl, -, -⟩ := H.out
  obtain ⟨_, e0, b, i2, h2, hi2, rfl⟩ := ev_l01Once l hl i1 p3 h1 12 12 rfl (by omega) (by omega)
  cases b with
  | false =>
    have H2 := Hd.mk (And.intro p1 (And.intro p2 hi2))
    clear hE hl H p1 p2 p3 hi2
    repeat' (first | with_reducible refine br_split (fun _ => ?_) (fun _ => ?_) | simp only [*, push_cast, simprocAttr] | (rw [drawC_ok]; rotate_left; decide +kernel; exact cfg_mixed))
    exact HQ.out _ ⟨ch, i2, h2, ⟨by have := H2.out.1; omega, H2.out.2.1⟩, H2.out.2.2, rfl⟩
  | true =>
    obtain ⟨_, e1, nm, i3, h3, hnm, hi3, rfl⟩ := ev_l01Pick l hl i2 hi2 h2 [⟨#[97]⟩, ⟨#[122, 122]⟩] (by simp) (by simp)
    have hnm' : nm.size ≤ 2 := mem_le hnm (by decide)
    simp only [List.map_cons, List.map_nil] at e1
    obtain ⟨_, e2, w, rows, i4, h4, hA, hi4, rfl⟩ := ev_l02Any l hl i3 hi3 h3
    have h3' : ch.map rC ++ [[.s nm, .i .i64 w, .sl .any (rows.map cC)]] = (ch ++ [(⟨nm, ⟨w, rows⟩⟩ : R)]).map rC := by rw [List.map_append]; rfl
    have h4' := len_ok (n := ch.length + 1) 48 (by omega) (by omega)
    have H2 := Hd.mk (And.intro p1 (And.intro p2 (And.intro hnm' (And.intro hA hi4))))
    clear hE hl H p1 p2 p3 hi2 hnm hi3 hnm' hA hi4
    repeat' (first | with_reducible refine br_split (fun _ => ?_) (fun _ => ?_) | simp only [*, push_cast, simprocAttr] | (rw [drawC_ok]; rotate_left; decide +kernel; exact cfg_mixed))
    refine HQ.out _ ⟨ch ++ [⟨nm, ⟨w, rows⟩⟩], i4, h4, ⟨?_, fun x hx => ?_⟩, H2.out.2.2.2.2, rfl⟩
    · have := H2.out.1
      simp only [List.length_append, List.length_singleton]; omega
    · rcases List.mem_append.1 hx with hx | hx
      · exact H2.out.2.1 x hx
      · rw [List.mem_singleton.1 hx]
        have hA := H2.out.2.2.2.1
        exact ⟨H2.out.2.2.1, by have := hA.len; simp only; omega, hA.row⟩
end Go.Av
end
section
namespace Go.Av
open Go.Proofs
set_option linter.unusedSimpArgs false
structure StD (x : Sp) : Prop where
  kind : -1 ≤ x.kind ∧ x.kind ≤ 4
  name : x.name.size ≤ 11
  ncol : x.cols.length ≤ 3
  cols : ∀ c ∈ x.cols, c.size = 1
  query : x.query.size ≤ 5000
  nch : x.change.length ≤ 4
  change : ∀ r ∈ x.change, ChR r
theorem StD.k {a : Int} {b : ByteArray} {c : List ByteArray} {d : ByteArray} {e : List R} (h : StD ⟨a, b, c, d, e⟩) {a' : Int} (h1 : -1 ≤ a') (h2 : a' ≤ 4) : StD ⟨a', b, c, d, e⟩ := ⟨⟨h1, h2⟩, h.name, h.ncol, h.cols, h.query, h.nch, h.change⟩
theorem StD.n {a : Int} {b : ByteArray} {c : List ByteArray} {d : ByteArray} {e : List R} (h : StD ⟨a, b, c, d, e⟩) {b' : ByteArray} (h1 : b'.size ≤ 11) : StD ⟨a, b', c, d, e⟩ := ⟨h.kind, h1, h.ncol, h.cols, h.query, h.nch, h.change⟩
theorem mkStD {a : Int} {b : ByteArray} {c : List ByteArray} {d : ByteArray} {e : List R} (h1 : -1 ≤ a ∧ a ≤ 4) (h2 : b.size ≤ 11) (h3 : c.length ≤ 3) (h4 : ∀ x ∈ c, x.size = 1) (h5 : d.size ≤ 5000) (h6 : e.length ≤ 4) (h7 : ∀ r ∈ e, ChR r) : StD ⟨a, b, c, d, e⟩ := ⟨h1, h2, h3, h4, h5, h6, h7⟩
set_option maxHeartbeats 4000000 in
theorem ev_l10Step (l : List Int) (hl : l.length ≤ 1048576) (i : Nat) (hi : i ≤ l.length) (h : Int) : ∃ r, evF cfg 46 [(0, .box [.d (.sl .any (l.map cuC)), .d (.i .i64 (i : Nat)), .d (.i .i64 h)])] [.ptr 0 0] = some r ∧
    ∃ (x : Sp) (i' : Nat) (h' : Int), StD x ∧ i' ≤ l.length ∧ r = (.agg [.d (.i .i64 x.kind), .d (.s x.name), .d (.sl .any (x.cols.map sC)), .d (.s x.query), .d (.sl .any (x.change.map rC))], [(0, .box [.d (.sl .any (l.map cuC)), .d (.i .i64 (i' : Nat)), .d (.i .i64 h')])]) := by
  refine exQ fun Q hQ => ?_
  have HQ := Hd.mk hQ; clear hQ
  obtain ⟨_, e0, k, i1, h1, hk, hi1, rfl⟩ := ev_l01Below l hl i hi h 4 4 rfl (by omega) (by omega)
  have hk4 : k = 0 ∨ k = 1 ∨ k = 2 ∨ k = 3 := by omega
  clear hi hk
  rcases hk4 with rfl | rfl | rfl | rfl
  · obtain ⟨_, e1, nm, i2, h2, hnm, hi2, rfl⟩ := ev_l01Pick l hl i1 hi1 h1 [⟨#[97]⟩, ⟨#[98]⟩, ⟨#[116]⟩, ⟨#[117]⟩] (by simp) (by simp)
    have hnm' : nm.size ≤ 11 := mem_le hnm (by decide)
    simp only [List.map_cons, List.map_nil] at e1
    obtain ⟨_, e2, c, j, g, hc, hj, rfl⟩ := ev_l01Below l hl i2 hi2 h2 3 3 rfl (by omega) (by omega)
    have hc3 : c = 0 ∨ c = 1 ∨ c = 2 := by omega
    clear hi1 hnm hi2 hc
    rcases hc3 with rfl | rfl | rfl
    · have D := mkStD (a := 0) (c := [⟨#[120]⟩]) (d := ⟨#[]⟩) (e := []) (by omega) hnm' (by decide) (by decide) (by decide) (by decide) (fun _ h => (nomatch h))
      clear hnm'
      obtain ⟨_, e8, y, j1, k1, hy, hj1, rfl⟩ := ev_l01Below l hl j hj g 20 20 rfl (by omega) (by omega)
      obtain ⟨_, e9, z, j2, k2, hz, hj2, rfl⟩ := ev_l01Below l hl j1 hj1 k1 6 6 rfl (by omega) (by omega)
      obtain ⟨_, ea, nn, j3, k3, hnn, hj3, rfl⟩ := ev_l01Pick l hl j1 hj1 k1 [⟨#[]⟩, ⟨#[65]⟩, ⟨#[97, 98, 99, 100, 101, 102, 103, 104, 105, 106, 107]⟩] (by simp) (by simp)
      have hnn' : nn.size ≤ 11 := mem_le hnn (by decide)
      simp only [List.map_cons, List.map_nil] at ea
      have wz : IntKind.i64.wrap ((z : Int) - 1) = (z : Int) - 1 := i64_in (by omega) (by omega)
      have HD := Hd.mk (And.intro D (And.intro (D.k (a' := (z : Int) - 1) (by omega) (by omega)) (D.n hnn')))
      have HI := Hd.mk (And.intro hj1 (And.intro hj2 hj3))
      clear hl hj hj1 hj2 hj3 hy hz hnn hnn' D
      by_cases y0 : y = 0
      · have q0 : ((y : Int) == 0) = true := by rw [y0]; rfl
        clear y0
        (refine Eq.mpr (congrArg Q (evF_code (C := cfg) (g := 46) (fn := Tryz.f46) rfl Tryz.func46 rfl (by rw [Tryz.ntmps46]; simp) (by kernel_rfl) (by first | decide | simp [keysOf]))) ?_; rw [Tryz.results46, Tryz.ntmps46])
        repeat' (first | with_reducible refine br_split (fun _ => ?_) (fun _ => ?_) | simp only [*, push_cast, simprocAttr] | (rw [drawC_ok]; rotate_left; decide +kernel; exact cfg_mixed))
        exact HQ.out _ ⟨_, j2, k2, HD.out.2.1, HI.out.2.1, rfl⟩
      have q0 : ((y : Int) == 0) = false := by rw [beq_eq_false_iff_ne]; omega
      by_cases y1 : y = 1
      · have q1 : ((y : Int) == 1) = true := by rw [y1]; rfl
        clear y0 y1
        (refine Eq.mpr (congrArg Q (evF_code (C := cfg) (g := 46) (fn := Tryz.f46) rfl Tryz.func46 rfl (by rw [Tryz.ntmps46]; simp) (by kernel_rfl) (by first | decide | simp [keysOf]))) ?_; rw [Tryz.results46, Tryz.ntmps46])
        repeat' (first | with_reducible refine br_split (fun _ => ?_) (fun _ => ?_) | simp only [*, push_cast, simprocAttr] | (rw [drawC_ok]; rotate_left; decide +kernel; exact cfg_mixed))
        exact HQ.out _ ⟨_, j3, k3, HD.out.2.2, HI.out.2.2, rfl⟩
      have q1 : ((y : Int) == 1) = false := by rw [beq_eq_false_iff_ne]; omega
      clear y0 y1
      (refine Eq.mpr (congrArg Q (evF_code (C := cfg) (g := 46) (fn := Tryz.f46) rfl Tryz.func46 rfl (by rw [Tryz.ntmps46]; simp) (by kernel_rfl) (by first | decide | simp [keysOf]))) ?_; rw [Tryz.results46, Tryz.ntmps46])
      repeat' (first | with_reducible refine br_split (fun _ => ?_) (fun _ => ?_) | simp only [*, push_cast, simprocAttr] | (rw [drawC_ok]; rotate_left; decide +kernel; exact cfg_mixed))
      exact HQ.out _ ⟨_, j1, k1, HD.out.1, HI.out.1, rfl⟩
    · have D := mkStD (a := 0) (c := [⟨#[121]⟩, ⟨#[122]⟩]) (d := ⟨#[]⟩) (e := []) (by omega) hnm' (by decide) (by decide) (by decide) (by decide) (fun _ h => (nomatch h))
      clear hnm'
      obtain ⟨_, e8, y, j1, k1, hy, hj1, rfl⟩ := ev_l01Below l hl j hj g 20 20 rfl (by omega) (by omega)
      obtain ⟨_, e9, z, j2, k2, hz, hj2, rfl⟩ := ev_l01Below l hl j1 hj1 k1 6 6 rfl (by omega) (by omega)
      obtain ⟨_, ea, nn, j3, k3, hnn, hj3, rfl⟩ := ev_l01Pick l hl j1 hj1 k1 [⟨#[]⟩, ⟨#[65]⟩, ⟨#[97, 98, 99, 100, 101, 102, 103, 104, 105, 106, 107]⟩] (by simp) (by simp)
      have hnn' : nn.size ≤ 11 := mem_le hnn (by decide)
      simp only [List.map_cons, List.map_nil] at ea
      have wz : IntKind.i64.wrap ((z : Int) - 1) = (z : Int) - 1 := i64_in (by omega) (by omega)
      have HD := Hd.mk (And.intro D (And.intro (D.k (a' := (z : Int) - 1) (by omega) (by omega)) (D.n hnn')))
      have HI := Hd.mk (And.intro hj1 (And.intro hj2 hj3))
      clear hl hj hj1 hj2 hj3 hy hz hnn hnn' D
      by_cases y0 : y = 0
      · have q0 : ((y : Int) == 0) = true := by rw [y0]; rfl
        clear y0
        (refine Eq.mpr (congrArg Q (evF_code (C := cfg) (g := 46) (fn := Tryz.f46) rfl Tryz.func46 rfl (by rw [Tryz.ntmps46]; simp) (by kernel_rfl) (by first | decide | simp [keysOf]))) ?_; rw [Tryz.results46, Tryz.ntmps46])
        repeat' (first | with_reducible refine br_split (fun _ => ?_) (fun _ => ?_) | simp only [*, push_cast, simprocAttr] | (rw [drawC_ok]; rotate_left; decide +kernel; exact cfg_mixed))
        exact HQ.out _ ⟨_, j2, k2, HD.out.2.1, HI.out.2.1, rfl⟩
      have q0 : ((y : Int) == 0) = false := by rw [beq_eq_false_iff_ne]; omega
      by_cases y1 : y = 1
      · have q1 : ((y : Int) == 1) = true := by rw [y1]; rfl
        clear y0 y1
        (refine Eq.mpr (congrArg Q (evF_code (C := cfg) (g := 46) (fn := Tryz.f46) rfl Tryz.func46 rfl (by rw [Tryz.ntmps46]; simp) (by kernel_rfl) (by first | decide | simp [keysOf]))) ?_; rw [Tryz.results46, Tryz.ntmps46])
        repeat' (first | with_reducible refine br_split (fun _ => ?_) (fun _ => ?_) | simp only [*, push_cast, simprocAttr] | (rw [drawC_ok]; rotate_left; decide +kernel; exact cfg_mixed))
        exact HQ.out _ ⟨_, j3, k3, HD.out.2.2, HI.out.2.2, rfl⟩
      have q1 : ((y : Int) == 1) = false := by rw [beq_eq_false_iff_ne]; omega
      clear y0 y1
      (refine Eq.mpr (congrArg Q (evF_code (C := cfg) (g := 46) (fn := Tryz.f46) rfl Tryz.func46 rfl (by rw [Tryz.ntmps46]; simp) (by kernel_rfl) (by first | decide | simp [keysOf]))) ?_; rw [Tryz.results46, Tryz.ntmps46])
      repeat' (first | with_reducible refine br_split (fun _ => ?_) (fun _ => ?_) | simp only [*, push_cast, simprocAttr] | (rw [drawC_ok]; rotate_left; decide +kernel; exact cfg_mixed))
      exact HQ.out _ ⟨_, j1, k1, HD.out.1, HI.out.1, rfl⟩
    · have D := mkStD (a := 0) (c := [⟨#[120]⟩, ⟨#[121]⟩, ⟨#[122]⟩]) (d := ⟨#[]⟩) (e := []) (by omega) hnm' (by decide) (by decide) (by decide) (by decide) (fun _ h => (nomatch h))
      clear hnm'
      obtain ⟨_, e8, y, j1, k1, hy, hj1, rfl⟩ := ev_l01Below l hl j hj g 20 20 rfl (by omega) (by omega)
      obtain ⟨_, e9, z, j2, k2, hz, hj2, rfl⟩ := ev_l01Below l hl j1 hj1 k1 6 6 rfl (by omega) (by omega)
      obtain ⟨_, ea, nn, j3, k3, hnn, hj3, rfl⟩ := ev_l01Pick l hl j1 hj1 k1 [⟨#[]⟩, ⟨#[65]⟩, ⟨#[97, 98, 99, 100, 101, 102, 103, 104, 105, 106, 107]⟩] (by simp) (by simp)
      have hnn' : nn.size ≤ 11 := mem_le hnn (by decide)
      simp only [List.map_cons, List.map_nil] at ea
      have wz : IntKind.i64.wrap ((z : Int) - 1) = (z : Int) - 1 := i64_in (by omega) (by omega)
      have HD := Hd.mk (And.intro D (And.intro (D.k (a' := (z : Int) - 1) (by omega) (by omega)) (D.n hnn')))
      have HI := Hd.mk (And.intro hj1 (And.intro hj2 hj3))
      clear hl hj hj1 hj2 hj3 hy hz hnn hnn' D
      by_cases y0 : y = 0
      · have q0 : ((y : Int) == 0) = true := by rw [y0]; rfl
        clear y0
        (refine Eq.mpr (congrArg Q (evF_code (C := cfg) (g := 46) (fn := Tryz.f46) rfl Tryz.func46 rfl (by rw [Tryz.ntmps46]; simp) (by kernel_rfl) (by first | decide | simp [keysOf]))) ?_; rw [Tryz.results46, Tryz.ntmps46])
        repeat' (first | with_reducible refine br_split (fun _ => ?_) (fun _ => ?_) | simp only [*, push_cast, simprocAttr] | (rw [drawC_ok]; rotate_left; decide +kernel; exact cfg_mixed))
        exact HQ.out _ ⟨_, j2, k2, HD.out.2.1, HI.out.2.1, rfl⟩
      have q0 : ((y : Int) == 0) = false := by rw [beq_eq_false_iff_ne]; omega
      by_cases y1 : y = 1
      · have q1 : ((y : Int) == 1) = true := by rw [y1]; rfl
        clear y0 y1
        (refine Eq.mpr (congrArg Q (evF_code (C := cfg) (g := 46) (fn := Tryz.f46) rfl Tryz.func46 rfl (by rw [Tryz.ntmps46]; simp) (by kernel_rfl) (by first | decide | simp [keysOf]))) ?_; rw [Tryz.results46, Tryz.ntmps46])
        repeat' (first | with_reducible refine br_split (fun _ => ?_) (fun _ => ?_) | simp only [*, push_cast, simprocAttr] | (rw [drawC_ok]; rotate_left; decide +kernel; exact cfg_mixed))
        exact HQ.out _ ⟨_, j3, k3, HD.out.2.2, HI.out.2.2, rfl⟩
      have q1 : ((y : Int) == 1) = false := by rw [beq_eq_false_iff_ne]; omega
      clear y0 y1
      (refine Eq.mpr (congrArg Q (evF_code (C := cfg) (g := 46) (fn := Tryz.f46) rfl Tryz.func46 rfl (by rw [Tryz.ntmps46]; simp) (by kernel_rfl) (by first | decide | simp [keysOf]))) ?_; rw [Tryz.results46, Tryz.ntmps46])
      repeat' (first | with_reducible refine br_split (fun _ => ?_) (fun _ => ?_) | simp only [*, push_cast, simprocAttr] | (rw [drawC_ok]; rotate_left; decide +kernel; exact cfg_mixed))
      exact HQ.out _ ⟨_, j1, k1, HD.out.1, HI.out.1, rfl⟩
  · obtain ⟨_, e1, nm, i2, h2, hnm, hi2, rfl⟩ := ev_l01Pick l hl i1 hi1 h1 [⟨#[118]⟩, ⟨#[119]⟩, ⟨#[97]⟩] (by simp) (by simp)
    have hnm' : nm.size ≤ 11 := mem_le hnm (by decide)
    simp only [List.map_cons, List.map_nil] at e1
    obtain ⟨_, e2, q, j, g, hq, hj, rfl⟩ := ev_l08Query l hl i2 hi2 h2
    have D := mkStD (a := 1) (c := []) (e := []) (by omega) hnm' (by decide) (fun _ h => (nomatch h)) hq (by decide) (fun _ h => (nomatch h))
    clear hnm' hi1 hnm hi2 hq
    obtain ⟨_, e8, y, j1, k1, hy, hj1, rfl⟩ := ev_l01Below l hl j hj g 20 20 rfl (by omega) (by omega)
    obtain ⟨_, e9, z, j2, k2, hz, hj2, rfl⟩ := ev_l01Below l hl j1 hj1 k1 6 6 rfl (by omega) (by omega)
    obtain ⟨_, ea, nn, j3, k3, hnn, hj3, rfl⟩ := ev_l01Pick l hl j1 hj1 k1 [⟨#[]⟩, ⟨#[65]⟩, ⟨#[97, 98, 99, 100, 101, 102, 103, 104, 105, 106, 107]⟩] (by simp) (by simp)
    have hnn' : nn.size ≤ 11 := mem_le hnn (by decide)
    simp only [List.map_cons, List.map_nil] at ea
    have wz : IntKind.i64.wrap ((z : Int) - 1) = (z : Int) - 1 := i64_in (by omega) (by omega)
    have HD := Hd.mk (And.intro D (And.intro (D.k (a' := (z : Int) - 1) (by omega) (by omega)) (D.n hnn')))
    have HI := Hd.mk (And.intro hj1 (And.intro hj2 hj3))
    clear hl hj hj1 hj2 hj3 hy hz hnn hnn' D
    by_cases y0 : y = 0
    · have q0 : ((y : Int) == 0) = true := by rw [y0]; rfl
      clear y0
      (refine Eq.mpr (congrArg Q (evF_code (C := cfg) (g := 46) (fn := Tryz.f46) rfl Tryz.func46 rfl (by rw [Tryz.ntmps46]; simp) (by kernel_rfl) (by first | decide | simp [keysOf]))) ?_; rw [Tryz.results46, Tryz.ntmps46])
      repeat' (first | with_reducible refine br_split (fun _ => ?_) (fun _ => ?_) | simp only [*, push_cast, simprocAttr] | (rw [drawC_ok]; rotate_left; decide +kernel; exact cfg_mixed))
      exact HQ.out _ ⟨_, j2, k2, HD.out.2.1, HI.out.2.1, rfl⟩
    have q0 : ((y : Int) == 0) = false := by rw [beq_eq_false_iff_ne]; omega
    by_cases y1 : y = 1
    · have q1 : ((y : Int) == 1) = true := by rw [y1]; rfl
      clear y0 y1
      (refine Eq.mpr (congrArg Q (evF_code (C := cfg) (g := 46) (fn := Tryz.f46) rfl Tryz.func46 rfl (by rw [Tryz.ntmps46]; simp) (by kernel_rfl) (by first | decide | simp [keysOf]))) ?_; rw [Tryz.results46, Tryz.ntmps46])
      repeat' (first | with_reducible refine br_split (fun _ => ?_) (fun _ => ?_) | simp only [*, push_cast, simprocAttr] | (rw [drawC_ok]; rotate_left; decide +kernel; exact cfg_mixed))
      exact HQ.out _ ⟨_, j3, k3, HD.out.2.2, HI.out.2.2, rfl⟩
    have q1 : ((y : Int) == 1) = false := by rw [beq_eq_false_iff_ne]; omega
    clear y0 y1
    (refine Eq.mpr (congrArg Q (evF_code (C := cfg) (g := 46) (fn := Tryz.f46) rfl Tryz.func46 rfl (by rw [Tryz.ntmps46]; simp) (by kernel_rfl) (by first | decide | simp [keysOf]))) ?_; rw [Tryz.results46, Tryz.ntmps46])
    repeat' (first | with_reducible refine br_split (fun _ => ?_) (fun _ => ?_) | simp only [*, push_cast, simprocAttr] | (rw [drawC_ok]; rotate_left; decide +kernel; exact cfg_mixed))
    exact HQ.out _ ⟨_, j1, k1, HD.out.1, HI.out.1, rfl⟩
  · obtain ⟨_, e1, nm, j, g, hnm, hj, rfl⟩ := ev_l01Pick l hl i1 hi1 h1 [⟨#[97]⟩, ⟨#[118]⟩, ⟨#[116]⟩, ⟨#[110, 111, 110, 101]⟩] (by simp) (by simp)
    have hnm' : nm.size ≤ 11 := mem_le hnm (by decide)
    simp only [List.map_cons, List.map_nil] at e1
    have D := mkStD (a := 2) (c := []) (d := ⟨#[]⟩) (e := []) (by omega) hnm' (by decide) (fun _ h => (nomatch h)) (by decide) (by decide) (fun _ h => (nomatch h))
    clear hnm' hi1 hnm
    obtain ⟨_, e8, y, j1, k1, hy, hj1, rfl⟩ := ev_l01Below l hl j hj g 20 20 rfl (by omega) (by omega)
    obtain ⟨_, e9, z, j2, k2, hz, hj2, rfl⟩ := ev_l01Below l hl j1 hj1 k1 6 6 rfl (by omega) (by omega)
    obtain ⟨_, ea, nn, j3, k3, hnn, hj3, rfl⟩ := ev_l01Pick l hl j1 hj1 k1 [⟨#[]⟩, ⟨#[65]⟩, ⟨#[97, 98, 99, 100, 101, 102, 103, 104, 105, 106, 107]⟩] (by simp) (by simp)
    have hnn' : nn.size ≤ 11 := mem_le hnn (by decide)
    simp only [List.map_cons, List.map_nil] at ea
    have wz : IntKind.i64.wrap ((z : Int) - 1) = (z : Int) - 1 := i64_in (by omega) (by omega)
    have HD := Hd.mk (And.intro D (And.intro (D.k (a' := (z : Int) - 1) (by omega) (by omega)) (D.n hnn')))
    have HI := Hd.mk (And.intro hj1 (And.intro hj2 hj3))
    clear hl hj hj1 hj2 hj3 hy hz hnn hnn' D
    by_cases y0 : y = 0
    · have q0 : ((y : Int) == 0) = true := by rw [y0]; rfl
      clear y0
      (refine Eq.mpr (congrArg Q (evF_code (C := cfg) (g := 46) (fn := Tryz.f46) rfl Tryz.func46 rfl (by rw [Tryz.ntmps46]; simp) (by kernel_rfl) (by first | decide | simp [keysOf]))) ?_; rw [Tryz.results46, Tryz.ntmps46])
      repeat' (first | with_reducible refine br_split (fun _ => ?_) (fun _ => ?_) | simp only [*, push_cast, simprocAttr] | (rw [drawC_ok]; rotate_left; decide +kernel; exact cfg_mixed))
      exact HQ.out _ ⟨_, j2, k2, HD.out.2.1, HI.out.2.1, rfl⟩
    have q0 : ((y : Int) == 0) = false := by rw [beq_eq_false_iff_ne]; omega
    by_cases y1 : y = 1
    · have q1 : ((y : Int) == 1) = true := by rw [y1]; rfl
      clear y0 y1
      (refine Eq.mpr (congrArg Q (evF_code (C := cfg) (g := 46) (fn := Tryz.f46) rfl Tryz.func46 rfl (by rw [Tryz.ntmps46]; simp) (by kernel_rfl) (by first | decide | simp [keysOf]))) ?_; rw [Tryz.results46, Tryz.ntmps46])
      repeat' (first | with_reducible refine br_split (fun _ => ?_) (fun _ => ?_) | simp only [*, push_cast, simprocAttr] | (rw [drawC_ok]; rotate_left; decide +kernel; exact cfg_mixed))
      exact HQ.out _ ⟨_, j3, k3, HD.out.2.2, HI.out.2.2, rfl⟩
    have q1 : ((y : Int) == 1) = false := by rw [beq_eq_false_iff_ne]; omega
    clear y0 y1
    (refine Eq.mpr (congrArg Q (evF_code (C := cfg) (g := 46) (fn := Tryz.f46) rfl Tryz.func46 rfl (by rw [Tryz.ntmps46]; simp) (by kernel_rfl) (by first | decide | simp [keysOf]))) ?_; rw [Tryz.results46, Tryz.ntmps46])
    repeat' (first | with_reducible refine br_split (fun _ => ?_) (fun _ => ?_) | simp only [*, push_cast, simprocAttr] | (rw [drawC_ok]; rotate_left; decide +kernel; exact cfg_mixed))
    exact HQ.out _ ⟨_, j1, k1, HD.out.1, HI.out.1, rfl⟩
  · obtain ⟨_, e1, db, i2, h2, hdb, hi2, rfl⟩ := ev_l04Db l hl i1 hi1 h1
    obtain ⟨_, e2, ch, j, g, ⟨hc1, hc2⟩, hj, rfl⟩ := ev_l05Change l hl i2 hi2 h2 db hdb
    have D := mkStD (a := 3) (b := ⟨#[]⟩) (c := []) (d := ⟨#[]⟩) (by omega) (by decide) (by decide) (fun _ h => (nomatch h)) (by decide) hc1 hc2
    clear hi1 hdb hi2 hc1 hc2
    obtain ⟨_, e8, y, j1, k1, hy, hj1, rfl⟩ := ev_l01Below l hl j hj g 20 20 rfl (by omega) (by omega)
    obtain ⟨_, e9, z, j2, k2, hz, hj2, rfl⟩ := ev_l01Below l hl j1 hj1 k1 6 6 rfl (by omega) (by omega)
    obtain ⟨_, ea, nn, j3, k3, hnn, hj3, rfl⟩ := ev_l01Pick l hl j1 hj1 k1 [⟨#[]⟩, ⟨#[65]⟩, ⟨#[97, 98, 99, 100, 101, 102, 103, 104, 105, 106, 107]⟩] (by simp) (by simp)
    have hnn' : nn.size ≤ 11 := mem_le hnn (by decide)
    simp only [List.map_cons, List.map_nil] at ea
    have wz : IntKind.i64.wrap ((z : Int) - 1) = (z : Int) - 1 := i64_in (by omega) (by omega)
    have HD := Hd.mk (And.intro D (And.intro (D.k (a' := (z : Int) - 1) (by omega) (by omega)) (D.n hnn')))
    have HI := Hd.mk (And.intro hj1 (And.intro hj2 hj3))
    clear hl hj hj1 hj2 hj3 hy hz hnn hnn' D
    by_cases y0 : y = 0
    · have q0 : ((y : Int) == 0) = true := by rw [y0]; rfl
      clear y0
      (refine Eq.mpr (congrArg Q (evF_code (C := cfg) (g := 46) (fn := Tryz.f46) rfl Tryz.func46 rfl (by rw [Tryz.ntmps46]; simp) (by kernel_rfl) (by first | decide | simp [keysOf]))) ?_; rw [Tryz.results46, Tryz.ntmps46])
      repeat' (first | with_reducible refine br_split (fun _ => ?_) (fun _ => ?_) | simp only [*, push_cast, simprocAttr] | (rw [drawC_ok]; rotate_left; decide +kernel; exact cfg_mixed))
      exact HQ.out _ ⟨_, j2, k2, HD.out.2.1, HI.out.2.1, rfl⟩
    have q0 : ((y : Int) == 0) = false := by rw [beq_eq_false_iff_ne]; omega
    by_cases y1 : y = 1
    · have q1 : ((y : Int) == 1) = true := by rw [y1]; rfl
      clear y0 y1
      (refine Eq.mpr (congrArg Q (evF_code (C := cfg) (g := 46) (fn := Tryz.f46) rfl Tryz.func46 rfl (by rw [Tryz.ntmps46]; simp) (by kernel_rfl) (by first | decide | simp [keysOf]))) ?_; rw [Tryz.results46, Tryz.ntmps46])
      repeat' (first | with_reducible refine br_split (fun _ => ?_) (fun _ => ?_) | simp only [*, push_cast, simprocAttr] | (rw [drawC_ok]; rotate_left; decide +kernel; exact cfg_mixed))
      exact HQ.out _ ⟨_, j3, k3, HD.out.2.2, HI.out.2.2, rfl⟩
    have q1 : ((y : Int) == 1) = false := by rw [beq_eq_false_iff_ne]; omega
    clear y0 y1
    (refine Eq.mpr (congrArg Q (evF_code (C := cfg) (g := 46) (fn := Tryz.f46) rfl Tryz.func46 rfl (by rw [Tryz.ntmps46]; simp) (by kernel_rfl) (by first | decide | simp [keysOf]))) ?_; rw [Tryz.results46, Tryz.ntmps46])
    repeat' (first | with_reducible refine br_split (fun _ => ?_) (fun _ => ?_) | simp only [*, push_cast, simprocAttr] | (rw [drawC_ok]; rotate_left; decide +kernel; exact cfg_mixed))
    exact HQ.out _ ⟨_, j1, k1, HD.out.1, HI.out.1, rfl⟩
end Go.Av
end
section
namespace Go.Av
open Go.Proofs
set_option linter.unusedSimpArgs false
theorem flat_le {α : Type} (f : α → List UInt8) (n : Nat) : ∀ l : List α, (∀ x ∈ l, (f x).length ≤ n) → (l.flatMap f).length ≤ l.length * n
  | [], _ => by simp
  | x :: l, h => by
    have h1 := flat_le f n l fun y hy => h y (List.mem_cons_of_mem _ hy)
    have h2 := h x (by simp)
    rw [List.flatMap_cons, List.length_append, List.length_cons, Nat.add_mul]
    omega
theorem pvL_len9 {v : V} (h : v.s.size ≤ 5) : (pvL v).length ≤ 9 := by
  unfold pvL
  split
  · rw [List.length_append, beB_len]
    split
    · rw [beB_len]; omega
    split
    · rw [beB_len]; omega
    split
    · rw [List.length_append, beB_len, bl_size]; omega
    · simp
  · simp
theorem ChR.pb {r : R} (h : ChR r) : (pbL r.bag).length ≤ 1261 := by
  unfold pbL
  split
  · have h1 : ∀ c ∈ r.bag.rows, (rowB c).length ≤ 126 := fun c hc => by
      obtain ⟨g1, g2⟩ := h.row c hc
      have g3 := flat_le pvL 9 c.row fun v hv => pvL_len9 (g2 v hv).1
      have g4 := pvL_len9 (v := numV c.n) (show (⟨#[]⟩ : ByteArray).size ≤ 5 by decide)
      rw [rowB, List.length_append]
      have : c.row.length * 9 ≤ 13 * 9 := Nat.mul_le_mul_right _ g1
      omega
    have h2 := flat_le rowB 126 r.bag.rows h1
    have : r.bag.rows.length * 126 ≤ 10 * 126 := Nat.mul_le_mul_right _ h.len
    rw [List.length_cons]; omega
  · simp
theorem StD.psl {x : Sp} (h : StD x) : (psL x).length ≤ 10200 := by
  cases ho : stepOk x with
  | false => rw [psL_bad ho]; simp
  | true =>
    rw [psL_ok ho, psR, psQ, psC, psH]
    simp only [List.take_length, List.length_append, beB_len, txB_len]
    have h1 := flat_le col2 3 x.cols fun c hc => by rw [col2, txB_len, h.cols c hc]; omega
    have h2 := flat_le relB 1269 x.change fun r hr => by
      have g := h.change r hr
      have g1 := g.name
      have g2 := g.pb
      rw [relB, List.length_append, txB_len, txB_len, bs_size]; omega
    have h3 := h.ncol
    have h4 := h.nch
    have h5 := h.name
    have h6 := h.query
    have h7 : x.cols.length * 3 ≤ 3 * 3 := Nat.mul_le_mul_right _ h3
    have h8 : x.change.length * 1269 ≤ 4 * 1269 := Nat.mul_le_mul_right _ h4
    omega
theorem sum_le {α : Type} (f : α → Nat) (n : Nat) : ∀ l : List α, (∀ x ∈ l, f x ≤ n) → (l.map f).sum ≤ l.length * n
  | [], _ => by simp
  | x :: l, h => by
    have h1 := sum_le f n l fun y hy => h y (List.mem_cons_of_mem _ hy)
    have h2 := h x (by simp)
    rw [List.map_cons, List.sum_cons, List.length_cons, Nat.add_mul]
    omega
theorem ChR.sz {r : R} (h : ChR r) : szR r ≤ 1000 := by
  have h1 : ∀ c ∈ r.bag.rows, szC c ≤ 78 := fun c hc => by
    obtain ⟨g1, g2⟩ := h.row c hc
    have := sum_le szV 5 c.row fun v hv => (g2 v hv).1
    have h2 : c.row.length * 5 ≤ 13 * 5 := Nat.mul_le_mul_right _ g1
    simp only [szC, szVs]; omega
  have h2 := sum_le szC 78 r.bag.rows h1
  have h3 : r.bag.rows.length * 78 ≤ 10 * 78 := Nat.mul_le_mul_right _ h.len
  have h4 := h.name
  have h5 := h.len
  simp only [szR, Go.Av.szB, szCs]; omega
theorem StD.sz {x : Sp} (h : StD x) : szSp x ≤ 100000 := by
  have h1 := sum_le ByteArray.size 1 x.cols fun c hc => by rw [h.cols c hc]; exact Nat.le_refl _
  have h2 := sum_le szR 1000 x.change fun r hr => (h.change r hr).sz
  have h3 := h.ncol
  have h4 := h.nch
  have h5 := h.name
  have h6 := h.query
  simp only [szSp, szSs, szRs]; omega
theorem StD.okS {x : Sp} (h : StD x) (ho : stepOk x = true) : OkS x := by
  refine ⟨ho, by have := h.name; omega, fun c hc => by rw [h.cols c hc]; omega, by have := h.query; omega, fun r hr => ?_⟩
  have g := h.change r hr
  refine ⟨by have := g.name; omega, ⟨?_, fun c hc v hv => ((g.row c hc).2 v hv).2⟩, by have := g.pb; omega⟩
  simp only [stepOk, Bool.and_eq_true, Bool.not_eq_true', stepBad, stepRest, Bool.or_eq_false_iff] at ho
  obtain ⟨⟨_, h3⟩, h4⟩ := ho
  by_cases k3 : x.kind = 3
  · simp [k3] at h4
    exact h4.2 r hr
  · simp [k3] at h3
    rw [h3] at hr; simp at hr
end Go.Av
end
section
namespace Go.Av
open Go.Proofs
set_option linter.unusedSimpArgs false
theorem ev_l10Spoil (l : List Int) (hl : l.length ≤ 1048576) (i : Nat) (hi : i ≤ l.length) (h : Int) (s : List UInt8) (hs : s.length ≤ 1048576) : ∃ r, evF cfg 50 [(0, .box [.d (.sl .any (l.map cuC)), .d (.i .i64 (i : Nat)), .d (.i .i64 h)])] [.ptr 0 0, .d (.s (bs s))] = some r ∧
    ∃ (u : List UInt8) (i' : Nat) (h' : Int), u.length ≤ s.length + 1 ∧ i' ≤ l.length ∧ r = (.d (.s (bs u)), [(0, .box [.d (.sl .any (l.map cuC)), .d (.i .i64 (i' : Nat)), .d (.i .i64 h')])]) := by
  refine exQ fun Q hQ => ?_
  have HQ := Hd.mk hQ; clear hQ
  have hz := bs_size s
  have w0 : IntKind.i64.wrap ((s.length : Int) + 1) = ((s.length + 1 : Nat) : Int) := by rw [i64_in (by omega) (by omega)]; omega
  obtain ⟨_, e0, k, i1, h1, hk, hi1, rfl⟩ := ev_l01BelowN l hl i hi h ((s.length + 1 : Nat) : Int) (s.length + 1) rfl (by omega) (by omega)
  obtain ⟨_, e1, x, i2, h2, hx, hi2, rfl⟩ := ev_l01Below l hl i1 hi1 h1 6 6 rfl (by omega) (by omega)
  generalize ((s.length + 1 : Nat) : Int) = N at *
  have c1 : decide (0 ≤ (k : Int) ∧ (k : Int) ≤ (s.length : Int)) = true := decide_eq_true (by omega)
  have c2 : decide ((k : Int) ≤ (s.length : Int)) = true := decide_eq_true (by omega)
  have c3 : decide (0 ≤ (k : Int) ∧ (k : Int) ≤ (s.length : Int) ∧ (s.length : Int) ≤ (s.length : Int)) = true := decide_eq_true (by omega)
  have x1 := bs_extract s 0 k
  have x2 := bs_extract s k s.length
  rw [List.drop_zero] at x1
  rw [List.take_length] at x2
  by_cases k0 : x = 0
  · have q0 : ((x : Int) == 0) = true := by rw [k0]; rfl
    have H := Hd.mk (And.intro hi2 (show (s.take k).length ≤ s.length + 1 by rw [List.length_take]; omega))
    clear hl hi hs hi1 hi2 hk hx k0
    (refine Eq.mpr (congrArg Q (evF_code (C := cfg) (g := 50) (fn := Tryz.f50) rfl Tryz.func50 rfl (by rw [Tryz.ntmps50]; simp) (by kernel_rfl) (by first | decide | simp [keysOf]))) ?_; rw [Tryz.results50, Tryz.ntmps50])
    repeat' (first | with_reducible refine br_split (fun _ => ?_) (fun _ => ?_) | simp only [*, push_cast, simprocAttr] | (rw [drawC_ok]; rotate_left; decide +kernel; exact cfg_mixed))
    exact HQ.out _ ⟨s.take k, i2, h2, H.out.2, H.out.1, rfl⟩
  have q0 : ((x : Int) == 0) = false := by rw [beq_eq_false_iff_ne]; omega
  by_cases k1 : x = 1
  · have q1 : ((x : Int) == 1) = true := by rw [k1]; rfl
    obtain ⟨_, e2, p, i3, h3, hp, hi3, rfl⟩ := ev_l01Pick l hl i2 hi2 h2 [⟨#[0]⟩, ⟨#[1]⟩, ⟨#[97]⟩] (by simp) (by simp)
    have hp' : p.size ≤ 1 := mem_le hp (by decide)
    simp only [List.map_cons, List.map_nil] at e2
    have hpb := bs_bl p
    have hpl := bl_size p
    generalize bl p = P at *
    subst hpb
    have d1 := dec40 (n := (s.take k).length + P.length) (by rw [List.length_take]; omega)
    have d2 := dec40 (n := (s.take k).length + P.length + (s.drop k).length) (by rw [List.length_take, List.length_drop]; omega)
    have H := Hd.mk (And.intro hi3 (show (s.take k ++ (P ++ s.drop k)).length ≤ s.length + 1 by rw [List.length_append, List.length_append, List.length_take, List.length_drop]; omega))
    clear hl hi hs hi1 hi2 hi3 hk hx hp hp' hpl k0 k1
    (refine Eq.mpr (congrArg Q (evF_code (C := cfg) (g := 50) (fn := Tryz.f50) rfl Tryz.func50 rfl (by rw [Tryz.ntmps50]; simp) (by kernel_rfl) (by first | decide | simp [keysOf]))) ?_; rw [Tryz.results50, Tryz.ntmps50])
    repeat' (first | with_reducible refine br_split (fun _ => ?_) (fun _ => ?_) | simp only [*, bs_size, bs_app, push_cast, simprocAttr] | (rw [drawC_ok]; rotate_left; decide +kernel; exact cfg_mixed))
    exact HQ.out _ ⟨_, i3, h3, H.out.2, H.out.1, rfl⟩
  have q1 : ((x : Int) == 1) = false := by rw [beq_eq_false_iff_ne]; omega
  have H := Hd.mk hi2
  clear hl hi hs hi1 hi2 hk hx k0 k1
  (refine Eq.mpr (congrArg Q (evF_code (C := cfg) (g := 50) (fn := Tryz.f50) rfl Tryz.func50 rfl (by rw [Tryz.ntmps50]; simp) (by kernel_rfl) (by first | decide | simp [keysOf]))) ?_; rw [Tryz.results50, Tryz.ntmps50])
  repeat' (first | with_reducible refine br_split (fun _ => ?_) (fun _ => ?_) | simp only [*, push_cast, simprocAttr] | (rw [drawC_ok]; rotate_left; decide +kernel; exact cfg_mixed))
  exact HQ.out _ ⟨s, i2, h2, Nat.le_succ _, H.out, rfl⟩
end Go.Av
end
section
namespace Go.Av
open Go.Proofs
set_option linter.unusedSimpArgs false
structure LS where
  j : Nat
  u : List UInt8
  i : Nat
  h : Int
theorem appL_len (lg own : List UInt8) : (appL lg own).length ≤ lg.length + own.length + 8 := by
  unfold appL
  split
  · rw [List.length_append, recB_len]; omega
  · omega
theorem ev_l10Log (l : List Int) (hl : l.length ≤ 1048576) (i : Nat) (hi : i ≤ l.length) (h : Int) : ∃ r, evF cfg 45 [(0, .box [.d (.sl .any (l.map cuC)), .d (.i .i64 (i : Nat)), .d (.i .i64 h)])] [.ptr 0 0] = some r ∧
    ∃ (u : List UInt8) (i' : Nat) (h' : Int), u.length ≤ 40833 ∧ i' ≤ l.length ∧ r = (.d (.s (bs u)), [(0, .box [.d (.sl .any (l.map cuC)), .d (.i .i64 (i' : Nat)), .d (.i .i64 h')])]) := by
  refine exQ fun Q hQ => ?_
  have HQ := Hd.mk hQ; clear hQ
  obtain ⟨_, e0, N, i1, h1, hN, hi1, rfl⟩ := ev_l01Below l hl i hi h 5 5 rfl (by omega) (by omega)
  have H := Hd.mk (And.intro hl (And.intro hi1 hN))
  clear hl hi hi1 hN
  (refine Eq.mpr (congrArg Q (evF_code (C := cfg) (g := 45) (fn := Tryz.f45) rfl Tryz.func45 rfl (by rw [Tryz.ntmps45]; simp) (by kernel_rfl) (by first | decide | simp [keysOf]))) ?_; rw [Tryz.results45, Tryz.ntmps45])
  repeat' (first | with_reducible refine br_split (fun _ => ?_) (fun _ => ?_) | simp only [*, push_cast, simprocAttr] | (rw [drawC_ok]; rotate_left; decide +kernel; exact cfg_mixed))
  rw [show (⟨#[]⟩ : ByteArray) = bs [] from rfl]
  generalize hE : evM cfg _ _ _ _ _ = RR
  have key : ∃ r, RR = some r ∧ ∃ (u : List UInt8) (i' : Nat) (h' : Int), u.length ≤ 40832 ∧ i' ≤ l.length ∧ r = (Exit.exit 0, { t := [(0, .ptr 0 0), (3, .d (.s (bs u)))], o := [(0, .box [.d (.sl .any (l.map cuC)), .d (.i .i64 (i' : Nat)), .d (.i .i64 h')])], ks := [0], n := 0, sz := 23, u := noU }) := by
    rw [← hE]
    refine evM_ex (α := LS) (fun y => { t := [(0, .ptr 0 0), (3, .d (.s (bs y.u))), (4, .d (.i .i64 (N : Nat))), (5, .d (.i .i64 (y.j : Nat)))], o := [(0, .box [.d (.sl .any (l.map cuC)), .d (.i .i64 (y.i : Nat)), .d (.i .i64 y.h)])], ks := [0], n := 0, sz := 23, u := noU })
      (fun _ r => ∃ (u : List UInt8) (i' : Nat) (h' : Int), u.length ≤ 40832 ∧ i' ≤ l.length ∧ r = (Exit.exit 0, { t := [(0, .ptr 0 0), (3, .d (.s (bs u)))], o := [(0, .box [.d (.sl .any (l.map cuC)), .d (.i .i64 (i' : Nat)), .d (.i .i64 h')])], ks := [0], n := 0, sz := 23, u := noU }))
      (fun y => y.j ≤ N ∧ y.u.length ≤ 10208 * y.j ∧ y.i ≤ l.length) (fun y => N - y.j) ?_ ⟨0, [], i1, h1⟩ ⟨Nat.zero_le _, Nat.le_refl _, H.out.2.1⟩
    clear hE RR
    rintro ⟨j, u, i, h⟩ ⟨hj, hu, hi⟩ ih
    simp only at hj hu hi ih ⊢
    obtain ⟨hl, -, hN⟩ := H.out
    by_cases hc : j < N
    · have c1 := dec_lt hc
      have w1 : IntKind.i64.wrap ((j : Int) + 1) = (j : Int) + 1 := wrap_succ (by omega)
      obtain ⟨_, e1, ⟨kind, name, cols, query, change⟩, i1, h1, hD, hi1, rfl⟩ := ev_l10Step l hl i hi h
      have hps := ev_sPutStep kind name cols query change (by have := hD.sz; omega)
      have hap := ev_sAppend1 u (psL ⟨kind, name, cols, query, change⟩) _ (by omega) (by have := hD.psl; omega) _ _ _ _ _ rfl hps (by simp)
      have hpl := hD.psl
      generalize psL ⟨kind, name, cols, query, change⟩ = own at *
      have hal := appL_len u own
      obtain ⟨r, hr, hq⟩ := ih ⟨j + 1, appL u own, i1, h1⟩ ⟨by simp only; omega, by simp only; omega, hi1⟩ (by simp only; omega)
      simp only at hr
      rw [show ((j + 1 : Nat) : Int) = (j : Int) + 1 from rfl] at hr
      refine ⟨r, ?_, hq⟩
      clear ih hl hi hj hu hN hq hD hi1 hps hpl hal H hc e0
      repeat' (first | with_reducible refine br_split (fun _ => ?_) (fun _ => ?_) | simp only [*, push_cast, simprocAttr] | (rw [drawC_ok]; rotate_left; decide +kernel; exact cfg_mixed))
    · have c1 : decide ((j : Int) < (N : Int)) = false := decide_eq_false (by omega)
      refine ⟨_, ?_, u, i, h, by omega, hi, rfl⟩
      clear ih hl hi hj hu hN H hc e0
      repeat' (first | with_reducible refine br_split (fun _ => ?_) (fun _ => ?_) | simp only [*, push_cast, simprocAttr] | (rw [drawC_ok]; rotate_left; decide +kernel; exact cfg_mixed))
  obtain ⟨_, rfl, u, i2, h2, p1, p2, rfl⟩ := key
  obtain ⟨hl, -, -⟩ := H.out
  obtain ⟨_, e1, v, i3, h3, p3, hi3, rfl⟩ := ev_l10Spoil l hl i2 p2 h2 u (by omega)
  have H2 := Hd.mk (And.intro (show v.length ≤ 40833 by omega) hi3)
  clear hE hl H p1 p2 p3 hi3
  repeat' (first | with_reducible refine br_split (fun _ => ?_) (fun _ => ?_) | simp only [*, push_cast, simprocAttr] | (rw [drawC_ok]; rotate_left; decide +kernel; exact cfg_mixed))
  exact HQ.out _ ⟨v, i3, h3, H2.out.1, H2.out.2, rfl⟩
theorem ev_DrawAppend (l : List Int) (hl : l.length ≤ 1048576) : ∃ r, evF cfg 17 [] [.d (.sl .any (l.map cuC))] = some r ∧
    ∃ (u : List UInt8) (x : Sp), u.length ≤ 40833 ∧ StD x ∧ r = (.tup [.d (.s (bs u)), .agg [.d (.i .i64 x.kind), .d (.s x.name), .d (.sl .any (x.cols.map sC)), .d (.s x.query), .d (.sl .any (x.change.map rC))]], []) := by
  refine exQ fun Q hQ => ?_
  have HQ := Hd.mk hQ; clear hQ
  obtain ⟨_, e0, h, rfl⟩ := ev_l01New l hl
  obtain ⟨_, e1, u, i1, h1, hu, hi1, rfl⟩ := ev_l10Log l hl 0 (Nat.zero_le _) h
  obtain ⟨_, e2, x, i2, h2, hD, -, rfl⟩ := ev_l10Step l hl i1 hi1 h1
  rw [show ((0 : Nat) : Int) = 0 from rfl] at e1
  have H := Hd.mk (And.intro hu hD)
  clear hl hu hi1 hD
  (refine Eq.mpr (congrArg Q (evF_code (C := cfg) (g := 17) (fn := Tryz.f17) rfl Tryz.func17 rfl (by rw [Tryz.ntmps17]; simp) (by kernel_rfl) (by first | decide | simp [keysOf]))) ?_; rw [Tryz.results17, Tryz.ntmps17])
  repeat' (first | with_reducible refine br_split (fun _ => ?_) (fun _ => ?_) | simp only [*, push_cast, simprocAttr] | (rw [drawC_ok]; rotate_left; decide +kernel; exact cfg_mixed))
  exact HQ.out _ ⟨u, x, H.out.1, H.out.2, rfl⟩
theorem ev_DrawGetStep (l : List Int) (hl : l.length ≤ 1048576) : ∃ r, evF cfg 19 [] [.d (.sl .any (l.map cuC))] = some r ∧
    ∃ (u : List UInt8), u.length ≤ 10201 ∧ r = (.d (.s (bs u)), []) := by
  refine exQ fun Q hQ => ?_
  have HQ := Hd.mk hQ; clear hQ
  obtain ⟨_, e0, h, rfl⟩ := ev_l01New l hl
  obtain ⟨_, e1, ⟨kind, name, cols, query, change⟩, i1, h1, hD, hi1, rfl⟩ := ev_l10Step l hl 0 (Nat.zero_le _) h
  have e2 := ev_sPutStep kind name cols query change (by have := hD.sz; omega)
  have hpl := hD.psl
  generalize psL ⟨kind, name, cols, query, change⟩ = own at *
  obtain ⟨_, e3, v, i3, h3, p3, hi3, rfl⟩ := ev_l10Spoil l hl i1 hi1 h1 own (by omega)
  rw [show ((0 : Nat) : Int) = 0 from rfl] at e1
  have H := Hd.mk (show v.length ≤ 10201 by omega)
  clear hl hi1 hD hpl p3 hi3
  (refine Eq.mpr (congrArg Q (evF_code (C := cfg) (g := 19) (fn := Tryz.f19) rfl Tryz.func19 rfl (by rw [Tryz.ntmps19]; simp) (by kernel_rfl) (by first | decide | simp [keysOf]))) ?_; rw [Tryz.results19, Tryz.ntmps19])
  repeat' (first | with_reducible refine br_split (fun _ => ?_) (fun _ => ?_) | simp only [*, push_cast, simprocAttr] | (rw [drawC_ok]; rotate_left; decide +kernel; exact cfg_mixed))
  exact HQ.out _ ⟨v, H.out, rfl⟩
end Go.Av
end
section
namespace Go.Av
open Go.Proofs
set_option linter.unusedSimpArgs false
theorem ev_sReadLog (l : List UInt8) (hl : l.length ≤ 100000) {xs : List Sp} {r : List UInt8} (h : LogD l xs r) :
    evF cfg 11 [] [.d (.s (bs l))] = some (.tup [.d (.sl .any (xs.map spC)), .d (.i .i64 (posL xs xs.length : Nat))], []) := by
  have hz := bs_size l
  have H := Hd.mk (And.intro h hl)
  clear h hl
  have c0 : decide ((l.length : Int) ≤ 100000) = true := decide_eq_true (by have := H.out.2; omega)
  (refine (evF_code (C := cfg) (g := 11) (fn := Tryz.f11) rfl Tryz.func11 rfl (by rw [Tryz.ntmps11]; simp) (by kernel_rfl) (by first | decide | simp [keysOf])).trans ?_; rw [Tryz.results11, Tryz.ntmps11])
  repeat' (first | with_reducible refine br_split (fun _ => ?_) (fun _ => ?_) | simp only [*, push_cast, simprocAttr] | (rw [drawC_ok]; rotate_left; decide +kernel; exact cfg_mixed))
  rw [show ({ t := [(0, .d (.s (bs l))), (4, .own 50), (5, .d (.i .i64 0))], o := [(50, .arr .any 5 [])], ks := [50], n := 0, sz := 71, u := noU } : St) = { t := [(0, .d (.s (bs l))), (4, .own 50), (5, .d (.i .i64 (posL xs 0 : Nat)))], o := [(50, .arr .any 5 ((xs.take 0).map spC))], ks := [50], n := 0, sz := 71, u := noU } from by rw [posL_zero]; rfl]
  rw [evM_for0 xs.length (fun i _ => { t := [(0, .d (.s (bs l))), (4, .own 50), (5, .d (.i .i64 (posL xs i : Nat)))], o := [(50, .arr .any 5 ((xs.take i).map spC))], ks := [50], n := 0, sz := 71, u := noU }) (fun i => some (.exit 0, { t := [(4, .own 50), (5, .d (.i .i64 (posL xs xs.length : Nat)))], o := [(50, .arr .any 5 (xs.map spC))], ks := [50], n := 0, sz := 71, u := noU })) ?step ?last]
  case step =>
    intro i hi ih
    obtain ⟨h, hl⟩ := H.out
    obtain ⟨hd, hp⟩ := h.drop (Nat.le_of_lt hi)
    have hR := recAt (own := psL xs[i]) (rest := (xs.drop (i + 1)).flatMap recS ++ r) (by rw [hd, flat_cons hi]) hp (by omega)
    have hok := h.ok _ (List.getElem_mem hi)
    have hs : (xs.take i).map spC ++ [spC xs[i]] = (xs.take (i + 1)).map spC := take_snoc spC hi
    have hps := posL_succ hi
    have hxl : (xs.take i).length ≤ l.length := by
      rw [List.length_take]
      have := h.len
      omega
    clear hd
    generalize xs[i] = x at *
    generalize posL xs i = p at *
    obtain ⟨kind, name, cols, query, change⟩ := x
    simp only [spC] at hs
    obtain ⟨m, q, k, h0, h1, h2, h3, h7, h4, h5, h6⟩ := rec_facts hl hR
    have hv1 := hR.v1
    have hv2 := hR.v2
    have e1 := ev_l10Num_some l (by omega) p 4 m hp h0 (by omega) h7
    have e2 := ev_l10Num_some l (by omega) m 4 q (by omega) h1 (by omega) h4
    rw [hv1] at e1
    rw [hv2] at e2
    rw [show ((4 : Nat) : Int) = 4 from rfl] at e1 e2
    have e3 := ev_sGetStep_yes kind name cols query change hok (by omega)
    have e4 := ev_sSum (psL ⟨kind, name, cols, query, change⟩) (by omega)
    generalize psL ⟨kind, name, cols, query, change⟩ = own at *
    have hsu := sumI_le own
    have hpk : posL xs (i + 1) = k := by omega
    rw [hpk] at ih
    have c1 : decide ((q : Int) < 0) = false := decide_eq_false (by omega)
    have w1 : IntKind.i64.wrap ((l.length : Int) - (q : Int)) = (l.length : Int) - (q : Int) := i64_in (by omega) (by omega)
    have c2 : decide ((own.length : Int) > (l.length : Int) - (q : Int)) = false := decide_eq_false (by omega)
    have w2 : IntKind.i64.wrap ((q : Int) + (own.length : Int)) = (k : Int) := by rw [i64_in (by omega) (by omega)]; omega
    have c3 : decide (0 ≤ (q : Int) ∧ (q : Int) ≤ (k : Int) ∧ (k : Int) ≤ (l.length : Int)) = true := decide_eq_true (by omega)
    have c4 : decide ((q : Int) ≤ (k : Int) ∧ (k : Int) ≤ (l.length : Int)) = true := decide_eq_true (by omega)
    have w3 : IntKind.i64.wrap (sumI own) = sumI own := i64_in (by omega) (by omega)
    have c5 : (sumI own != sumI own) = false := bne_self_eq_false _
    have c6 := len_ok (n := (xs.take i).length + 1) 88 (by omega) (by omega)
    clear h hl hp hR hok hps hi h0 h7 h1 h2 h3 h4 h5 hv1 hv2 hsu hpk hxl
    repeat' (first | with_reducible refine br_split (fun _ => ?_) (fun _ => ?_) | simp only [*, push_cast, simprocAttr] | (rw [drawC_ok]; rotate_left; decide +kernel; exact cfg_mixed))
  case last =>
    obtain ⟨h, hl⟩ := H.out
    obtain ⟨hd, hp⟩ := h.drop (Nat.le_refl _)
    rw [List.drop_length] at hd
    have hno : ∀ x r', OkS x → l.drop (posL xs xs.length) ≠ recS x ++ r' := by rw [hd]; exact h.no
    rw [List.take_length]
    clear hd h H
    generalize posL xs xs.length = p at *
    cases t1 : takeP 4 (l.drop p) with
    | none =>
      have e1 := ev_l10Num_none l (by omega) p 4 hp t1
      have e2 := ev_l10Num_bad (bs l) 4
      rw [show ((4 : Nat) : Int) = 4 from rfl] at e1
      clear hl hp hno t1
      repeat' (first | with_reducible refine br_split (fun _ => ?_) (fun _ => ?_) | simp only [*, push_cast, simprocAttr] | (rw [drawC_ok]; rotate_left; decide +kernel; exact cfg_mixed))
    | some ab =>
      obtain ⟨a, b⟩ := ab
      obtain ⟨m, hm⟩ : ∃ m, p + 4 = m := ⟨_, rfl⟩
      obtain ⟨a1, a2, a3, a4⟩ := takeP_at t1 hp
      have e1 := ev_l10Num_some l (by omega) p 4 m hp hm (by omega) t1
      rw [show ((4 : Nat) : Int) = 4 from rfl] at e1
      rw [hm] at a1 a3
      cases t2 : takeP 4 b with
      | none =>
        have e2 := ev_l10Num_none l (by omega) m 4 a1 (by rw [← a3]; exact t2)
        rw [show ((4 : Nat) : Int) = 4 from rfl] at e2
        clear hl hp hno t1 t2 hm a1 a2 a3 a4
        repeat' (first | with_reducible refine br_split (fun _ => ?_) (fun _ => ?_) | simp only [*, push_cast, simprocAttr] | (rw [drawC_ok]; rotate_left; decide +kernel; exact cfg_mixed))
      | some cd =>
        obtain ⟨c, d⟩ := cd
        obtain ⟨q, hq⟩ : ∃ q, m + 4 = q := ⟨_, rfl⟩
        have t2' := t2
        rw [a3] at t2'
        obtain ⟨b1, b2, b3, b4⟩ := takeP_at t2' a1
        have e2 := ev_l10Num_some l (by omega) m 4 q a1 hq (by omega) t2'
        rw [show ((4 : Nat) : Int) = 4 from rfl] at e2
        rw [hq] at b1 b3
        have w1 : IntKind.i64.wrap ((l.length : Int) - (q : Int)) = (l.length : Int) - (q : Int) := i64_in (by omega) (by omega)
        have d1 : decide ((q : Int) < 0) = false := decide_eq_false (by omega)
        have hva := beV_lt a
        rw [a4] at hva
        cases t3 : takeP (beV a) d with
        | none =>
          have d2 : decide (((beV a : Nat) : Int) > (l.length : Int) - (q : Int)) = true := by
            rw [b3] at t3
            have := takeP_not t3
            exact decide_eq_true (by omega)
          clear hl hp hno t1 t2 t2' t3 hm hq a1 a2 a3 a4 b1 b2 b3 b4 hva
          repeat' (first | with_reducible refine br_split (fun _ => ?_) (fun _ => ?_) | simp only [*, push_cast, simprocAttr] | (rw [drawC_ok]; rotate_left; decide +kernel; exact cfg_mixed))
        | some oe =>
          obtain ⟨own, e⟩ := oe
          have t3' := t3
          rw [b3] at t3'
          obtain ⟨g1, g2, g3, g4⟩ := takeP_at t3' b1
          obtain ⟨k, hk⟩ : ∃ k, q + beV a = k := ⟨_, rfl⟩
          rw [hk] at g1
          have d2 : decide (((beV a : Nat) : Int) > (l.length : Int) - (q : Int)) = false := decide_eq_false (by omega)
          have w2 : IntKind.i64.wrap ((q : Int) + ((beV a : Nat) : Int)) = (k : Int) := by rw [i64_in (by omega) (by omega)]; omega
          have d3 : decide (0 ≤ (q : Int) ∧ (q : Int) ≤ (k : Int) ∧ (k : Int) ≤ (l.length : Int)) = true := decide_eq_true (by omega)
          have d4 : decide ((q : Int) ≤ (k : Int) ∧ (k : Int) ≤ (l.length : Int)) = true := decide_eq_true (by omega)
          have hx := bs_extract l q k
          have ha : (l.take k).drop q = own := by rw [g2, List.drop_take]; congr 1; omega
          rw [ha] at hx
          have hol : own.length ≤ 100000 := by omega
          have e4 := ev_sSum own (by omega)
          have hsu := sumI_le own
          have w3 : IntKind.i64.wrap (sumI own) = sumI own := i64_in (by omega) (by omega)
          by_cases hc : ((beV c : Nat) : Int) = sumI own
          · have d5 : (((beV c : Nat) : Int) != sumI own) = false := by rw [hc]; exact bne_self_eq_false _
            have e3 := ev_sGetStep_no own (by omega) (no_rec hno t1 t2 t3 hc)
            clear hl hp hno t1 t2 t2' t3 t3' hm hq a1 a2 a3 a4 b1 b2 b3 b4 hva g1 g2 g3 g4 hk ha hol hsu hc
            repeat' (first | with_reducible refine br_split (fun _ => ?_) (fun _ => ?_) | simp only [*, push_cast, simprocAttr] | (rw [drawC_ok]; rotate_left; decide +kernel; exact cfg_mixed))
          · have d5 : (((beV c : Nat) : Int) != sumI own) = true := by simpa using hc
            clear hl hp hno t1 t2 t2' t3 t3' hm hq a1 a2 a3 a4 b1 b2 b3 b4 hva g1 g2 g3 g4 hk ha hol hsu hc
            repeat' (first | with_reducible refine br_split (fun _ => ?_) (fun _ => ?_) | simp only [*, push_cast, simprocAttr] | (rw [drawC_ok]; rotate_left; decide +kernel; exact cfg_mixed))
  repeat' (first | with_reducible refine br_split (fun _ => ?_) (fun _ => ?_) | simp only [*, push_cast, simprocAttr] | (rw [drawC_ok]; rotate_left; decide +kernel; exact cfg_mixed))
end Go.Av
end
