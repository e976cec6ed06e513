/- What functions of this seat give. -/
import Derived.Test.YtflkffnelppigaaAvCfg
import Derived.Test.YtflkffnelppigaaGk
set_option linter.all false
set_option linter.unusedVariables false
set_option linter.unusedSimpArgs false

section
set_option linter.unusedVariables false
namespace Go.Av
/-- How often a row is there: of the first row that is like it. -/
def cntOf (rows : List C) (r : List V) : Int := match rows.find? fun c => cmpRow c.row r == 0 with
  | some c => c.n
  | none => 0
theorem cnt_go {l : List C} {r : List V} {i : Nat} (h : i < l.length) : cntOf (l.drop i) r = bif cmpRow l[i].row r == 0 then l[i].n else cntOf (l.drop (i + 1)) r := by
  unfold cntOf
  rw [List.drop_eq_getElem_cons h, List.find?_cons]
  cases cmpRow l[i].row r == 0 <;> rfl
theorem cntOf_idx (l : List C) (r : List V) : cntOf l r = if l.any (fun c => cmpRow c.row r == 0) then (match l[l.findIdx fun c => cmpRow c.row r == 0]? with | some c => c.n | none => 0) else 0 := by
  unfold cntOf
  induction l with
  | nil => rfl
  | cons a l ih =>
    cases h : cmpRow a.row r == 0 with
    | true => simp [h, List.findIdx_cons]
    | false =>
      simp only [List.find?_cons, List.any_cons, List.findIdx_cons, h, Bool.false_or, cond_false, List.getElem?_cons_succ]
      exact ih
/-- The rows, each as often as it is there. -/
def sizR (rows : List C) : Int := rows.foldl (fun a c => w64 (a + c.n)) 0
theorem sizR_snoc {l : List C} {i : Nat} (h : i < l.length) : w64 (sizR (l.take i) + l[i].n) = sizR (l.take (i + 1)) := by
  unfold sizR
  rw [List.take_succ_eq_append_getElem h, List.foldl_append]; rfl
def plainB (b : B) : Bool := bagOk b && b.rows.all fun c => decide (0 < c.n)
def bagOfR (w : Int) (rows : List (List V)) : B := right ⟨w, norm (rows.map fun r => ⟨r, 1⟩)⟩
theorem plain_neg {b : B} (h : b.rows.any (fun c => decide (c.n < 0)) = true) : plainB b = false := by
  unfold plainB
  rw [Bool.and_eq_false_iff]
  right
  rw [List.all_eq_false]
  obtain ⟨c, hc, h⟩ := List.any_eq_true.1 h
  exact ⟨c, hc, by simp only [decide_eq_true_eq] at h ⊢; omega⟩
theorem plain_pos {b : B} (h : b.rows.any (fun c => decide (c.n < 0)) = false) : plainB b = bagOk b := by
  unfold plainB
  cases hb : bagOk b with
  | false => rfl
  | true =>
    rw [Bool.true_and, List.all_eq_true]
    intro c hc
    have h1 := List.any_eq_false.1 h c hc
    have h2 := (bagOk_full hb c hc).2
    simp only [decide_eq_true_eq] at h1 ⊢
    omega
end Go.Av
end

section
set_option linter.unusedVariables false
namespace Go.Av
theorem cmpI_tri (a b : Int) : cmpI a b = -1 ∨ cmpI a b = 0 ∨ cmpI a b = 1 := by unfold cmpI; (repeat' split) <;> simp
theorem cmpS_tri (a b : ByteArray) : cmpS a b = -1 ∨ cmpS a b = 0 ∨ cmpS a b = 1 := by unfold cmpS; rw [cb_spec]; (repeat' split) <;> simp
theorem cmpV_tri (a b : V) : cmpV a b = -1 ∨ cmpV a b = 0 ∨ cmpV a b = 1 := by
  unfold cmpV
  split
  · exact cmpI_tri ..
  · split
    · exact cmpI_tri ..
    · exact cmpS_tri ..
theorem cmpRow_tri : ∀ a b : List V, cmpRow a b = -1 ∨ cmpRow a b = 0 ∨ cmpRow a b = 1
  | [], [] => by simp [cmpRow]
  | [], _ :: _ => by simp [cmpRow]
  | _ :: _, [] => by simp [cmpRow]
  | a :: x, b :: y => by
    simp only [cmpRow]
    split
    · exact cmpV_tri ..
    · exact cmpRow_tri x y
theorem cmpRow_neg (a b : List V) : cmpRow a b = -cmpRow b a := by
  have h1 := cmpRow_tri a b
  have h2 := cmpRow_tri b a
  have h3 := cmpRow_ord.anti a b
  have h4 := cmpRow_ord.anti b a
  omega
theorem cmpRow_wrap (a b : List V) : (cmpRow a b != IntKind.i64.wrap (0 - cmpRow b a)) = false := by
  have h1 := cmpRow_tri b a
  have h2 := cmpRow_neg a b
  have h3 : IntKind.i64.wrap (0 - cmpRow b a) = 0 - cmpRow b a := i64_in (by omega) (by omega)
  rw [h3]
  simp only [bne_eq_false_iff_eq]
  omega
def sumN (l : List C) : Int := (l.map C.n).sum
theorem sumN_cons (c : C) (l : List C) : sumN (c :: l) = c.n + sumN l := by simp [sumN]
theorem sumN_append (l m : List C) : sumN (l ++ m) = sumN l + sumN m := by simp [sumN]
theorem sizR_go : ∀ (l : List C) (a : Int), w64 a = a → l.foldl (fun a c => w64 (a + c.n)) a = w64 (a + sumN l)
  | [], a, h => by simp [sumN, h]
  | c :: l, a, h => by
    rw [List.foldl_cons, sizR_go l _ (w64_w _), sumN_cons, w64_add, Int.add_assoc]
theorem sizR_eq (l : List C) : sizR l = w64 (sumN l) := by
  unfold sizR
  rw [sizR_go l 0 w64_0, Int.zero_add]
theorem sumN_put (x : C) : ∀ l : List C, w64 (sumN (putC l x)) = w64 (sumN l + x.n)
  | [] => by
    simp only [putC]
    split
    · rename_i h; simp [sumN, h]
    · simp [sumN]
  | c :: l => by
    have ih := sumN_put x l
    simp only [putC]
    split
    · rw [sumN_cons, sumN_cons, w64_congr' ih, Int.add_assoc]
    · split
      · split
        · rename_i h
          rw [sumN_cons, show c.n + sumN l + x.n = (x.n + c.n) + sumN l by omega, ← w64_add, h, Int.zero_add]
        · rw [sumN_cons, sumN_cons, w64_add]; congr 1; omega
      · split
        · rename_i h; rw [h, Int.add_zero]
        · rw [sumN_cons, sumN_cons]; congr 1; omega
theorem sumN_foldl : ∀ (l a : List C), w64 (sumN (l.foldl putC a)) = w64 (sumN a + sumN l)
  | [], a => by simp [sumN]
  | x :: l, a => by
    rw [List.foldl_cons, sumN_foldl l, sumN_cons, w64_congr (sumN_put x a), Int.add_assoc]
theorem sumN_norm (l : List C) : w64 (sumN (norm l)) = w64 (sumN l) := by
  unfold norm
  rw [sumN_foldl]
  simp [sumN]
theorem sizR_norm (a b : List C) : sizR (norm (a ++ b)) = w64 (sizR a + sizR b) := by
  rw [sizR_eq, sizR_eq, sizR_eq, sumN_norm, sumN_append, w64_add, w64_add']
/-- In an ascending list a row is found as often as it is there. -/
theorem cntOf_cntR : ∀ {l : List C}, Asc l → ∀ r, cntOf l r = cntR l r
  | [], _, r => rfl
  | c :: l, h, r => by
    have hp := List.pairwise_cons.1 h
    have ih := cntOf_cntR hp.2 r
    unfold cntOf at ih ⊢
    rw [List.find?_cons]
    by_cases he : c.row = r
    · have : (cmpRow c.row r == 0) = true := by rw [beq_iff_eq]; exact (cmpRow_ord.eq _ _).2 he
      rw [this]
      have h0 : cntR l r = 0 := cntR_none fun d hd => by rw [← he]; exact row_lt_ne (hp.1 d hd)
      simp only [cntR, he, if_true, h0, Int.add_zero]
    · have : (cmpRow c.row r == 0) = false := by rw [beq_eq_false_iff_ne]; exact fun e => he ((cmpRow_ord.eq _ _).1 e)
      rw [this]
      simp only [cntR, he, if_false, Int.zero_add]
      exact ih
theorem cntR_mem : ∀ {l : List C}, Asc l → ∀ c ∈ l, cntR l c.row = c.n
  | c :: l, h, d, hd => by
    have hp := List.pairwise_cons.1 h
    rcases List.mem_cons.1 hd with rfl | hd
    · have h0 : cntR l d.row = 0 := cntR_none fun e he => row_lt_ne (hp.1 e he)
      simp [cntR, h0]
    · have hne : c.row ≠ d.row := fun e => row_lt_ne (hp.1 d hd) e.symm
      simp only [cntR, hne, if_false, Int.zero_add]
      exact cntR_mem hp.2 d hd
/-- Each row of two bags together is there as often as in both. -/
theorem norm_both {a b : List C} (ha : Canon a) (hb : Canon b) {c : C} (hc : c ∈ norm (a ++ b)) : c.n = w64 (cntOf a c.row + cntOf b c.row) := by
  have hw : ∀ c ∈ a ++ b, w64 c.n = c.n := fun c hc => by
    rcases List.mem_append.1 hc with h | h
    · exact (ha.2 c h).1
    · exact (hb.2 c h).1
  have hN := norm_canon hw
  rw [cntOf_cntR ha.1, cntOf_cntR hb.1, ← cntR_append, ← norm_cnt, cntR_mem hN.1 c hc, (hN.2 c hc).1]
theorem both_w64 {a b : List C} (ha : Canon a) (hb : Canon b) : ∀ c ∈ a ++ b, w64 c.n = c.n := fun c hc => by
  rcases List.mem_append.1 hc with h | h
  · exact (ha.2 c h).1
  · exact (hb.2 c h).1
theorem cntR_neg : ∀ (l : List C) (r : List V), cntR (l.map (tRow (-1))) r = -cntR l r
  | [], r => rfl
  | c :: l, r => by
    simp only [List.map_cons, cntR, cntR_neg l r, tRow]
    split <;> omega
theorem neg_asc {l : List C} (h : Asc l) : Asc (l.map (tRow (-1))) := by
  unfold Asc at *
  rw [List.pairwise_map]
  exact h
/-- Two together less one of them are the other. -/
theorem norm_less {a b : List C} (ha : Canon a) (hb : Canon b) (hnb : Canon (b.map (tRow (-1)))) : norm (norm (a ++ b) ++ b.map (tRow (-1))) = a := by
  refine (norm_of ha ?_ fun r => ?_).symm
  · exact both_w64 (norm_canon (both_w64 ha hb)) hnb
  · rw [cntR_append, cntR_neg, w64_congr (norm_cnt (a ++ b) r), cntR_append]
    congr 1
    omega
theorem okRest_of {w : Int} : ∀ (l : List C) (p : Option C), (∀ c ∈ l, okC w c = true) → Asc l → (∀ d, p = some d → ∀ c ∈ l, cmpRow d.row c.row < 0) → okRest w p l = true
  | [], _, _, _, _ => rfl
  | c :: l, p, h1, h2, h3 => by
    have hp := List.pairwise_cons.1 h2
    simp only [okRest, Bool.and_eq_true]
    refine ⟨⟨h1 c (List.mem_cons_self ..), ?_⟩, okRest_of l (some c) (fun d hd => h1 d (List.mem_cons_of_mem _ hd)) hp.2 fun d hd e he => ?_⟩
    · cases p with
      | none => rfl
      | some d =>
        have := h3 d rfl c (List.mem_cons_self ..)
        simp only [okPrev, Bool.not_eq_true', decide_eq_false_iff_not]
        omega
    · cases hd
      exact hp.1 e he
theorem okRest_all {w : Int} : ∀ (l : List C) (p : Option C), okRest w p l = true → ∀ c ∈ l, okC w c = true
  | a :: l, p, h, c, hc => by
    simp only [okRest, Bool.and_eq_true] at h
    rcases List.mem_cons.1 hc with rfl | hc
    · exact h.1.1
    · exact okRest_all l _ h.2 c hc
theorem bagOk_of {w : Int} {l : List C} (h0 : 0 ≤ w) (h1 : w ≤ 12) (h2 : l.length ≤ 400) (h3 : ∀ c ∈ l, okC w c = true) (h4 : Asc l) : bagOk ⟨w, l⟩ = true := by
  simp only [bagOk, Bool.and_eq_true, decide_eq_true_eq, okRows, Bool.not_eq_true', decide_eq_false_iff_not]
  exact ⟨⟨h0, h1⟩, by omega, okRest_of l none h3 h4 fun d hd => by cases hd⟩
theorem bagOk_wid {b : B} (h : bagOk b = true) : 0 ≤ b.w ∧ b.w ≤ 12 := by
  simp only [bagOk, Bool.and_eq_true, decide_eq_true_eq] at h
  exact h.1
theorem bagOk_all {b : B} (h : bagOk b = true) : ∀ c ∈ b.rows, okC b.w c = true := by
  simp only [bagOk, Bool.and_eq_true, okRows] at h
  exact okRest_all _ _ h.2.2
theorem okC_neg {w : Int} {c : C} (h : okC w c = true) : okC w (tRow (-1) c) = true := by
  simp only [okC, tRow, Bool.and_eq_true, Bool.not_eq_true', beq_eq_false_iff_ne, decide_eq_true_eq] at h ⊢
  refine ⟨⟨h.1.1, ?_⟩, ?_, ?_⟩
  · have := h.1.2; omega
  · have := h.2.1; have := h.2.2; exact decide_eq_true (by omega)
  · have := h.2.1; have := h.2.2; exact decide_eq_true (by omega)
theorem bagOk_neg {b : B} (h : bagOk b = true) : bagOk ⟨b.w, b.rows.map (tRow (-1))⟩ = true := by
  refine bagOk_of (bagOk_wid h).1 (bagOk_wid h).2 (by rw [List.length_map]; exact (bagOk_len h).1) (fun c hc => ?_) (neg_asc (bagOk_asc h))
  obtain ⟨d, hd, rfl⟩ := List.mem_map.1 hc
  exact okC_neg (bagOk_all h d hd)
theorem timesBag_neg {b : B} (h : bagOk b = true) : timesBag b (-1) = ⟨b.w, b.rows.map (tRow (-1))⟩ := by
  have h1 : inN (-1) = true := by decide
  simp only [timesBag, h, h1, Bool.and_self, if_true, right, bagOk_neg h]
theorem cntR_abs {l : List C} (h : Asc l) (r : List V) {k : Int} (hk : 0 ≤ k) (hn : ∀ c ∈ l, -k ≤ c.n ∧ c.n ≤ k) : -k ≤ cntR l r ∧ cntR l r ≤ k := by
  by_cases he : ∃ c ∈ l, c.row = r
  · obtain ⟨c, hc, rfl⟩ := he
    rw [cntR_mem h c hc]
    exact hn c hc
  · rw [cntR_none fun c hc e => he ⟨c, hc, e⟩]
    omega
theorem norm_row' {l : List C} : ∀ (a : List C) {c : C}, c ∈ l.foldl putC a → (∃ d ∈ a, d.row = c.row) ∨ ∃ d ∈ l, d.row = c.row := by
  induction l with
  | nil => exact fun a c h => .inl ⟨c, h, rfl⟩
  | cons x l ih =>
    intro a c h
    rcases ih (putC a x) h with ⟨d, hd, e⟩ | ⟨d, hd, e⟩
    · rcases putC_mem hd with hd | hd
      · exact .inl ⟨d, hd, e⟩
      · exact .inr ⟨x, List.mem_cons_self .., by rw [← hd, e]⟩
    · exact .inr ⟨d, List.mem_cons_of_mem _ hd, e⟩
theorem foldl_len' : ∀ (l a : List C), (l.foldl putC a).length ≤ a.length + l.length
  | [], a => by simp
  | x :: l, a => by
    have h1 := foldl_len' l (putC a x)
    have h2 := putC_len a x
    simp only [List.foldl_cons, List.length_cons]
    omega
/-- Two small bags together are a bag. -/
theorem small_ok {w : Int} {a b : List C} (ha : bagOk ⟨w, a⟩ = true) (hb : bagOk ⟨w, b⟩ = true) (la : a.length ≤ 5) (lb : b.length ≤ 6) (na : ∀ c ∈ a, -15 ≤ c.n ∧ c.n ≤ 15) (nb : ∀ c ∈ b, -15 ≤ c.n ∧ c.n ≤ 15) :
    bagOk ⟨w, norm (a ++ b)⟩ = true := by
  have ca := bagOk_canon ha
  have cb := bagOk_canon hb
  have hN := norm_canon (both_w64 ca cb)
  refine bagOk_of (bagOk_wid ha).1 (bagOk_wid ha).2 ?_ (fun c hc => ?_) hN.1
  · have := foldl_len' (a ++ b) []
    simp only [List.length_append, List.length_nil, Nat.zero_add] at this
    unfold norm
    omega
  · have h1 := norm_both ca cb hc
    have h2 := cntR_abs ca.1 c.row (by omega) na
    have h3 := cntR_abs cb.1 c.row (by omega) nb
    rw [cntOf_cntR ca.1, cntOf_cntR cb.1, show w64 _ = IntKind.i64.wrap _ from rfl, i64_in (by omega) (by omega)] at h1
    have h4 := (hN.2 c hc).2
    have h5 : ∃ d, okC w d = true ∧ d.row = c.row := by
      rcases norm_row' [] hc with ⟨d, hd, _⟩ | ⟨d, hd, e⟩
      · cases hd
      · rcases List.mem_append.1 hd with hd | hd
        · exact ⟨d, bagOk_all ha d hd, e⟩
        · exact ⟨d, bagOk_all hb d hd, e⟩
    obtain ⟨d, hd, e⟩ := h5
    simp only [okC, Bool.and_eq_true, Bool.not_eq_true', beq_eq_false_iff_ne, decide_eq_true_eq] at hd ⊢
    rw [e] at hd
    exact ⟨⟨hd.1.1, h4⟩, by omega, by omega⟩
theorem sumN_abs : ∀ {l : List C} {k : Int}, (∀ c ∈ l, -k ≤ c.n ∧ c.n ≤ k) → -(k * l.length) ≤ sumN l ∧ sumN l ≤ k * l.length
  | [], k, _ => by simp [sumN]
  | c :: l, k, h => by
    have ih := sumN_abs (l := l) (k := k) fun d hd => h d (List.mem_cons_of_mem _ hd)
    have h1 := h c (List.mem_cons_self ..)
    rw [sumN_cons, List.length_cons, Int.natCast_add, Int.mul_add]
    simp only [Int.natCast_one, Int.mul_one]
    omega
/-- A bag that one draws: small counts, or a great one in front. -/
def Mild (l : List C) : Prop := (∀ c ∈ l, -15 ≤ c.n ∧ c.n ≤ 15) ∨ ∃ c r, l = c :: r ∧ (c.n = 1000000000 ∨ c.n = 1000000001 ∨ c.n = -1000000000) ∧ ∀ d ∈ r, -15 ≤ d.n ∧ d.n ≤ 15
/-- Where two drawn bags together are no bag, the second one's size is not 0. -/
theorem mild_size {w : Int} {a b : List C} (ha : bagOk ⟨w, a⟩ = true) (hb : bagOk ⟨w, b⟩ = true) (la : a.length ≤ 5) (lb : b.length ≤ 6) (na : ∀ c ∈ a, -15 ≤ c.n ∧ c.n ≤ 15) (nb : Mild b) (hN : bagOk ⟨w, norm (a ++ b)⟩ = false) :
    (sizR a != w64 (sizR a + sizR b)) = true := by
  rcases nb with nb | ⟨c, r, rfl, hc, hr⟩
  · rw [small_ok ha hb la lb na nb] at hN
    cases hN
  · have h1 := sumN_abs hr
    have h2 := sumN_abs na
    rw [List.length_cons] at lb
    have h3 : sizR a = sumN a := by rw [sizR_eq]; exact i64_in (by omega) (by omega)
    have h4 : sizR (c :: r) = c.n + sumN r := by rw [sizR_eq, sumN_cons]; exact i64_in (by omega) (by omega)
    rw [h3, h4, show w64 _ = IntKind.i64.wrap _ from rfl, i64_in (by omega) (by omega)]
    simp only [bne_iff_ne, ne_eq]
    omega
theorem addBag_eq {w : Int} {a b : List C} (ha : bagOk ⟨w, a⟩ = true) (hb : bagOk ⟨w, b⟩ = true) (hN : bagOk ⟨w, norm (a ++ b)⟩ = true) : (addBag ⟨w, a⟩ ⟨w, b⟩).rows = norm (a ++ b) := by
  simp [addBag, ha, hb, hN]
theorem addBag_comm {w : Int} {a b : List C} (ha : bagOk ⟨w, a⟩ = true) (hb : bagOk ⟨w, b⟩ = true) (hN : bagOk ⟨w, norm (a ++ b)⟩ = true) : (addBag ⟨w, b⟩ ⟨w, a⟩).rows = norm (a ++ b) := by
  have h : norm (b ++ a) = norm (a ++ b) := norm_perm (both_w64 (bagOk_canon hb) (bagOk_canon ha)) List.perm_append_comm
  rw [addBag_eq hb ha (by rw [h]; exact hN), h]
theorem addBag_less {w : Int} {a b : List C} (ha : bagOk ⟨w, a⟩ = true) (hb : bagOk ⟨w, b⟩ = true) (hN : bagOk ⟨w, norm (a ++ b)⟩ = true) : (addBag ⟨w, norm (a ++ b)⟩ ⟨w, b.map (tRow (-1))⟩).rows = a := by
  have hn := bagOk_neg hb
  have h := norm_less (bagOk_canon ha) (bagOk_canon hb) (bagOk_canon hn)
  rw [addBag_eq hN hn (by rw [h]; exact ha), h]
end Go.Av
end

section
namespace Go.Av
open Go.Proofs
set_option linter.unusedSimpArgs false
def cuC (n : Int) : List T := [.i .u8 n]
def byN (x : Int) : Nat := (bitsI .and .i64 x 255).toNat
theorem band_255 (x : Int) : bitsI .and .i64 x 255 = (byN x : Int) ∧ byN x ≤ 255 := by
  have h : (BitVec.ofInt 64 x &&& BitVec.ofInt 64 255).toNat ≤ 255 := by
    rw [BitVec.toNat_and]
    exact Nat.and_le_right
  have h2 : bitsI .and .i64 x 255 = ((BitVec.ofInt 64 x &&& BitVec.ofInt 64 255).toNat : Int) := by
    show IntKind.i64.wrap ((BitVec.ofInt 64 x &&& BitVec.ofInt 64 255).toNat : Int) = _
    exact i64_in (by omega) (by omega)
  constructor
  · unfold byN; rw [h2, Int.toNat_natCast]
  · unfold byN; rw [h2, Int.toNat_natCast]; exact h
theorem band_eq (x : Int) : bitsI .and .i64 x 255 = (byN x : Int) := (band_255 x).1
theorem byN_le (x : Int) : byN x ≤ 255 := (band_255 x).2
theorem ev_l01New (l : List Int) (hl : l.length ≤ 1048576) : ∃ r, evF cfg 63 [] [.d (.sl .any (l.map cuC))] = some r ∧ ∃ h : Int, r = (.ptr 40 0, [(40, .box [.d (.sl .any (l.map cuC)), .d (.i .i64 0), .d (.i .i64 h)])]) := by
  refine exQ fun Q hQ => ?_
  have HQ := Hd.mk hQ; clear hQ
  have H := Hd.mk hl; clear hl
  (refine Eq.mpr (congrArg Q (evF_code (C := cfg) (g := 63) (fn := Try.f63) rfl Try.func63 rfl (by rw [Try.ntmps63]; simp) (by kernel_rfl) (by first | decide | simp [keysOf]))) ?_; rw [Try.results63, Try.ntmps63])
  repeat' (first | with_reducible refine br_split (fun _ => ?_) (fun _ => ?_) | simp only [*, push_cast, Array.reduceGetElem?, Nat.reduceBEq, Nat.reduceLT, Nat.reduceAdd, Nat.reduceSub, Nat.reduceLeDiff, Nat.reduceMul, Nat.reduceEqDiff, reduceCtorEq, Int.reduceAdd, Int.reduceLT, Int.reduceLE, Int.reduceToNat, Int.reduceNeg, Int.reduceSub, Int.reduceBEq, Int.reduceBNe, Int.reduceNe, Int.reduceGT, Int.reduceGE, Nat.reduceGT] | (rw [drawC_ok]; rotate_left; decide +kernel; exact cfg_mixed))
  generalize hE : evM cfg _ _ _ _ _ = RR
  have key : ∃ r, RR = some r ∧ ∃ h : Int, r = (Exit.exit 0, { t := [(0, .d (.sl .any (l.map cuC))), (3, .d (.i .i64 h))], o := [], ks := [], n := 0, sz := 32, u := noU }) := by
    rw [← hE]
    refine evM_ex (α := Nat × Int) (fun z => { t := [(0, .d (.sl .any (l.map cuC))), (3, .d (.i .i64 z.2)), (4, .d (.i .i64 (z.1 : Nat)))], o := [], ks := [], n := 0, sz := 32, u := noU })
      (fun _ r => ∃ h : Int, r = (Exit.exit 0, { t := [(0, .d (.sl .any (l.map cuC))), (3, .d (.i .i64 h))], o := [], ks := [], n := 0, sz := 32, u := noU })) (fun _ => True) (fun z => l.length - z.1) ?_ (0, _) trivial
    clear hE RR
    rintro ⟨i, h⟩ - ih
    have hl := H.out
    simp only
    by_cases hc : i < l.length
    · have c1 := dec_lt hc
      have c2 := dec_ltN hc
      have g1 : (l.map cuC)[i]? = some [.i .u8 l[i]] := get_map cuC l i hc
      have w1 : IntKind.i64.wrap ((i : Int) + 1) = (i : Int) + 1 := wrap_succ (by omega)
      by_cases h4 : (i : Int) < 4000
      · have c3 : decide ((i : Int) < 4000) = true := decide_eq_true h4
        obtain ⟨r, hr, hq⟩ := ih (i + 1, bitsI .and .i64 (IntKind.i64.wrap (IntKind.i64.wrap (IntKind.i64.wrap (h * 131) + IntKind.i64.wrap l[i]) + 7)) 1073741823) trivial (by simp only; omega)
        refine ⟨r, ?_, hq⟩
        simp only at hr
        rw [show ((i + 1 : Nat) : Int) = (i : Int) + 1 from rfl] at hr
        clear ih hl hq h4
        repeat' (first | with_reducible refine br_split (fun _ => ?_) (fun _ => ?_) | simp only [*, push_cast, Array.reduceGetElem?, Nat.reduceBEq, Nat.reduceLT, Nat.reduceAdd, Nat.reduceSub, Nat.reduceLeDiff, Nat.reduceMul, Nat.reduceEqDiff, reduceCtorEq, Int.reduceAdd, Int.reduceLT, Int.reduceLE, Int.reduceToNat, Int.reduceNeg, Int.reduceSub, Int.reduceBEq, Int.reduceBNe, Int.reduceNe, Int.reduceGT, Int.reduceGE, Nat.reduceGT] | (rw [drawC_ok]; rotate_left; decide +kernel; exact cfg_mixed))
      · have c3 : decide ((i : Int) < 4000) = false := decide_eq_false h4
        refine ⟨_, ?_, h, rfl⟩
        clear ih hl h4
        repeat' (first | with_reducible refine br_split (fun _ => ?_) (fun _ => ?_) | simp only [*, push_cast, Array.reduceGetElem?, Nat.reduceBEq, Nat.reduceLT, Nat.reduceAdd, Nat.reduceSub, Nat.reduceLeDiff, Nat.reduceMul, Nat.reduceEqDiff, reduceCtorEq, Int.reduceAdd, Int.reduceLT, Int.reduceLE, Int.reduceToNat, Int.reduceNeg, Int.reduceSub, Int.reduceBEq, Int.reduceBNe, Int.reduceNe, Int.reduceGT, Int.reduceGE, Nat.reduceGT] | (rw [drawC_ok]; rotate_left; decide +kernel; exact cfg_mixed))
    · have c1 : decide ((i : Int) < (l.length : Int)) = false := decide_eq_false (by omega)
      refine ⟨_, ?_, h, rfl⟩
      clear ih hl hc
      repeat' (first | with_reducible refine br_split (fun _ => ?_) (fun _ => ?_) | simp only [*, push_cast, Array.reduceGetElem?, Nat.reduceBEq, Nat.reduceLT, Nat.reduceAdd, Nat.reduceSub, Nat.reduceLeDiff, Nat.reduceMul, Nat.reduceEqDiff, reduceCtorEq, Int.reduceAdd, Int.reduceLT, Int.reduceLE, Int.reduceToNat, Int.reduceNeg, Int.reduceSub, Int.reduceBEq, Int.reduceBNe, Int.reduceNe, Int.reduceGT, Int.reduceGE, Nat.reduceGT] | (rw [drawC_ok]; rotate_left; decide +kernel; exact cfg_mixed))
  obtain ⟨_, rfl, h, rfl⟩ := key
  clear hE
  repeat' (first | with_reducible refine br_split (fun _ => ?_) (fun _ => ?_) | simp only [*, push_cast, Array.reduceGetElem?, Nat.reduceBEq, Nat.reduceLT, Nat.reduceAdd, Nat.reduceSub, Nat.reduceLeDiff, Nat.reduceMul, Nat.reduceEqDiff, reduceCtorEq, Int.reduceAdd, Int.reduceLT, Int.reduceLE, Int.reduceToNat, Int.reduceNeg, Int.reduceSub, Int.reduceBEq, Int.reduceBNe, Int.reduceNe, Int.reduceGT, Int.reduceGE, Nat.reduceGT] | (rw [drawC_ok]; rotate_left; decide +kernel; exact cfg_mixed))
  exact HQ.out _ ⟨_, rfl⟩
theorem ev_l01Byte (l : List Int) (hl : l.length ≤ 1048576) (i : Nat) (hi : i ≤ l.length) (h : Int) : ∃ r, evF cfg 93 [(0, .box [.d (.sl .any (l.map cuC)), .d (.i .i64 (i : Nat)), .d (.i .i64 h)])] [.ptr 0 0] = some r ∧
    ∃ (x i' : Nat) (h' : Int), x ≤ 255 ∧ i' ≤ l.length ∧ r = (.d (.i .i64 (x : Nat)), [(0, .box [.d (.sl .any (l.map cuC)), .d (.i .i64 (i' : Nat)), .d (.i .i64 h')])]) := by
  refine exQ fun Q hQ => ?_
  have HQ := Hd.mk hQ; clear hQ
  by_cases hc : i < l.length
  · have c1 := dec_lt hc
    have c2 := dec_ltN hc
    have g1 : (l.map cuC)[i]? = some [.i .u8 l[i]] := get_map cuC l i hc
    have w1 : IntKind.i64.wrap ((i : Int) + 1) = (i : Int) + 1 := wrap_succ (by omega)
    have H := Hd.mk (And.intro hl hc)
    clear hl hi
    (refine Eq.mpr (congrArg Q (evF_code (C := cfg) (g := 93) (fn := Try.f93) rfl Try.func93 rfl (by rw [Try.ntmps93]; simp) (by kernel_rfl) (by first | decide | simp [keysOf]))) ?_; rw [Try.results93, Try.ntmps93])
    repeat' (first | with_reducible refine br_split (fun _ => ?_) (fun _ => ?_) | simp only [*, band_eq, push_cast, Array.reduceGetElem?, Nat.reduceBEq, Nat.reduceLT, Nat.reduceAdd, Nat.reduceSub, Nat.reduceLeDiff, Nat.reduceMul, Nat.reduceEqDiff, reduceCtorEq, Int.reduceAdd, Int.reduceLT, Int.reduceLE, Int.reduceToNat, Int.reduceNeg, Int.reduceSub, Int.reduceBEq, Int.reduceBNe, Int.reduceNe, Int.reduceGT, Int.reduceGE, Nat.reduceGT] | (rw [drawC_ok]; rotate_left; decide +kernel; exact cfg_mixed))
    exact HQ.out _ ⟨byN _, i + 1, _, byN_le _, H.out.2, rfl⟩
  · have c1 : decide ((i : Int) < (l.length : Int)) = false := decide_eq_false (by omega)
    have H := Hd.mk hi
    clear hl hc hi
    (refine Eq.mpr (congrArg Q (evF_code (C := cfg) (g := 93) (fn := Try.f93) rfl Try.func93 rfl (by rw [Try.ntmps93]; simp) (by kernel_rfl) (by first | decide | simp [keysOf]))) ?_; rw [Try.results93, Try.ntmps93])
    repeat' (first | with_reducible refine br_split (fun _ => ?_) (fun _ => ?_) | simp only [*, band_eq, push_cast, Array.reduceGetElem?, Nat.reduceBEq, Nat.reduceLT, Nat.reduceAdd, Nat.reduceSub, Nat.reduceLeDiff, Nat.reduceMul, Nat.reduceEqDiff, reduceCtorEq, Int.reduceAdd, Int.reduceLT, Int.reduceLE, Int.reduceToNat, Int.reduceNeg, Int.reduceSub, Int.reduceBEq, Int.reduceBNe, Int.reduceNe, Int.reduceGT, Int.reduceGE, Nat.reduceGT] | (rw [drawC_ok]; rotate_left; decide +kernel; exact cfg_mixed))
    exact HQ.out _ ⟨byN _, i, _, byN_le _, H.out, rfl⟩
theorem ev_l01Below (l : List Int) (hl : l.length ≤ 1048576) (i : Nat) (hi : i ≤ l.length) (h : Int) (n : Int) (N : Nat) (hn : n = N) (h0 : 0 < N) (h1 : N ≤ 256) : ∃ r, evF cfg 66 [(0, .box [.d (.sl .any (l.map cuC)), .d (.i .i64 (i : Nat)), .d (.i .i64 h)])] [.ptr 0 0, .d (.i .i64 n)] = some r ∧
    ∃ (x i' : Nat) (h' : Int), x < N ∧ i' ≤ l.length ∧ r = (.d (.i .i64 (x : Nat)), [(0, .box [.d (.sl .any (l.map cuC)), .d (.i .i64 (i' : Nat)), .d (.i .i64 h')])]) := by
  refine exQ fun Q hQ => ?_
  have HQ := Hd.mk hQ; clear hQ
  obtain ⟨_, e1, x, i', h', hx, hi', rfl⟩ := ev_l01Byte l hl i hi h
  have c1 : decide (n ≤ 0) = false := decide_eq_false (by omega)
  have c2 : decide (n ≤ 256) = true := decide_eq_true (by omega)
  have c3 : decide (n ≠ 0) = true := decide_eq_true (by omega)
  have c4 : decide (n = 0) = false := decide_eq_false (by omega)
  have c5 : (x : Int).tmod n = ((x % N : Nat) : Int) := by rw [hn]; exact (Int.ofNat_tmod x N).symm
  have H := Hd.mk (And.intro hi' (Nat.mod_lt x h0))
  clear hl hi hn h0 h1 hx hi'
  (refine Eq.mpr (congrArg Q (evF_code (C := cfg) (g := 66) (fn := Try.f66) rfl Try.func66 rfl (by rw [Try.ntmps66]; simp) (by kernel_rfl) (by first | decide | simp [keysOf]))) ?_; rw [Try.results66, Try.ntmps66])
  repeat' (first | with_reducible refine br_split (fun _ => ?_) (fun _ => ?_) | simp only [*, push_cast, Array.reduceGetElem?, Nat.reduceBEq, Nat.reduceLT, Nat.reduceAdd, Nat.reduceSub, Nat.reduceLeDiff, Nat.reduceMul, Nat.reduceEqDiff, reduceCtorEq, Int.reduceAdd, Int.reduceLT, Int.reduceLE, Int.reduceToNat, Int.reduceNeg, Int.reduceSub, Int.reduceBEq, Int.reduceBNe, Int.reduceNe, Int.reduceGT, Int.reduceGE, Nat.reduceGT] | (rw [drawC_ok]; rotate_left; decide +kernel; exact cfg_mixed))
  exact HQ.out _ ⟨x % N, i', h', H.out.2, H.out.1, by first | rfl | simp⟩
theorem ev_l01Once (l : List Int) (hl : l.length ≤ 1048576) (i : Nat) (hi : i ≤ l.length) (h : Int) (n : Int) (N : Nat) (hn : n = N) (h0 : 0 < N) (h1 : N ≤ 256) : ∃ r, evF cfg 65 [(0, .box [.d (.sl .any (l.map cuC)), .d (.i .i64 (i : Nat)), .d (.i .i64 h)])] [.ptr 0 0, .d (.i .i64 n)] = some r ∧
    ∃ (b : Bool) (i' : Nat) (h' : Int), i' ≤ l.length ∧ r = (.d (.b b), [(0, .box [.d (.sl .any (l.map cuC)), .d (.i .i64 (i' : Nat)), .d (.i .i64 h')])]) := by
  refine exQ fun Q hQ => ?_
  have HQ := Hd.mk hQ; clear hQ
  obtain ⟨_, e1, x, i', h', hx, hi', rfl⟩ := ev_l01Below l hl i hi h n N hn h0 h1
  have H := Hd.mk hi'
  clear hl hi hn h0 h1 hx hi'
  (refine Eq.mpr (congrArg Q (evF_code (C := cfg) (g := 65) (fn := Try.f65) rfl Try.func65 rfl (by rw [Try.ntmps65]; simp) (by kernel_rfl) (by first | decide | simp [keysOf]))) ?_; rw [Try.results65, Try.ntmps65])
  repeat' (first | with_reducible refine br_split (fun _ => ?_) (fun _ => ?_) | simp only [*, push_cast, Array.reduceGetElem?, Nat.reduceBEq, Nat.reduceLT, Nat.reduceAdd, Nat.reduceSub, Nat.reduceLeDiff, Nat.reduceMul, Nat.reduceEqDiff, reduceCtorEq, Int.reduceAdd, Int.reduceLT, Int.reduceLE, Int.reduceToNat, Int.reduceNeg, Int.reduceSub, Int.reduceBEq, Int.reduceBNe, Int.reduceNe, Int.reduceGT, Int.reduceGE, Nat.reduceGT] | (rw [drawC_ok]; rotate_left; decide +kernel; exact cfg_mixed))
  exact HQ.out _ ⟨_, i', h', H.out, rfl⟩
def inC (n : Int) : List T := [.i .i64 n]
theorem ev_l01PickInt (l : List Int) (hl : l.length ≤ 1048576) (i : Nat) (hi : i ≤ l.length) (h : Int) (es : List Int) (h0 : 0 < es.length) (h1 : es.length ≤ 256) : ∃ r, evF cfg 69 [(0, .box [.d (.sl .any (l.map cuC)), .d (.i .i64 (i : Nat)), .d (.i .i64 h)])] [.ptr 0 0, .d (.sl .any (es.map inC))] = some r ∧
    ∃ (x : Int) (i' : Nat) (h' : Int), x ∈ es ∧ i' ≤ l.length ∧ r = (.d (.i .i64 x), [(0, .box [.d (.sl .any (l.map cuC)), .d (.i .i64 (i' : Nat)), .d (.i .i64 h')])]) := by
  refine exQ fun Q hQ => ?_
  have HQ := Hd.mk hQ; clear hQ
  obtain ⟨_, e1, x, i', h', hx, hi', rfl⟩ := ev_l01Below l hl i hi h es.length es.length rfl h0 h1
  have c1 := dec_lt hx
  have c2 := dec_ltN hx
  have g1 : (es.map inC)[x]? = some [.i .i64 es[x]] := get_map inC es x hx
  have H := Hd.mk (And.intro hi' (List.getElem_mem hx))
  clear hl hi h0 h1 hi'
  (refine Eq.mpr (congrArg Q (evF_code (C := cfg) (g := 69) (fn := Try.f69) rfl Try.func69 rfl (by rw [Try.ntmps69]; simp) (by kernel_rfl) (by first | decide | simp [keysOf]))) ?_; rw [Try.results69, Try.ntmps69])
  repeat' (first | with_reducible refine br_split (fun _ => ?_) (fun _ => ?_) | simp only [*, push_cast, Array.reduceGetElem?, Nat.reduceBEq, Nat.reduceLT, Nat.reduceAdd, Nat.reduceSub, Nat.reduceLeDiff, Nat.reduceMul, Nat.reduceEqDiff, reduceCtorEq, Int.reduceAdd, Int.reduceLT, Int.reduceLE, Int.reduceToNat, Int.reduceNeg, Int.reduceSub, Int.reduceBEq, Int.reduceBNe, Int.reduceNe, Int.reduceGT, Int.reduceGE, Nat.reduceGT] | (rw [drawC_ok]; rotate_left; decide +kernel; exact cfg_mixed))
  exact HQ.out _ ⟨_, i', h', H.out.2, H.out.1, rfl⟩
theorem ev_l01Pick (l : List Int) (hl : l.length ≤ 1048576) (i : Nat) (hi : i ≤ l.length) (h : Int) (es : List ByteArray) (h0 : 0 < es.length) (h1 : es.length ≤ 256) : ∃ r, evF cfg 113 [(0, .box [.d (.sl .any (l.map cuC)), .d (.i .i64 (i : Nat)), .d (.i .i64 h)])] [.ptr 0 0, .d (.sl .any (es.map fun s => [T.s s]))] = some r ∧
    ∃ (x : ByteArray) (i' : Nat) (h' : Int), x ∈ es ∧ i' ≤ l.length ∧ r = (.d (.s x), [(0, .box [.d (.sl .any (l.map cuC)), .d (.i .i64 (i' : Nat)), .d (.i .i64 h')])]) := by
  refine exQ fun Q hQ => ?_
  have HQ := Hd.mk hQ; clear hQ
  obtain ⟨_, e1, x, i', h', hx, hi', rfl⟩ := ev_l01Below l hl i hi h es.length es.length rfl h0 h1
  have c1 := dec_lt hx
  have c2 := dec_ltN hx
  have g1 : (es.map fun s => [T.s s])[x]? = some [.s es[x]] := get_map (fun s => [T.s s]) es x hx
  have H := Hd.mk (And.intro hi' (List.getElem_mem hx))
  clear hl hi h0 h1 hi'
  (refine Eq.mpr (congrArg Q (evF_code (C := cfg) (g := 113) (fn := Try.f113) rfl Try.func113 rfl (by rw [Try.ntmps113]; simp) (by kernel_rfl) (by first | decide | simp [keysOf]))) ?_; rw [Try.results113, Try.ntmps113])
  repeat' (first | with_reducible refine br_split (fun _ => ?_) (fun _ => ?_) | simp only [*, push_cast, Array.reduceGetElem?, Nat.reduceBEq, Nat.reduceLT, Nat.reduceAdd, Nat.reduceSub, Nat.reduceLeDiff, Nat.reduceMul, Nat.reduceEqDiff, reduceCtorEq, Int.reduceAdd, Int.reduceLT, Int.reduceLE, Int.reduceToNat, Int.reduceNeg, Int.reduceSub, Int.reduceBEq, Int.reduceBNe, Int.reduceNe, Int.reduceGT, Int.reduceGE, Nat.reduceGT] | (rw [drawC_ok]; rotate_left; decide +kernel; exact cfg_mixed))
  exact HQ.out _ ⟨_, i', h', H.out.2, H.out.1, rfl⟩
end Go.Av
end

section
namespace Go.Av
open Go.Proofs
set_option linter.unusedSimpArgs false
@[push_cast] theorem ev_sl01Int (n : Int) : evF cfg 111 [] [.d (.i .i64 n)] = some (.agg [.d (.i .i64 1), .d (.i .i64 n), .d (.s ⟨#[]⟩)], []) := by
  (refine (evF_code (C := cfg) (g := 111) (fn := Try.f111) rfl Try.func111 rfl (by rw [Try.ntmps111]; simp) (by kernel_rfl) (by first | decide | simp [keysOf])).trans ?_; rw [Try.results111, Try.ntmps111])
  repeat' (first | with_reducible refine br_split (fun _ => ?_) (fun _ => ?_) | simp only [*, push_cast, Array.reduceGetElem?, Nat.reduceBEq, Nat.reduceLT, Nat.reduceAdd, Nat.reduceSub, Nat.reduceLeDiff, Nat.reduceMul, Nat.reduceEqDiff, reduceCtorEq, Int.reduceAdd, Int.reduceLT, Int.reduceLE, Int.reduceToNat, Int.reduceNeg, Int.reduceSub, Int.reduceBEq, Int.reduceBNe, Int.reduceNe, Int.reduceGT, Int.reduceGE, Nat.reduceGT] | (rw [drawC_ok]; rotate_left; decide +kernel; exact cfg_mixed))
@[push_cast] theorem ev_sl01Bool (b : Bool) : evF cfg 112 [] [.d (.b b)] = some (.agg [.d (.i .i64 2), .d (.i .i64 (if b then 1 else 0)), .d (.s ⟨#[]⟩)], []) := by
  cases b <;>
  · (refine (evF_code (C := cfg) (g := 112) (fn := Try.f112) rfl Try.func112 rfl (by rw [Try.ntmps112]; simp) (by kernel_rfl) (by first | decide | simp [keysOf])).trans ?_; rw [Try.results112, Try.ntmps112])
    repeat' (first | with_reducible refine br_split (fun _ => ?_) (fun _ => ?_) | simp only [*, push_cast, Array.reduceGetElem?, Nat.reduceBEq, Nat.reduceLT, Nat.reduceAdd, Nat.reduceSub, Nat.reduceLeDiff, Nat.reduceMul, Nat.reduceEqDiff, reduceCtorEq, Int.reduceAdd, Int.reduceLT, Int.reduceLE, Int.reduceToNat, Int.reduceNeg, Int.reduceSub, Int.reduceBEq, Int.reduceBNe, Int.reduceNe, Int.reduceGT, Int.reduceGE, Nat.reduceGT] | (rw [drawC_ok]; rotate_left; decide +kernel; exact cfg_mixed))
theorem ev_l01Value (l : List Int) (hl : l.length ≤ 1048576) (i : Nat) (hi : i ≤ l.length) (h : Int) : ∃ r, evF cfg 94 [(0, .box [.d (.sl .any (l.map cuC)), .d (.i .i64 (i : Nat)), .d (.i .i64 h)])] [.ptr 0 0] = some r ∧
    ∃ (v : V) (i' : Nat) (h' : Int), v.s.size ≤ 4 ∧ i' ≤ l.length ∧ r = (.agg [.d (.i .i64 v.k), .d (.i .i64 v.n), .d (.s v.s)], [(0, .box [.d (.sl .any (l.map cuC)), .d (.i .i64 (i' : Nat)), .d (.i .i64 h')])]) := by
  refine exQ fun Q hQ => ?_
  have HQ := Hd.mk hQ; clear hQ
  obtain ⟨_, e0, x, i1, h1, hx, hi1, rfl⟩ := ev_l01Below l hl i hi h 9 9 rfl (by omega) (by omega)
  obtain ⟨_, e1, x1, j1, k1, hx1, hj1, rfl⟩ := ev_l01Below l hl i1 hi1 h1 5 5 rfl (by omega) (by omega)
  obtain ⟨_, e2, x2, j2, k2, hx2, hj2, rfl⟩ := ev_l01PickInt l hl i1 hi1 h1 [9223372036854775807, -9223372036854775808, -1, 4294967296, -7, 100] (by simp) (by simp)
  obtain ⟨_, e3, x3, j3, k3, hj3, rfl⟩ := ev_l01Once l hl i1 hi1 h1 2 2 rfl (by omega) (by omega)
  obtain ⟨_, e4, x4, j4, k4, hx4, hj4, rfl⟩ := ev_l01Pick l hl i1 hi1 h1 [⟨#[97]⟩, ⟨#[98]⟩, ⟨#[97, 98]⟩, ⟨#[]⟩, ⟨#[105, 116, 39, 115]⟩] (by simp) (by simp)
  have h4 : x4.size ≤ 4 := by
    simp only [List.mem_cons, List.not_mem_nil, or_false] at hx4
    rcases hx4 with rfl | rfl | rfl | rfl | rfl <;> decide
  simp only [List.map_cons, List.map_nil, inC] at e2 e4
  have H := Hd.mk (And.intro hi1 (And.intro hj1 (And.intro hj2 (And.intro hj3 (And.intro hj4 h4)))))
  have hx9 : x = 0 ∨ x = 1 ∨ x = 2 ∨ x = 3 ∨ x = 4 ∨ x = 5 ∨ x = 6 ∨ x = 7 ∨ x = 8 := by omega
  clear hl hi hi1 hj1 hj2 hj3 hj4 hx hx1 hx2 hx4 h4
  rcases hx9 with rfl | rfl | rfl | rfl | rfl | rfl | rfl | rfl | rfl
  all_goals
    (refine Eq.mpr (congrArg Q (evF_code (C := cfg) (g := 94) (fn := Try.f94) rfl Try.func94 rfl (by rw [Try.ntmps94]; simp) (by kernel_rfl) (by first | decide | simp [keysOf]))) ?_; rw [Try.results94, Try.ntmps94])
    repeat' (first | with_reducible refine br_split (fun _ => ?_) (fun _ => ?_) | simp only [*, push_cast, Array.reduceGetElem?, Nat.reduceBEq, Nat.reduceLT, Nat.reduceAdd, Nat.reduceSub, Nat.reduceLeDiff, Nat.reduceMul, Nat.reduceEqDiff, reduceCtorEq, Int.reduceAdd, Int.reduceLT, Int.reduceLE, Int.reduceToNat, Int.reduceNeg, Int.reduceSub, Int.reduceBEq, Int.reduceBNe, Int.reduceNe, Int.reduceGT, Int.reduceGE, Nat.reduceGT] | (rw [drawC_ok]; rotate_left; decide +kernel; exact cfg_mixed))
  all_goals first
    | exact HQ.out _ ⟨⟨0, 0, ⟨#[]⟩⟩, i1, h1, (Nat.zero_le 4 : (0 : Nat) ≤ 4), H.out.1, rfl⟩
    | exact HQ.out _ ⟨⟨1, x1, ⟨#[]⟩⟩, j1, k1, (Nat.zero_le 4 : (0 : Nat) ≤ 4), H.out.2.1, rfl⟩
    | exact HQ.out _ ⟨⟨1, x2, ⟨#[]⟩⟩, j2, k2, (Nat.zero_le 4 : (0 : Nat) ≤ 4), H.out.2.2.1, rfl⟩
    | exact HQ.out _ ⟨⟨2, if x3 = true then 1 else 0, ⟨#[]⟩⟩, j3, k3, (Nat.zero_le 4 : (0 : Nat) ≤ 4), H.out.2.2.2.1, rfl⟩
    | exact HQ.out _ ⟨⟨3, 0, x4⟩, j4, k4, H.out.2.2.2.2.2, H.out.2.2.2.2.1, rfl⟩
theorem ev_l01Any (l : List Int) (hl : l.length ≤ 1048576) (i : Nat) (hi : i ≤ l.length) (h : Int) : ∃ r, evF cfg 68 [(0, .box [.d (.sl .any (l.map cuC)), .d (.i .i64 (i : Nat)), .d (.i .i64 h)])] [.ptr 0 0] = some r ∧
    ∃ (v : V) (i' : Nat) (h' : Int), v.s.size ≤ 5 ∧ i' ≤ l.length ∧ r = (.agg [.d (.i .i64 v.k), .d (.i .i64 v.n), .d (.s v.s)], [(0, .box [.d (.sl .any (l.map cuC)), .d (.i .i64 (i' : Nat)), .d (.i .i64 h')])]) := by
  refine exQ fun Q hQ => ?_
  have HQ := Hd.mk hQ; clear hQ
  obtain ⟨_, e0, ⟨vk, vn, vs⟩, i1, h1, hv, hi1, rfl⟩ := ev_l01Value l hl i hi h
  obtain ⟨_, e1, b1, i2, h2, hi2, rfl⟩ := ev_l01Once l hl i1 hi1 h1 12 12 rfl (by omega) (by omega)
  obtain ⟨_, e2, k2, i3, h3, -, hi3, rfl⟩ := ev_l01PickInt l hl i2 hi2 h2 [-1, 4, 2, 0] (by simp) (by simp)
  obtain ⟨_, e3, b2, i4, h4, hi4, rfl⟩ := ev_l01Once l hl i2 hi2 h2 20 20 rfl (by omega) (by omega)
  obtain ⟨_, e4, b3, i5, h5, hi5, rfl⟩ := ev_l01Once l hl i3 hi3 h3 20 20 rfl (by omega) (by omega)
  simp only at hv
  have hs : decide (vs.size + (⟨#[120]⟩ : ByteArray).size ≤ 1099511627776) = true := decide_eq_true (by have : (⟨#[120]⟩ : ByteArray).size = 1 := rfl; omega)
  have hs2 : (vs ++ ⟨#[120]⟩).size ≤ 5 := by rw [ByteArray.size_append]; have : (⟨#[120]⟩ : ByteArray).size = 1 := rfl; omega
  have hs3 : vs.size ≤ 5 := by omega
  simp only [List.map_cons, List.map_nil, inC] at e2
  have H := Hd.mk (And.intro hi4 (And.intro hi5 (And.intro hs2 hs3)))
  clear hl hi hi1 hi2 hi3 hi4 hi5 hv hs2 hs3
  cases b1 <;> cases b2 <;> cases b3 <;>
  · (refine Eq.mpr (congrArg Q (evF_code (C := cfg) (g := 68) (fn := Try.f68) rfl Try.func68 rfl (by rw [Try.ntmps68]; simp) (by kernel_rfl) (by first | decide | simp [keysOf]))) ?_; rw [Try.results68, Try.ntmps68])
    repeat' (first | with_reducible refine br_split (fun _ => ?_) (fun _ => ?_) | simp only [*, push_cast, Array.reduceGetElem?, Nat.reduceBEq, Nat.reduceLT, Nat.reduceAdd, Nat.reduceSub, Nat.reduceLeDiff, Nat.reduceMul, Nat.reduceEqDiff, reduceCtorEq, Int.reduceAdd, Int.reduceLT, Int.reduceLE, Int.reduceToNat, Int.reduceNeg, Int.reduceSub, Int.reduceBEq, Int.reduceBNe, Int.reduceNe, Int.reduceGT, Int.reduceGE, Nat.reduceGT] | (rw [drawC_ok]; rotate_left; decide +kernel; exact cfg_mixed))
    first
    | exact HQ.out _ ⟨⟨_, _, _⟩, _, _, H.out.2.2.1, H.out.1, rfl⟩
    | exact HQ.out _ ⟨⟨_, _, _⟩, _, _, H.out.2.2.1, H.out.2.1, rfl⟩
    | exact HQ.out _ ⟨⟨_, _, _⟩, _, _, H.out.2.2.2, H.out.1, rfl⟩
    | exact HQ.out _ ⟨⟨_, _, _⟩, _, _, H.out.2.2.2, H.out.2.1, rfl⟩
structure RS where
  j : Nat
  rows : List (List V)
  i : Nat
  h : Int
structure KS where
  k : Nat
  row : List V
  i : Nat
  h : Int
def roC (r : List V) : List T := [.sl .any (r.map vC)]
@[push_cast] theorem roC_all (l : List (List V)) : ((l.map roC).all fun e => e.length == 1) = true := by simp [roC]
def RowOk (w : Int) (r : List V) : Prop := r.length = w.toNat ∧ ∀ v ∈ r, v.s.size ≤ 5
theorem ev_l02Rows (l : List Int) (hl : l.length ≤ 1048576) (i : Nat) (hi : i ≤ l.length) (h : Int) (w : Int) (hw : w ≤ 1000) (n : Int) (N : Nat) (hn : n = N) (hN : N ≤ 1000) : ∃ r, evF cfg 67 [(0, .box [.d (.sl .any (l.map cuC)), .d (.i .i64 (i : Nat)), .d (.i .i64 h)])] [.ptr 0 0, .d (.i .i64 w), .d (.i .i64 n)] = some r ∧
    ∃ (rows : List (List V)) (i' : Nat) (h' : Int), rows.length = N ∧ (∀ r ∈ rows, RowOk w r) ∧ i' ≤ l.length ∧ r = (.own 40, [(0, .box [.d (.sl .any (l.map cuC)), .d (.i .i64 (i' : Nat)), .d (.i .i64 h')]), (40, .arr .any 1 (rows.map roC))]) := by
  refine exQ fun Q hQ => ?_
  have HQ := Hd.mk hQ; clear hQ
  have H := Hd.mk (And.intro hl (And.intro hi (And.intro hw (And.intro hn hN))))
  clear hl hi hw hn hN
  (refine Eq.mpr (congrArg Q (evF_code (C := cfg) (g := 67) (fn := Try.f67) rfl Try.func67 rfl (by rw [Try.ntmps67]; simp) (by kernel_rfl) (by first | decide | simp [keysOf]))) ?_; rw [Try.results67, Try.ntmps67])
  repeat' (first | with_reducible refine br_split (fun _ => ?_) (fun _ => ?_) | simp only [*, push_cast, Array.reduceGetElem?, Nat.reduceBEq, Nat.reduceLT, Nat.reduceAdd, Nat.reduceSub, Nat.reduceLeDiff, Nat.reduceMul, Nat.reduceEqDiff, reduceCtorEq, Int.reduceAdd, Int.reduceLT, Int.reduceLE, Int.reduceToNat, Int.reduceNeg, Int.reduceSub, Int.reduceBEq, Int.reduceBNe, Int.reduceNe, Int.reduceGT, Int.reduceGE, Nat.reduceGT] | (rw [drawC_ok]; rotate_left; decide +kernel; exact cfg_mixed))
  rw [show ([] : List (List T)) = ([] : List (List V)).map roC from rfl]
  generalize hE : evM cfg _ _ _ _ _ = RR
  have key : ∃ r, RR = some r ∧ ∃ (rows : List (List V)) (i' : Nat) (h' : Int), rows.length = N ∧ (∀ r ∈ rows, RowOk w r) ∧ i' ≤ l.length ∧ r = (Exit.exit 0, { t := [(7, .own 50)], o := [(0, .box [.d (.sl .any (l.map cuC)), .d (.i .i64 (i' : Nat)), .d (.i .i64 h')]), (50, .arr .any 1 (rows.map roC))], ks := [0, 50], n := 0, sz := 33, u := noU }) := by
    rw [← hE]
    refine evM_ex (α := RS) (fun z => { t := [(0, .ptr 0 0), (1, .d (.i .i64 w)), (2, .d (.i .i64 n)), (7, .own 50), (8, .d (.i .i64 (z.j : Nat)))], o := [(0, .box [.d (.sl .any (l.map cuC)), .d (.i .i64 (z.i : Nat)), .d (.i .i64 z.h)]), (50, .arr .any 1 (z.rows.map roC))], ks := [0, 50], n := 0, sz := 33, u := noU })
      (fun _ r => ∃ (rows : List (List V)) (i' : Nat) (h' : Int), rows.length = N ∧ (∀ r ∈ rows, RowOk w r) ∧ i' ≤ l.length ∧ r = (Exit.exit 0, { t := [(7, .own 50)], o := [(0, .box [.d (.sl .any (l.map cuC)), .d (.i .i64 (i' : Nat)), .d (.i .i64 h')]), (50, .arr .any 1 (rows.map roC))], ks := [0, 50], n := 0, sz := 33, u := noU }))
      (fun z => z.j = z.rows.length ∧ z.j ≤ N ∧ (∀ r ∈ z.rows, RowOk w r) ∧ z.i ≤ l.length) (fun z => N - z.j) ?_ ⟨0, [], i, h⟩ ⟨rfl, Nat.zero_le _, fun _ h => (nomatch h), H.out.2.1⟩
    clear hE RR
    rintro ⟨j, rows, i, h⟩ ⟨hj, hjN, hrows, hi⟩ ih
    simp only at hj hjN hrows hi ih ⊢
    obtain ⟨hl, -, hw, hn, hN⟩ := H.out
    by_cases hc : j < N
    · have c1 : decide ((j : Int) < n) = true := decide_eq_true (by omega)
      have w1 : IntKind.i64.wrap ((j : Int) + 1) = (j : Int) + 1 := wrap_succ (by omega)
      refine exQ fun Q hQ => ?_
      have HQ := Hd.mk hQ; clear hQ
      have H2 := Hd.mk (And.intro hj (And.intro hjN (And.intro hrows (And.intro hc ih))))
      clear hj hjN hrows ih hc hw hn hN
      have H3 := Hd.mk (And.intro hl hi)
      clear hl hi
      repeat' (first | with_reducible refine br_split (fun _ => ?_) (fun _ => ?_) | simp only [*, push_cast, Array.reduceGetElem?, Nat.reduceBEq, Nat.reduceLT, Nat.reduceAdd, Nat.reduceSub, Nat.reduceLeDiff, Nat.reduceMul, Nat.reduceEqDiff, reduceCtorEq, Int.reduceAdd, Int.reduceLT, Int.reduceLE, Int.reduceToNat, Int.reduceNeg, Int.reduceSub, Int.reduceBEq, Int.reduceBNe, Int.reduceNe, Int.reduceGT, Int.reduceGE, Nat.reduceGT] | (rw [drawC_ok]; rotate_left; decide +kernel; exact cfg_mixed))
      rw [show ([] : List (List T)) = ([] : List V).map vC from rfl]
      generalize hE : evM cfg _ _ _ _ _ = RR
      have key : ∃ r, RR = some r ∧ ∃ (row : List V) (i' : Nat) (h' : Int), RowOk w row ∧ i' ≤ l.length ∧ r = (Exit.exit 2, { t := [(0, .ptr 0 0), (1, .d (.i .i64 w)), (2, .d (.i .i64 n)), (7, .own 50), (8, .d (.i .i64 (j : Nat))), (9, .own 51)], o := [(0, .box [.d (.sl .any (l.map cuC)), .d (.i .i64 (i' : Nat)), .d (.i .i64 h')]), (50, .arr .any 1 (rows.map roC)), (51, .arr .any 3 (row.map vC))], ks := [0, 50, 51], n := 0, sz := 33, u := noU }) := by
        rw [← hE]
        refine evM_ex (α := KS) (fun z => { t := [(0, .ptr 0 0), (1, .d (.i .i64 w)), (2, .d (.i .i64 n)), (7, .own 50), (8, .d (.i .i64 (j : Nat))), (9, .own 51), (10, .d (.i .i64 (z.k : Nat)))], o := [(0, .box [.d (.sl .any (l.map cuC)), .d (.i .i64 (z.i : Nat)), .d (.i .i64 z.h)]), (50, .arr .any 1 (rows.map roC)), (51, .arr .any 3 (z.row.map vC))], ks := [0, 50, 51], n := 0, sz := 33, u := noU })
          (fun _ r => ∃ (row : List V) (i' : Nat) (h' : Int), RowOk w row ∧ i' ≤ l.length ∧ r = (Exit.exit 2, { t := [(0, .ptr 0 0), (1, .d (.i .i64 w)), (2, .d (.i .i64 n)), (7, .own 50), (8, .d (.i .i64 (j : Nat))), (9, .own 51)], o := [(0, .box [.d (.sl .any (l.map cuC)), .d (.i .i64 (i' : Nat)), .d (.i .i64 h')]), (50, .arr .any 1 (rows.map roC)), (51, .arr .any 3 (row.map vC))], ks := [0, 50, 51], n := 0, sz := 33, u := noU }))
          (fun z => z.k = z.row.length ∧ z.k ≤ w.toNat ∧ (∀ v ∈ z.row, v.s.size ≤ 5) ∧ z.i ≤ l.length) (fun z => w.toNat - z.k) ?_ ⟨0, [], i, h⟩ ⟨rfl, Nat.zero_le _, fun _ h => (nomatch h), H3.out.2⟩
        clear hE RR
        rintro ⟨k, row, i, h⟩ ⟨hk, hkw, hrow, hi⟩ ih
        simp only at hk hkw hrow hi ih ⊢
        obtain ⟨hl, -, hw, hn, hN⟩ := H.out
        by_cases hc : (k : Int) < w
        · have d1 : decide ((k : Int) < w) = true := decide_eq_true hc
          have w2 : IntKind.i64.wrap ((k : Int) + 1) = (k : Int) + 1 := wrap_succ (by omega)
          have h2 := len_ok (n := row.length + 1) 32 (by omega) (by omega)
          obtain ⟨_, e1, ⟨vk, vn, vs⟩, i', h', hv, hi', rfl⟩ := ev_l01Value l hl i hi h
          have h3 : row.map vC ++ [[.i .i64 vk, .i .i64 vn, .s vs]] = (row ++ [(⟨vk, vn, vs⟩ : V)]).map vC := by rw [List.map_append]; rfl
          obtain ⟨r, hr, hq⟩ := ih ⟨k + 1, row ++ [(⟨vk, vn, vs⟩ : V)], i', h'⟩ ⟨by simp [hk], by simp only; omega, by
            intro v hv'
            rcases List.mem_append.1 hv' with h | h
            · exact hrow v h
            · rw [List.mem_singleton.1 h]; simp only at hv ⊢; omega, hi'⟩ (by simp only; omega)
          refine ⟨r, ?_, hq⟩
          simp only at hr
          rw [show ((k + 1 : Nat) : Int) = (k : Int) + 1 from rfl] at hr
          clear ih hl hi hk hkw hrow hw hn hN hc hq hv hi'
          repeat' (first | with_reducible refine br_split (fun _ => ?_) (fun _ => ?_) | simp only [*, push_cast, Array.reduceGetElem?, Nat.reduceBEq, Nat.reduceLT, Nat.reduceAdd, Nat.reduceSub, Nat.reduceLeDiff, Nat.reduceMul, Nat.reduceEqDiff, reduceCtorEq, Int.reduceAdd, Int.reduceLT, Int.reduceLE, Int.reduceToNat, Int.reduceNeg, Int.reduceSub, Int.reduceBEq, Int.reduceBNe, Int.reduceNe, Int.reduceGT, Int.reduceGE, Nat.reduceGT] | (rw [drawC_ok]; rotate_left; decide +kernel; exact cfg_mixed))
        · have d1 : decide ((k : Int) < w) = false := decide_eq_false hc
          refine ⟨_, ?_, row, i, h, ⟨by omega, hrow⟩, hi, rfl⟩
          clear ih hl hi hk hkw hrow hw hn hN hc
          repeat' (first | with_reducible refine br_split (fun _ => ?_) (fun _ => ?_) | simp only [*, push_cast, Array.reduceGetElem?, Nat.reduceBEq, Nat.reduceLT, Nat.reduceAdd, Nat.reduceSub, Nat.reduceLeDiff, Nat.reduceMul, Nat.reduceEqDiff, reduceCtorEq, Int.reduceAdd, Int.reduceLT, Int.reduceLE, Int.reduceToNat, Int.reduceNeg, Int.reduceSub, Int.reduceBEq, Int.reduceBNe, Int.reduceNe, Int.reduceGT, Int.reduceGE, Nat.reduceGT] | (rw [drawC_ok]; rotate_left; decide +kernel; exact cfg_mixed))
      obtain ⟨_, rfl, row, i', h', p1, p2, rfl⟩ := key
      obtain ⟨hj, hjN, hrows, hc, ih⟩ := H2.out
      obtain ⟨hl, -, hw, hn, hN⟩ := H.out
      have h3 : rows.map roC ++ [[.sl .any (row.map vC)]] = (rows ++ [row]).map roC := by rw [List.map_append]; rfl
      have h4 := len_ok (n := rows.length + 1) 24 (by omega) (by omega)
      obtain ⟨r, hr, hq⟩ := ih ⟨j + 1, rows ++ [row], i', h'⟩ ⟨by simp [hj], by simp only; omega, by
        intro v hv'
        rcases List.mem_append.1 hv' with h | h
        · exact hrows v h
        · rw [List.mem_singleton.1 h]; exact p1, p2⟩ (by simp only; omega)
      simp only at hr
      rw [show ((j + 1 : Nat) : Int) = (j : Int) + 1 from rfl] at hr
      have HQ2 := Hd.mk hq
      clear ih hl hj hjN hrows hw hn hN hc hq p1 p2 hE
      repeat' (first | with_reducible refine br_split (fun _ => ?_) (fun _ => ?_) | simp only [*, push_cast, Array.reduceGetElem?, Nat.reduceBEq, Nat.reduceLT, Nat.reduceAdd, Nat.reduceSub, Nat.reduceLeDiff, Nat.reduceMul, Nat.reduceEqDiff, reduceCtorEq, Int.reduceAdd, Int.reduceLT, Int.reduceLE, Int.reduceToNat, Int.reduceNeg, Int.reduceSub, Int.reduceBEq, Int.reduceBNe, Int.reduceNe, Int.reduceGT, Int.reduceGE, Nat.reduceGT] | (rw [drawC_ok]; rotate_left; decide +kernel; exact cfg_mixed))
      exact HQ.out _ HQ2.out
    · have c1 : decide ((j : Int) < n) = false := decide_eq_false (by omega)
      refine ⟨_, ?_, rows, i, h, by omega, hrows, hi, rfl⟩
      clear ih hl hi hw hn hN hc hj hjN hrows
      repeat' (first | with_reducible refine br_split (fun _ => ?_) (fun _ => ?_) | simp only [*, push_cast, Array.reduceGetElem?, Nat.reduceBEq, Nat.reduceLT, Nat.reduceAdd, Nat.reduceSub, Nat.reduceLeDiff, Nat.reduceMul, Nat.reduceEqDiff, reduceCtorEq, Int.reduceAdd, Int.reduceLT, Int.reduceLE, Int.reduceToNat, Int.reduceNeg, Int.reduceSub, Int.reduceBEq, Int.reduceBNe, Int.reduceNe, Int.reduceGT, Int.reduceGE, Nat.reduceGT] | (rw [drawC_ok]; rotate_left; decide +kernel; exact cfg_mixed))
  obtain ⟨_, rfl, rows, i', h', p1, p2, p3, rfl⟩ := key
  have H2 := Hd.mk (And.intro p1 (And.intro p2 p3))
  clear hE p1 p2 p3
  repeat' (first | with_reducible refine br_split (fun _ => ?_) (fun _ => ?_) | simp only [*, push_cast, Array.reduceGetElem?, Nat.reduceBEq, Nat.reduceLT, Nat.reduceAdd, Nat.reduceSub, Nat.reduceLeDiff, Nat.reduceMul, Nat.reduceEqDiff, reduceCtorEq, Int.reduceAdd, Int.reduceLT, Int.reduceLE, Int.reduceToNat, Int.reduceNeg, Int.reduceSub, Int.reduceBEq, Int.reduceBNe, Int.reduceNe, Int.reduceGT, Int.reduceGE, Nat.reduceGT] | (rw [drawC_ok]; rotate_left; decide +kernel; exact cfg_mixed))
  exact HQ.out _ ⟨rows, i', h', H2.out.1, H2.out.2.1, H2.out.2.2, rfl⟩
end Go.Av
end
