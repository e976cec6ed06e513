/- What functions of this seat give. -/
import Derived.Test.YtflkffnelppigaaGm
import Derived.Test.YtflkffnelppigaaAvCfg
import Derived.Test.YtflkffnelppigaaGa
set_option linter.all false
set_option linter.unusedVariables false
set_option linter.unusedSimpArgs false

section
namespace Go.Av
open Go.Proofs
set_option linter.unusedSimpArgs false
set_option maxHeartbeats 2000000 in
theorem ev_symMerge : ∀ (n : Nat) (P A B Q : List C) (a m b : Nat), A.length + B.length ≤ n → 1 ≤ A.length → 1 ≤ B.length → a = P.length → m = a + A.length → b = m + B.length → P.length + A.length + B.length + Q.length ≤ 1048576 → Short A → Short B → Srt ltC A → Srt ltC B →
    ∃ M, Srt ltC M ∧ M.Perm (A ++ B) ∧ evF cfg 125 [(0, .arr .any 2 ((P ++ (A ++ (B ++ Q))).map cC))] [.own 0, .d (.i .i64 a), .d (.i .i64 m), .d (.i .i64 b), .clo 97 []] =
      some (.tup [], [(0, .arr .any 2 ((P ++ (M ++ Q)).map cC))]) := by
  intro n
  induction n with
  | zero => intro P A B Q a m b h h1; omega
  | succ n ih =>
    intro P A B Q a m b hn hA hB ha hm hb hl hsA hsB hrA hrB
    by_cases hA1 : A.length = 1
    · obtain ⟨x, rfl⟩ : ∃ x, A = [x] := List.length_eq_one_iff.1 hA1
      obtain ⟨M, h1, h2, h3⟩ := ev_sym1 P B Q x a m b ha (by simpa using hm) hb hB (by simp at hl; omega) (hsA x (by simp)) hsB hrB
      exact ⟨M, h1, h2, h3⟩
    by_cases hB1 : B.length = 1
    · obtain ⟨x, rfl⟩ : ∃ x, B = [x] := List.length_eq_one_iff.1 hB1
      obtain ⟨M, h1, h2, h3⟩ := ev_sym2 P A Q x a m b ha hm (by simpa using hb) (by omega) (by simp at hl; omega) (hsB x (by simp)) hsA hrA
      exact ⟨M, h1, h2, h3⟩
    -- both have more
    obtain ⟨mid, hmid⟩ : ∃ mid, mid = (a + b) / 2 := ⟨_, rfl⟩
    obtain ⟨nn, hnn⟩ : ∃ nn, nn = mid + m := ⟨_, rfl⟩
    obtain ⟨st0, r0, hst⟩ : ∃ st0 r0, (mid < m ∧ st0 + b = nn ∧ r0 = mid) ∨ (m ≤ mid ∧ st0 = a ∧ r0 = m) := by
      by_cases h : mid < m
      · exact ⟨nn - b, mid, .inl ⟨h, by omega, rfl⟩⟩
      · exact ⟨a, m, .inr ⟨by omega, rfl, rfl⟩⟩
    obtain ⟨L1, hL1⟩ : ∃ L1 : List C, L1 = P ++ (A ++ (B ++ Q)) := ⟨_, rfl⟩
    have gA : ∀ c, a ≤ c → (h : c - a < A.length) → L1[c]? = some A[c - a] := by
      intro c hc h
      rw [hL1]
      rw [List.getElem?_append_right (by omega), ← ha, List.getElem?_append_left h, List.getElem?_eq_getElem h]
    have gB : ∀ c, m ≤ c → (h : c - m < B.length) → L1[c]? = some B[c - m] := by
      intro c hc h
      rw [hL1]
      rw [List.getElem?_append_right (by omega), List.getElem?_append_right (by omega), show c - P.length - A.length = c - m by omega, List.getElem?_append_left h, List.getElem?_eq_getElem h]
    obtain ⟨q, hq⟩ : ∃ q : Nat → Bool, ∀ c, q c = (match L1[nn - 1 - c]?, L1[c]? with | some y, some x => !ltC y x | _, _ => false) := ⟨_, fun c => rfl⟩
    obtain ⟨s, hs⟩ : ∃ s, bs2 q st0 r0 = s := ⟨_, rfl⟩
    have hle := bs2_le q st0 r0 (by omega)
    have hlo := bs2_lo q st0 st0 r0 (by omega) (.inl rfl)
    have hhi := bs2_hi q r0 st0 r0 (by omega) (.inl rfl)
    rw [hs] at hle hlo hhi
    obtain ⟨e, he⟩ : ∃ e, s + e = nn := ⟨nn - s, by omega⟩
    have hsa : a ≤ s := by omega
    have hsm : s ≤ m := by omega
    have hme : m ≤ e := by omega
    have heb : e ≤ b := by omega
    have eA : A = A.take (s - a) ++ A.drop (s - a) := (List.take_append_drop _ _).symm
    have eB : B = B.take (e - m) ++ B.drop (e - m) := (List.take_append_drop _ _).symm
    have lA1 : (A.take (s - a)).length = s - a := by simp; omega
    have lA2 : (A.drop (s - a)).length = m - s := by simp; omega
    have lB1 : (B.take (e - m)).length = e - m := by simp; omega
    have lB2 : (B.drop (e - m)).length = b - e := by simp; omega
    have hqv : ∀ c, a ≤ c → (h1 : c - a < A.length) → m ≤ nn - 1 - c → (h2 : nn - 1 - c - m < B.length) → q c = !ltC B[nn - 1 - c - m] A[c - a] := by
      intro c h0 h1 h2 h3
      rw [hq, gB _ h2 h3, gA _ h0 h1]
    have sA1 : Short (A.take (s - a)) := fun c hc => hsA c (List.mem_of_mem_take hc)
    have sA2 : Short (A.drop (s - a)) := fun c hc => hsA c (List.mem_of_mem_drop hc)
    have sB1 : Short (B.take (e - m)) := fun c hc => hsB c (List.mem_of_mem_take hc)
    have sB2 : Short (B.drop (e - m)) := fun c hc => hsB c (List.mem_of_mem_drop hc)
    have hrA' := hrA
    rw [eA, srt_append] at hrA'
    obtain ⟨rA1, rA2, rA3⟩ := hrA'
    have hrB' := hrB
    rw [eB, srt_append] at hrB'
    obtain ⟨rB1, rB2, rB3⟩ := hrB'
    -- what stands ahead of the places is not behind what stands behind them
    have h12 : ∀ x ∈ A.take (s - a), ∀ y ∈ B.drop (e - m), ltC y x = false := by
      intro x hx y hy
      rcases hlo with h0 | h0
      · rcases hst with ⟨g1, g2, g3⟩ | ⟨g1, g2, g3⟩
        · rw [List.drop_eq_nil_of_le (by omega)] at hy; cases hy
        · rw [show s - a = 0 by omega, List.take_zero] at hx; cases hx
      · by_cases hz : s = a
        · rw [show s - a = 0 by omega, List.take_zero] at hx; cases hx
        by_cases hz2 : e = b
        · rw [List.drop_eq_nil_of_le (by omega)] at hy; cases hy
        have p1 : s - 1 - a < A.length := by omega
        have p2 : nn - 1 - (s - 1) - m < B.length := by omega
        rw [hqv (s - 1) (by omega) p1 (by omega) p2, Bool.not_eq_true'] at h0
        have i2 : nn - 1 - (s - 1) - m = e - m := by omega
        simp only [i2] at h0 p2
        rw [List.drop_eq_getElem_cons p2] at hy rB2
        have e2 : A.take (s - a) = A.take (s - 1 - a) ++ [A[s - 1 - a]] := by rw [show s - a = s - 1 - a + 1 by omega, List.take_succ_eq_append_getElem p1]
        rw [e2] at hx rA1
        exact srt_first ltC_wo rB2 (srt_last ltC_wo rA1 h0 x hx) y hy
    have h21 : ∀ x ∈ B.take (e - m), ∀ y ∈ A.drop (s - a), ltC y x = false := by
      intro x hx y hy
      rcases hhi with h0 | h0
      · rcases hst with ⟨g1, g2, g3⟩ | ⟨g1, g2, g3⟩
        · rw [show e - m = 0 by omega, List.take_zero] at hx; cases hx
        · rw [List.drop_eq_nil_of_le (by omega)] at hy; cases hy
      · by_cases hz : s = m
        · rw [List.drop_eq_nil_of_le (by omega)] at hy; cases hy
        by_cases hz2 : e = m
        · rw [show e - m = 0 by omega, List.take_zero] at hx; cases hx
        have p1 : s - a < A.length := by omega
        have p2 : nn - 1 - s - m < B.length := by omega
        rw [hqv s (by omega) p1 (by omega) p2, Bool.not_eq_false'] at h0
        have i2 : nn - 1 - s - m = e - m - 1 := by omega
        simp only [i2] at h0 p2
        rw [List.drop_eq_getElem_cons p1] at hy rA2
        have e2 : B.take (e - m) = B.take (e - m - 1) ++ [B[e - m - 1]] := by
          conv => lhs; rw [show e - m = e - m - 1 + 1 by omega]
          rw [List.take_succ_eq_append_getElem p2]
        rw [e2] at hx rB1
        exact srt_first ltC_wo rA2 (srt_last ltC_wo rB1 (ltC_wo.asym _ _ h0) x hx) y hy
    -- the first half
    obtain ⟨Cc, hC1, hC2, hC3, hC4⟩ : ∃ Cc, Srt ltC Cc ∧ Cc.Perm (A.take (s - a) ++ B.take (e - m)) ∧ (a < s → m < e → evF cfg 125 [(0, .arr .any 2 ((P ++ (A.take (s - a) ++ (B.take (e - m) ++ (A.drop (s - a) ++ (B.drop (e - m) ++ Q))))).map cC))] [.own 0, .d (.i .i64 a), .d (.i .i64 s), .d (.i .i64 mid), .clo 97 []] =
        some (.tup [], [(0, .arr .any 2 ((P ++ (Cc ++ (A.drop (s - a) ++ (B.drop (e - m) ++ Q)))).map cC))])) ∧ (¬ (a < s ∧ m < e) → Cc = A.take (s - a) ++ B.take (e - m)) := by
      by_cases h : a < s ∧ m < e
      · obtain ⟨M, g1, g2, g3⟩ := ih P (A.take (s - a)) (B.take (e - m)) (A.drop (s - a) ++ (B.drop (e - m) ++ Q)) a s mid (by omega) (by omega) (by omega) ha (by omega) (by omega) (by simp only [List.length_append, lA1, lB1, lA2, lB2]; omega) sA1 sB1 rA1 rB1
        exact ⟨M, g1, g2, fun _ _ => g3, fun h' => absurd h h'⟩
      · refine ⟨_, ?_, .refl _, fun h1 h2 => absurd ⟨h1, h2⟩ h, fun _ => rfl⟩
        rw [srt_append]
        refine ⟨rA1, rB1, fun x hx y hy => ?_⟩
        by_cases h0 : s = a
        · rw [show s - a = 0 by omega, List.take_zero] at hx; cases hx
        · rw [show e - m = 0 by omega, List.take_zero] at hy; cases hy
    obtain ⟨D, hD1, hD2, hD3, hD4⟩ : ∃ D, Srt ltC D ∧ D.Perm (A.drop (s - a) ++ B.drop (e - m)) ∧ (s < m → e < b → evF cfg 125 [(0, .arr .any 2 ((P ++ (Cc ++ (A.drop (s - a) ++ (B.drop (e - m) ++ Q)))).map cC))] [.own 0, .d (.i .i64 mid), .d (.i .i64 e), .d (.i .i64 b), .clo 97 []] =
        some (.tup [], [(0, .arr .any 2 ((P ++ (Cc ++ (D ++ Q))).map cC))])) ∧ (¬ (s < m ∧ e < b) → D = A.drop (s - a) ++ B.drop (e - m)) := by
      have lC : Cc.length = mid - a := by rw [hC2.length_eq, List.length_append, lA1, lB1]; omega
      by_cases h : s < m ∧ e < b
      · obtain ⟨M, g1, g2, g3⟩ := ih (P ++ Cc) (A.drop (s - a)) (B.drop (e - m)) Q mid e b (by omega) (by omega) (by omega) (by simp only [List.length_append]; omega) (by omega) (by omega) (by simp only [List.length_append]; omega) sA2 sB2 rA2 rB2
        refine ⟨M, g1, g2, fun _ _ => ?_, fun h' => absurd h h'⟩
        simpa only [List.append_assoc] using g3
      · refine ⟨_, ?_, .refl _, fun h1 h2 => absurd ⟨h1, h2⟩ h, fun _ => rfl⟩
        rw [srt_append]
        refine ⟨rA2, rB2, fun x hx y hy => ?_⟩
        by_cases h0 : s = m
        · rw [List.drop_eq_nil_of_le (by omega)] at hx; cases hx
        · rw [List.drop_eq_nil_of_le (by omega)] at hy; cases hy
    obtain ⟨k1, k2⟩ := merged2 ltC_wo (by rw [← eA]; exact hrA) (by rw [← eB]; exact hrB) h12 h21 hC1 hC2 hD1 hD2
    rw [← eA, ← eB] at k2
    refine ⟨Cc ++ D, k1, k2, ?_⟩
    rw [List.append_assoc, ← hL1]
    refine ev_sym3 L1 (P ++ (A.take (s - a) ++ (B.take (e - m) ++ (A.drop (s - a) ++ (B.drop (e - m) ++ Q))))) (P ++ (Cc ++ (A.drop (s - a) ++ (B.drop (e - m) ++ Q)))) (P ++ (Cc ++ (D ++ Q))) A B a m b mid nn st0 r0 s e q (by rw [hL1]; simp only [List.length_append]; omega) (by omega) (by omega) (by omega) (by omega) (by omega) hmid hnn hst ?_ hs he ?_ ?_ hC3 ?_ hD3 ?_
    · intro c hc1 hc2
      have p1 : c - a < A.length := by omega
      have p2 : nn - 1 - c - m < B.length := by omega
      exact ⟨_, _, gB _ (by omega) p2, gA _ (by omega) p1, hqv c (by omega) p1 (by omega) p2, hsB _ (List.getElem_mem p2)⟩
    · intro g1 g2
      have := ev_rotate (P ++ A.take (s - a)) (A.drop (s - a)) (B.take (e - m)) (B.drop (e - m) ++ Q) s m e (by simp only [List.length_append]; omega) (by simp only [List.length_append]; omega) (by omega) (by omega) (by omega) (by simp only [List.length_append]; omega)
      have hL : L1 = P ++ A.take (s - a) ++ (A.drop (s - a) ++ (B.take (e - m) ++ (B.drop (e - m) ++ Q))) := by
        rw [hL1]
        conv => lhs; rw [eA, eB]
        simp only [List.append_assoc]
      rw [hL, this]
      simp only [List.append_assoc]
    · intro h
      rw [hL1]
      conv => lhs; rw [eA, eB]
      by_cases h0 : s = m
      · rw [List.drop_eq_nil_of_le (show A.length ≤ s - a by omega)]; simp only [List.append_assoc, List.nil_append]
      · rw [show e - m = 0 by omega]; simp only [List.take_zero, List.append_assoc, List.nil_append]
    · intro h
      rw [hC4 h]; simp only [List.append_assoc]
    · intro h
      rw [hD4 h]; simp only [List.append_assoc]
end Go.Av
end

section
namespace Go.Av
open Go.Proofs
set_option linter.unusedSimpArgs false
theorem FB.short {k : Nat} {x : List C} (h : FB k x) (hk : x.length < k) : x = [] := by
  cases h with
  | nil => rfl
  | cons h hs hr => rw [List.length_append] at hk; omega
theorem Short.perm {l m : List C} (h : Short l) (p : m.Perm l) : Short m := fun c hc => h c (p.mem_iff.1 hc)
structure S4 where
  a : Nat
  b : Nat
  Z : List C
  R : List C
set_option maxHeartbeats 2000000 in
theorem ev_stable (L : List C) (n : Nat) (hn : n = L.length) (hl : n ≤ 1048576) (hs : Short L) :
    ∃ r, evF cfg 114 [(0, .arr .any 2 (L.map cC))] [.own 0, .d (.i .i64 n), .clo 97 []] = some r ∧
      ∃ M, Srt ltC M ∧ M.Perm L ∧ r = (.tup [], [(0, .arr .any 2 (M.map cC))]) := by
  refine exQ fun Q hQ => ?_
  have HQ := Hd.mk hQ; clear hQ
  have H := Hd.mk (And.intro hn hl); clear hn hl
  (refine Eq.mpr (congrArg Q (evF_code (C := cfg) (g := 114) (fn := Try.f114) rfl Try.func114 rfl (by rw [Try.ntmps114]; simp) (by kernel_rfl) (by first | decide | simp [keysOf]))) ?_; rw [Try.results114, Try.ntmps114])
  repeat' (first | with_reducible refine br_split (fun _ => ?_) (fun _ => ?_) | simp only [*, push_cast, Array.reduceGetElem?, Nat.reduceBEq, Nat.reduceLT, Nat.reduceAdd, Nat.reduceSub, Nat.reduceLeDiff, Nat.reduceMul, Nat.reduceEqDiff, reduceCtorEq, Int.reduceAdd, Int.reduceLT, Int.reduceLE, Int.reduceToNat, Int.reduceNeg, Int.reduceSub, Int.reduceBEq, Int.reduceBNe, Int.reduceNe, Int.reduceGT, Int.reduceGE, Nat.reduceGT] | (rw [drawC_ok]; rotate_left; decide +kernel; exact cfg_mixed))
  generalize hE : evM cfg _ _ _ _ _ = R
  have key : ∃ r, R = some r ∧ ∃ Z W, FB 20 Z ∧ W.length < 20 ∧ (Z ++ W).Perm L ∧ r = (Exit.exit 0, { t := [(0, .own 0), (1, .d (.i .i64 n)), (2, .clo 97 []), (6, .d (.i .i64 20)), (7, .d (.i .i64 (Z.length : Nat)))], o := [(0, .arr .any 2 ((Z ++ W).map cC))], ks := [0], n := 0, sz := 63, u := noU }) := by
    rw [← hE]
    refine evM_ex (α := S4) (fun z => { t := [(0, .own 0), (1, .d (.i .i64 n)), (2, .clo 97 []), (6, .d (.i .i64 20)), (7, .d (.i .i64 (z.a : Nat))), (8, .d (.i .i64 (z.b : Nat)))], o := [(0, .arr .any 2 ((z.Z ++ z.R).map cC))], ks := [0], n := 0, sz := 63, u := noU })
      (fun z r => ∃ Z W, FB 20 Z ∧ W.length < 20 ∧ (Z ++ W).Perm L ∧ r = (Exit.exit 0, { t := [(0, .own 0), (1, .d (.i .i64 n)), (2, .clo 97 []), (6, .d (.i .i64 20)), (7, .d (.i .i64 (Z.length : Nat)))], o := [(0, .arr .any 2 ((Z ++ W).map cC))], ks := [0], n := 0, sz := 63, u := noU }))
      (fun z => z.a = z.Z.length ∧ z.b = z.a + 20 ∧ FB 20 z.Z ∧ (z.Z ++ z.R).Perm L) (fun z => z.R.length) ?_ ⟨0, 20, [], L⟩ ⟨rfl, rfl, .nil, .refl _⟩
    clear hE R
    rintro ⟨a, b, Z, W⟩ ⟨ha, hb, hZ, hP⟩ ih
    simp only at ha hb hZ hP ih ⊢
    obtain ⟨hn, hl⟩ := H.out
    have hlen := hP.length_eq
    rw [List.length_append] at hlen
    by_cases hc : 20 ≤ W.length
    · obtain ⟨c, W, rfl, hcl⟩ : ∃ c W', W = c ++ W' ∧ c.length = 20 := ⟨W.take 20, W.drop 20, (List.take_append_drop _ _).symm, by simp; omega⟩
      rw [List.length_append] at hc hlen
      have hsc : Short c := fun x hx => hs x (hP.mem_iff.1 (by simp [hx]))
      obtain ⟨r, hr, hq⟩ := ih ⟨b, b + 20, Z ++ isort ltC c, W⟩ ⟨by simp only [List.length_append, isort_len]; omega, rfl, hZ.append (.one (by rw [isort_len, hcl]) (isort_srt ltC_wo c)), by
        simp only [List.append_assoc]; exact (((isort_perm c).append_right W).append_left Z).trans hP⟩ (by simp; omega)
      refine ⟨r, ?_, hq⟩
      have hI := ev_insertion Z c W a b ha (by omega) (by omega) hsc
      simp only [List.append_assoc] at hr
      obtain ⟨b2, hb2⟩ : ∃ b2, b2 = b + 20 := ⟨_, rfl⟩
      rw [← hb2] at hr
      have w1 : IntKind.i64.wrap ((b : Int) + 20) = (b2 : Int) := by rw [i64_in (by omega) (by omega)]; omega
      have c1 : decide ((b : Int) ≤ (n : Int)) = true := decide_eq_true (by omega)
      clear ih hq ha hb hZ hP hlen hc hn hl hb2 hcl hsc
      repeat' (first | with_reducible refine br_split (fun _ => ?_) (fun _ => ?_) | simp only [*, push_cast, Array.reduceGetElem?, Nat.reduceBEq, Nat.reduceLT, Nat.reduceAdd, Nat.reduceSub, Nat.reduceLeDiff, Nat.reduceMul, Nat.reduceEqDiff, reduceCtorEq, Int.reduceAdd, Int.reduceLT, Int.reduceLE, Int.reduceToNat, Int.reduceNeg, Int.reduceSub, Int.reduceBEq, Int.reduceBNe, Int.reduceNe, Int.reduceGT, Int.reduceGE, Nat.reduceGT] | (rw [drawC_ok]; rotate_left; decide +kernel; exact cfg_mixed))
    · refine ⟨_, ?_, Z, W, hZ, by omega, hP, rfl⟩
      have c1 : decide ((b : Int) ≤ (n : Int)) = false := decide_eq_false (by omega)
      rw [← ha]
      clear ih ha hb hZ hP hlen hc hn hl
      repeat' (first | with_reducible refine br_split (fun _ => ?_) (fun _ => ?_) | simp only [*, push_cast, Array.reduceGetElem?, Nat.reduceBEq, Nat.reduceLT, Nat.reduceAdd, Nat.reduceSub, Nat.reduceLeDiff, Nat.reduceMul, Nat.reduceEqDiff, reduceCtorEq, Int.reduceAdd, Int.reduceLT, Int.reduceLE, Int.reduceToNat, Int.reduceNeg, Int.reduceSub, Int.reduceBEq, Int.reduceBNe, Int.reduceNe, Int.reduceGT, Int.reduceGE, Nat.reduceGT] | (rw [drawC_ok]; rotate_left; decide +kernel; exact cfg_mixed))
  obtain ⟨_, rfl, Z, W, hZ, hW, hP, rfl⟩ := key
  clear hE
  have hI : evF cfg 124 [(0, .arr .any 2 ((Z ++ W).map cC))] [.own 0, .d (.i .i64 (Z.length : Nat)), .d (.i .i64 n), .clo 97 []] =
      some (.tup [], [(0, .arr .any 2 ((Z ++ isort ltC W).map cC))]) := by
    have := hP.length_eq
    rw [List.length_append] at this
    obtain ⟨hn, hl⟩ := H.out
    have := ev_insertion Z W [] Z.length n rfl (by omega) (by simp; omega) (fun x hx => hs x (hP.mem_iff.1 (by simp [hx])))
    simpa using this
  have hP2 : (Z ++ isort ltC W).Perm L := ((isort_perm W).append_left Z).trans hP
  have hW2 : (isort ltC W).length < 20 := by rw [isort_len]; exact hW
  have hWs := isort_srt ltC_wo W
  clear hP
  generalize isort ltC W = W' at *
  have H2 := Hd.mk (And.intro hZ (And.intro hP2 (And.intro hW2 hWs)))
  clear hZ hP2 hW2 hWs hW
  repeat' (first | with_reducible refine br_split (fun _ => ?_) (fun _ => ?_) | simp only [*, push_cast, Array.reduceGetElem?, Nat.reduceBEq, Nat.reduceLT, Nat.reduceAdd, Nat.reduceSub, Nat.reduceLeDiff, Nat.reduceMul, Nat.reduceEqDiff, reduceCtorEq, Int.reduceAdd, Int.reduceLT, Int.reduceLE, Int.reduceToNat, Int.reduceNeg, Int.reduceSub, Int.reduceBEq, Int.reduceBNe, Int.reduceNe, Int.reduceGT, Int.reduceGE, Nat.reduceGT] | (rw [drawC_ok]; rotate_left; decide +kernel; exact cfg_mixed))
  clear hI
  generalize hE : evM cfg _ _ _ _ _ = R
  have key : ∃ r, R = some r ∧ ∃ M, Srt ltC M ∧ M.Perm L ∧ r = (Exit.exit 2, { t := [], o := [(0, .arr .any 2 (M.map cC))], ks := [0], n := 0, sz := 63, u := noU }) := by
    rw [← hE]
    clear hE R
    obtain ⟨h1, h2, h3, h4⟩ := H2.out
    refine evM_ex (α := S4) (fun z => { t := [(0, .own 0), (1, .d (.i .i64 n)), (2, .clo 97 []), (6, .d (.i .i64 (z.a : Nat)))], o := [(0, .arr .any 2 ((z.Z ++ z.R).map cC))], ks := [0], n := 0, sz := 63, u := noU })
      (fun z r => ∃ M, Srt ltC M ∧ M.Perm L ∧ r = (Exit.exit 2, { t := [], o := [(0, .arr .any 2 (M.map cC))], ks := [0], n := 0, sz := 63, u := noU }))
      (fun z => 0 < z.a ∧ FB z.a z.Z ∧ (z.Z ++ z.R).Perm L ∧ z.R.length < z.a ∧ Srt ltC z.R) (fun z => n - z.a) ?_ ⟨20, 0, Z, W'⟩ ⟨by simp, h1, h2, h3, h4⟩
    clear h1 h2 h3 h4 H2 HQ Q Z W W'
    rintro ⟨bs, _, Z, W⟩ ⟨hb0, hZ, hP, hW, hWs⟩ ih
    simp only at hb0 hZ hP hW hWs ih ⊢
    obtain ⟨hn, hl⟩ := H.out
    have hlen := hP.length_eq
    rw [List.length_append] at hlen
    by_cases hc : bs < n
    · have H3 := Hd.mk ih
      clear ih
      obtain ⟨bs2, hbs2⟩ : ∃ bs2, bs2 = bs * 2 := ⟨_, rfl⟩
      have w1 : IntKind.i64.wrap (2 * (bs : Int)) = (bs2 : Int) := by rw [i64_in (by omega) (by omega)]; omega
      have w2 : IntKind.i64.wrap ((bs : Int) * 2) = (bs2 : Int) := by rw [i64_in (by omega) (by omega)]; omega
      have c1 : decide ((bs : Int) < (n : Int)) = true := decide_eq_true (by omega)
      have H4 := Hd.mk (And.intro hb0 (And.intro hZ (And.intro hP (And.intro hW (And.intro hWs (And.intro hbs2 hc))))))
      clear hb0 hZ hP hW hWs hn hl hlen hc hbs2
      refine exQ fun Q hQ => ?_
      have HQ := Hd.mk hQ; clear hQ
      repeat' (first | with_reducible refine br_split (fun _ => ?_) (fun _ => ?_) | simp only [*, push_cast, Array.reduceGetElem?, Nat.reduceBEq, Nat.reduceLT, Nat.reduceAdd, Nat.reduceSub, Nat.reduceLeDiff, Nat.reduceMul, Nat.reduceEqDiff, reduceCtorEq, Int.reduceAdd, Int.reduceLT, Int.reduceLE, Int.reduceToNat, Int.reduceNeg, Int.reduceSub, Int.reduceBEq, Int.reduceBNe, Int.reduceNe, Int.reduceGT, Int.reduceGE, Nat.reduceGT] | (rw [drawC_ok]; rotate_left; decide +kernel; exact cfg_mixed))
      generalize hE : evM cfg _ _ _ _ _ = R
      have key : ∃ r, R = some r ∧ ∃ Z Y a, FB bs2 Z ∧ FB bs Y ∧ (Z ++ (Y ++ W)).Perm L ∧ a = Z.length ∧ Y.length + W.length < bs2 ∧ r = (Exit.exit 4, { t := [(0, .own 0), (1, .d (.i .i64 n)), (2, .clo 97 []), (6, .d (.i .i64 bs)), (7, .d (.i .i64 (a : Nat)))], o := [(0, .arr .any 2 ((Z ++ (Y ++ W)).map cC))], ks := [0], n := 0, sz := 63, u := noU }) := by
        rw [← hE]
        clear hE R HQ Q
        obtain ⟨hb0, hZ, hP, hW, hWs, hbs2, hc⟩ := H4.out
        refine evM_ex (α := S4) (fun z => { t := [(0, .own 0), (1, .d (.i .i64 n)), (2, .clo 97 []), (6, .d (.i .i64 bs)), (7, .d (.i .i64 (z.a : Nat))), (8, .d (.i .i64 (z.b : Nat)))], o := [(0, .arr .any 2 ((z.Z ++ (z.R ++ W)).map cC))], ks := [0], n := 0, sz := 63, u := noU })
          (fun z r => ∃ Z Y a, FB bs2 Z ∧ FB bs Y ∧ (Z ++ (Y ++ W)).Perm L ∧ a = Z.length ∧ Y.length + W.length < bs2 ∧ r = (Exit.exit 4, { t := [(0, .own 0), (1, .d (.i .i64 n)), (2, .clo 97 []), (6, .d (.i .i64 bs)), (7, .d (.i .i64 (a : Nat)))], o := [(0, .arr .any 2 ((Z ++ (Y ++ W)).map cC))], ks := [0], n := 0, sz := 63, u := noU }))
          (fun z => z.a = z.Z.length ∧ z.b = z.a + bs2 ∧ FB bs2 z.Z ∧ FB bs z.R ∧ (z.Z ++ (z.R ++ W)).Perm L) (fun z => z.R.length) ?_ ⟨0, bs2, [], Z⟩ ⟨rfl, by simp, .nil, hZ, hP⟩
        clear hb0 hZ hP hW hWs hbs2 hc
        rintro ⟨a, b, Z, Y⟩ ⟨ha, hb, hZ, hY, hP⟩ ih
        simp only at ha hb hZ hY hP ih ⊢
        obtain ⟨hb0, _, _, hW, hWs, hbs2, hc⟩ := H4.out
        obtain ⟨hn, hl⟩ := H.out
        have hlen := hP.length_eq
        rw [List.length_append, List.length_append] at hlen
        by_cases hc : bs2 ≤ Y.length + W.length
        · obtain ⟨x, Y, rfl, hx, hxs, hY⟩ := hY.first (by omega)
          rw [List.length_append] at hc hlen
          obtain ⟨y, Y, rfl, hy, hys, hY⟩ := hY.first (by omega)
          rw [List.length_append] at hc hlen
          have hsx : Short x := fun c hc => hs c (hP.mem_iff.1 (by simp [hc]))
          have hsy : Short y := fun c hc => hs c (hP.mem_iff.1 (by simp [hc]))
          obtain ⟨m, hm⟩ : ∃ m, m = a + bs := ⟨_, rfl⟩
          obtain ⟨M, g1, g2, hI⟩ := ev_symMerge (x.length + y.length) Z x y (Y ++ W) a m b (Nat.le_refl _) (by omega) (by omega) ha (by omega) (by omega) (by simp; omega) hsx hsy hxs hys
          have gl := g2.length_eq
          rw [List.length_append] at gl
          obtain ⟨b2, hb2⟩ : ∃ b2, b2 = b + bs2 := ⟨_, rfl⟩
          obtain ⟨r, hr, hq⟩ := ih ⟨b, b2, Z ++ M, Y⟩ ⟨by simp only [List.length_append]; omega, hb2, hZ.append (.one (by omega) g1), hY, by
            have := ((g2.append_right (Y ++ W)).append_left Z).trans (by simpa only [List.append_assoc] using hP)
            simpa only [List.append_assoc] using this⟩ (by simp; omega)
          refine ⟨r, ?_, hq⟩
          simp only [List.append_assoc] at hr ⊢
          have w1 : IntKind.i64.wrap ((a : Int) + (bs : Int)) = (m : Int) := by rw [i64_in (by omega) (by omega)]; omega
          have w2 : IntKind.i64.wrap (2 * (bs : Int)) = (bs2 : Int) := by rw [i64_in (by omega) (by omega)]; omega
          have w3 : IntKind.i64.wrap ((b : Int) + (bs2 : Int)) = (b2 : Int) := by rw [i64_in (by omega) (by omega)]; omega
          have c1 : decide ((b : Int) ≤ (n : Int)) = true := decide_eq_true (by omega)
          clear ih hq ha hb hZ hY hP hb0 hW hWs hbs2 hc hn hl hlen hx hxs hy hys hsx hsy hm g1 g2 gl hb2
          repeat' (first | with_reducible refine br_split (fun _ => ?_) (fun _ => ?_) | simp only [*, push_cast, Array.reduceGetElem?, Nat.reduceBEq, Nat.reduceLT, Nat.reduceAdd, Nat.reduceSub, Nat.reduceLeDiff, Nat.reduceMul, Nat.reduceEqDiff, reduceCtorEq, Int.reduceAdd, Int.reduceLT, Int.reduceLE, Int.reduceToNat, Int.reduceNeg, Int.reduceSub, Int.reduceBEq, Int.reduceBNe, Int.reduceNe, Int.reduceGT, Int.reduceGE, Nat.reduceGT] | (rw [drawC_ok]; rotate_left; decide +kernel; exact cfg_mixed))
        · refine ⟨_, ?_, Z, Y, a, hZ, hY, hP, ha, by omega, rfl⟩
          have c1 : decide ((b : Int) ≤ (n : Int)) = false := decide_eq_false (by omega)
          clear ih ha hb hZ hY hP hb0 hW hWs hbs2 hc hn hl hlen
          repeat' (first | with_reducible refine br_split (fun _ => ?_) (fun _ => ?_) | simp only [*, push_cast, Array.reduceGetElem?, Nat.reduceBEq, Nat.reduceLT, Nat.reduceAdd, Nat.reduceSub, Nat.reduceLeDiff, Nat.reduceMul, Nat.reduceEqDiff, reduceCtorEq, Int.reduceAdd, Int.reduceLT, Int.reduceLE, Int.reduceToNat, Int.reduceNeg, Int.reduceSub, Int.reduceBEq, Int.reduceBNe, Int.reduceNe, Int.reduceGT, Int.reduceGE, Nat.reduceGT] | (rw [drawC_ok]; rotate_left; decide +kernel; exact cfg_mixed))
      obtain ⟨_, rfl, Z, Y, a, hZ, hY, hP, ha, hYl, rfl⟩ := key
      clear hE
      obtain ⟨hb0, _, _, hW, hWs, hbs2, hc⟩ := H4.out
      obtain ⟨hn, hl⟩ := H.out
      have hlen := hP.length_eq
      rw [List.length_append, List.length_append] at hlen
      obtain ⟨m, hm⟩ : ∃ m, m = a + bs := ⟨_, rfl⟩
      have w3 : IntKind.i64.wrap ((a : Int) + (bs : Int)) = (m : Int) := by rw [i64_in (by omega) (by omega)]; omega
      have hYsh : Y = [] ∨ Y.length = bs ∧ Srt ltC Y := by
        by_cases h0 : 0 < Y.length
        · obtain ⟨x, Y', rfl, hx, hxs, hY'⟩ := hY.first h0
          rw [List.length_append] at hYl
          rw [hY'.short (by omega), List.append_nil]
          exact .inr ⟨hx, hxs⟩
        · exact .inl (List.length_eq_zero_iff.1 (by omega))
      by_cases hmn : m < n
      · have c2 : decide ((m : Int) < (n : Int)) = true := decide_eq_true (by omega)
        obtain ⟨hYb, hYs⟩ : Y.length = bs ∧ Srt ltC Y := by
          rcases hYsh with rfl | h
          · simp at hlen; omega
          · exact h
        have hsx : Short Y := fun c hc => hs c (hP.mem_iff.1 (by simp [hc]))
        have hsy : Short W := fun c hc => hs c (hP.mem_iff.1 (by simp [hc]))
        obtain ⟨M, g1, g2, hI⟩ := ev_symMerge (Y.length + W.length) Z Y W [] a m n (Nat.le_refl _) (by omega) (by omega) ha (by omega) (by omega) (by simp; omega) hsx hsy hYs hWs
        rw [List.append_nil, List.append_nil] at hI
        have gl := g2.length_eq
        rw [List.length_append] at gl
        obtain ⟨r, hr, hq⟩ := H3.out ⟨bs2, 0, Z, M⟩ ⟨by simp only; omega, hZ, (g2.append_left Z).trans hP, by simp only; omega, g1⟩ (by simp only; omega)
        have hQ := HQ.out r hq
        clear hb0 hZ hY hP hW hWs hn hl hlen hc hbs2 hsx hsy g1 g2 gl hq hYsh hYb hYs hYl hm hmn ha H3 H4 HQ
        repeat' (first | with_reducible refine br_split (fun _ => ?_) (fun _ => ?_) | simp only [*, push_cast, Array.reduceGetElem?, Nat.reduceBEq, Nat.reduceLT, Nat.reduceAdd, Nat.reduceSub, Nat.reduceLeDiff, Nat.reduceMul, Nat.reduceEqDiff, reduceCtorEq, Int.reduceAdd, Int.reduceLT, Int.reduceLE, Int.reduceToNat, Int.reduceNeg, Int.reduceSub, Int.reduceBEq, Int.reduceBNe, Int.reduceNe, Int.reduceGT, Int.reduceGE, Nat.reduceGT] | (rw [drawC_ok]; rotate_left; decide +kernel; exact cfg_mixed))
      · have c2 : decide ((m : Int) < (n : Int)) = false := decide_eq_false (by omega)
        have hYW : Srt ltC (Y ++ W) := by
          rcases hYsh with rfl | ⟨h1, h2⟩
          · exact hWs
          · rw [List.length_eq_zero_iff.1 (show W.length = 0 by omega), List.append_nil]; exact h2
        obtain ⟨r, hr, hq⟩ := H3.out ⟨bs2, 0, Z, Y ++ W⟩ ⟨by simp only; omega, hZ, hP, by simp only [List.length_append]; omega, hYW⟩ (by simp only; omega)
        have hQ := HQ.out r hq
        clear hb0 hZ hY hP hW hWs hn hl hlen hc hbs2 hq hYsh hYl hm hmn ha H3 H4 HQ hYW
        repeat' (first | with_reducible refine br_split (fun _ => ?_) (fun _ => ?_) | simp only [*, push_cast, Array.reduceGetElem?, Nat.reduceBEq, Nat.reduceLT, Nat.reduceAdd, Nat.reduceSub, Nat.reduceLeDiff, Nat.reduceMul, Nat.reduceEqDiff, reduceCtorEq, Int.reduceAdd, Int.reduceLT, Int.reduceLE, Int.reduceToNat, Int.reduceNeg, Int.reduceSub, Int.reduceBEq, Int.reduceBNe, Int.reduceNe, Int.reduceGT, Int.reduceGE, Nat.reduceGT] | (rw [drawC_ok]; rotate_left; decide +kernel; exact cfg_mixed))
    · refine ⟨_, ?_, Z ++ W, ?_, hP, rfl⟩
      · have c1 : decide ((bs : Int) < (n : Int)) = false := decide_eq_false (by omega)
        clear ih hb0 hZ hP hW hWs hn hl hlen hc
        repeat' (first | with_reducible refine br_split (fun _ => ?_) (fun _ => ?_) | simp only [*, push_cast, Array.reduceGetElem?, Nat.reduceBEq, Nat.reduceLT, Nat.reduceAdd, Nat.reduceSub, Nat.reduceLeDiff, Nat.reduceMul, Nat.reduceEqDiff, reduceCtorEq, Int.reduceAdd, Int.reduceLT, Int.reduceLE, Int.reduceToNat, Int.reduceNeg, Int.reduceSub, Int.reduceBEq, Int.reduceBNe, Int.reduceNe, Int.reduceGT, Int.reduceGE, Nat.reduceGT] | (rw [drawC_ok]; rotate_left; decide +kernel; exact cfg_mixed))
      · by_cases h0 : 0 < Z.length
        · obtain ⟨x, Z', rfl, hx, hxs, hZ'⟩ := hZ.first h0
          rw [List.length_append] at hlen
          rw [hZ'.short (by omega), List.append_nil, List.length_eq_zero_iff.1 (show W.length = 0 by omega), List.append_nil]
          exact hxs
        · rw [List.length_eq_zero_iff.1 (show Z.length = 0 by omega)]; exact hWs
  obtain ⟨_, rfl, M, k1, k2, rfl⟩ := key
  clear hE H2
  have k3 := HQ.out _ ⟨M, k1, k2, rfl⟩
  clear HQ
  repeat' (first | with_reducible refine br_split (fun _ => ?_) (fun _ => ?_) | simp only [*, push_cast, Array.reduceGetElem?, Nat.reduceBEq, Nat.reduceLT, Nat.reduceAdd, Nat.reduceSub, Nat.reduceLeDiff, Nat.reduceMul, Nat.reduceEqDiff, reduceCtorEq, Int.reduceAdd, Int.reduceLT, Int.reduceLE, Int.reduceToNat, Int.reduceNeg, Int.reduceSub, Int.reduceBEq, Int.reduceBNe, Int.reduceNe, Int.reduceGT, Int.reduceGE, Nat.reduceGT] | (rw [drawC_ok]; rotate_left; decide +kernel; exact cfg_mixed))
end Go.Av
end

section
namespace Go.Av
open Go.Proofs
set_option linter.unusedSimpArgs false
theorem ev_sortStable (L : List C) (hl : L.length ≤ 1048576) (hs : Short L) :
    ∃ r, evF cfg 96 [(0, .arr .any 2 (L.map cC))] [.own 0, .clo 97 []] = some r ∧
      ∃ M, Srt ltC M ∧ M.Perm L ∧ r = (.tup [], [(0, .arr .any 2 (M.map cC))]) := by
  obtain ⟨_, h, M, h1, h2, rfl⟩ := ev_stable L L.length rfl hl hs
  refine ⟨_, ?_, M, h1, h2, rfl⟩
  clear h1 h2 hl hs
  (refine (evF_code (C := cfg) (g := 96) (fn := Try.f96) rfl Try.func96 rfl (by rw [Try.ntmps96]; simp) (by kernel_rfl) (by first | decide | simp [keysOf])).trans ?_; rw [Try.results96, Try.ntmps96])
  repeat' (first | with_reducible refine br_split (fun _ => ?_) (fun _ => ?_) | simp only [*, push_cast, Array.reduceGetElem?, Nat.reduceBEq, Nat.reduceLT, Nat.reduceAdd, Nat.reduceSub, Nat.reduceLeDiff, Nat.reduceMul, Nat.reduceEqDiff, reduceCtorEq, Int.reduceAdd, Int.reduceLT, Int.reduceLE, Int.reduceToNat, Int.reduceNeg, Int.reduceSub, Int.reduceBEq, Int.reduceBNe, Int.reduceNe, Int.reduceGT, Int.reduceGE, Nat.reduceGT] | (rw [drawC_ok]; rotate_left; decide +kernel; exact cfg_mixed))
theorem gathA_stop (r : List V) (acc : Int) {l : List C} (h : ∀ c l', l = c :: l' → c.row ≠ r) : gathA r acc l = (if acc = 0 then [] else [⟨r, acc⟩]) ++ gath l := by
  cases l with
  | nil => simp only [gathA, gath, List.append_nil]
  | cons c l => simp only [gathA, if_neg (h c l rfl), gath]
theorem gathA_go (r : List V) (acc : Int) {l : List C} {c : C} (h : c.row = r) : gathA r acc (c :: l) = gathA r (w64 (acc + c.n)) l := by
  simp only [gathA, if_pos h]
structure S2 where
  j : Nat
  acc : Int
structure S3 where
  i : Nat
  A : List C
theorem canOk_topA (w : Int) (f : Nat → C → List T) (l : List C) (h : ∀ k x, Nm [k] (tkCs (f k x))) : canOk (.agg [.d (.i .i64 w), .d (.sl (.tok [l.length]) (l.mapIdx f))]) [] := by
  have := canOk_top f l h
  simpa [canOk, tkTV, tkL, tkT, tkO, flatTV, flatL, arrO, keysOf] using this
set_option maxHeartbeats 2000000 in
theorem ev_gathered (w : Int) (L : List C) (hl : L.length ≤ 1048576) (hs : Short L) :
    ∃ M, Srt ltC M ∧ M.Perm L ∧ evF cfg 70 [] [.d (.i .i64 w), .d (.sl .any (L.map cC))] = some (.agg [.d (.i .i64 w), .d (.sl (.tok [0, 1]) (cnEs [0, 1] 0 ((gath M).map cC)))], []) := by
  obtain ⟨_, hS, M, h1, h2, rfl⟩ := ev_sortStable L hl hs
  refine ⟨M, h1, h2, ?_⟩
  have hln := len_ok (n := L.length) 32 (by omega) (by omega)
  have hcan := canOk_topA w (cZ fun i => [i]) (gath M) (cZ_nm fun i => ⟨[], rfl⟩)
  have HC := Hd.mk hcan
  clear hcan
  have H := Hd.mk (And.intro (show M.length ≤ 1048576 by rw [h2.length_eq]; exact hl) (fun c hc => hs c (h2.mem_iff.1 hc)))
  clear h1 h2 hl hs
  (refine (evF_codeZ (C := cfg) (g := 70) (fn := Try.f70) rfl Try.func70 rfl (by rw [Try.ntmps70]; simp) (by kernel_rfl)).trans ?_; rw [Try.results70, Try.ntmps70])
  repeat' (first | with_reducible refine br_split (fun _ => ?_) (fun _ => ?_) | simp only [*, push_cast, Array.reduceGetElem?, Nat.reduceBEq, Nat.reduceLT, Nat.reduceAdd, Nat.reduceSub, Nat.reduceLeDiff, Nat.reduceMul, Nat.reduceEqDiff, reduceCtorEq, Int.reduceAdd, Int.reduceLT, Int.reduceLE, Int.reduceToNat, Int.reduceNeg, Int.reduceSub, Int.reduceBEq, Int.reduceBNe, Int.reduceNe, Int.reduceGT, Int.reduceGE, Nat.reduceGT] | (rw [drawC_ok]; rotate_left; decide +kernel; exact cfg_mixed))
  clear hS hln
  generalize hE : evM cfg _ _ _ _ _ = R
  have key : ∃ r, R = some r ∧ r = (Exit.exit 0, { t := [(4, .ptr 50 0), (6, .ptr 51 0)], o := [(50, .box [.d (.i .i64 0), .nl]), (51, .box [.d (.i .i64 w), .own 52]), (52, .arr .any 2 ((gath M).mapIdx (cZ fun i => [i])))], ks := [50, 51, 52], n := 0, sz := 67, u := noU, g := some ((gath M).length, false) }) := by
    rw [← hE]
    refine evM_ex (α := S3) (fun z => { t := [(4, .ptr 50 0), (5, .own 51), (6, .ptr 52 0), (7, .d (.i .i64 (z.i : Nat)))], o := [(50, .box [.d (.i .i64 0), .nl]), (51, .arr .any 2 (M.map cC)), (52, .box [.d (.i .i64 w), .own 53]), (53, .arr .any 2 (z.A.mapIdx (cZ fun i => [i])))], ks := [50, 51, 52, 53], n := 0, sz := 67, u := noU, g := some (z.A.length, false) })
      (fun z r => r = (Exit.exit 0, { t := [(4, .ptr 50 0), (6, .ptr 51 0)], o := [(50, .box [.d (.i .i64 0), .nl]), (51, .box [.d (.i .i64 w), .own 52]), (52, .arr .any 2 ((gath M).mapIdx (cZ fun i => [i])))], ks := [50, 51, 52], n := 0, sz := 67, u := noU, g := some ((gath M).length, false) }))
      (fun z => z.i ≤ M.length ∧ z.A ++ gath (M.drop z.i) = gath M ∧ z.A.length ≤ z.i) (fun z => M.length - z.i) ?_ ⟨0, []⟩ ⟨Nat.zero_le _, rfl, Nat.le_refl _⟩
    clear hE R
    rintro ⟨i, A⟩ ⟨hi, hA, hAl⟩ ih
    simp only at hi hA hAl ih ⊢
    obtain ⟨hl, hs⟩ := H.out
    by_cases hc : i < M.length
    · have H2 := Hd.mk (And.intro hi (And.intro hA (And.intro hAl ih)))
      have g1 := cC_get (List.getElem?_eq_getElem hc)
      have d1 := dec_lt hc
      have d2 := dec_ltN hc
      have l1 := len_ok (n := M[i].row.length) 32 (by have := hs _ (List.getElem_mem hc); omega) (by omega)
      clear hi hA hAl ih hl hs
      refine exQ fun Q hQ => ?_
      have HQ := Hd.mk hQ; clear hQ
      repeat' (first | with_reducible refine br_split (fun _ => ?_) (fun _ => ?_) | simp only [*, push_cast, Array.reduceGetElem?, Nat.reduceBEq, Nat.reduceLT, Nat.reduceAdd, Nat.reduceSub, Nat.reduceLeDiff, Nat.reduceMul, Nat.reduceEqDiff, reduceCtorEq, Int.reduceAdd, Int.reduceLT, Int.reduceLE, Int.reduceToNat, Int.reduceNeg, Int.reduceSub, Int.reduceBEq, Int.reduceBNe, Int.reduceNe, Int.reduceGT, Int.reduceGE, Nat.reduceGT] | (rw [drawC_ok]; rotate_left; decide +kernel; exact cfg_mixed))
      generalize hE : evM cfg _ _ _ _ _ = R
      have key : ∃ r, R = some r ∧ ∃ j acc, i < j ∧ j ≤ M.length ∧ gathA M[i].row (w64 (0 + M[i].n)) (M.drop (i + 1)) = (if acc = 0 then [] else [⟨M[i].row, acc⟩]) ++ gath (M.drop j) ∧
          r = (Exit.exit 2, { t := [(4, .ptr 50 0), (5, .own 51), (6, .ptr 52 0), (7, .d (.i .i64 (j : Nat))), (8, .ptr 53 0)], o := [(50, .box [.d (.i .i64 0), .nl]), (51, .arr .any 2 (M.map cC)), (52, .box [.d (.i .i64 w), .own 54]), (53, .box [.own 55, .d (.i .i64 acc)]), (54, .arr .any 2 (A.mapIdx (cZ fun i => [i]))), (55, .arr .any 3 (M[i].row.map vC))], ks := [50, 51, 52, 53, 54, 55], n := 0, sz := 67, u := noU, g := some (A.length, false) }) := by
        rw [← hE]
        clear hE R HQ Q l1 d2 d1
        refine evM_ex (α := S2) (fun z => { t := [(4, .ptr 50 0), (5, .own 51), (6, .ptr 52 0), (7, .d (.i .i64 (z.j : Nat))), (8, .ptr 53 0), (9, .d (.i .i64 i))], o := [(50, .box [.d (.i .i64 0), .nl]), (51, .arr .any 2 (M.map cC)), (52, .box [.d (.i .i64 w), .own 54]), (53, .box [.own 55, .d (.i .i64 z.acc)]), (54, .arr .any 2 (A.mapIdx (cZ fun i => [i]))), (55, .arr .any 3 (M[i].row.map vC))], ks := [50, 51, 52, 53, 54, 55], n := 0, sz := 67, u := noU, g := some (A.length, false) })
          (fun z r => ∃ j acc, i < j ∧ j ≤ M.length ∧ gathA M[i].row (w64 (0 + M[i].n)) (M.drop (i + 1)) = (if acc = 0 then [] else [⟨M[i].row, acc⟩]) ++ gath (M.drop j) ∧
          r = (Exit.exit 2, { t := [(4, .ptr 50 0), (5, .own 51), (6, .ptr 52 0), (7, .d (.i .i64 (j : Nat))), (8, .ptr 53 0)], o := [(50, .box [.d (.i .i64 0), .nl]), (51, .arr .any 2 (M.map cC)), (52, .box [.d (.i .i64 w), .own 54]), (53, .box [.own 55, .d (.i .i64 acc)]), (54, .arr .any 2 (A.mapIdx (cZ fun i => [i]))), (55, .arr .any 3 (M[i].row.map vC))], ks := [50, 51, 52, 53, 54, 55], n := 0, sz := 67, u := noU, g := some (A.length, false) }))
          (fun z => i ≤ z.j ∧ z.j ≤ M.length ∧ gathA M[i].row (w64 (0 + M[i].n)) (M.drop (i + 1)) = gathA M[i].row z.acc (M.drop z.j)) (fun z => M.length - z.j) ?_ ⟨i, 0⟩ ⟨Nat.le_refl _, Nat.le_of_lt hc, ?_⟩
        rotate_left
        · show _ = gathA _ 0 (M.drop i)
          rw [List.drop_eq_getElem_cons hc, gathA_go _ _ rfl]
        rintro ⟨j, acc⟩ ⟨hij, hj, hG⟩ ih
        simp only at hij hj hG ih ⊢
        obtain ⟨hl, hs⟩ := H.out
        by_cases hc2 : j < M.length
        · have g2 := cC_get (List.getElem?_eq_getElem hc2)
          have d3 := dec_lt hc2
          have d4 := dec_ltN hc2
          have d5 := dec_ltN hc
          have hcm := ev_CompareRow M[j].row M[i].row (by have := hs _ (List.getElem_mem hc2); omega)
          rw [List.drop_eq_getElem_cons hc2] at hG
          by_cases he : M[j].row = M[i].row
          · have e0 : (cmpRow M[j].row M[i].row == 0) = true := beq_iff_eq.2 ((cmpRow_ord.eq _ _).2 he)
            obtain ⟨j1, hj1⟩ : ∃ j1, j1 = j + 1 := ⟨_, rfl⟩
            have w1 : IntKind.i64.wrap ((j : Int) + 1) = (j1 : Int) := by rw [wrap_succ (by omega), hj1]; rfl
            obtain ⟨r, hr, hq⟩ := ih ⟨j1, w64 (acc + M[j].n)⟩ ⟨by simp only; omega, by simp only; omega, by rw [hG, gathA_go _ _ he, hj1]⟩ (by simp only; omega)
            refine ⟨r, ?_, hq⟩
            clear ih hq hij hj hG hl hs he H2 hj1
            repeat' (first | with_reducible refine br_split (fun _ => ?_) (fun _ => ?_) | simp only [*, push_cast, Array.reduceGetElem?, Nat.reduceBEq, Nat.reduceLT, Nat.reduceAdd, Nat.reduceSub, Nat.reduceLeDiff, Nat.reduceMul, Nat.reduceEqDiff, reduceCtorEq, Int.reduceAdd, Int.reduceLT, Int.reduceLE, Int.reduceToNat, Int.reduceNeg, Int.reduceSub, Int.reduceBEq, Int.reduceBNe, Int.reduceNe, Int.reduceGT, Int.reduceGE, Nat.reduceGT] | (rw [drawC_ok]; rotate_left; decide +kernel; exact cfg_mixed))
          · have e0 : (cmpRow M[j].row M[i].row == 0) = false := beq_eq_false_iff_ne.2 fun h => he ((cmpRow_ord.eq _ _).1 h)
            refine ⟨_, ?_, j, acc, ?_, hj, ?_, rfl⟩
            · clear ih hij hj hG hl hs he H2
              repeat' (first | with_reducible refine br_split (fun _ => ?_) (fun _ => ?_) | simp only [*, push_cast, Array.reduceGetElem?, Nat.reduceBEq, Nat.reduceLT, Nat.reduceAdd, Nat.reduceSub, Nat.reduceLeDiff, Nat.reduceMul, Nat.reduceEqDiff, reduceCtorEq, Int.reduceAdd, Int.reduceLT, Int.reduceLE, Int.reduceToNat, Int.reduceNeg, Int.reduceSub, Int.reduceBEq, Int.reduceBNe, Int.reduceNe, Int.reduceGT, Int.reduceGE, Nat.reduceGT] | (rw [drawC_ok]; rotate_left; decide +kernel; exact cfg_mixed))
            · rcases Nat.lt_or_ge i j with h | h
              · exact h
              · exact absurd (by simp only [show j = i by omega]) he
            · rw [hG, gathA_stop _ _ (fun c l' h => by cases h; exact he), ← List.drop_eq_getElem_cons hc2]
        · have d3 : decide ((j : Int) < (M.length : Int)) = false := decide_eq_false (by omega)
          refine ⟨_, ?_, j, acc, by omega, hj, ?_, rfl⟩
          · clear ih hij hj hG hl hs H2
            repeat' (first | with_reducible refine br_split (fun _ => ?_) (fun _ => ?_) | simp only [*, push_cast, Array.reduceGetElem?, Nat.reduceBEq, Nat.reduceLT, Nat.reduceAdd, Nat.reduceSub, Nat.reduceLeDiff, Nat.reduceMul, Nat.reduceEqDiff, reduceCtorEq, Int.reduceAdd, Int.reduceLT, Int.reduceLE, Int.reduceToNat, Int.reduceNeg, Int.reduceSub, Int.reduceBEq, Int.reduceBNe, Int.reduceNe, Int.reduceGT, Int.reduceGE, Nat.reduceGT] | (rw [drawC_ok]; rotate_left; decide +kernel; exact cfg_mixed))
          · rw [hG, List.drop_eq_nil_of_le (by omega), gathA_stop _ _ (fun c l' h => by cases h)]
      obtain ⟨_, rfl, j, acc, hij, hj, hG, rfl⟩ := key
      clear hE l1 d2 d1
      obtain ⟨hi, hA, hAl, ih⟩ := H2.out
      clear H2
      have hA2 : A ++ ((if acc = 0 then [] else [⟨M[i].row, acc⟩]) ++ gath (M.drop j)) = gath M := by
        rw [← hG, ← hA, List.drop_eq_getElem_cons hc]; rfl
      have hQ := HQ.out _ rfl
      clear HQ
      by_cases h0 : acc = 0
      · subst h0
        obtain ⟨r, hr, rfl⟩ := ih ⟨j, A⟩ ⟨hj, by simpa using hA2, by simp only; omega⟩ (by simp only; omega)
        clear ih hi hA hAl hij hj hG hA2 g1 H
        repeat' (first | with_reducible refine br_split (fun _ => ?_) (fun _ => ?_) | simp only [*, push_cast, Array.reduceGetElem?, Nat.reduceBEq, Nat.reduceLT, Nat.reduceAdd, Nat.reduceSub, Nat.reduceLeDiff, Nat.reduceMul, Nat.reduceEqDiff, reduceCtorEq, Int.reduceAdd, Int.reduceLT, Int.reduceLE, Int.reduceToNat, Int.reduceNeg, Int.reduceSub, Int.reduceBEq, Int.reduceBNe, Int.reduceNe, Int.reduceGT, Int.reduceGE, Nat.reduceGT] | (rw [drawC_ok]; rotate_left; decide +kernel; exact cfg_mixed))
      · have e0 : (acc != 0) = true := bne_iff_ne.2 h0
        rw [if_neg h0] at hA2
        obtain ⟨r, hr, rfl⟩ := ih ⟨j, A ++ [⟨M[i].row, acc⟩]⟩ ⟨hj, by rw [← hA2]; simp only [List.append_assoc], by simp only [List.length_append, List.length_singleton]; omega⟩ (by simp only; omega)
        rw [show (A ++ [(⟨M[i].row, acc⟩ : C)]).mapIdx (cZ fun i => [i]) = A.mapIdx (cZ fun i => [i]) ++ [[.sl (.tok [A.length]) (M[i].row.map vC), .i .i64 acc]] by rw [List.mapIdx_concat]; rfl, List.length_append, List.length_singleton] at hr
        have hln := len_ok (n := A.length + 1) 32 (by have := H.out.1; omega) (by omega)
        have hln2 : (A.mapIdx (cZ fun i => [i])).length = A.length := by simp
        clear ih hi hA hAl hij hj hG hA2 g1 H h0
        repeat' (first | with_reducible refine br_split (fun _ => ?_) (fun _ => ?_) | simp only [*, push_cast, Array.reduceGetElem?, Nat.reduceBEq, Nat.reduceLT, Nat.reduceAdd, Nat.reduceSub, Nat.reduceLeDiff, Nat.reduceMul, Nat.reduceEqDiff, reduceCtorEq, Int.reduceAdd, Int.reduceLT, Int.reduceLE, Int.reduceToNat, Int.reduceNeg, Int.reduceSub, Int.reduceBEq, Int.reduceBNe, Int.reduceNe, Int.reduceGT, Int.reduceGE, Nat.reduceGT] | (rw [drawC_ok]; rotate_left; decide +kernel; exact cfg_mixed))
    · have d1 : decide ((i : Int) < (M.length : Int)) = false := decide_eq_false (by omega)
      rw [List.drop_eq_nil_of_le (by omega)] at hA
      have hA3 : A = gath M := by rw [← hA]; simp [gath]
      subst hA3
      refine ⟨_, ?_, rfl⟩
      clear ih hi hA hAl hl hs hc
      repeat' (first | with_reducible refine br_split (fun _ => ?_) (fun _ => ?_) | simp only [*, push_cast, Array.reduceGetElem?, Nat.reduceBEq, Nat.reduceLT, Nat.reduceAdd, Nat.reduceSub, Nat.reduceLeDiff, Nat.reduceMul, Nat.reduceEqDiff, reduceCtorEq, Int.reduceAdd, Int.reduceLT, Int.reduceLE, Int.reduceToNat, Int.reduceNeg, Int.reduceSub, Int.reduceBEq, Int.reduceBNe, Int.reduceNe, Int.reduceGT, Int.reduceGE, Nat.reduceGT] | (rw [drawC_ok]; rotate_left; decide +kernel; exact cfg_mixed))
  obtain ⟨_, rfl, rfl⟩ := key
  clear hE
  have hcan := HC.out
  repeat' (first | with_reducible refine br_split (fun _ => ?_) (fun _ => ?_) | simp only [*, push_cast, Array.reduceGetElem?, Nat.reduceBEq, Nat.reduceLT, Nat.reduceAdd, Nat.reduceSub, Nat.reduceLeDiff, Nat.reduceMul, Nat.reduceEqDiff, reduceCtorEq, Int.reduceAdd, Int.reduceLT, Int.reduceLE, Int.reduceToNat, Int.reduceNeg, Int.reduceSub, Int.reduceBEq, Int.reduceBNe, Int.reduceNe, Int.reduceGT, Int.reduceGE, Nat.reduceGT] | (rw [drawC_ok]; rotate_left; decide +kernel; exact cfg_mixed))
/-- gathered: rows ascending, each as often as all of its kind. -/
theorem ev_gathered_norm (w : Int) (L : List C) (hl : L.length ≤ 1048576) (hs : Short L) (hw : ∀ c ∈ L, w64 c.n = c.n) :
    evF cfg 70 [] [.d (.i .i64 w), .d (.sl .any (L.map cC))] = some (.agg [.d (.i .i64 w), .d (.sl (.tok [0, 1]) (cnEs [0, 1] 0 ((norm L).map cC)))], []) := by
  obtain ⟨M, h1, h2, h3⟩ := ev_gathered w L hl hs
  rw [h3, gath_sorted h2 (srt_sortedR h1) hw]
end Go.Av
end

section
namespace Go.Av
open Go.Proofs
set_option linter.unusedSimpArgs false
theorem ev_Concat (A B : List C) (hA : A.length ≤ 1048576) (hB : B.length ≤ 1048576) : evF cfg 91 [] [.d (.sl .any [[.sl .any (A.map cC)], [.sl .any (B.map cC)]])] =
    some (.d (.sl .any ((A ++ B).map cC)), []) := by
  have w1 : IntKind.i64.wrap (0 + (A.length : Int)) = (A.length : Int) := by rw [i64_in (by omega) (by omega)]; omega
  have w2 : IntKind.i64.wrap ((A.length : Int) + (B.length : Int)) = (A.length : Int) + (B.length : Int) := i64_in (by omega) (by omega)
  have w3 : IntKind.i64.wrap (0 + 1) = 1 := by rw [i64_in (by omega) (by omega)]; rfl
  have w4 : IntKind.i64.wrap (1 + 1) = 2 := by rw [i64_in (by omega) (by omega)]; rfl
  have d1 : decide ((A.length : Int) < 0) = false := decide_eq_false (by omega)
  have d2 : decide ((A.length : Int) + (B.length : Int) < 0) = false := decide_eq_false (by omega)
  have d3 : decide (0 ≤ (A.length : Int) + (B.length : Int) ∧ ((A.length : Int) + (B.length : Int)) * 32 ≤ 140737488355328 ∧ (A.length : Int) + (B.length : Int) ≤ 4294967296) = true := decide_eq_true ⟨by omega, by omega, by omega⟩
  have l1 := len_ok (n := A.length) 32 (by omega) (by omega)
  have l2 := len_ok (n := A.length + B.length) 32 (by omega) (by omega)
  clear hA hB
  (refine (evF_code (C := cfg) (g := 91) (fn := Try.f91) rfl Try.func91 rfl (by rw [Try.ntmps91]; simp) (by kernel_rfl) (by first | decide | simp [keysOf])).trans ?_; rw [Try.results91, Try.ntmps91])
  repeat' (first | with_reducible refine br_split (fun _ => ?_) (fun _ => ?_) | simp only [*, push_cast, Array.reduceGetElem?, Nat.reduceBEq, Nat.reduceLT, Nat.reduceAdd, Nat.reduceSub, Nat.reduceLeDiff, Nat.reduceMul, Nat.reduceEqDiff, reduceCtorEq, Int.reduceAdd, Int.reduceLT, Int.reduceLE, Int.reduceToNat, Int.reduceNeg, Int.reduceSub, Int.reduceBEq, Int.reduceBNe, Int.reduceNe, Int.reduceGT, Int.reduceGE, Nat.reduceGT] | (rw [drawC_ok]; rotate_left; decide +kernel; exact cfg_mixed))
  rw [evM_eq]
  repeat' (first | with_reducible refine br_split (fun _ => ?_) (fun _ => ?_) | simp only [*, push_cast, Array.reduceGetElem?, Nat.reduceBEq, Nat.reduceLT, Nat.reduceAdd, Nat.reduceSub, Nat.reduceLeDiff, Nat.reduceMul, Nat.reduceEqDiff, reduceCtorEq, Int.reduceAdd, Int.reduceLT, Int.reduceLE, Int.reduceToNat, Int.reduceNeg, Int.reduceSub, Int.reduceBEq, Int.reduceBNe, Int.reduceNe, Int.reduceGT, Int.reduceGE, Nat.reduceGT] | (rw [drawC_ok]; rotate_left; decide +kernel; exact cfg_mixed))
  rw [evM_eq]
  repeat' (first | with_reducible refine br_split (fun _ => ?_) (fun _ => ?_) | simp only [*, push_cast, Array.reduceGetElem?, Nat.reduceBEq, Nat.reduceLT, Nat.reduceAdd, Nat.reduceSub, Nat.reduceLeDiff, Nat.reduceMul, Nat.reduceEqDiff, reduceCtorEq, Int.reduceAdd, Int.reduceLT, Int.reduceLE, Int.reduceToNat, Int.reduceNeg, Int.reduceSub, Int.reduceBEq, Int.reduceBNe, Int.reduceNe, Int.reduceGT, Int.reduceGE, Nat.reduceGT] | (rw [drawC_ok]; rotate_left; decide +kernel; exact cfg_mixed))
  rw [evM_eq]
  repeat' (first | with_reducible refine br_split (fun _ => ?_) (fun _ => ?_) | simp only [*, push_cast, Array.reduceGetElem?, Nat.reduceBEq, Nat.reduceLT, Nat.reduceAdd, Nat.reduceSub, Nat.reduceLeDiff, Nat.reduceMul, Nat.reduceEqDiff, reduceCtorEq, Int.reduceAdd, Int.reduceLT, Int.reduceLE, Int.reduceToNat, Int.reduceNeg, Int.reduceSub, Int.reduceBEq, Int.reduceBNe, Int.reduceNe, Int.reduceGT, Int.reduceGE, Nat.reduceGT] | (rw [drawC_ok]; rotate_left; decide +kernel; exact cfg_mixed))
  rw [evM_eq]
  repeat' (first | with_reducible refine br_split (fun _ => ?_) (fun _ => ?_) | simp only [*, push_cast, Array.reduceGetElem?, Nat.reduceBEq, Nat.reduceLT, Nat.reduceAdd, Nat.reduceSub, Nat.reduceLeDiff, Nat.reduceMul, Nat.reduceEqDiff, reduceCtorEq, Int.reduceAdd, Int.reduceLT, Int.reduceLE, Int.reduceToNat, Int.reduceNeg, Int.reduceSub, Int.reduceBEq, Int.reduceBNe, Int.reduceNe, Int.reduceGT, Int.reduceGE, Nat.reduceGT] | (rw [drawC_ok]; rotate_left; decide +kernel; exact cfg_mixed))
  rw [evM_eq]
  repeat' (first | with_reducible refine br_split (fun _ => ?_) (fun _ => ?_) | simp only [*, push_cast, Array.reduceGetElem?, Nat.reduceBEq, Nat.reduceLT, Nat.reduceAdd, Nat.reduceSub, Nat.reduceLeDiff, Nat.reduceMul, Nat.reduceEqDiff, reduceCtorEq, Int.reduceAdd, Int.reduceLT, Int.reduceLE, Int.reduceToNat, Int.reduceNeg, Int.reduceSub, Int.reduceBEq, Int.reduceBNe, Int.reduceNe, Int.reduceGT, Int.reduceGE, Nat.reduceGT] | (rw [drawC_ok]; rotate_left; decide +kernel; exact cfg_mixed))
  rw [evM_eq]
  repeat' (first | with_reducible refine br_split (fun _ => ?_) (fun _ => ?_) | simp only [*, push_cast, Array.reduceGetElem?, Nat.reduceBEq, Nat.reduceLT, Nat.reduceAdd, Nat.reduceSub, Nat.reduceLeDiff, Nat.reduceMul, Nat.reduceEqDiff, reduceCtorEq, Int.reduceAdd, Int.reduceLT, Int.reduceLE, Int.reduceToNat, Int.reduceNeg, Int.reduceSub, Int.reduceBEq, Int.reduceBNe, Int.reduceNe, Int.reduceGT, Int.reduceGE, Nat.reduceGT] | (rw [drawC_ok]; rotate_left; decide +kernel; exact cfg_mixed))
  rw [List.map_append]
end Go.Av
end
