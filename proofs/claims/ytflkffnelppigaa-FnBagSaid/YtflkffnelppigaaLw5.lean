/- What functions of this seat give. -/
import Derived.Test.YtflkffnelppigaaGr
import Derived.Test.YtflkffnelppigaaGp
import Derived.Test.YtflkffnelppigaaGc
import Derived.Test.YtflkffnelppigaaGo
import Derived.Test.YtflkffnelppigaaRows
import Derived.Test.YtflkffnelppigaaAvE
import Derived.WalkKit
import Derived.ProofKit
import Derived.OpenShut
import Derived.ShutString
import Derived.ChangeOld
import Derived.Below
import Derived.SizedLaws
set_option linter.all false
set_option linter.unusedVariables false
set_option linter.unusedSimpArgs false

section
namespace Go.Av
open Go.Proofs
set_option linter.unusedSimpArgs false
theorem AnyP.rowB {w : Int} {rows : List C} (h : AnyP w rows) : ∀ c ∈ rows, c.row.length ≤ 1048576 := fun c hc => by have := (h.row c hc).1; omega
theorem BagP.rowB {w : Int} {rows : List C} (hw : w ≤ 3) (h : BagP w rows 5) : ∀ c ∈ rows, c.row.length ≤ 1048576 := fun c hc => by have := (h.row c hc).1; omega
theorem right_small {b : B} (h1 : b.rows.length ≤ 1048576) (h2 : ∀ c ∈ b.rows, c.row.length ≤ 1048576) : (right b).rows.length ≤ 1048576 ∧ ∀ c ∈ (right b).rows, c.row.length ≤ 1048576 := by
  unfold right
  split
  · exact ⟨h1, h2⟩
  · exact ⟨Nat.zero_le _, fun c hc => (nomatch hc)⟩
theorem bagOfR_small (w : Int) {rows : List (List V)} (hl : rows.length ≤ 1000) (hr : ∀ r ∈ rows, r.length ≤ 1000) : (bagOfR w rows).rows.length ≤ 1048576 ∧ ∀ c ∈ (bagOfR w rows).rows, c.row.length ≤ 1048576 := by
  refine right_small ?_ (norm_short (rows_short fun r h => Nat.le_trans (hr r h) (by omega)))
  have := norm_len (rows.map fun r => (⟨r, 1⟩ : C))
  rw [List.length_map] at this
  show (norm (rows.map fun r => (⟨r, 1⟩ : C))).length ≤ 1048576
  omega
set_option maxRecDepth 100000 in
set_option maxHeartbeats 4000000 in
theorem ev_FnBag (l : List Int) : evF cfg 6 [] [.d (.sl .any (l.map cuC))] = some (.d (.b true), []) := by
  have hbig := ev_big l
  by_cases hl : (l.length : Int) > 1048576
  · have c1 := decide_eq_true hl
    rw [c1] at hbig
    clear c1 hl
    (refine (evF_code (C := cfg) (g := 6) (fn := Try.f6) rfl Try.func6 rfl (by rw [Try.ntmps6]; simp) (by kernel_rfl) (by first | decide | simp [keysOf])).trans ?_; rw [Try.results6, Try.ntmps6])
    repeat' (first | with_reducible refine br_split (fun _ => ?_) (fun _ => ?_) | simp only [*, push_cast, Array.reduceGetElem?, Nat.reduceBEq, Nat.reduceLT, Nat.reduceAdd, Nat.reduceSub, Nat.reduceLeDiff, Nat.reduceMul, Nat.reduceEqDiff, reduceCtorEq, Int.reduceAdd, Int.reduceLT, Int.reduceLE, Int.reduceToNat, Int.reduceNeg, Int.reduceSub, Int.reduceBEq, Int.reduceBNe, Int.reduceNe, Int.reduceGT, Int.reduceGE, Nat.reduceGT] | (rw [drawC_ok]; rotate_left; decide +kernel; exact cfg_mixed))
  · have c1 := decide_eq_false hl
    rw [c1] at hbig
    clear c1
    have hl : l.length ≤ 1048576 := by omega
    obtain ⟨_, d1, w, wb, ra, rb, ⟨hw3, hB⟩, hA, rfl⟩ := ev_DrawAddBag l hl
    obtain ⟨_, d2, wx, rx, row, hX, hrow, rfl⟩ := ev_DrawCountOf l hl
    obtain ⟨_, d3, wo, ro, ho1, ho2, rfl⟩ := ev_DrawBagOf l hl
    obtain ⟨_, d4, wm, rm, n, hM, rfl⟩ := ev_DrawTimesBag l hl
    obtain ⟨_, d5, p, q, hp, hq, rfl⟩ := ev_DrawCompareRow l hl
    have bB := hB.rowB hw3
    have bA := hA.rowB
    have hlen : ra.length + rb.length ≤ 1048576 := by have := hB.len; have := hA.len; omega
    have a1 := ev_AddBag w wb ra rb hlen bB bA
    have a2 := ev_sAddBag w wb ra rb hlen bB bA
    obtain ⟨s1, s2⟩ := addBag_sm (a := ⟨w, ra⟩) (b := ⟨wb, rb⟩) hlen bB bA
    have x1 := ev_CountOf wx rx row (by have := hX.len; omega) hX.rowB
    have x2 := ev_sCountOf wx rx row (by have := hX.len; omega) hX.rowB
    have o1 := ev_BagOf wo ro (by omega) (fun r h => by have := ho2 r h; omega)
    have o2 := ev_sBagOf wo ro (by omega) (fun r h => by have := ho2 r h; omega)
    obtain ⟨o3, o4⟩ := bagOfR_small wo (rows := ro) (by omega) (fun r h => by have := ho2 r h; omega)
    have t1 := ev_TimesBag wm rm n (by have := hM.len; omega) hM.rowB
    have t2 := ev_sTimesBag wm rm n (by have := hM.len; omega) hM.rowB
    obtain ⟨t3, t4⟩ := timesBag_sm (wt := wm) n (by have := hM.len; omega) hM.rowB
    have z1 := ev_SizeOf wx rx (by have := hX.len; omega)
    have z2 := ev_sSizeOf wx rx (by have := hX.len; omega)
    have p1 := ev_Plain wx rx (by have := hX.len; omega) hX.rowB
    have p2 := ev_sPlain wx rx (by have := hX.len; omega) hX.rowB
    have k1 := ev_BagOk wx rx (by have := hX.len; omega) (fun c hc => by have := hX.rowB c hc; omega)
    have k2 := ev_sBagOk wx rx (by have := hX.len; omega) (fun c hc => by have := hX.rowB c hc; omega)
    have r1 := ev_CompareRow p q (by omega)
    have r2 := ev_sCompareRow p q (by omega)
    have r3 := ev_CompareRow q p (by omega)
    have r4 := cmpRow_wrap p q
    have e0 := ev_sameBag w w (addBag ⟨w, ra⟩ ⟨wb, rb⟩).rows (addBag ⟨w, ra⟩ ⟨wb, rb⟩).rows s1 s2
    have e1 := ev_sameBag wo wo (bagOfR wo ro).rows (bagOfR wo ro).rows o3 o4
    have e2 := ev_sameBag wm wm (timesBag ⟨wm, rm⟩ n).rows (timesBag ⟨wm, rm⟩ n).rows t3 t4
    simp only [decide_true, Bool.and_self] at e0 e1 e2
    have q1 : (cntOf rx row != cntOf rx row) = false := bne_self_eq_false _
    have q2 : (sizR rx != sizR rx) = false := bne_self_eq_false _
    have q3 : (plainB ⟨wx, rx⟩ != plainB ⟨wx, rx⟩) = false := bne_self_eq_false _
    have q4 : (bagOk ⟨wx, rx⟩ != bagOk ⟨wx, rx⟩) = false := bne_self_eq_false _
    have q5 : (cmpRow p q != cmpRow p q) = false := bne_self_eq_false _
    clear hX hrow ho1 ho2 hM hp hq o3 o4 t3 t4
    have H := Hd.mk (And.intro hw3 (And.intro hB hA))
    clear hw3 hB hA bB bA hlen s1 s2
    generalize hS : (addBag ⟨w, ra⟩ ⟨wb, rb⟩).rows = S at *
    generalize (bagOfR wo ro).rows = O at *
    generalize (timesBag ⟨wm, rm⟩ n).rows = TT at *
    generalize cntOf rx row = CX at *
    generalize sizR rx = SX at *
    generalize plainB ⟨wx, rx⟩ = PX at *
    generalize bagOk ⟨wx, rx⟩ = BX at *
    clear hl
    have HS := Hd.mk hS
    clear hS
    (refine (evF_code (C := cfg) (g := 6) (fn := Try.f6) rfl Try.func6 rfl (by rw [Try.ntmps6]; simp) (by kernel_rfl) (by first | decide | simp [keysOf])).trans ?_; rw [Try.results6, Try.ntmps6])
    repeat' (first | with_reducible refine br_split (fun _ => ?_) (fun _ => ?_) | simp only [*, List.append, push_cast, Array.reduceGetElem?, Nat.reduceBEq, Nat.reduceLT, Nat.reduceAdd, Nat.reduceSub, Nat.reduceLeDiff, Nat.reduceMul, Nat.reduceEqDiff, reduceCtorEq, Int.reduceAdd, Int.reduceLT, Int.reduceLE, Int.reduceToNat, Int.reduceNeg, Int.reduceSub, Int.reduceBEq, Int.reduceBNe, Int.reduceNe, Int.reduceGT, Int.reduceGE, Nat.reduceGT] | (rw [drawC_ok]; rotate_left; decide +kernel; exact cfg_mixed))
    obtain ⟨hw3, hB, hA⟩ := H.out
    have hS := HS.out
    clear d1 d2 d3 d4 d5 a1 a2 x1 x2 o1 o2 t1 t2 z1 z2 p1 p2 k1 k2 r1 r2 r3 r4 e0 e1 e2 q1 q2 q3 q4 q5 hbig H HS
    have bB := hB.rowB hw3
    have bA := hA.rowB
    have lB := hB.len
    have lA := hA.len
    have kA := ev_sBagOk w ra (by omega) (fun c hc => by have := bB c hc; omega)
    have kB := ev_sBagOk wb rb (by omega) (fun c hc => by have := bA c hc; omega)
    have sA := ev_sameBag w w ra ra (by omega) bB
    simp only [decide_true, Bool.and_self] at sA
    have H := Hd.mk (And.intro hw3 (And.intro hB hA))
    clear hw3 hB hA bB bA lB lA
    cases hOA : bagOk ⟨w, ra⟩ with
    | false =>
      have hE : S = ra := by rw [← hS]; simp [addBag, hOA]
      subst hE
      rw [hOA] at kA
      clear hOA hS H
      repeat' (first | with_reducible refine br_split (fun _ => ?_) (fun _ => ?_) | simp only [*, push_cast, Array.reduceGetElem?, Nat.reduceBEq, Nat.reduceLT, Nat.reduceAdd, Nat.reduceSub, Nat.reduceLeDiff, Nat.reduceMul, Nat.reduceEqDiff, reduceCtorEq, Int.reduceAdd, Int.reduceLT, Int.reduceLE, Int.reduceToNat, Int.reduceNeg, Int.reduceSub, Int.reduceBEq, Int.reduceBNe, Int.reduceNe, Int.reduceGT, Int.reduceGE, Nat.reduceGT] | (rw [drawC_ok]; rotate_left; decide +kernel; exact cfg_mixed))
    | true =>
      rw [hOA] at kA
      cases hOB : bagOk ⟨wb, rb⟩ with
      | false =>
        have hE : S = ra := by rw [← hS]; simp [addBag, hOB]
        subst hE
        rw [hOB] at kB
        clear hOA hOB hS H
        repeat' (first | with_reducible refine br_split (fun _ => ?_) (fun _ => ?_) | simp only [*, push_cast, Array.reduceGetElem?, Nat.reduceBEq, Nat.reduceLT, Nat.reduceAdd, Nat.reduceSub, Nat.reduceLeDiff, Nat.reduceMul, Nat.reduceEqDiff, reduceCtorEq, Int.reduceAdd, Int.reduceLT, Int.reduceLE, Int.reduceToNat, Int.reduceNeg, Int.reduceSub, Int.reduceBEq, Int.reduceBNe, Int.reduceNe, Int.reduceGT, Int.reduceGE, Nat.reduceGT] | (rw [drawC_ok]; rotate_left; decide +kernel; exact cfg_mixed))
      | true =>
        rw [hOB] at kB
        by_cases hww : w = wb
        · subst hww
          have hw0 : (w != w) = false := bne_self_eq_false _
          obtain ⟨hw3, hB, hA⟩ := H.out
          have bB := hB.rowB hw3
          have bA := hA.rowB
          have lB := hB.len
          have lA := hA.len
          have iA := ev_SizeOf w ra (by omega)
          have iB := ev_SizeOf w rb (by omega)
          have na : ∀ c ∈ ra, -15 ≤ c.n ∧ c.n ≤ 15 := fun c hc => by have := hB.num c hc; omega
          clear H
          cases hOK : bagOk ⟨w, norm (ra ++ rb)⟩ with
          | false =>
            have hE : S = ra := by rw [← hS]; simp [addBag, hOA, hOB, hOK]
            have hne := mild_size hOA hOB lB lA na hA.num hOK
            rw [show w64 (sizR ra + sizR rb) = IntKind.i64.wrap (sizR ra + sizR rb) from rfl] at hne
            subst hE
            clear hOA hOB hOK hS bB bA lB lA na hB hA hw3
            repeat' (first | with_reducible refine br_split (fun _ => ?_) (fun _ => ?_) | simp only [*, push_cast, Array.reduceGetElem?, Nat.reduceBEq, Nat.reduceLT, Nat.reduceAdd, Nat.reduceSub, Nat.reduceLeDiff, Nat.reduceMul, Nat.reduceEqDiff, reduceCtorEq, Int.reduceAdd, Int.reduceLT, Int.reduceLE, Int.reduceToNat, Int.reduceNeg, Int.reduceSub, Int.reduceBEq, Int.reduceBNe, Int.reduceNe, Int.reduceGT, Int.reduceGE, Nat.reduceGT] | (rw [drawC_ok]; rotate_left; decide +kernel; exact cfg_mixed))
          | true =>
            have hE : S = norm (ra ++ rb) := by rw [← hS]; exact addBag_eq hOA hOB hOK
            have f1 : S.length ≤ 11 := by
              have := norm_len (ra ++ rb)
              rw [List.length_append] at this
              rw [hE]; omega
            have f2 : ∀ c ∈ S, c.row.length ≤ 1048576 := by
              rw [hE]
              refine norm_short fun c hc => ?_
              rcases List.mem_append.1 hc with hc | hc
              · exact bB c hc
              · exact bA c hc
            have f3 : ∀ c ∈ S, (c.n != IntKind.i64.wrap (cntOf ra c.row + cntOf rb c.row)) = false := by
              rw [hE]
              intro c hc
              have := norm_both (bagOk_canon hOA) (bagOk_canon hOB) hc
              rw [bne_eq_false_iff_eq]
              exact this
            have hne : (sizR S != IntKind.i64.wrap (sizR ra + sizR rb)) = false := by
              rw [bne_eq_false_iff_eq, hE]
              exact sizR_norm ra rb
            have iS := ev_SizeOf w S (by omega)
            have bS := ev_BagOk w S (by omega) (fun c hc => by have := f2 c hc; omega)
            rw [hE, hOK, ← hE] at bS
            have aBA := ev_AddBag w w rb ra (by omega) bA bB
            rw [addBag_comm hOA hOB hOK, ← hE] at aBA
            have tB := ev_TimesBag w rb (-1) (by omega) bA
            rw [timesBag_neg hOB] at tB
            have aSN := ev_AddBag w w S (rb.map (tRow (-1))) (by rw [List.length_map]; omega) f2 (fun c hc => by
              obtain ⟨d, hd, rfl⟩ := List.mem_map.1 hc
              exact bA d hd)
            rw [hE, addBag_less hOA hOB hOK, ← hE] at aSN
            have sS := ev_sameBag w w S S (by omega) f2
            simp only [decide_true, Bool.and_self] at sS
            have H := Hd.mk (And.intro lB (And.intro lA (And.intro bB (And.intro bA (And.intro f1 (And.intro f2 f3))))))
            clear hOA hOB hOK hS bB bA lB lA na hB hA hw3 f1 f2 f3 hE
            repeat' (first | with_reducible refine br_split (fun _ => ?_) (fun _ => ?_) | simp only [*, push_cast, Array.reduceGetElem?, Nat.reduceBEq, Nat.reduceLT, Nat.reduceAdd, Nat.reduceSub, Nat.reduceLeDiff, Nat.reduceMul, Nat.reduceEqDiff, reduceCtorEq, Int.reduceAdd, Int.reduceLT, Int.reduceLE, Int.reduceToNat, Int.reduceNeg, Int.reduceSub, Int.reduceBEq, Int.reduceBNe, Int.reduceNe, Int.reduceGT, Int.reduceGE, Nat.reduceGT] | (rw [drawC_ok]; rotate_left; decide +kernel; exact cfg_mixed))
            rw [evM_for0 S.length (fun i j => { t := [(3, .ptr 50 0), (4, .ptr 51 0), (5, .ptr 52 0), (16, .d (.i .i64 j))], o := [(50, .box [.d (.i .i64 w), .d (.sl .any (ra.map cC))]), (51, .box [.d (.i .i64 w), .d (.sl .any (rb.map cC))]), (52, .box [.d (.i .i64 w), .d (.sl .any (S.map cC))])], ks := [50, 51, 52], n := 0, sz := 198, u := noU }) (fun i => some (.exit 0, { t := [(3, .ptr 50 0), (4, .ptr 51 0), (5, .ptr 52 0)], o := [(50, .box [.d (.i .i64 w), .d (.sl .any (ra.map cC))]), (51, .box [.d (.i .i64 w), .d (.sl .any (rb.map cC))]), (52, .box [.d (.i .i64 w), .d (.sl .any (S.map cC))])], ks := [50, 51, 52], n := 0, sz := 198, u := noU })) ?step ?last]
            case step =>
              intro i hi ih
              obtain ⟨lB, lA, bB, bA, f1, f2, f3⟩ := H.out
              have hc : (S.map cC)[i]? = some [.sl .any (S[i].row.map vC), .i .i64 S[i].n] := get_map cC S i hi
              have hd := dec_lt hi
              have hdn := dec_ltN hi
              have hw : IntKind.i64.wrap ((i : Int) + 1) = (i : Int) + 1 := wrap_succ (by omega)
              have cA := ev_CountOf w ra S[i].row (by omega) bB
              have cB := ev_CountOf w rb S[i].row (by omega) bA
              have g3 := f3 _ (List.getElem_mem hi)
              clear lB lA bB bA f1 f2 f3 H aSN aBA tB sS sA bS iS iA iB kA kB
              repeat' (first | with_reducible refine br_split (fun _ => ?_) (fun _ => ?_) | simp only [*, push_cast, Array.reduceGetElem?, Nat.reduceBEq, Nat.reduceLT, Nat.reduceAdd, Nat.reduceSub, Nat.reduceLeDiff, Nat.reduceMul, Nat.reduceEqDiff, reduceCtorEq, Int.reduceAdd, Int.reduceLT, Int.reduceLE, Int.reduceToNat, Int.reduceNeg, Int.reduceSub, Int.reduceBEq, Int.reduceBNe, Int.reduceNe, Int.reduceGT, Int.reduceGE, Nat.reduceGT] | (rw [drawC_ok]; rotate_left; decide +kernel; exact cfg_mixed))
            case last =>
              clear H aSN aBA tB sS sA bS iS iA iB kA kB
              repeat' (first | with_reducible refine br_split (fun _ => ?_) (fun _ => ?_) | simp only [*, push_cast, Array.reduceGetElem?, Nat.reduceBEq, Nat.reduceLT, Nat.reduceAdd, Nat.reduceSub, Nat.reduceLeDiff, Nat.reduceMul, Nat.reduceEqDiff, reduceCtorEq, Int.reduceAdd, Int.reduceLT, Int.reduceLE, Int.reduceToNat, Int.reduceNeg, Int.reduceSub, Int.reduceBEq, Int.reduceBNe, Int.reduceNe, Int.reduceGT, Int.reduceGE, Nat.reduceGT] | (rw [drawC_ok]; rotate_left; decide +kernel; exact cfg_mixed))
            clear H
            repeat' (first | with_reducible refine br_split (fun _ => ?_) (fun _ => ?_) | simp only [*, push_cast, Array.reduceGetElem?, Nat.reduceBEq, Nat.reduceLT, Nat.reduceAdd, Nat.reduceSub, Nat.reduceLeDiff, Nat.reduceMul, Nat.reduceEqDiff, reduceCtorEq, Int.reduceAdd, Int.reduceLT, Int.reduceLE, Int.reduceToNat, Int.reduceNeg, Int.reduceSub, Int.reduceBEq, Int.reduceBNe, Int.reduceNe, Int.reduceGT, Int.reduceGE, Nat.reduceGT] | (rw [drawC_ok]; rotate_left; decide +kernel; exact cfg_mixed))
        · have hE : S = ra := by rw [← hS]; simp [addBag, hww]
          have hw0 : (w != wb) = true := by simpa using hww
          subst hE
          clear hOA hOB hS H hww
          repeat' (first | with_reducible refine br_split (fun _ => ?_) (fun _ => ?_) | simp only [*, push_cast, Array.reduceGetElem?, Nat.reduceBEq, Nat.reduceLT, Nat.reduceAdd, Nat.reduceSub, Nat.reduceLeDiff, Nat.reduceMul, Nat.reduceEqDiff, reduceCtorEq, Int.reduceAdd, Int.reduceLT, Int.reduceLE, Int.reduceToNat, Int.reduceNeg, Int.reduceSub, Int.reduceBEq, Int.reduceBNe, Int.reduceNe, Int.reduceGT, Int.reduceGE, Nat.reduceGT] | (rw [drawC_ok]; rotate_left; decide +kernel; exact cfg_mixed))
end Go.Av
end

section
namespace Go.Av
open Go.Proofs
theorem is_ints {t : T} (h : Is t (.sl [.i .u8])) : ∃ l : List Int, t = .sl .any (l.map cuC) :=
  h.list fun e hl hs => by
    match e, hl with
    | [a], _ =>
      obtain ⟨x, rfl⟩ := (hs 0 a _ rfl rfl).int
      exact ⟨x, rfl⟩
theorem law_FnBag {w : World} {v : Value} {tr : T} (hi : Is tr (.sl [.i .u8])) (hr : Rep w (inHeap w) tr v) :
    Calls Try.prog 6 #[v] w fun e w' => e = .returned (.bool true) ∧ Go.RowKit.Below w.heap.size w w' := by
  letI : Known := ⟨fun _ _ _ => False⟩
  obtain ⟨l, rfl⟩ := is_ints hi
  refine calls_true (C := cfg) cfg_hE cfg_hO (ev_FnBag l) (fun b o v h => h.elim) rfl ?_ (by simp [okL, TV.ok])
  intro i h1 h2
  have : i = 0 := by simpa using h1
  subst this
  exact .d hr
end Go.Av
namespace Go.Proofs.Ytflkffnelppigaa.fnBag
open Go.ChangeShapes Go.WideShapes Go.ChangeAt Go.RowKit
open Go.ChangeMaps (open_string shut_string)
set_option linter.unusedVariables false
theorem own : ownKnob Try.prog.godebug = none := by kernel_rfl
set_option maxRecDepth 100000 in
theorem lifted (os : Os) (started : os.Started) (H : Type) (enc : TypeId × Value → H) :
    ReturnsInHanded {} Try.checked os 6 .any (Rows.fnBagSpec.pre6 enc Try.prog Try.f6 Rows.fnBagRow.domain false) (Rows.fnBagSpec.post enc Try.prog Try.f6 false true false false) := by
  refine returnsInHanded_of_change_sized (C := Try.checked) own started (by kernel_rfl) Try.func6
    (ChangeSpec.witness6 (enc := enc) (C := Try.checked) false ⟨#[], #[.slice none 0 0], []⟩ 8 (by kernel_rfl) (by kernel_rfl) (by kernel_rfl) (by kernel_rfl)) ?_
  intro W base args ds gs before hval0 hW hcnd hsz0 _
  have hsz : (DataW.weightsEach Try.prog (Try.f6.params.toList ++ Rows.fnBagSpec.plain.varTypes Try.prog) (ds ++ gs)).all (· ≤ reachBytes) = true := hsz0
  have hval : ∀ (j : Nat) t v, Try.f6.params[j]? = some t → args[j]? = some v → Value.okWide Try.prog W .any base t v := hval0
  have hW' := hW
  obtain ⟨p, q, hA0, hV, rfl, hfz, hnd⟩ := hW
  have hA : DataW.TrodAll enc Try.prog W 0 (fun _ => true) true Try.f6.params.toList args.toList ds p := hA0
  rw [Try.params6] at hA hval hsz
  have hA1 := hA
  obtain ⟨v0, vs0, d0, ds0, p0, q0, hargs, rfl, rfl, h0, r0⟩ := trodAll_cons hA
  obtain ⟨rfl, rfl, rfl⟩ := trodAll_nil r0
  obtain rfl : args = #[v0] := by cases args; simp_all
  obtain ⟨rfl, rfl⟩ := trodVars_none hV
  obtain ⟨tr, hi, hr⟩ := Go.Av.arg_slice (n := 9) (sh := .sl [.i .u8]) Try.underlying44 (by kernel_rfl) (hval 0 44 v0 rfl rfl) h0 (by
    intro y hy
    have := List.all_eq_true.1 hsz y (by
      refine Go.Av.weightsEach_mem (i := 0) (t := 44) (d := d0) rfl rfl hy)
    exact of_decide_eq_true this)
  clear hA0 hval0 hsz0 hsz
  refine (Go.Av.law_FnBag hi hr).mono fun e W' ⟨he, bel⟩ => ?_
  subst he
  exact ⟨_, rfl, _, _, _, [], _, [], hW', trodAll_mk1 (shut_bool Try.underlying4 _), Go.Av.trodAll_stays (by kernel_rfl) bel (by
    intro t ht
    obtain rfl : t = 44 := by simpa using ht
    exact ⟨by kernel_rfl, by decide⟩) hA1, rfl, bel.frame _, fun h => by cases h⟩
theorem over : Rows.fnBagRow.holds Try.pinned (OpenSpec.ofChange Rows.fnBagSpec) :=
  OpenClaim.holds_of_wide 6 Try.f6 rfl rfl rfl rfl rfl rfl rfl ⟨rfl, rfl, rfl, rfl, rfl⟩ rfl rfl rfl rfl rfl (by kernel_rfl) Try.func6 (by kernel_rfl)
    (of_decide_eq_true (by kernel_rfl)) (by unfold Func.isWrapper; first | (rw [if_pos (by decide +kernel)]; kernel_rfl) | (rw [if_neg (by decide +kernel)]; exact ⟨rfl, rfl⟩))
    (fun os started H enc _ => lifted os started H enc)
end Go.Proofs.Ytflkffnelppigaa.fnBag
namespace Go.Proofs.Ytflkffnelppigaa
/-- The row, under a short name, for the claim. -/
theorem fnBag_holds : Rows.FnBagSaid := fnBag.over
#print axioms fnBag_holds
end Go.Proofs.Ytflkffnelppigaa
end
