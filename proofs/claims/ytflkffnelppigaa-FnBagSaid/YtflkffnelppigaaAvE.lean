/- Contracts of the library; arguments opened. -/
import Derived.Test.YtflkffnelppigaaAvD
import Derived.Lib.Bytealg
import Derived.Laws.Externs
import Derived.Sort.Grow
import Derived.Sort.EncStr
import Derived.Shelf.Spec.SlicesGrow
import Derived.Test.YtflkffnelppigaaAvA
import Derived.ChangeArms
import Derived.Carry
import Derived.SizedLaws
import Derived.DataReads
import Derived.ChangeOld
import Derived.ShutString
import Derived.WideShapes
import Derived.RowKit
import Derived.Below
set_option linter.all false
set_option linter.unusedVariables false
set_option linter.unusedSimpArgs false

section
set_option linter.unusedVariables false
set_option linter.unusedSimpArgs false
set_option linter.unusedSectionVars false
namespace Go.Av
section
variable [Known] {P : Program} {X : Nat → Prop} {β0 : Places} {w0 w : World} {S0 S : Stable} {st : St} {a : Act} {β : Places}

theorem equal_nil {ty el : TypeId} {A : Option Addr} {n cap : Nat} (hu : P.underlying ty = some (.slice el)) : ∃ b, (Op.equal ty (.slice A n cap) (.slice none 0 0)).run P w = .ok b w ∧ (b = true → A = none) := by
  have h : ∀ d, ∃ b, (Op.equalIn (d + 1) ty (.slice A n cap) (.slice none 0 0)).run P w = .ok b w ∧ (b = true → A = none) := by
    intro d
    cases A with
    | none => exact ⟨true, by simp only [Op.equalIn, Sem.run_bind, underlying, run_program, Result.andThen_ok, hu, Sem.run_pure]; rfl, fun _ => rfl⟩
    | some A => exact ⟨false, by simp only [Op.equalIn, Sem.run_bind, underlying, run_program, Result.andThen_ok, hu, Sem.run_pure], fun h => by cases h⟩
  exact h 9999

def cloneCode (t b : TypeId) : Code :=
  (Code.region 0 #[{ dst := some 2, op := Op.assign (Operand.const (Value.slice none 0 0)), type := t, pos := "slices.go:355", after := #[], guard := none }] false).seq
    (((Code.region 1
        #[{ dst := some 3, op := Op.move (Operand.tmp 0), type := t, pos := "slices.go:357", after := #[], guard := none },
          { dst := some 4, op := Op.binOp BinOp.eql t (Operand.tmp 3) (Operand.const (Value.slice none 0 0)) t, type := b, pos := "slices.go:357", after := #[{ on := 0, ground := Ground.data }], guard := none }] false).seq
      (Code.cond (Operand.tmp 4)
        ((Code.region 2 #[{ dst := some 2, op := Op.assign (Operand.const (Value.slice none 0 0)), type := t, pos := "slices.go:358", after := #[], guard := none }] false).seq Code.ret)
        Code.skip)).seq
      ((Code.region 3
        #[{ dst := some 5, op := Op.buildSlice t 0 #[], type := t, pos := "slices.go:362", after := #[], guard := none },
          { dst := some 6, op := Op.move (Operand.tmp 0), type := t, pos := "slices.go:362", after := #[], guard := none },
          { dst := some 7, op := Op.call { callee := Callee.builtin Builtin.append, args := #[Operand.tmp 5, Operand.tmp 6], argTypes := #[t, t] }, type := t, pos := "slices.go:362",
            after := #[{ on := 0, ground := Ground.data }, { on := 1, ground := Ground.data }], guard := none },
          { dst := some 2, op := Op.assign (Operand.tmp 7), type := t, pos := "slices.go:362",
            after := #[{ on := 2, ground := Ground.data }, { on := 2, ground := Ground.chain }, { on := 0, ground := Ground.phase }, { on := 1, ground := Ground.phase }, { on := 2, ground := Ground.phase }], guard := none }] false).seq Code.ret))

/-- No answers given ahead. -/
noncomputable def bare (P : Program) : Cfg where
  P := P
  O := fun _ => none
  E := fun _ => none
  H := fun _ _ => { head := [], out := [], ret := [], nls := [] }
  D := fun _ _ => { anc := [], p0 := [], ss := .done }
  X := fun _ => false
  Y := fun _ => false
theorem bare_aw {c : Code} {g : FuncId} {s : St} {r : Exit × St} (h : evB (bare P) g c ⟨⟩ s = some r) : aw P c (is r) s :=
  (ev_all (bare P) (fun _ _ h => by cases h) (fun _ _ _ _ _ h => by cases h)).2.1 g c s r h

theorem evEnd {C : Cfg} {g : FuncId} {fn : Func} {c : Code} {ins : Objs} {args : List TV} {r : TV × Objs} (hf : C.P.funcs[g]? = some fn) (hb : fn.body = some c) (hz : args.length ≤ fn.ntmps) (hi : ∀ k, k ∈ keysOf ins → k < 40)
    (h : ∀ n0, aw C.P c (fun e s => (e = .normal ∨ e = .ret) ∧ (s.g = none ∧ efin C g fn.results.toList ins (some (.ret, s)) = some r)) (init ins args fn.ntmps n0)) : AC C.P g ins args fun _ _ r' o' => r' = r.1 ∧ o' = r.2 := by
  intro w S β vs hzt hb1 hkn hl hr ho hth
  -- each end gives r, under its own names
  refine (ACz.of (z := false) (post := fun _ _ r' o' => ∃ (r0 : TV) (o0 : Objs) (σ : Nat → Nat), r' = r0 ∧ o' = o0 ∧ (∀ k k', k ∈ keysOf o0 → k' ∈ keysOf o0 → σ k = σ k' → k = k') ∧ (∀ k, k < 40 → σ k = k) ∧ (∀ k, 40 ≤ k → 40 ≤ σ k) ∧ r = (r0.ren σ, renO σ o0))
    hf hb hz hi (fun h => by cases h) (fun n0 => aw_mono (h n0) ?_) w S β vs hzt hb1 hkn hl hr ho hth).mono ?_
  · rintro e s ⟨he, hsg, hs⟩
    refine ⟨⟨fun _ => hsg, by rw [hsg]; rfl⟩, ?_⟩
    simp only [efin, hsg, efin0] at hs
    obtain ⟨rs, h1, h2⟩ := ob_eq_some hs
    obtain ⟨r0, o0, g1, σ, g2, g3, g4, g5⟩ := efin1_sound (P := C.P) h2
    have fin' : afinish C.P (keysOf ins) fn.results.toList s (fun n r' o' => ∃ (r0 : TV) (o0 : Objs) (σ : Nat → Nat), r' = r0 ∧ o' = o0 ∧ (∀ k k', k ∈ keysOf o0 → k' ∈ keysOf o0 → σ k = σ k' → k = k') ∧ (∀ k, k < 40 → σ k = k) ∧ (∀ k, 40 ≤ k → 40 ≤ σ k) ∧ r = (r0.ren σ, renO σ o0)) := by
      unfold afinish
      rw [h1]
      obtain ⟨fk, outs, rs', q1, q2, q3, q4⟩ := g1
      exact ⟨fk, outs, rs', q1, q2, q3, fun n hn => ⟨r0, o0, σ, (q4 n hn).1, (q4 n hn).2, g2, g3, g4, g5⟩⟩
    rcases he with rfl | rfl
    · exact fin'
    · exact fin'
  · rintro e w' ⟨r1, v, S', β', outs, rfl, ⟨r0, o0, σ, rfl, rfl, hinj, hlow, hhigh, rfl⟩, hrv, hok, hth', hfix, hown, hins, hext⟩
    exact rename_out hinj hlow hhigh hrv hok hth' hfix hown hins hext

theorem nil_test {t el b : TypeId} {id : Nat} {p1 p2 : String} {e1 e2 : Array Edge} {A : Ann} {es : List (List T)} (hu : tyElem P t = some el) (hx : evc st (.tmp 0) = .d (.sl A es)) (hz : 4 < st.sz) :
    aw P (Code.region id #[{ dst := some 3, op := Op.move (Operand.tmp 0), type := t, pos := p1, after := e1, guard := none },
        { dst := some 4, op := Op.binOp BinOp.eql t (Operand.tmp 3) (Operand.const (Value.slice none 0 0)) t, type := b, pos := p2, after := e2, guard := none }] false)
      (fun e s => e = .normal ∧ ∃ b, (b = true → es = []) ∧ s = { t := (4, .d (.b b)) :: (3, .d (.sl A es)) :: st.t, o := st.o, ks := st.ks, n := st.n, sz := st.sz, u := st.u, g := st.g }) st := by
  rintro X β0 w0 S0 a w ⟨S, β, h⟩
  refine wp_region ?_
  show wpOps P _ _ [0, 1] a w
  rw [wpOps_cons]
  unfold wpOp
  simp only [List.getElem?_toArray, List.getElem?_cons_zero, Region.wanted, if_true]
  refine .inl ?_
  let st1 : St := { t := (3, .d (.sl A es)) :: st.t, o := st.o, ks := st.ks, n := st.n, sz := st.sz, u := st.u, g := st.g }
  have hl : lop P st { dst := some 3, op := Op.move (Operand.tmp 0), type := t, pos := p1, after := e1, guard := none } = some st1 := by
    simp only [lop, leff, ob, effOn, put, hx]
    rw [decide_eq_true (by omega)]; rfl
  obtain ⟨v, w', β', hrun, h1⟩ := lop_sound h hl
  unfold Oper.wp
  rw [hrun, Oper.upon_value]
  rw [wpOps_cons]
  unfold wpOp
  simp only [List.getElem?_toArray, List.getElem?_cons_succ, List.getElem?_cons_zero, Region.wanted, if_true]
  refine .inl ?_
  have h3 : evc st1 (.tmp 3) = .d (.sl A es) := by simp [evc, st1, lk]
  have hr := (evc_sound h1 (.tmp 3)).1
  rw [h3] at hr
  have hv : ∃ A0 n cap, (a.put (some 3) v).eval (.tmp 3) = .slice A0 n cap ∧ (A0 = none → es = []) := by
    generalize (a.put (some 3) v).eval (.tmp 3) = z at hr
    have := rv_d hr
    cases this with
    | nil _ A0 cap => exact ⟨_, _, _, rfl, fun _ => rfl⟩
    | sl _ _ B off m cap vs => exact ⟨_, _, _, rfl, fun h => by cases h⟩
  obtain ⟨A0, n, cap, hv, hv2⟩ := hv
  obtain ⟨bb, hbb, hbb2⟩ := equal_nil (P := P) (w := w') (ty := t) (el := el) (A := A0) (n := n) (cap := cap) (tyElem_eq hu)
  have hexec : (execOp (a.put (some 3) v).eval { dst := some 4, op := Op.binOp BinOp.eql t (Operand.tmp 3) (Operand.const (Value.slice none 0 0)) t, type := b, pos := p2, after := e2, guard := none }).run P w' = .ok (.value (.bool bb)) w' := by
    have hc : (a.put (some 3) v).eval (.const (.slice none 0 0)) = .slice none 0 0 := rfl
    have hb2 : (binOp BinOp.eql t (.slice A0 n cap) (.slice none 0 0)).run P w' = .ok (.bool bb) w' := by
      show (do pure (.bool (← Op.equal t (.slice A0 n cap) (.slice none 0 0))) : Sem Value).run P w' = _
      simp only [Sem.run_bind, hbb, Result.andThen_ok, Sem.run_pure]
    simp only [execOp, Sem.run_bind, hv, hc]
    rw [eqGuard_plain (by simp)]
    simp only [Result.andThen_ok, hb2, Sem.run_pure]
  unfold Oper.wp
  rw [hexec, Oper.upon_value]
  have h4 := h1.put (x := .d (.b bb)) (v := .bool bb) (dst := some 4) (.d (.b bb)) trivial (st' := { t := (4, .d (.b bb)) :: (3, .d (.sl A es)) :: st.t, o := st.o, ks := st.ks, n := st.n, sz := st.sz, u := st.u, g := st.g }) (by
    simp only [put, st1, ob]
    rw [decide_eq_true (by omega)]; rfl)
  exact ⟨_, ⟨rfl, bb, fun h => hv2 (hbb2 h), rfl⟩, S, β', h4⟩

/-- slices.Clone, over lists that are not too long. -/
theorem clone_ac {g : FuncId} {fn : Func} {t b el : TypeId} {z : List T} {es : List (List T)} (hf : P.funcs[g]? = some fn) (hb : fn.body = some (cloneCode t b)) (hn : fn.ntmps = 8) (hr : fn.results.toList = [.tmp 2])
    (he : tyElem P t = some el) (hz : tyZeroT P el = some z) (hzl : z.length = tySize P el) (h0 : 0 < tySize P el) (hes : ∀ e ∈ es, e.length = tySize P el) (h1 : es.length ≤ maxLen) (h2 : es.length * tyBytes P el ≤ 140737488355328) (hti : (tyInt P el = some .u8) = False) :
    AC P g [] [.d (.sl .any es)] fun _ _ r' o' => r' = .d (.sl .any es) ∧ o' = [] := by
  refine evEnd (C := bare P) (r := (.d (.sl .any es), [])) hf hb (by rw [hn]; simp) (fun k hk => by cases hk) fun n0 => ?_
  rw [hr, hn]
  refine aw_weaken (s1 := init [] [.d (.sl .any es)] 8 0) (SLe.objs rfl rfl (fun k ob hl => ⟨ob, hl, .refl _, fun _ h => h⟩) (Nat.zero_le _) rfl rfl) ?_
  refine aw_seq_k fun K hK => aw_mono (bare_aw (g := g) (r := (.normal, { t := [(2, .nl), (0, .d (.sl .any es))], o := [], ks := [], n := 0, sz := 8, u := noU })) ?_) ?_
  · simp only [init, argT, keysOf, push_cast, Nat.reduceLT, Array.reduceGetElem?]
  rintro e s ⟨rfl, rfl⟩
  refine hK _ (aw_seq_k fun K1 hK1 => aw_seq_k fun K2 hK2 => aw_mono (nil_test (es := es) (A := .any) he (by simp [evc, lk]) (by simp)) ?_)
  rintro e s ⟨rfl, bb, hbe, rfl⟩
  refine hK2 _ ?_
  cases bb with
  | true =>
    have hbe := hbe rfl
    subst hbe
    refine aw_mono (bare_aw (g := g) (r := (.ret, { t := [(2, .nl), (4, .d (.b true)), (3, .d (.sl .any [])), (2, .nl), (0, .d (.sl .any []))], o := [], ks := [], n := 0, sz := 8, u := noU })) ?_) ?_
    · simp only [push_cast, Array.reduceGetElem?, Nat.reduceBEq, Nat.reduceLT, Nat.reduceAdd, Nat.reduceSub, Nat.reduceLeDiff, Nat.reduceMul, Nat.reduceEqDiff, reduceCtorEq]
    · rintro e s ⟨rfl, rfl⟩
      refine ⟨.inr rfl, ?_⟩
      simp only [push_cast, Array.reduceGetElem?, Nat.reduceBEq, Nat.reduceLT, Nat.reduceAdd, Nat.reduceSub, Nat.reduceLeDiff, Nat.reduceMul, Nat.reduceEqDiff, reduceCtorEq, bare, Nat.reduceAdd, Nat.reduceLeDiff]
  | false =>
    refine aw_mono (bare_aw (g := g) (r := (.normal, { t := [(4, .d (.b false)), (3, .d (.sl .any es)), (2, .nl), (0, .d (.sl .any es))], o := [], ks := [], n := 0, sz := 8, u := noU })) ?_) ?_
    · simp only [push_cast, Array.reduceGetElem?, Nat.reduceBEq, Nat.reduceLT, Nat.reduceAdd, Nat.reduceSub, Nat.reduceLeDiff, Nat.reduceMul, Nat.reduceEqDiff, reduceCtorEq]
    rintro e s ⟨rfl, rfl⟩
    refine hK1 _ (aw_mono (bare_aw (g := g) (r := (.ret, { t := [(2, .own 105), (7, .own 105), (6, .d (.sl .any es)), (5, .unk), (4, .d (.b false)), (3, .d (.sl .any es)), (2, .nl), (0, .d (.sl .any es))], o := [(105, .arr .any (tySize P el) es)], ks := [105, 105], n := 0, sz := 8, u := noU })) ?_) ?_)
    · have c1 : (z.length == tySize P el) = true := by simp [hzl]
      have c2 : decide (0 < tySize P el) = true := by simp [h0]
      have c3 : (es.all fun e => e.length == tySize P el) = true := by simpa using hes
      have c4 : decide (0 + es.length ≤ maxLen ∧ (0 + es.length) * tyBytes P el ≤ 140737488355328) = true := by simp [h1, h2]
      have c5 : decide (es.length ≤ maxLen ∧ es.length * tyBytes P el ≤ 140737488355328) = true := by simp [h1, h2]
      have c6 : decide (0 * tySize P el ≤ 16777216) = true := by simp
      simp only [push_cast, Array.reduceGetElem?, Nat.reduceBEq, Nat.reduceLT, Nat.reduceAdd, Nat.reduceSub, Nat.reduceLeDiff, Nat.reduceMul, Nat.reduceEqDiff, reduceCtorEq, bare, he, hz, c1, c2, c3, c4, c5, c6, hti, elAnn.eq_1, if_false, Nat.reduceAdd, Nat.zero_mul, Bool.true_or, Nat.zero_le, decide_true]
    · rintro e s ⟨rfl, rfl⟩
      refine ⟨.inr rfl, ?_⟩
      simp only [push_cast, Array.reduceGetElem?, Nat.reduceBEq, Nat.reduceLT, Nat.reduceAdd, Nat.reduceSub, Nat.reduceLeDiff, Nat.reduceMul, Nat.reduceEqDiff, reduceCtorEq, bare, Nat.reduceAdd, Nat.reduceLeDiff]

/-- The same, what it gives its caller's own. -/
theorem clone_live {g : FuncId} {fn : Func} {t b el : TypeId} {z : List T} {es : List (List T)} (hf : P.funcs[g]? = some fn) (hb : fn.body = some (cloneCode t b)) (hn : fn.ntmps = 8) (hr : fn.results.toList = [.tmp 2])
    (he : tyElem P t = some el) (hz : tyZeroT P el = some z) (hzl : z.length = tySize P el) (h0 : 0 < tySize P el) (hes : ∀ e ∈ es, e.length = tySize P el) (h1 : es.length ≤ maxLen) (h2 : es.length * tyBytes P el ≤ 140737488355328) (hti : (tyInt P el = some .u8) = False) :
    AC P g [] [.d (.sl .any es)] fun _ _ r' o' => r' = .own 40 ∧ o' = [(40, .arr .any (tySize P el) es)] := by
  refine evEnd (C := { bare P with X := fun _ => true }) (r := (.own 40, [(40, .arr .any (tySize P el) es)])) hf hb (by rw [hn]; simp) (fun k hk => by cases hk) fun n0 => ?_
  rw [hr, hn]
  refine aw_weaken (s1 := init [] [.d (.sl .any es)] 8 0) (SLe.objs rfl rfl (fun k ob hl => ⟨ob, hl, .refl _, fun _ h => h⟩) (Nat.zero_le _) rfl rfl) ?_
  refine aw_seq_k fun K hK => aw_mono (bare_aw (g := g) (r := (.normal, { t := [(2, .nl), (0, .d (.sl .any es))], o := [], ks := [], n := 0, sz := 8, u := noU })) ?_) ?_
  · simp only [init, argT, keysOf, push_cast, Nat.reduceLT, Array.reduceGetElem?]
  rintro e s ⟨rfl, rfl⟩
  refine hK _ (aw_seq_k fun K1 hK1 => aw_seq_k fun K2 hK2 => aw_mono (nil_test (es := es) (A := .any) he (by simp [evc, lk]) (by simp)) ?_)
  rintro e s ⟨rfl, bb, hbe, rfl⟩
  refine hK2 _ ?_
  cases bb with
  | true =>
    have hbe := hbe rfl
    subst hbe
    refine aw_le (bare_aw (g := g) (r := (.ret, { t := [(2, .nl), (4, .d (.b true)), (3, .d (.sl .any [])), (2, .nl), (0, .d (.sl .any []))], o := [], ks := [], n := 0, sz := 8, u := noU })) ?_) ?_
    · simp only [push_cast, Array.reduceGetElem?, Nat.reduceBEq, Nat.reduceLT, Nat.reduceAdd, Nat.reduceSub, Nat.reduceLeDiff, Nat.reduceMul, Nat.reduceEqDiff, reduceCtorEq]
    · rintro e s ⟨rfl, rfl⟩
      refine ⟨{ t := [(2, .own 50), (2, .nl), (4, .d (.b true)), (3, .d (.sl .any [])), (2, .nl), (0, .d (.sl .any []))], o := [(50, .arr .any (tySize P el) [])], ks := [50], n := 0, sz := 8, u := noU }, ⟨.inr rfl, ?_⟩,
        fun X β0 w0 S0 a w hs => asArr_sound (k := 50) (sl := 2) (off := 0) (m := tySize P el) ?_ hs⟩
      · simp only [push_cast, Array.reduceGetElem?, Nat.reduceBEq, Nat.reduceLT, Nat.reduceAdd, Nat.reduceSub, Nat.reduceLeDiff, Nat.reduceMul, Nat.reduceEqDiff, reduceCtorEq, bare]
      · have c2 : decide (0 < tySize P el) = true := by simp [h0]
        simp only [push_cast, Array.reduceGetElem?, Nat.reduceBEq, Nat.reduceLT, Nat.reduceAdd, Nat.reduceSub, Nat.reduceLeDiff, Nat.reduceMul, Nat.reduceEqDiff, reduceCtorEq, c2]
  | false =>
    refine aw_mono (bare_aw (g := g) (r := (.normal, { t := [(4, .d (.b false)), (3, .d (.sl .any es)), (2, .nl), (0, .d (.sl .any es))], o := [], ks := [], n := 0, sz := 8, u := noU })) ?_) ?_
    · simp only [push_cast, Array.reduceGetElem?, Nat.reduceBEq, Nat.reduceLT, Nat.reduceAdd, Nat.reduceSub, Nat.reduceLeDiff, Nat.reduceMul, Nat.reduceEqDiff, reduceCtorEq]
    rintro e s ⟨rfl, rfl⟩
    refine hK1 _ (aw_mono (bare_aw (g := g) (r := (.ret, { t := [(2, .own 105), (7, .own 105), (6, .d (.sl .any es)), (5, .unk), (4, .d (.b false)), (3, .d (.sl .any es)), (2, .nl), (0, .d (.sl .any es))], o := [(105, .arr .any (tySize P el) es)], ks := [105, 105], n := 0, sz := 8, u := noU })) ?_) ?_)
    · have c1 : (z.length == tySize P el) = true := by simp [hzl]
      have c2 : decide (0 < tySize P el) = true := by simp [h0]
      have c3 : (es.all fun e => e.length == tySize P el) = true := by simpa using hes
      have c4 : decide (0 + es.length ≤ maxLen ∧ (0 + es.length) * tyBytes P el ≤ 140737488355328) = true := by simp [h1, h2]
      have c5 : decide (es.length ≤ maxLen ∧ es.length * tyBytes P el ≤ 140737488355328) = true := by simp [h1, h2]
      have c6 : decide (0 * tySize P el ≤ 16777216) = true := by simp
      simp only [push_cast, Array.reduceGetElem?, Nat.reduceBEq, Nat.reduceLT, Nat.reduceAdd, Nat.reduceSub, Nat.reduceLeDiff, Nat.reduceMul, Nat.reduceEqDiff, reduceCtorEq, bare, he, hz, c1, c2, c3, c4, c5, c6, hti, elAnn.eq_1, if_false, Nat.reduceAdd, Nat.zero_mul, Bool.true_or, Nat.zero_le, decide_true]
    · rintro e s ⟨rfl, rfl⟩
      refine ⟨.inr rfl, ?_⟩
      simp only [push_cast, Array.reduceGetElem?, Nat.reduceBEq, Nat.reduceLT, Nat.reduceAdd, Nat.reduceSub, Nat.reduceLeDiff, Nat.reduceMul, Nat.reduceEqDiff, reduceCtorEq, bare, Nat.reduceAdd, Nat.reduceLeDiff]
end
end Go.Av
end

section
set_option linter.unusedVariables false
namespace Go.Av

/-- What slices.Clone gives: m the cells of an element, k its bytes. -/
def cloneO (m k : Nat) : Objs → List TV → Option (TV × Objs)
  | [], [.d (.sl .any es)] => ob (chk (es.all fun e => e.length == m)) fun _ => ob (chk (decide (es.length ≤ maxLen ∧ es.length * k ≤ 140737488355328))) fun _ => some (.own 40, [(40, .arr .any m es)])
  | _, _ => none
theorem clone_m1 [Known] {C : Cfg} {g : FuncId} {fn : Func} {t b el : TypeId} {z : List T} {m k : Nat} (hf : C.P.funcs[g]? = some fn) (hb : fn.body = some (cloneCode t b)) (hn : fn.ntmps = 8) (hr : fn.results.toList = [.tmp 2])
    (hnm : (fn.name == "runtime.NumGoroutine") = false) (he : tyElem C.P t = some el) (hz : tyZeroT C.P el = some z) (hzl : z.length = m) (hs : tySize C.P el = m) (h0 : 0 < m) (hk : tyBytes C.P el = k) (hti : (tyInt C.P el = some .u8) = False) :
    ∀ ins args r, cloneO m k ins args = some r → C.Z g = false → m1 C g ins args r := by
  intro ins args r h hzz
  unfold cloneO at h
  split at h
  · rename_i es
    obtain ⟨_, h1, h⟩ := ob_eq_some h
    obtain ⟨_, h2, h⟩ := ob_eq_some h
    cases h
    have h1 := List.all_eq_true.1 (chk_eq_some h1)
    obtain ⟨h3, h4⟩ := of_decide_eq_true (chk_eq_some h2)
    exact m1_of hzz ⟨⟨fn, hf, by rw [hb]; rfl, hnm⟩, by have := clone_live hf hb hn hr he hz (by rw [hzl, hs]) (by rw [hs]; exact h0) (fun e he => by rw [hs]; simpa using h1 e he) h3 (by rw [hk]; exact h4) hti; rw [hs] at this; exact this⟩
  · cases h

/-- What the comparison of two strings gives. -/
def cmpE : List TV → Option TV
  | [.d (.s a), .d (.s b)] => some (.d (.i .i64 (Go.Lib.compareBytes a.data.toList b.data.toList)))
  | _ => none
/-- A pointer as it is. -/
def noescE : List TV → Option TV
  | [.ptr k o] => some (.ptr k o)
  | _ => none
theorem noesc_ext [Known] {P : Program} {g : FuncId} {fn : Func} (hf : P.funcs[g]? = some fn) (hname : (fn.name == "runtime.NumGoroutine") = false) (hb : fn.body.isNone = true) (hn : Extern.findNext fn = none)
    (he : Extern.find fn = some Extern.AbiNoEscape.same) : ExtOk P g noescE := by
  intro w S β tvs vs res h hl hr
  unfold noescE at h
  split at h
  · rename_i k o
    cases h
    have h0 := hr 0 (by simp) (by rw [← hl]; simp)
    have hv : ∃ v, vs = #[v] := by
      refine ⟨vs[0]'(by rw [← hl]; simp), ?_⟩
      apply Array.ext
      · simpa using hl.symm
      · intro i hi hj
        have : i = 0 := by simpa using hj
        subst this
        rfl
    obtain ⟨v, rfl⟩ := hv
    refine ⟨v, ?_, h0, fun p hk => hk.1⟩
    rw [run_callFunc_extern hf hname hb hn he]
    rfl
  · cases h
theorem cmp_ext [Known] {P : Program} {g : FuncId} {fn : Func} (hf : P.funcs[g]? = some fn) (hname : (fn.name == "runtime.NumGoroutine") = false) (hb : fn.body.isNone = true) (hn : Extern.findNext fn = none)
    (he : Extern.find fn = some Extern.BytealgCompare.compare) : ExtOk P g cmpE := by
  intro w S β tvs vs res h hl hr
  unfold cmpE at h
  split at h
  · rename_i a b
    cases h
    have h0 := hr 0 (by simp) (by rw [← hl]; simp)
    have h1 := hr 1 (by simp) (by rw [← hl]; simp)
    have e0 := rv_str h0
    have e1 := rv_str h1
    have hv : vs = #[.string a, .string b] := by
      apply Array.ext
      · simpa using hl.symm
      · intro i hi hj
        have : i < 2 := by simpa using hj
        match i, this with
        | 0, _ => simpa using e0
        | 1, _ => simpa using e1
    refine ⟨_, ?_, .d (.i .i64 _), fun _ _ => trivial⟩
    rw [hv, run_callFunc_extern hf hname hb hn he, Go.Lib.run_compareString]
    rfl
  · cases h
end Go.Av
end

section
set_option autoImplicit false
set_option linter.unusedVariables false
set_option linter.unusedSectionVars false
namespace Go.Av
open Go.Sort
section
variable [Known] {P : Program}

def sStr (l : List ByteArray) : List ByteArray := ((l.map fun s => s.data.toList).mergeSort fun x y => decide (x ≤ y)).map fun s => ⟨s.toArray⟩
theorem sStr_len (l : List ByteArray) : (sStr l).length = l.length := by simp [sStr, List.length_mergeSort]

theorem sort_ac {f : FuncId} (h : ∀ (blk off cap : Nat) (ss : List (List UInt8)) (w : World), Holds Go.Proofs.encStr w blk off ss.toArray → blk < w.heap.size → ss.length < 4611686018427387904 →
      Calls P f #[.slice (some ⟨blk, off, none⟩) ss.length cap] w fun e w' => e = .returned (.tuple #[]) ∧ ∃ n os, w' = grow (putRow Go.Proofs.encStr (Go.Sort.ahead w n) blk off (ss.mergeSort fun x y => decide (x ≤ y)).toArray) os)
    (h0 : ∀ (p : Option Addr) (cap : Nat) (w : World), Calls P f #[.slice p 0 cap] w fun e w' => e = .returned (.tuple #[]) ∧ w' = w) (l : List ByteArray) (hl : l.length < 4611686018427387904) :
    AC P f [(0, .arr .any 1 (l.map fun s => [.s s]))] [.own 0] fun _ _ r o => r = .tup [] ∧ o = [(0, .arr .any 1 ((sStr l).map fun s => [.s s]))] := by
  intro w S β vs _ hb hkn hvl hr ho hth
  have h1 := hr 0 (by simp) (by rw [← hvl]; simp)
  have hov := (hth.objs 0 _ (lk_cons_eq _ _ _)).1
  have hvs : ∀ v, vs[0]'(by rw [← hvl]; simp) = v → vs = #[v] := by
    intro v e
    apply Array.ext
    · simpa using hvl.symm
    · intro i hi hj
      have : i = 0 := by simpa using hj
      subst this
      simpa using e
  simp only [List.getElem_cons_zero] at h1
  generalize hv : vs[0]'(by rw [← hvl]; simp) = v at h1
  have hvs := hvs v hv
  clear hv
  subst hvs
  have only : ∀ k ob, lk k [(0, Obj.arr .any 1 (l.map fun s => [T.s s]))] = some ob → k = 0 ∧ ob = .arr .any 1 (l.map fun s => [T.s s]) := by
    intro k ob hk
    by_cases hk0 : k = 0
    · subst hk0; rw [lk_cons_eq] at hk; cases hk; exact ⟨rfl, rfl⟩
    · rw [lk_cons_ne _ _ hk0] at hk; cases hk
  have only' : ∀ k ob, lk k [(0, Obj.arr .any 1 ((sStr l).map fun s => [T.s s]))] = some ob → k = 0 ∧ ob = .arr .any 1 ((sStr l).map fun s => [T.s s]) := by
    intro k ob hk
    by_cases hk0 : k = 0
    · subst hk0; rw [lk_cons_eq] at hk; cases hk; exact ⟨rfl, rfl⟩
    · rw [lk_cons_ne _ _ hk0] at hk; cases hk
  have hin : ∀ x, foot (β 0) x → InX [(0, Obj.arr .any 1 (l.map fun s => [T.s s]))] β x := fun x hx => ⟨0, _, lk_cons_eq _ _ _, rfl, hx⟩
  -- what is left to show of the world behind
  have fin : ∀ (w' : World), OV P w' S β 0 (.arr .any 1 ((sStr l).map fun s => [.s s])) → (∀ b o, S b o → b < w'.heap.size) →
      BelowX w.heap.size (InX [(0, Obj.arr .any 1 (l.map fun s => [T.s s]))] β) w w' →
      ∃ r v S' β' outs, Ending.returned (.tuple #[]) = .returned v ∧ (r = .tup [] ∧ outs = [(0, .arr .any 1 ((sStr l).map fun s => [.s s]))]) ∧ RV P w' S' β' r v ∧ r.ok (· ∈ keysOf outs) ∧
      There P w' S' β' outs ∧ (∀ k, k < 40 → β' k = β k) ∧ (∀ k ob, lk k outs = some ob → ∀ x, foot (β' k) x → (k < 40 ∧ (ob.writable = true → InX [(0, Obj.arr .any 1 (l.map fun s => [T.s s]))] β x)) ∨ InX [(0, Obj.arr .any 1 (l.map fun s => [T.s s]))] β x ∨ w.heap.size ≤ x) ∧
      (∀ k ob, lk k outs = some ob → k < 40 → k ∈ keysOf [(0, Obj.arr .any 1 (l.map fun s => [T.s s]))]) ∧ ExtX false (InX [(0, Obj.arr .any 1 (l.map fun s => [T.s s]))] β) w S w' S' := by
    intro w' hov' hbnd hbel
    refine ⟨.tup [], .tuple #[], S, β, _, rfl, ⟨rfl, rfl⟩, .tup (cs := []) (vs := #[]) rfl (fun i hi => absurd hi (by simp)), trivial, ⟨?_, ?_, ?_⟩, fun _ _ => rfl, ?_, ?_, ⟨⟨fun _ _ h => h, fun _ _ h => .inl h, hbnd, hbel⟩, fun _ _ => Iff.rfl⟩⟩
    · intro k ob hk
      obtain ⟨rfl, rfl⟩ := only' k ob hk
      exact ⟨hov', trivial⟩
    · intro k k' ob ob' hk hk' hne
      obtain ⟨rfl, rfl⟩ := only' k ob hk
      obtain ⟨rfl, rfl⟩ := only' k' ob' hk'
      exact absurd rfl hne
    · intro k ob hk _ x hx
      obtain ⟨rfl, rfl⟩ := only' k ob hk
      exact hth.sep 0 _ (lk_cons_eq _ _ _) rfl x hx
    · intro k ob hk x hx
      obtain ⟨rfl, rfl⟩ := only' k ob hk
      exact .inl ⟨by omega, fun _ => hin x hx⟩
    · intro k ob hk _
      obtain ⟨rfl, rfl⟩ := only' k ob hk
      simp [keysOf]
  cases h1 with
  | own k a ha =>
    have hnil : (β 0).live = false → l = [] ∧ (β 0).len = 0 ∧ OV P w S β 0 (.arr .any 1 []) := by
      intro hlv
      generalize hes : (l.map fun s => [T.s s]) = es at hov
      cases hov with
      | arr hv => rw [hv] at hlv; cases hlv
      | arrN hlv hm h00 hlen hcap => exact ⟨List.map_eq_nil_iff.1 hes, hlen, .arrN hlv hm h00 hlen hcap⟩
    cases hlv : (β 0).live with
    | false =>
      obtain ⟨rfl, hlen, hov0⟩ := hnil hlv
      rw [hlen]
      refine (h0 a (β 0).cap w).mono ?_
      rintro e w' ⟨rfl, rfl⟩
      exact fin w' (by simpa [sStr] using hov0) hb (BelowX.refl _ _ _)
    | true =>
      generalize hes : (l.map fun s => [T.s s]) = es at hov
      cases hov with
      | arrN hlv' => rw [hlv'] at hlv; cases hlv
      | @arr A m _ cs e _ hbk hA hm h00 hlen hcap hmax hsz hao =>
        have hel : es.length = l.length := by rw [← hes]; simp
        have hblt : (β 0).blk < w.heap.size := by
          rcases Nat.lt_or_ge (β 0).blk w.heap.size with h | h
          · exact h
          · rw [Array.getElem?_eq_none h] at hbk; cases hbk
        have hcs : ∀ i (hi : i < l.length), cs[i]? = some (.string l[i]) := by
          intro i hi
          obtain ⟨v, g1, g2⟩ := hao.cell i 0 (by omega) (by subst hes; simp)
          rw [Nat.mul_one, Nat.add_zero] at g1
          rw [g1]
          have : es[i][0]'(by subst hes; simp) = .s l[i] := by subst hes; simp
          rw [this] at g2
          cases g2
          rfl
        let ss := l.map fun s => s.data.toList
        have hH : Holds Go.Proofs.encStr w (β 0).blk 0 ss.toArray := by
          intro j hj
          have hj' : j < l.length := by simpa [ss] using hj
          refine ⟨?_, ?_⟩
          · rw [Nat.zero_add, cell_of_block hbk, hcs j hj']
            rw [getElem!_pos _ j hj]
            simp [ss, Go.Proofs.encStr]
          · unfold World.frozen?
            simp only [hbk]
            simp
        have hcall := h (β 0).blk 0 (β 0).cap ss w hH hblt (by simpa [ss] using hl)
        have hsl : ss.length = (β 0).len := by simp [ss]; omega
        rw [hsl, ← ha hlv] at hcall
        refine hcall.mono ?_
        rintro e' w' ⟨rfl, n, os, rfl⟩
        have hsz2 : (putRow Go.Proofs.encStr (Go.Sort.ahead w n) (β 0).blk 0 (ss.mergeSort fun x y => decide (x ≤ y)).toArray).heap.size = w.heap.size := by simp [putRow, mapBlock, Go.Sort.ahead]
        have hblk2 : (grow (putRow Go.Proofs.encStr (Go.Sort.ahead w n) (β 0).blk 0 (ss.mergeSort fun x y => decide (x ≤ y)).toArray) os).heap[(β 0).blk]? = some (.cells (putCells Go.Proofs.encStr 0 (ss.mergeSort fun x y => decide (x ≤ y)).toArray cs) e (0, 0)) := by
          rw [heap_grow_old _ _ (by rw [hsz2]; exact hblt)]
          simp [putRow, mapBlock, Go.Sort.ahead, Array.getElem?_modify, hbk, onCells]
        have hoth : ∀ k, k < w.heap.size → k ≠ (β 0).blk → (grow (putRow Go.Proofs.encStr (Go.Sort.ahead w n) (β 0).blk 0 (ss.mergeSort fun x y => decide (x ≤ y)).toArray) os).heap[k]? = w.heap[k]? := by
          intro k hk hne
          rw [heap_grow_old _ _ (by rw [hsz2]; exact hk)]
          simp [putRow, mapBlock, Go.Sort.ahead, Array.getElem?_modify, Ne.symm hne]
        have hms : (ss.mergeSort fun x y => decide (x ≤ y)).length = l.length := by rw [List.length_mergeSort]; simp [ss]
        have hlsz : l.length ≤ cs.size := by rw [hsz]; omega
        subst hes
        refine fin _ (.arr hlv hblk2 ⟨trivial, by simp⟩ hm h00 (by rw [hlen]; simp [sStr_len]) (by simp [sStr_len]; omega) hmax (by simpa [putCells] using hsz) ⟨?_, ?_⟩ (fun t ht => by cases ht)) ?_ ⟨rfl, rfl, rfl, ?_, ?_⟩
        · intro x hx
          obtain ⟨s, _, rfl⟩ := List.mem_map.1 hx
          rfl
        · intro i j hi hj
          have hi' : i < l.length := by simpa [sStr_len] using hi
          have hj0 : j = 0 := by simpa using hj
          subst hj0
          refine ⟨.string ⟨((ss.mergeSort fun x y => decide (x ≤ y))[i]'(by omega)).toArray⟩, ?_, ?_⟩
          · rw [Nat.mul_one, Nat.add_zero]
            unfold putCells
            rw [Array.getElem?_mapIdx, Array.getElem?_eq_getElem (by omega)]
            simp only [Option.map_some, Nat.zero_le, true_and, Nat.zero_add, Nat.sub_zero]
            rw [if_pos (by simpa using (by omega : i < (ss.mergeSort fun x y => decide (x ≤ y)).length)), getElem!_pos _ i (by simpa using (by omega : i < (ss.mergeSort fun x y => decide (x ≤ y)).length))]
            simp [Go.Proofs.encStr]
          · have : ((sStr l).map fun s => [T.s s])[i][0]'hj = .s ⟨((ss.mergeSort fun x y => decide (x ≤ y))[i]'(by omega)).toArray⟩ := by simp [sStr, ss]
            rw [this]
            exact .s _
        · intro b o hbo
          have := hb b o hbo
          show b < ((putRow Go.Proofs.encStr (Go.Sort.ahead w n) (β 0).blk 0 _).heap ++ os).size
          rw [Array.size_append, hsz2]; omega
        · show w.heap.size ≤ ((putRow Go.Proofs.encStr (Go.Sort.ahead w n) (β 0).blk 0 _).heap ++ os).size
          rw [Array.size_append, hsz2]; omega
        · intro k hk hx
          exact hoth k hk (fun e => hx (hin k ⟨hlv, e⟩))
end
end Go.Av
end

section
set_option linter.unusedVariables false
/- slices.Grow at the nil slice, as an oracle. -/
namespace Go.Av
def growO (m k : Nat) : Objs → List TV → Option (TV × Objs)
  | [], [.nl, .d (.i .i64 n)] => ob (chk (decide (0 ≤ n ∧ n * k ≤ 140737488355328 ∧ n ≤ 4294967296))) fun _ => some (.own 40, [(40, .arr .any m [])])
  | _, _ => none

theorem grow_ac [Known] {P : Program} {g : FuncId} {m : Nat} {ty : TypeId} {n : Nat} (hm : 0 < m)
    (h0 : ∀ (a : Option Addr) (w : World), n = 0 → Calls P g #[.slice a 0 0, .int .i64 n] w fun e w' => e = .returned (.slice a 0 0) ∧ w' = w)
    (h1 : ∀ (a : Option Addr) (w : World), 0 < n → Calls P g #[.slice a 0 0, .int .i64 n] w fun e w' => ∃ cap vs, e = .returned (.slice (some ⟨w.heap.size, 0, none⟩) 0 cap) ∧ w' = w.drew.alloc (.cells vs ty) ∧ vs.size = cap * m ∧ cap ≤ maxLen) :
    AC P g [] [.nl, .d (.i .i64 n)] fun _ _ r o => r = .own 40 ∧ o = [(40, .arr .any m [])] := by
  intro w S β vs _ hbS hk hl hr _ hth
  have g0 := hr 0 (by simp) (by rw [← hl]; simp)
  have g1 := hr 1 (by simp) (by rw [← hl]; simp)
  obtain ⟨v0, v1, rfl⟩ : ∃ v0 v1, vs = #[v0, v1] := by
    refine ⟨vs[0]'(by rw [← hl]; simp), vs[1]'(by rw [← hl]; simp), ?_⟩
    apply Array.ext
    · simpa using hl.symm
    · intro i hi hj
      have : i = 0 ∨ i = 1 := by simp at hj; omega
      rcases this with rfl | rfl <;> rfl
  simp only [List.getElem_cons_zero, List.getElem_cons_succ, List.getElem_toArray] at g0 g1
  cases g1 with | d g1 => cases g1 with | i =>
  cases g0 with | nl a =>
  have hlk : ∀ k ob, lk k ([(40, .arr .any m [])] : Objs) = some ob → k = 40 ∧ ob = .arr .any m [] := fun k ob h => by
    by_cases hk : k = 40
    · subst hk; rw [lk_cons_eq] at h; cases h; exact ⟨rfl, rfl⟩
    · rw [lk_cons_ne _ _ hk] at h; cases h
  by_cases hn : n = 0
  · refine (h0 a w hn).mono ?_
    rintro e w' ⟨rfl, rfl⟩
    let p : Pl := { live := false, blk := 0, len := 0, cap := 0, m := m }
    refine ⟨.own 40, _, S, fun k => if k = 40 then p else β k, _, rfl, ⟨rfl, rfl⟩, ?_, by simp [TV.ok, keysOf], ⟨fun k ob h => ?_, fun k k' ob ob' h h' hne => ?_, fun k ob h hw x hx => ?_⟩, fun k hk => if_neg (by omega), fun k ob h x hx => ?_, fun k ob h hk => ?_, ⟨⟨fun _ _ h => h, fun _ _ h => .inl h, hbS, .refl _ _ _⟩, fun _ _ => Iff.rfl⟩⟩
    · exact RV.own 40 a (by simp [p])
    · obtain ⟨rfl, rfl⟩ := hlk k ob h
      exact ⟨.arrN (by simp [p]) (by simp [p]) hm (by simp [p]) (by simp [p]), trivial⟩
    · obtain ⟨rfl, rfl⟩ := hlk k ob h
      obtain ⟨rfl, rfl⟩ := hlk k' ob' h'
      exact absurd rfl hne
    · obtain ⟨rfl, rfl⟩ := hlk k ob h
      simp [foot, p] at hx
    · obtain ⟨rfl, rfl⟩ := hlk k ob h
      simp [foot, p] at hx
    · obtain ⟨rfl, rfl⟩ := hlk k ob h
      omega
  · refine (h1 a w (by omega)).mono ?_
    rintro e w' ⟨cap, cs, rfl, rfl, hsz, hcm⟩
    let p : Pl := { live := true, blk := w.heap.size, len := 0, cap := cap, m := m }
    have hb : (w.drew.alloc (.cells cs ty)).heap[w.heap.size]? = some (.cells cs ty (0, 0)) := by
      show (w.heap.push (.cells cs ty (0, 0)))[w.heap.size]? = _
      simp
    have hbl : BelowX w.heap.size (InX [] β) w (w.drew.alloc (.cells cs ty)) := by
      have hb := (Go.RowKit.Below.drew (Go.RowKit.Below.refl w.heap.size w)).alloc (Nat.le_refl _) (.cells cs ty)
      exact ⟨hb.os, hb.tape, hb.output, hb.size, fun k hk _ => hb.block k hk⟩
    refine ⟨.own 40, _, S, fun k => if k = 40 then p else β k, _, rfl, ⟨rfl, rfl⟩, ?_, by simp [TV.ok, keysOf], ⟨fun k ob h => ?_, fun k k' ob ob' h h' hne => ?_, fun k ob h hw x hx => ?_⟩, fun k hk => if_neg (by omega), fun k ob h x hx => ?_, fun k ob h hk => ?_, ⟨⟨fun _ _ h => h, fun _ _ h => .inl h, fun b x h => Nat.lt_of_lt_of_le (hbS b x h) hbl.size, hbl⟩, fun _ _ => Iff.rfl⟩⟩
    · exact RV.own 40 (some ⟨w.heap.size, 0, none⟩) (fun _ => by simp [p])
    · obtain ⟨rfl, rfl⟩ := hlk k ob h
      refine ⟨.arr (vs := cs) (e := ty) (by simp [p]) (by simpa [p] using hb) ⟨trivial, fun q h => by cases h⟩ (by simp [p]) hm (by simp [p]) (Nat.zero_le _) (by simpa [p] using hcm) (by simpa [p] using hsz) ⟨?_, ?_⟩ (fun t h => by cases h), trivial⟩
      · intro e he; cases he
      · intro i j hi; cases hi
    · obtain ⟨rfl, rfl⟩ := hlk k ob h
      obtain ⟨rfl, rfl⟩ := hlk k' ob' h'
      exact absurd rfl hne
    · obtain ⟨rfl, rfl⟩ := hlk k ob h
      intro z hz
      have hx : x = w.heap.size := by simpa [foot, p] using hx
      have := hbS x z hz
      omega
    · obtain ⟨rfl, rfl⟩ := hlk k ob h
      have hx : x = w.heap.size := by simpa [foot, p] using hx
      exact .inr (.inr (by omega))
    · obtain ⟨rfl, rfl⟩ := hlk k ob h
      omega
theorem grow_m1 [Known] {C : Cfg} {ρ : Go.Shelf.Ren} {g : FuncId} {m k : Nat} {ty : TypeId} {zs : List T} (L : Go.Proofs.Lays8.n4 C.P ρ) (hg : ρ.f 4 = g) (ht : ρ.t 25 = ty) (hp : Plainly C.P g) (hs : tySize C.P ty = m) (hk : tyBytes C.P ty = k) (hz : tyZeroT C.P ty = some zs) (hzl : zs.length = m) (h0 : 0 < m) :
    ∀ ins args r, growO m k ins args = some r → C.Z g = false → m1 C g ins args r := by
  intro ins args r h hzz
  unfold growO at h
  split at h
  · rename_i n
    obtain ⟨_, h1, h⟩ := ob_eq_some h
    cases h
    obtain ⟨b0, b1, b2⟩ := of_decide_eq_true (chk_eq_some h1)
    obtain ⟨z, hz1, hz2⟩ := Option.bind_eq_some_iff.1 hz
    obtain ⟨i0, hi0, hz0⟩ := Option.bind_eq_some_iff.1 hz1
    have hsz : i0.size = m := by rw [← hs]; simp [tySize, hi0]
    have hby : i0.bytes = k := by rw [← hk]; simp [tyBytes, hi0]
    have hzc : z.cells.size = m := by
      have := (valTs_sound (w := default) (S := ⟨fun _ _ => False, fun _ _ => False⟩) hz2).1
      rw [← hzl, this]; simp
    subst hg; subst ht
    obtain ⟨nn, rfl⟩ : ∃ nn : Nat, n = nn := ⟨n.toNat, by omega⟩
    have hbig : nn * k ≤ 140737488355328 := by
      rw [← Int.natCast_mul] at b1
      exact Int.ofNat_le.1 b1
    refine m1_of hzz ⟨hp, grow_ac (ty := ρ.t 25) h0 (fun a w hn => ?_) (fun a w hn => ?_)⟩
    · exact Go.Proofs.Any8.slices_Grow_room L a 0 0 nn w (Nat.le_refl _) (by omega) (by omega) (by omega)
    · refine (Go.Proofs.Any8.slices_Grow_grow L i0 z hi0 hz0 (by omega) a 0 0 nn [] w (Nat.le_refl _) (by omega) (by rw [hby]; simpa using hbig) (by omega) (by simp) (fun _ => rfl) (fun a _ j v h => by cases h)).mono ?_
      rintro e w' ⟨rfl, rfl⟩
      refine ⟨_, _, rfl, rfl, ?_, Go.grownCap_le_maxLen w _ _ _ (by unfold maxLen; omega)⟩
      have := Go.grownCap_ge w (0 + nn) 0 (ρ.t 25)
      simp only [Nat.zero_add] at this
      simp only [Array.size_append, Go.size_zeroCells, hzc, List.size_toArray, List.length_nil, Nat.zero_add, ← Nat.add_mul]
      congr 1
      omega
  · cases h
end Go.Av
end

section
set_option linter.unusedVariables false
set_option autoImplicit false
namespace Go.Av

/-- The shapes of cells: what a type's cells hold. -/
inductive Sh where
  | b
  | i (k : IntKind)
  | s
  | sl (m : List Sh)

def fieldsL (P : Program) (g : TypeId → Option (List Sh)) : Nat → List Field → Option (List Sh)
  | _, [] => some []
  | off, f :: fs => match g f.type with
    | some l => if f.offset = off ∧ l.length = P.cellsOf f.type then (fieldsL P g (off + l.length) fs).map (l ++ ·) else none
    | none => none
def leaves (P : Program) : Nat → TypeId → Option (List Sh)
  | 0, _ => none
  | n + 1, t => match P.underlying t with
    | some .bool => some [.b]
    | some (.int k) => some [.i k]
    | some .string => some [.s]
    | some (.slice e) => match leaves P n e with
      | some l => if l.length = P.cellsOf e ∧ 0 < P.cellsOf e ∧ 0 < P.bytesOf e then some [.sl l] else none
      | none => none
    | some (.struct fs) => match fieldsL P (leaves P n) 0 fs.toList with
      | some l => if l.length = P.cellsOf t then some l else none
      | none => none
    | _ => none

inductive Is : T → Sh → Prop where
  | b (x : Bool) : Is (.b x) .b
  | i (k : IntKind) (n : Int) (h : (Lit.int k n).wf = true) : Is (.i k n) (.i k)
  | s (x : ByteArray) (h : x.size ≤ 140737488351232) : Is (.s x) .s
  | sl (es : List (List T)) (m : List Sh) (h : es.length ≤ 140737488351232) (hl : ∀ e ∈ es, e.length = m.length) (hs : ∀ e ∈ es, ∀ (j : Nat) (t : T) (sh : Sh), e[j]? = some t → m[j]? = some sh → Is t sh) : Is (.sl .any es) (.sl m)

section
variable {H : Type} {enc : TypeId × Value → H} {P : Program} {w : World} {spare : Nat → Bool} {held : Bool}

def inHeap (w : World) : Stable := ⟨fun b _ => b < w.heap.size, fun _ _ => False⟩
/-- Cells off on read as trees of these shapes. -/
def Reads (w : World) (ts : List T) (shs : List Sh) (cs : List Value) : Prop :=
  ts.length = shs.length ∧ cs.length = shs.length ∧ ∀ (j : Nat) (t : T) (sh : Sh) (v : Value), ts[j]? = some t → shs[j]? = some sh → cs[j]? = some v → Is t sh ∧ Rep w (inHeap w) t v

theorem Reads.one {t : T} {sh : Sh} {v : Value} (h1 : Is t sh) (h2 : Rep w (inHeap w) t v) : Reads w [t] [sh] [v] := by
  refine ⟨rfl, rfl, ?_⟩
  intro j t' sh' v' a b c
  cases j with
  | zero => simp at a b c; subst a; subst b; subst c; exact ⟨h1, h2⟩
  | succ j => simp at a
theorem Reads.append {ts ts' : List T} {l l' : List Sh} {cs cs' : List Value} (h : Reads w ts l cs) (h' : Reads w ts' l' cs') : Reads w (ts ++ ts') (l ++ l') (cs ++ cs') := by
  obtain ⟨a1, a2, a3⟩ := h
  obtain ⟨b1, b2, b3⟩ := h'
  refine ⟨by simp [a1, b1], by simp [a2, b2], ?_⟩
  intro j t sh v x y z
  by_cases hj : j < l.length
  · rw [List.getElem?_append_left (by omega)] at x y z
    exact a3 j t sh v x y z
  · rw [List.getElem?_append_right (by omega)] at x y z
    rw [a1] at x
    rw [a2] at z
    exact b3 _ t sh v x y z

theorem cells_of {a : Addr} {base n : Nat} {cs : List Value} (h : w.cells? base a n = some cs) : cs.length = n ∧ ∀ j v, cs[j]? = some v → w.cell? (a.add j) = some v := by
  obtain ⟨_, h1, h2⟩ := World.cells?_some h
  refine ⟨h1, fun j v hv => ?_⟩
  have hj : j < n := by rw [← h1]; exact (List.getElem?_eq_some_iff.1 hv).1
  rw [h2 j hj, hv]

theorem weightsEach_mem {P : Program} : ∀ {ts : List TypeId} {ds : List (DataW H)} {i : Nat} {t : TypeId} {d : DataW H} {x : Nat}, ts[i]? = some t → ds[i]? = some d → x ∈ d.weights P t → x ∈ DataW.weightsEach P ts ds
  | [], _, i, t, d, x, h, _, _ => by simp at h
  | _ :: _, [], i, t, d, x, _, h, _ => by simp at h
  | t0 :: ts, d0 :: ds, 0, t, d, x, h1, h2, h3 => by
    simp only [List.getElem?_cons_zero, Option.some.injEq] at h1 h2
    subst h1; subst h2
    simp only [DataW.weightsEach, List.mem_append]
    exact .inl h3
  | t0 :: ts, d0 :: ds, i + 1, t, d, x, h1, h2, h3 => by
    simp only [List.getElem?_cons_succ] at h1 h2
    simp only [DataW.weightsEach, List.mem_append]
    exact .inr (weightsEach_mem h1 h2 h3)
theorem weightsAll_mem {P : Program} {e : TypeId} : ∀ {ds : List (DataW H)} {d : DataW H} {x : Nat}, d ∈ ds → x ∈ d.weights P e → x ∈ DataW.weightsAll P e ds
  | [], d, x, h, _ => by cases h
  | d0 :: ds, d, x, h, hx => by
    simp only [DataW.weightsAll, List.mem_append]
    rcases List.mem_cons.1 h with rfl | h
    · exact .inl hx
    · exact .inr (weightsAll_mem h hx)

theorem fields_read {g : TypeId → Option (List Sh)} {n : Nat}
    (hg : ∀ (t : TypeId) (cs : List Value) (x : DataW H × List MemPlace) (l : List Sh), g t = some l → DataW.trod enc P w 0 spare held n t cs = some x → (∀ y ∈ x.1.weights P t, y ≤ 140737488351232) → ∃ ts, Reads w ts l cs)
    (cs : List Value) : ∀ (fs : List Field) (xs : List (DataW H × List MemPlace)) (off : Nat) (l : List Sh), fieldsL P g off fs = some l → xs.length = fs.length →
    (∀ (i : Nat) (f : Field), fs[i]? = some f → DataW.trod enc P w 0 spare held n f.type ((cs.drop f.offset).take (P.cellsOf f.type)) = xs[i]?) →
    (∀ (i : Nat) (f : Field) (x : DataW H × List MemPlace), fs[i]? = some f → xs[i]? = some x → ∀ y ∈ x.1.weights P f.type, y ≤ 140737488351232) →
    off + l.length = cs.length → ∃ ts, Reads w ts l (cs.drop off)
  | [], xs, off, l, h, _, _, _, hc => by
    simp only [fieldsL, Option.some.injEq] at h
    subst h
    refine ⟨[], rfl, ?_, ?_⟩
    · simp at hc
      simp; omega
    · intro j t sh v a; simp at a
  | f :: fs, xs, off, l, h, hx, ht, hw, hc => by
    unfold fieldsL at h
    cases hgf : g f.type with
    | none => rw [hgf] at h; cases h
    | some l0 =>
      rw [hgf] at h
      simp only at h
      split at h
      · rename_i hcond
        obtain ⟨h1, h2⟩ := hcond
        cases hr : fieldsL P g (off + l0.length) fs with
        | none => rw [hr] at h; cases h
        | some l1 =>
          rw [hr] at h
          simp only [Option.map_some, Option.some.injEq] at h
          subst h
          cases xs with
          | nil => simp at hx
          | cons x0 xs =>
            have t0 := ht 0 f rfl
            simp only [List.getElem?_cons_zero] at t0
            obtain ⟨ts0, r0⟩ := hg _ _ _ _ hgf t0 (hw 0 f x0 rfl rfl)
            obtain ⟨ts1, r1⟩ := fields_read hg cs fs xs (off + l0.length) l1 hr (by simpa using hx) (fun i f' hf => ht (i + 1) f' hf) (fun i f' x hf hxx => hw (i + 1) f' x hf hxx) (by simp at hc; omega)
            refine ⟨ts0 ++ ts1, ?_⟩
            have := r0.append r1
            rw [h1, ← h2, ← List.drop_drop, List.take_append_drop] at this
            exact this
      · cases h

theorem leaves_read : ∀ (m n : Nat) (t : TypeId) (cs : List Value) (x : DataW H × List MemPlace) (l : List Sh), leaves P m t = some l → DataW.trod enc P w 0 spare held n t cs = some x →
    (∀ y ∈ x.1.weights P t, y ≤ 140737488351232) → ∃ ts, Reads w ts l cs
  | 0, n, t, cs, x, l, h, _, _ => by cases h
  | m + 1, n, t, cs, x, l, h, ht, hw => by
    unfold leaves at h
    split at h
    · rename_i hu
      cases h
      obtain ⟨b, rfl, rfl⟩ := DataW.trod_bool hu ht
      exact ⟨[.b b], .one (.b b) (.b b)⟩
    · rename_i k hu
      cases h
      obtain ⟨b, rfl, rfl, hwf⟩ := DataW.trod_int hu ht
      exact ⟨[.i k b], .one (.i k b hwf) (.i k b)⟩
    · rename_i hu
      cases h
      obtain ⟨b, rfl, rfl, _⟩ := DataW.trod_string hu ht
      have := hw b.data.toList.length (by simp [DataW.weights])
      exact ⟨[.s b], .one (.s b (by simpa using this)) (.s b)⟩
    · rename_i e hu
      split at h
      · rename_i l0 hl0
        split at h
        · rename_i hcond
          obtain ⟨c1, c2, c3⟩ := hcond
          cases h
          rcases DataW.trod_slice hu ht with ⟨rfl, rfl⟩ | ⟨a, len, cap, elems, rest, k, _, rfl, rfl, _, hl, hm, hlen, hel, _, _⟩
          · exact ⟨[.sl .any []], .one (.sl [] l0 (by simp) (by simp) (by simp)) (.nil .any none 0)⟩
          · -- each element
            have hwt : ∀ y ∈ (elems.length + rest.length) * P.bytesOf e :: (DataW.weightsAll P e (elems.map (·.1)) ++ DataW.weightsAll P e (rest.map (·.1))), y ≤ 140737488351232 := by
              intro y hy
              refine hw y ?_
              simp only [DataW.weights, hu, List.length_map]
              exact hy
            have hel2 : ∀ i, i < len → ∃ ts : List T, ∃ cs', w.cells? 0 (a.add (i * P.cellsOf e)) (P.cellsOf e) = some cs' ∧ Reads w ts l0 cs' := by
              intro i hi
              have h1 := hel i hi
              have hei : i < elems.length := by omega
              rw [List.getElem?_eq_getElem hei] at h1
              obtain ⟨cs', h2, h3⟩ := Option.bind_eq_some_iff.1 h1
              obtain ⟨ts, h4⟩ := leaves_read m k e cs' elems[i] l0 hl0 h3 (fun y hy => hwt y (by
                simp only [List.mem_cons, List.mem_append]
                exact .inr (.inl (weightsAll_mem (List.mem_map_of_mem (List.getElem_mem hei)) hy))))
              exact ⟨ts, cs', h2, h4⟩
            by_cases hz : len = 0
            · subst hz
              exact ⟨[.sl .any []], .one (.sl [] l0 (by simp) (by simp) (by simp)) (.nil .any (some a) cap)⟩
            · have hsp : a.spot = none := by
                obtain ⟨ts, cs', h2, h3⟩ := hel2 0 (by omega)
                obtain ⟨h4, h5⟩ := cells_of h2
                have hlt : 0 < cs'.length := by omega
                have h6 := h5 0 cs'[0] (by rw [List.getElem?_eq_getElem hlt])
                rw [Nat.zero_mul] at h6
                simp only [Addr.add, if_true] at h6
                cases hs : a.spot with
                | none => rfl
                | some q =>
                  unfold World.cell? at h6
                  rw [hs] at h6
                  split at h6 <;> simp at h6
              obtain ⟨B, off, sp⟩ := a
              simp only at hsp
              subst hsp
              have hadd : ∀ i j, ((⟨B, off, none⟩ : Addr).add i).add j = ⟨B, off + i + j, none⟩ := by
                intro i j
                simp only [Addr.add]
                split <;> split <;> simp_all
              have hB : B < w.heap.size := by
                obtain ⟨ts, cs', h2, h3⟩ := hel2 0 (by omega)
                have := World.cells?_block h2 c2
                simpa [Addr.add] using this
              obtain ⟨es, hes⟩ : ∃ es : List (List T), es.length = len ∧ ∀ i e', es[i]? = some e' → ∃ cs', w.cells? 0 ((⟨B, off, none⟩ : Addr).add (i * P.cellsOf e)) (P.cellsOf e) = some cs' ∧ Reads w e' l0 cs' := by
                refine ⟨(List.range len).map fun i => if h : i < len then (hel2 i h).choose else [], by simp, ?_⟩
                intro i e' he'
                obtain ⟨hi, he'⟩ := List.getElem?_eq_some_iff.1 he'
                simp only [List.length_map, List.length_range] at hi
                simp only [List.getElem_map, List.getElem_range, hi, dif_pos] at he'
                subst he'
                exact (hel2 i hi).choose_spec
              obtain ⟨hesl, hes⟩ := hes
              have hreach : len ≤ 140737488351232 := by
                have h1 := hwt _ (List.mem_cons_self ..)
                have h2 : (elems.length + rest.length) * 1 ≤ (elems.length + rest.length) * P.bytesOf e := Nat.mul_le_mul_left _ c3
                omega
              refine ⟨[.sl .any es], .one (.sl es l0 (by omega) ?_ ?_) ?_⟩
              · intro e' he'
                obtain ⟨i, hi⟩ := List.getElem?_of_mem he'
                obtain ⟨cs', _, h2⟩ := hes i e' hi
                exact h2.1
              · intro e' he' j t' sh h1 h2
                obtain ⟨i, hi⟩ := List.getElem?_of_mem he'
                obtain ⟨cs', _, h3, h4, h5⟩ := hes i e' hi
                have hj : j < cs'.length := by rw [h4]; exact (List.getElem?_eq_some_iff.1 h2).1
                exact (h5 j t' sh cs'[j] h1 h2 (by rw [List.getElem?_eq_getElem hj])).1
              · rw [← hesl]
                refine .sl .any es B off (P.cellsOf e) cap (fun i j => (w.cell? ⟨B, off + i * P.cellsOf e + j, none⟩).getD default) trivial (by simp) c2 ?_ (by omega) ?_ ?_ ?_
                · intro e' he'
                  obtain ⟨i, hi⟩ := List.getElem?_of_mem he'
                  obtain ⟨cs', _, h2⟩ := hes i e' hi
                  rw [h2.1, c1]
                · intro i j _ _; exact hB
                · intro i j hi hj
                  obtain ⟨cs', h2, h3, h4, h5⟩ := hes i es[i] (by rw [List.getElem?_eq_getElem hi])
                  obtain ⟨h6, h7⟩ := cells_of h2
                  have hj' : j < cs'.length := by omega
                  have h8 := h7 j cs'[j] (by rw [List.getElem?_eq_getElem hj'])
                  rw [hadd] at h8
                  rw [h8]
                  rfl
                · intro i j hi hj
                  obtain ⟨cs', h2, h3, h4, h5⟩ := hes i es[i] (by rw [List.getElem?_eq_getElem hi])
                  obtain ⟨h6, h7⟩ := cells_of h2
                  have hj' : j < cs'.length := by omega
                  have h8 := h7 j cs'[j] (by rw [List.getElem?_eq_getElem hj'])
                  rw [hadd] at h8
                  rw [h8]
                  exact (h5 j es[i][j] l0[j] cs'[j] (by rw [List.getElem?_eq_getElem hj]) (by rw [List.getElem?_eq_getElem (by omega)]) (by rw [List.getElem?_eq_getElem hj'])).2
        · cases h
      · cases h
    · rename_i fs hu
      split at h
      · rename_i l0 hl0
        split at h
        · rename_i hcl
          cases h
          obtain ⟨xs, k, _, rfl, hcs, hxl, hxs⟩ := DataW.trod_struct hu ht
          obtain ⟨ts, hr⟩ := fields_read (fun t' cs' x' l' a b c => leaves_read m k t' cs' x' l' a b c) cs fs.toList xs 0 _ hl0 (by simpa using hxl) (fun i f hf => hxs i f (by simpa using hf)) (fun i f x hf hx y hy => hw y (by
            simp only [DataW.weights, hu]
            refine weightsEach_mem (i := i) (t := f.type) (d := x.1) ?_ ?_ hy
            · rw [List.getElem?_map, hf]; rfl
            · rw [List.getElem?_map, hx]; rfl)) (by omega)
          exact ⟨ts, by simpa using hr⟩
        · cases h
      · cases h
    · cases h
end
end Go.Av
end

section
set_option autoImplicit false
set_option linter.unusedVariables false
namespace Go.Av

def noPl : Places := fun _ => default
theorem calls_true [Known] {C : Cfg} (hE : ∀ g h, C.E g = some h → ExtOk C.P g h) (hO : ∀ g h ins args r, C.O g = some h → h ins args = some r → m1 C g ins args r) {g : FuncId} {args : List TV}
    (h : evF C g [] args = some (.d (.b true), [])) {w : World} {vs : Array Value} (hkn : KOk w (inHeap w)) (hl : args.length = vs.size)
    (hrv : ∀ i (hi : i < args.length) (hj : i < vs.size), RV C.P w (inHeap w) noPl args[i] vs[i]) (hok : okL (· ∈ keysOf []) args) :
    Calls C.P g vs w fun e w' => e = .returned (.bool true) ∧ Go.RowKit.Below w.heap.size w w' := by
  have hs := (evF_sound hE hO h).2
  refine (hs w (inHeap w) noPl vs (fun _ q b h => h) (fun b x h => h) hkn hl hrv hok (There.mk (fun k ob hk => by cases hk) (fun k k' ob ob' hk => by cases hk) (fun k ob hk => by cases hk))).mono ?_
  rintro e w' ⟨r, v, S', β', outs, rfl, ⟨rfl, rfl⟩, hr, _, _, _, _, _, hx⟩
  refine ⟨?_, ⟨hx.below.os, hx.below.tape, hx.below.output, hx.below.size, fun k hk => hx.below.block k hk (by rintro ⟨k', ob, hk', _⟩; cases hk')⟩⟩
  cases hr with
  | d h => cases h; rfl

section
variable {H : Type} {enc : TypeId × Value → H} {P : Program} {w : World}

theorem arg_slice {n : Nat} {t e : TypeId} {sh : Sh} {r : Reach} {b0 : Nat} {v : Value} {d : DataW H} {ps : List MemPlace} (hu : P.underlying t = some (.slice e)) (hL : leaves P n t = some [sh])
    (hval : Value.okWide P w r b0 t v) (hd : DataW.Trod enc P w 0 (fun _ => true) true t v d ps) (hw : ∀ y ∈ d.weights P t, y ≤ 140737488351232) : ∃ tr, Is tr sh ∧ Rep w (inHeap w) tr v := by
  obtain ⟨a, len, cap, rfl⟩ := Go.WideShapes.okWide_slice hu hval
  obtain ⟨fuel, hf⟩ := hd
  obtain ⟨ts, h1, h2, h3⟩ := leaves_read n fuel t _ _ _ hL hf hw
  match ts, h1 with
  | [tr], _ => exact ⟨tr, h3 0 tr sh (.slice a len cap) rfl rfl rfl⟩
theorem arg_agg {n : Nat} {t : TypeId} {fs : Array Field} {l : List Sh} {r : Reach} {b0 : Nat} {v : Value} {d : DataW H} {ps : List MemPlace} (hu : P.underlying t = some (.struct fs)) (hL : leaves P n t = some l)
    (hval : Value.okWide P w r b0 t v) (hd : DataW.Trod enc P w 0 (fun _ => true) true t v d ps) (hw : ∀ y ∈ d.weights P t, y ≤ 140737488351232) : ∃ cs ts, v = .agg cs ∧ Reads w ts l cs.toList := by
  simp only [Value.okWide, hu] at hval
  obtain ⟨cs, rfl, _⟩ := hval
  obtain ⟨fuel, hf⟩ := hd
  obtain ⟨ts, h⟩ := leaves_read n fuel t _ _ _ hL hf hw
  exact ⟨cs, ts, rfl, h⟩

/-- Arguments read behind the call as they did. -/
theorem trodAll_stays {W W' : World} (hl : laidOutB P = true) (hb : Go.RowKit.Below W.heap.size W W') : ∀ {ts : List TypeId} {vs : List Value} {ds : List (DataW H)} {ps : List MemPlace},
    (∀ t ∈ ts, P.readableRec t = true ∧ t < P.types.size) → DataW.TrodAll enc P W 0 (fun _ => true) true ts vs ds ps → DataW.TrodAll enc P W' 0 (fun b => decide (b < W.heap.size)) true ts vs ds ps
  | [], [], [], _, _, h => h
  | t :: ts, v :: vs, d :: ds, ps, hr, ⟨p, q, h1, h2, e⟩ => by
    have hlt : ∀ x ∈ p, x.block < W.heap.size := by
      obtain ⟨n, h1⟩ := h1
      exact DataW.trod_lt n _ _ _ h1
    obtain ⟨a, b⟩ := hr t (List.mem_cons_self ..)
    exact ⟨p, q, Go.RowKit.Below.trod hl a b h1 hb hlt, trodAll_stays hl hb (fun t' ht => hr t' (List.mem_cons_of_mem _ ht)) h2, e⟩
end

theorem list_of {α : Type} {f : α → List T} : ∀ {es : List (List T)}, (∀ e ∈ es, ∃ x, e = f x) → ∃ l : List α, es = l.map f
  | [], _ => ⟨[], rfl⟩
  | e :: es, h => by
    obtain ⟨x, rfl⟩ := h e (List.mem_cons_self ..)
    obtain ⟨l, rfl⟩ := list_of (fun e' he' => h e' (List.mem_cons_of_mem _ he'))
    exact ⟨x :: l, rfl⟩
theorem Is.list {α : Type} {f : α → List T} {m : List Sh} {t : T} (h : Is t (.sl m)) (hf : ∀ e : List T, e.length = m.length → (∀ (j : Nat) (t : T) (sh : Sh), e[j]? = some t → m[j]? = some sh → Is t sh) → ∃ x, e = f x) : ∃ l : List α, t = .sl .any (l.map f) := by
  cases h with
  | sl es m _ hl hs =>
    obtain ⟨l, rfl⟩ := list_of (f := f) (fun e he => hf e (hl e he) (hs e he))
    exact ⟨l, rfl⟩
theorem Is.str {t : T} (h : Is t .s) : ∃ x, t = .s x := by cases h with | s x _ => exact ⟨x, rfl⟩
theorem Is.int {t : T} {k : IntKind} (h : Is t (.i k)) : ∃ n, t = .i k n := by cases h with | i _ n _ => exact ⟨n, rfl⟩
theorem Is.bool {t : T} (h : Is t .b) : ∃ n, t = .b n := by cases h with | b n => exact ⟨n, rfl⟩
end Go.Av
end
