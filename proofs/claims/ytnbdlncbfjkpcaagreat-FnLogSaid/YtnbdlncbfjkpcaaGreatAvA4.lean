/- Texts that the last one goes by: Ev5, Ev6a, Ev6, Ev7, Ev8, Ev9, Open, Law, Data, PD, ZL, ZL2, PO, PB, PS, PP, AP, EvL, PS2, PS3, Shelf, SrtB, SrtV. -/
import Derived.Test.YtnbdlncbfjkpcaaGreatAvA3
import Derived.Lib.Bytealg
import Derived.Laws.Externs
import Derived.Sort.Grow
import Derived.Sort.EncStr
import Derived.Test.YtnbdlncbfjkpcaaGreatAvA0
import Derived.ChangeArms
import Derived.Carry
import Derived.SizedLaws
import Derived.DataReads
import Derived.ChangeOld
import Derived.ShutString
import Derived.WideShapes
import Derived.RowKit
import Derived.Below
import Derived.Test.YtnbdlncbfjkpcaaGreatAvA2
import Derived.Shelf.SlIter.Sorted
import Derived.Shelf.SortM.Plain
import Derived.Shelf.SortM.SortNone
import Derived.Ground.GgzProg
import Derived.Ground.SlgmProg
import Derived.Test.YtnbdlncbfjkpcaaGreatProg
import Derived.RangeFuncBox
import Derived.RangeFuncLeaves
import Derived.Shelf.Abstract
import Derived.WalkKit
import Derived.OwnWalkIn
import Derived.TacticsInMore
import Derived.LoopNIn
import Derived.LoopIn
set_option linter.all false
set_option linter.unusedVariables false
set_option linter.unusedSimpArgs false
section
set_option linter.unusedVariables false
set_option linter.unusedSimpArgs false
set_option linter.unusedSectionVars false
namespace Go.Av
section
variable [Known] {P : Program} {X : Nat → Prop} {β0 : Places} {w0 w w' : World} {S0 S S' : Stable} {st st' : St} {a : Act} {β β' : Places}
theorem efin2_sound {st : St} {fk : List Nat} {ik : List Nat} {rs rs' : List TV} {q : TV × Objs} (e : efin2 (Av.frz st fk) ik rs' = some q) (hle : LeL P (Av.frz st fk) rs rs') :
    ∃ (r0 : TV) (o0 : Objs), afinish2 P ik st (fun _ r o => r = r0 ∧ o = o0) (some rs) ∧
      ∃ σ : Nat → Nat, (∀ k k', k ∈ keysOf o0 → k' ∈ keysOf o0 → σ k = σ k' → k = k') ∧ (∀ k, k < 40 → σ k = k) ∧ (∀ k, 40 ≤ k → 40 ≤ σ k) ∧ q = (r0.ren σ, renO σ o0) := by
  unfold efin2 at e
  obtain ⟨κ, hκ, e⟩ := ob_eq_some e
  clear hκ
  obtain ⟨ν, hν, e⟩ := ob_eq_some e
  cases hν
  obtain ⟨outs, h1, e⟩ := ob_eq_some e
  obtain ⟨o0, h2, e⟩ := ob_eq_some e
  obtain ⟨_, h3, e⟩ := ob_eq_some e
  cases e
  obtain ⟨c1, c2⟩ := chk_and h3
  simp only [Bool.and_eq_true] at c2
  obtain ⟨c2, c3, c4⟩ := c2
  obtain ⟨g1, g2, g3, g4⟩ := pick_eq h1 h2
  refine ⟨afin rs', o0, ⟨fk, o0, rs', hle, ?_, ?_, fun n hn => ⟨rfl, rfl⟩⟩, canon (news κ), ?_, (canon_spec κ).1, (canon_spec κ).2.1, by rw [g2]⟩
  · rw [g1]; exact okBL_iff.1 c1
  · intro k ob hk
    refine ⟨by rw [g1]; exact allOk_lk c2 hk, fun h40 => ?_, ob, g3 k ob hk, .refl _⟩
    have hkk : k ∈ κ := by rw [← g1]; exact lk_keys hk
    have := List.all_eq_true.1 c4 k hkk
    simp only [Bool.or_eq_true, decide_eq_true_eq] at this
    rcases this with h | h
    · omega
    · exact hasKey_iff.1 h
  · rw [g1]; exact (canon_spec κ).2.2
theorem efin1_sound {st : St} {x : Bool} {ik : List Nat} {rs : List TV} {q : TV × Objs} (e : efin1 x st ik rs = some q) :
    ∃ (r0 : TV) (o0 : Objs), afinish2 P ik st (fun _ r o => r = r0 ∧ o = o0) (some rs) ∧
      ∃ σ : Nat → Nat, (∀ k k', k ∈ keysOf o0 → k' ∈ keysOf o0 → σ k = σ k' → k = k') ∧ (∀ k, k < 40 → σ k = k) ∧ (∀ k, 40 ≤ k → 40 ≤ σ k) ∧ q = (r0.ren σ, renO σ o0) := by
  cases x with
  | true => exact efin2_sound (fk := []) e ⟨rfl, fun i hi hj => .same _⟩
  | false =>
    unfold efin1 at e
    simp only [] at e
    cases hg : st.g with
    | none =>
      rw [hg] at e
      obtain ⟨l1, l2⟩ := lowL_le (P := P) (st := st) (fk := ownKeysL rs) (cs := rs) (fun k hk => hk)
      exact efin2_sound e ⟨l1.symm, fun i hi hj => l2 i hi hj⟩
    | some n =>
      rw [hg] at e
      obtain ⟨l1, l2⟩ := lowZL_le (P := P) (st := Av.frz st (ownKeysL rs)) (cs := rs)
      exact efin2_sound e ⟨l1.symm, fun i hi hj => l2 i hi hj⟩
def m1 (C : Cfg) (g : FuncId) (ins : Objs) (args : List TV) (r : TV × Objs) : Prop := Plainly C.P g ∧ ACz (C.Z g) C.P g ins args fun _ _ r' o' => r' = r.1 ∧ o' = r.2
theorem m1_of {C : Cfg} {g : FuncId} {ins : Objs} {args : List TV} {r : TV × Objs} (hz : C.Z g = false) (h : Plainly C.P g ∧ AC C.P g ins args fun _ _ r' o' => r' = r.1 ∧ o' = r.2) : m1 C g ins args r := by
  unfold m1; rw [hz]; exact h
def m2 (C : Cfg) (g : FuncId) (c : Code) (st : St) (r : Exit × St) : Prop := aw C.P c (is r) st
def m3 (C : Cfg) (g : FuncId) (h : LHint) (c : Code) (st : St) (r : Exit × St) : Prop := awL C.P c (is r) st
def m4 (C : Cfg) (ops : Array Oper) (l : List Nat) (st s : St) : Prop := ∀ (X : Nat → Prop) (β0 : Places) (w0 : World) (S0 : Stable) (a : Act) (w : World) (Q : Exit → Act → World → Prop),
  SimE C.P X β0 w0 S0 st a w → (∀ a w, SimE C.P X β0 w0 S0 s a w → Q .normal a w) → wpOps C.P ops Q l a w
noncomputable def ev1B (C : Cfg) (ev : FuncId → Objs → List TV → Option (TV × Objs)) (o : Oper) (b : Option Bool) (st : St) : Option St :=
  match b with
  | none => none
  | some false => put st (.tup []) o.dst
  | some true => match callOf o.op with
    | none => eop C.P st o o.op
    | some (f, args) => match extOf C (evc st f) with
      | some h => match h (args.map (evc st)) with
        | some x => put st x o.dst
        | none => none
      | none => match prep C st (evc st f) (args.map (evc st)) with
        | none => none
        | some p => (ev p.g p.ins p.args) >>= fun r => post st o.dst p r
theorem ev1B_fr {U : Nat → Prop} {q q' r : St} {C : Cfg} {ev : FuncId → Objs → List TV → Option (TV × Objs)} {o : Oper} {b : Option Bool} (h : Fr U q q') (hx : ∀ x ∈ o.op.operands, Off U x) (e : ev1B C ev o b q = some r) : Goes U o.dst r (ev1B C ev o b q') := by
  unfold ev1B at e ⊢
  cases b with
  | none => cases e
  | some t =>
    cases t with
    | false => exact put_fr h e
    | true =>
      simp only [] at e ⊢
      cases hc : callOf o.op with
      | none => rw [hc] at e; exact eop_fr h hx e
      | some p =>
        obtain ⟨f, args⟩ := p
        rw [hc] at e
        simp only [] at e ⊢
        have hop : ∃ c, o.op = .call c ∧ c.callee = .value f ∧ c.args.toList = args := by
          cases hop : o.op with
          | call c =>
            rw [hop] at hc
            simp only [callOf] at hc
            cases hcc : c.callee with
            | value f' => rw [hcc] at hc; cases hc; exact ⟨c, rfl, hcc, rfl⟩
            | _ => rw [hcc] at hc; cases hc
          | _ => rw [hop] at hc; cases hc
        obtain ⟨c, hop, hcc, hca⟩ := hop
        rw [hop] at hx
        have h1 : evc q' f = evc q f := evc_fr h (hx f (by simp [Op.operands, Call.operands, hcc]))
        have h2 : args.map (evc q') = args.map (evc q) := List.map_congr_left fun x hx' => evc_fr h (hx x (by simp only [Op.operands, Call.operands, hcc]; rw [← hca] at hx'; simp [Array.mem_toList_iff.1 hx']))
        rw [h1, h2, prep_fr h]
        cases hex : extOf C (evc q f) with
        | some hh =>
          rw [hex] at e
          simp only [] at e ⊢
          cases hhx : hh (args.map (evc q)) with
          | none => rw [hhx] at e; cases e
          | some x => rw [hhx] at e; exact put_fr h e
        | none =>
        rw [hex] at e
        simp only [] at e ⊢
        cases hp : prep C q (evc q f) (args.map (evc q)) with
        | none => rw [hp] at e; cases e
        | some p =>
          rw [hp] at e
          simp only [] at e ⊢
          obtain ⟨x, hx1, hx2⟩ := Option.bind_eq_some_iff.1 e
          obtain ⟨r', g1, g2⟩ := post_fr h hx2
          exact ⟨r', by rw [hx1]; exact g1, g2⟩
def ExtOk (P : Program) (g : FuncId) (h : List TV → Option TV) : Prop := ∀ (w : World) (S : Stable) (β : Places) (tvs : List TV) (vs : Array Value) (res : TV), h tvs = some res → tvs.length = vs.size →
  (∀ i (hi : i < tvs.length) (hj : i < vs.size), RV P w S β tvs[i] vs[i]) → ∃ v, (callFunc g vs).run P w = .ok (.value v) w ∧ RV P w S β res v ∧ ∀ p, okL p tvs → res.ok p
theorem ev1B_sound {C : Cfg} (hE : ∀ g h, C.E g = some h → ExtOk C.P g h) {ev : FuncId → Objs → List TV → Option (TV × Objs)} (ihF : ∀ g ins args r, ev g ins args = some r → m1 C g ins args r) {o : Oper} {b : Option Bool} {st s : St} (e : ev1B C ev o b st = some s)
    {X : Nat → Prop} {β0 : Places} {w0 : World} {S0 : Stable} {a : Act} {w : World} (hs : SimE C.P X β0 w0 S0 st a w) :
    b ≠ none ∧ (b = some true → ∀ Q, o.wp C.P a w (fun a' w' => SimE C.P X β0 w0 S0 s a' w') Q) ∧ (b = some false → SimE C.P X β0 w0 S0 s (a.put o.dst undef) w) := by
  unfold ev1B at e
  cases b with
  | none => cases e
  | some t =>
    cases t with
    | false =>
      refine ⟨by simp, (fun h => by cases h), fun _ => ?_⟩
      obtain ⟨S, β, h⟩ := hs
      exact ⟨S, β, h.put (RV.tup (cs := []) (vs := #[]) rfl (fun i hi => absurd hi (by simp))) trivial e⟩
    | true =>
      refine ⟨by simp, fun _ Q => ?_, (fun h => by cases h)⟩
      obtain ⟨S, β, h⟩ := hs
      by_cases hx : ∃ f args hh, callOf o.op = some (f, args) ∧ extOf C (evc st f) = some hh
      · obtain ⟨f, args, hh, hc1, hc2⟩ := hx
        have hop : ∃ c, o.op = .call c ∧ c.callee = .value f ∧ c.args.toList = args := by
          cases hop : o.op with
          | call c =>
            rw [hop] at hc1
            simp only [callOf] at hc1
            cases hcc : c.callee with
            | value f' => rw [hcc] at hc1; cases hc1; exact ⟨c, rfl, hcc, rfl⟩
            | _ => rw [hcc] at hc1; cases hc1
          | _ => rw [hop] at hc1; cases hc1
        obtain ⟨c, hop, hcc, rfl⟩ := hop
        simp only [hc1, hc2] at e
        cases hhx : hh (c.args.toList.map (evc st)) with
        | none => rw [hhx] at e; cases e
        | some x =>
          rw [hhx] at e
          simp only [] at e
          have hfr := (evc_sound h f).1
          cases hfv : evc st f with
          | clo g cap =>
            rw [hfv] at hc2 hfr
            cases cap with
            | cons _ _ => cases hc2
            | nil =>
              generalize hv : a.eval f = v at hfr
              cases hfr with
              | clo hcl hcr =>
                rename_i us
                have hus : us = #[] := by
                  have : us.size = 0 := by simpa using hcl.symm
                  exact Array.eq_empty_of_size_eq_zero this
                subst hus
                obtain ⟨v, hrun, hr, hok⟩ := hE g hh hc2 w S β _ (c.args.map a.eval) x hhx (by simp) (fun i hi hj => by
                  simp only [List.getElem_map, Array.getElem_map, Array.getElem_toList]
                  exact (evc_sound h _).1)
                have hexec : (execOp a.eval o).run C.P w = .ok (.value v) w := by
                  unfold execOp
                  rw [hop]
                  simp only [resolve, hcc, hv, Deferred.ofValue, Sem.run_bind, Sem.run_pure, Result.andThen_ok, invoke]
                  simpa using hrun
                unfold Oper.wp
                rw [hexec, Oper.upon_value]
                exact ⟨S, β, h.put hr (hok _ (okL_iff.2 fun y hy => by
                  obtain ⟨z, _, rfl⟩ := List.mem_map.1 hy
                  exact (evc_sound h z).2)) e⟩
          | _ => rw [hfv] at hc2; cases hc2
      have key : aop C.P (SLe C.P s) st o o.op := by
        simp only [] at e
        split at e
        · exact eop_aop e
        · rename_i f args hcall
          split at e
          · rename_i hh hc2; exact absurd ⟨f, args, hh, hcall, hc2⟩ hx
          split at e
          · cases e
          · rename_i p hp
            obtain ⟨q, hq, hpost⟩ := Option.bind_eq_some_iff.1 e
            obtain ⟨i1, i2⟩ := ihF p.g p.ins p.args q hq
            have := prep_call hp i1 i2 hpost
            cases hop : o.op with
            | call c =>
              rw [hop] at hcall
              simp only [callOf] at hcall
              cases hc : c.callee with
              | value f' =>
                rw [hc] at hcall
                cases hcall
                simp only [aop, hc]
                exact this
              | _ => rw [hc] at hcall; cases hcall
            | _ => rw [hop] at hcall; cases hcall
      exact Oper.wp_mono (fun a' w' ⟨s', h1, h2⟩ => h1 X β0 w0 S0 a' w' h2) (aop_sound h key Q)
theorem ev1B_step {C : Cfg} (hE : ∀ g h, C.E g = some h → ExtOk C.P g h) {ev : FuncId → Objs → List TV → Option (TV × Objs)} (ihF : ∀ g ins args r, ev g ins args = some r → m1 C g ins args r) {o : Oper} {b : Option Bool} {st s : St} (e : ev1B C ev o b st = some s) : Step1 C o b st s := by
  intro U st' hfr hx
  obtain ⟨s', h1, h2⟩ := ev1B_fr hfr hx e
  exact ⟨s', h2, fun X β0 w0 S0 a w hs => ev1B_sound hE ihF h1 hs⟩
theorem Step1.here {C : Cfg} {o : Oper} {b : Option Bool} {st s : St} (h : Step1 C o b st s) {X : Nat → Prop} {β0 : Places} {w0 : World} {S0 : Stable} {a : Act} {w : World} (hs : SimE C.P X β0 w0 S0 st a w) :
    b ≠ none ∧ (b = some true → ∀ Q, o.wp C.P a w (fun a' w' => SimE C.P X β0 w0 S0 s a' w') Q) ∧ (b = some false → SimE C.P X β0 w0 S0 s (a.put o.dst undef) w) := by
  obtain ⟨s', h1, h2⟩ := h (fun _ => False) st ⟨rfl, rfl, rfl, rfl, rfl, rfl, fun _ _ => rfl⟩ (fun _ _ _ _ h => h)
  obtain ⟨k0, k1, k2⟩ := h2 X β0 w0 S0 a w hs
  have hl : SLe C.P s s' := h1.sle (fun _ h => h.1)
  exact ⟨k0, fun hb Q => Oper.wp_mono (fun a' w' => hl X β0 w0 S0 a' w') (k1 hb Q), fun hb => hl X β0 w0 S0 _ _ (k2 hb)⟩
theorem leave_sound {h : LHint} {e : Exit} {s : St} {r : Exit × St} (hl : leave h e s = some r) : (e = r.1 ∧ ∃ live, prune s live = some r.2) ∧ ((∃ id, e = .exit id) ∨ e = .ret) := by
  cases e with
  | exit id => obtain ⟨s', h1, h2⟩ := ob_eq_some hl; cases h2; exact ⟨⟨rfl, _, h1⟩, .inl ⟨id, rfl⟩⟩
  | ret => obtain ⟨s', h1, h2⟩ := ob_eq_some hl; cases h2; exact ⟨⟨rfl, _, h1⟩, .inr rfl⟩
  | _ => cases hl
theorem ahead_lt {ops : Array Oper} : ∀ {l b : List Nat}, ahead ops b l = true → ∀ i ∈ l, i < ops.size
  | [], _, _, i, hi => by cases hi
  | j :: l, b, h, i, hi => by
    simp only [ahead, Bool.and_eq_true] at h
    rcases List.mem_cons.1 hi with rfl | hi
    · have h1 := h.1
      split at h1
      · cases h1
      · rename_i o ho; exact (Array.getElem?_eq_some_iff.1 ho).1
    · exact ahead_lt h.2 i hi
theorem aw_mono {c : Code} {Q Q' : Exit → St → Prop} (h : aw P c Q st) (hq : ∀ e s, Q e s → Q' e s) : aw P c Q' st := fun X β0 w0 S0 a w hs =>
  wp_mono (h X β0 w0 S0 a w hs) fun e a' w' ⟨s, h1, h2⟩ => ⟨s, hq e s h1, h2⟩
theorem aw_le {c : Code} {Q Q' : Exit → St → Prop} (h : aw P c Q st) (hq : ∀ e s, Q e s → ∃ s', Q' e s' ∧ SLe P s' s) : aw P c Q' st := fun X β0 w0 S0 a w hs =>
  wp_mono (h X β0 w0 S0 a w hs) fun e a' w' ⟨s, h1, h2⟩ => let ⟨s', g1, g2⟩ := hq e s h1; ⟨s', g1, g2 X β0 w0 S0 a' w' h2⟩
theorem initU_sle {u : Bool} {ins : Objs} {args : List TV} {sz n0 : Nat} (h40 : ∀ k, k ∈ keysOf ins → k < 40) : SLe P (initU u (init ins args sz 0)) (init ins args sz n0) := by
  have h0 : SLe P (init ins args sz 0) (init ins args sz n0) := SLe.objs rfl rfl (fun k ob hl => ⟨ob, hl, .refl _, fun _ h => h⟩) (Nat.zero_le _) rfl rfl
  cases u with
  | false => exact h0
  | true =>
    refine SLe.trans (s2 := init ins args sz 0) ?_ h0
    rintro X β0 w0 S0 a w ⟨S, β, h⟩
    have low : ∀ k, k < 40 → upK ins k = k ∨ (upK ins k = k + 50 ∧ ∃ A m es, lk k ins = some (.arr A m es)) := by
      intro k hk
      unfold upK
      rw [decide_eq_true hk, cond_true]
      split
      · rename_i A m es hh; exact .inr ⟨rfl, A, m, es, hh⟩
      · exact .inl rfl
      · exact .inl rfl
      · exact .inl rfl
    have high : ∀ k, ¬ k < 40 → upK ins k = k := by
      intro k hk
      unfold upK
      rw [decide_eq_false hk, cond_false]
    obtain ⟨β', h'⟩ := h.renSt' (σ := upK ins) (by
      intro k k' hk hk' e
      have g1 := h40 k hk
      have g2 := h40 k' hk'
      rcases low k g1 with q1 | ⟨q1, _⟩ <;> rcases low k' g2 with q2 | ⟨q2, _⟩ <;> rw [q1, q2] at e <;> omega) (by
      intro k hk
      by_cases hk40 : k < 40
      · rcases low k hk40 with q | ⟨q, _⟩
        · exact q
        · omega
      · exact high k hk40) (by
      intro k ob hl hk
      rcases low k hk with q | ⟨_, A, m, es, q⟩
      · exact .inl q
      · rw [show (init ins args sz 0).o = ins from rfl, q] at hl
        cases hl
        exact .inr rfl) (fun k hk => hk)
    exact ⟨S, β', h'⟩
theorem gZ_sle {z : Bool} {s1 s : St} (h : SLe P s1 s) (h0 : s.g = none) (h1 : s1.g = none) : SLe P (gZ z s1) (gZ z s) := by
  cases z with
  | false => exact h
  | true =>
    rintro X β0 w0 S0 a w ⟨S, β, k⟩
    have htk : TOk X w0 S0 w S (some (0, false)) := k.tk
    have hno : ∀ q b, ¬ S.t q b := fun q b hq => by
      by_cases hq0 : q = []
      · subst hq0; have := (htk.2.1 b hq).1; cases this
      · obtain ⟨⟨c, r, _, h⟩, _⟩ := htk.2.2.new q b ⟨hq0, hq⟩
        omega
    obtain ⟨S1, β1, k1⟩ := h X β0 w0 S0 a w ⟨S, β, k.kn, k.dfr, k.size, k.tmps, k.objs, k.own, k.inj, k.sep, k.bnd, k.sub, k.new, k.below, k.n, k.fix, k.gh, by
      rw [h0]; exact fun q b => ⟨fun h => absurd h (hno q b), fun h => absurd h (htk.1.2 q b)⟩⟩
    have hno1 : ∀ q b, ¬ S1.t q b := fun q b hq => by
      have := k1.tk
      rw [h1] at this
      exact htk.1.2 q b ((this q b).1 hq)
    exact ⟨S1, β1, k1.kn, k1.dfr, k1.size, k1.tmps, k1.objs, k1.own, k1.inj, k1.sep, k1.bnd, k1.sub, k1.new, k1.below, k1.n, k1.fix, k1.gh, htk.1, fun b hb => absurd hb (hno1 _ b),
      ⟨fun q b h => absurd h.2 (hno1 q b), fun q b b' h => absurd h.2 (hno1 q b), fun q q' b h => absurd h.2 (hno1 q b)⟩⟩
theorem ev_all (C : Cfg) (hE : ∀ g h, C.E g = some h → ExtOk C.P g h) (hO : ∀ g h ins args r, C.O g = some h → h ins args = some r → m1 C g ins args r) :
    (∀ g ins args r, evF C g ins args = some r → m1 C g ins args r) ∧ (∀ g c st r, evC C g c st = some r → m2 C g c st r) ∧ (∀ g h c st r, evL C g h c st = some r → m3 C g h c st r) ∧
      (∀ ops l st r, evDr C ops l st = some r → DrOk C ops l st r) ∧ (∀ o b st r, ev1 C o b st = some r → Step1 C o b st r) ∧ (∀ ops l st r, evOps C ops l st = some r → m4 C ops l st r) := by
  refine ev_ind C (m1 C) (m2 C) (m3 C) (DrOk C) (Step1 C) (m4 C) ?_ ?_ ?_ ?_ ?_ ?_
  · intro evC ihC g ins args r e
    unfold stF at e
    cases ho : C.O g with
    | some h => rw [ho] at e; exact hO g h ins args r ho e
    | none =>
      rw [ho] at e
      simp only [] at e
      split at e
      · rename_i fn hf
        split at e
        · rename_i c hb
          split at e
          · rename_i hc
            obtain ⟨q, hq, he⟩ := Option.bind_eq_some_iff.1 e
            refine ⟨⟨fn, hf, by rw [hb]; rfl, hc.2.1⟩, ?_⟩
            have main : ∀ s r1, efin1 (C.X g) s (keysOf ins) ((ares C.P s fn.results.toList).getD []) = some r1 → ares C.P s fn.results.toList = some ((ares C.P s fn.results.toList).getD []) → ((C.Z g = false → s.g = none) ∧ gfl s.g = false) →
                (∀ n0, aw C.P c (fun e s' => (e = .normal ∨ e = .ret) ∧ s' = s) (gZ (C.Z g) (init ins args fn.ntmps n0))) → ACz (C.Z g) C.P g ins args fun _ _ r' o' => r' = r1.1 ∧ o' = r1.2 := by
              intro s r1 h1 h2 hsg h3
              obtain ⟨r0, o0, g1, σ, g2, g3, g4, g5⟩ := efin1_sound (P := C.P) h1
              have := ACz.rename (P := C.P) (f := g) (ins := ins) (args := args) (r0 := r0) (o0 := o0) (σ := σ) (ACz.of hf hb hc.1 (fun k hk => of_decide_eq_true (List.all_eq_true.1 hc.2.2.1 k hk)) hc.2.2.2 fun n0 => ?_) g2 g3 g4
              · rw [g5]; exact this
              · refine aw_mono (h3 n0) ?_
                rintro e s' ⟨he, rfl⟩
                refine ⟨hsg, ?_⟩
                rcases he with rfl | rfl
                · show afinish _ _ _ _ _; unfold afinish; rw [h2]; exact g1
                · show afinish _ _ _ _ _; unfold afinish; rw [h2]; exact g1
            have hi : ∀ n0, aw C.P c (is q) (gZ (C.Z g) (init ins args fn.ntmps n0)) := fun n0 => aw_weaken (s1 := gZ (C.Z g) (initU (C.U g) (init ins args fn.ntmps 0))) (gZ_sle (initU_sle fun k hk => of_decide_eq_true (List.all_eq_true.1 hc.2.2.1 k hk)) rfl (by cases C.U g <;> rfl)) (ihC g c _ q hq)
            have last : ∀ s, efin0 C g (efin1 (C.X g) s (keysOf ins) ((ares C.P s fn.results.toList).getD [])) s.g = some r → ares C.P s fn.results.toList = some ((ares C.P s fn.results.toList).getD []) →
                (∀ n0, aw C.P c (fun e s' => (e = .normal ∨ e = .ret) ∧ s' = s) (gZ (C.Z g) (init ins args fn.ntmps n0))) → ACz (C.Z g) C.P g ins args fun _ _ r' o' => r' = r.1 ∧ o' = r.2 := by
              intro s h1 h2 h3
              cases hg : s.g with
              | none =>
                rw [hg] at h1
                exact main s r h1 h2 ⟨fun _ => hg, by rw [hg]; rfl⟩ h3
              | some na =>
                obtain ⟨n, a0⟩ := na
                rw [hg] at h1
                cases a0 with
                | true => cases h1
                | false =>
                have h1 : efinZ (C.Z g) (efin1 (C.X g) s (keysOf ins) ((ares C.P s fn.results.toList).getD [])) = some r := h1
                cases hz : C.Z g with
                | false => rw [hz] at h1; cases h1
                | true =>
                  rw [hz] at h1
                  cases hee : efin1 (C.X g) s (keysOf ins) ((ares C.P s fn.results.toList).getD []) with
                  | none => rw [hee] at h1; cases h1
                  | some r1 =>
                    rw [hee] at h1
                    obtain ⟨_, k1, k2⟩ := ob_eq_some h1
                    cases k2
                    have k1 := chk_eq_some k1
                    simp only [decide_eq_true_eq] at k1
                    have hm := main s r1 hee h2 ⟨fun h => (by rw [hz] at h; cases h), by rw [hg]; rfl⟩ h3
                    rw [hz] at hm
                    have hins := hc.2.2.2 hz
                    subst hins
                    exact ACz.canon hm k1
            obtain ⟨ex, s⟩ := q
            cases ex with
            | normal =>
              obtain ⟨rs, h1, h2⟩ := ob_eq_some he
              refine last s (by rw [h1]; exact h2) (by rw [h1]; rfl) fun n0 => aw_mono (hi n0) ?_
              rintro e s' ⟨rfl, rfl⟩
              exact ⟨.inl rfl, rfl⟩
            | ret =>
              obtain ⟨rs, h1, h2⟩ := ob_eq_some he
              refine last s (by rw [h1]; exact h2) (by rw [h1]; rfl) fun n0 => aw_mono (hi n0) ?_
              rintro e s' ⟨rfl, rfl⟩
              exact ⟨.inr rfl, rfl⟩
            | _ => cases he
          · cases e
        · cases e
      · cases e
  · intro evC evL evDr evOps ihC ihL ihD ihO g c st r e
    unfold stC at e
    cases c with
    | skip => cases e; exact aw_skip ⟨rfl, rfl⟩
    | region id ops draw =>
      cases draw with
      | true =>
        simp only [] at e
        split at e
        · rename_i hpl
          split at e
          · cases e
          · rename_i s0 hp0
            obtain ⟨s, h1, h2⟩ := Option.bind_eq_some_iff.1 e
            cases h2
            have h4 := (ihD ops _ s0 s h1).rest
            have hP := planH hpl.1
            intro X β0 w0 S0 a w hs
            refine wp_region_any hpl.2 ?_
            have hget : ∀ i d, i < ops.size → (Array.replicate ops.size false).getD i d = false := by
              intro i d hi
              simp [Array.getD, hi]
            have hf := evPu_fr hp0
            refine h4 (C.D g id) (C.D g id).p0 X β0 w0 S0 _ hP hP.ss (fun a' w' hs' => ⟨s, ⟨rfl, rfl⟩, hs'⟩) ops.size _ a _ (by simp) ?_ (fun k hk => List.mem_append_left _ hk) ?_ ⟨st, ⟨hf.o, hf.ks, hf.n, hf.sz, hf.u, hf.g, fun x hx => hf.t x ?_⟩, ?_⟩ ?_ ?_ ?_ ?_
            · unfold cnt
              exact Nat.le_trans (List.length_filter_le _ _) (by simp)
            · intro j hj
              exact List.mem_append_right _ hj
            · rintro ⟨i, hi, o, ho, hd⟩
              exact hx ⟨i, hi, o, ho, hd, hget i true (Array.getElem?_eq_some_iff.1 ho).1⟩
            · obtain ⟨S, β, h⟩ := hs
              exact ⟨S, β, h.drew⟩
            · intro i hi
              by_cases hl : i < ops.size
              · rw [hget i false hl] at hi; cases hi
              · simp [Array.getD, hl] at hi
            · intro i hi
              refine hget i true ?_
              have := hP.ah
              exact ahead_lt this i (List.mem_append_right _ hi)
            · intro i hi _
              exact evPu_valid hP hp0 hP.p0 (fun k hk => List.mem_append_left _ hk) i hi
            · intro i hi
              rcases List.mem_append.1 (hP.mem i hi) with h | h
              · exact .inr (.inl h)
              · exact .inr (.inr h)
        · cases e
      | false =>
        obtain ⟨s, h1, h2⟩ := Option.bind_eq_some_iff.1 e
        cases h2
        have h4 := ihO ops _ st s h1
        intro X β0 w0 S0 a w hs
        exact wp_region (h4 X β0 w0 S0 a w _ hs fun a' w' hs' => ⟨s, ⟨rfl, rfl⟩, hs'⟩)
    | seq x y =>
      obtain ⟨⟨ex, s⟩, h1, h2⟩ := Option.bind_eq_some_iff.1 e
      have g1 := ihC g x st _ h1
      refine aw_seq_k fun K hK => aw_mono g1 ?_
      rintro e s' ⟨rfl, rfl⟩
      cases e with
      | normal => exact hK _ (ihC g y _ _ h2)
      | _ => cases h2; exact ⟨rfl, rfl⟩
    | cond x a b =>
      simp only [] at e
      split at e
      · rename_i hc; exact aw_cond hc (fun _ => ihC g a st r e) (fun h => by cases h)
      · rename_i hc; exact aw_cond hc (fun h => by cases h) (fun _ => ihC g b st r e)
      · cases e
    | block id c =>
      obtain ⟨⟨ex, s⟩, h1, h2⟩ := Option.bind_eq_some_iff.1 e
      refine aw_block (aw_mono (ihC g c st _ h1) ?_)
      rintro e s' ⟨rfl, rfl⟩
      cases e with
      | exit j =>
        simp only [inBE] at h2
        simp only [inB]
        split
        · rename_i hj; rw [if_pos hj] at h2; cases h2; exact ⟨rfl, rfl⟩
        · rename_i hj; rw [if_neg hj] at h2; cases h2; exact ⟨rfl, rfl⟩
      | _ => cases h2; exact ⟨rfl, rfl⟩
    | loop c =>
      simp only [] at e
      split at e
      · rename_i s hh
        have g1 := ihL g _ c s r e
        intro X β0 w0 S0 a w hs
        exact aw_of_awL g1 X β0 w0 S0 a w (headSt_sound hh hs)
      · cases e
    | exit id => cases e; exact aw_exit ⟨rfl, rfl⟩
    | ret => cases e; exact aw_ret ⟨rfl, rfl⟩
    | _ => cases e
  · intro evC evL ihC ihL g h c st r e
    unfold stL at e
    obtain ⟨⟨ex, s⟩, h1, h2⟩ := Option.bind_eq_some_iff.1 e
    have g1 := ihC g c st _ h1
    refine awL_round ?_
    cases ex with
    | normal =>
      simp only [] at h2
      split at h2
      · rename_i s1 hh
        refine aw_le g1 ?_
        rintro e s' ⟨rfl, rfl⟩
        exact ⟨s1, ihL g h c s1 r h2, fun X β0 w0 S0 a w hs => headSt_sound hh hs⟩
      · cases h2
    | exit id =>
      obtain ⟨⟨l1, live, l2⟩, l3⟩ := leave_sound h2
      refine aw_le g1 ?_
      rintro e s' ⟨rfl, rfl⟩
      exact ⟨r.2, ⟨l1, rfl⟩, fun X β0 w0 S0 a w hs => prune_sound l2 hs⟩
    | ret =>
      obtain ⟨⟨l1, live, l2⟩, l3⟩ := leave_sound h2
      refine aw_le g1 ?_
      rintro e s' ⟨rfl, rfl⟩
      exact ⟨r.2, ⟨l1, rfl⟩, fun X β0 w0 S0 a w hs => prune_sound l2 hs⟩
    | _ => cases h2
  · intro evDr ev1 ihD ih1 ops l st s e
    unfold stD at e
    cases l with
    | done => cases e; exact .done _
    | alt a re pu next other =>
      simp only [] at e
      split at e
      · cases e
      · rename_i o ho
        obtain ⟨s1, h1, h2⟩ := Option.bind_eq_some_iff.1 e
        split at h2
        · cases h2
        · rename_i s2 hs2
          split at h2
          · rename_i hre
            obtain ⟨s3, h3, h4⟩ := Option.bind_eq_some_iff.1 h2
            split at h4
            · cases h4
              exact .one ho (ih1 o _ st s1 h1) hs2 hre (ihD ops next s2 s h3)
            · obtain ⟨s4, h5, h6⟩ := Option.bind_eq_some_iff.1 h4
              obtain ⟨rfl, hle⟩ := same_sle (P := C.P) h6
              exact .alt ho (ih1 o _ st s1 h1) hs2 hre (ihD ops next s2 s h3) (ihD ops _ st s4 h5) hle
          · cases h2
  · intro evF ihF o b st s e
    exact ev1B_step hE ihF (show ev1B C evF o b st = some s from e)
  · intro ev1 evOps ih1 ihO ops l st s e
    unfold stO at e
    cases l with
    | nil => cases e; intro X β0 w0 S0 a w Q hs hQ; exact hQ a w hs
    | cons i l =>
      simp only [] at e
      split at e
      · cases e
      · rename_i o ho
        obtain ⟨s1, h1, h2⟩ := Option.bind_eq_some_iff.1 e
        have g1 := ih1 o _ st s1 h1
        have g2 := ihO ops l s1 s h2
        intro X β0 w0 S0 a w Q hs hQ
        rw [wpOps_cons]
        obtain ⟨k0, k1, k2⟩ := g1.here hs
        obtain ⟨S, β, hsim⟩ := hs
        unfold wpOp
        rw [ho]
        simp only []
        cases hg : gval ops st o with
        | none => exact absurd hg k0
        | some b =>
          rw [gval_sound hsim hg]
          rw [hg] at k1 k2
          cases b with
          | true => rw [if_pos rfl]; exact .inl (Oper.wp_mono (fun a' w' hs' => g2 X β0 w0 S0 a' w' Q hs' hQ) (k1 rfl Q))
          | false => rw [if_neg (by simp)]; exact g2 X β0 w0 S0 _ _ Q (k2 rfl) hQ
theorem evF_sound {C : Cfg} (hE : ∀ g h, C.E g = some h → ExtOk C.P g h) (hO : ∀ g h ins args r, C.O g = some h → h ins args = some r → m1 C g ins args r) {g : FuncId} {ins : Objs} {args : List TV} {r : TV × Objs} (e : evF C g ins args = some r) :
    Plainly C.P g ∧ ACz (C.Z g) C.P g ins args fun _ _ r' o' => r' = r.1 ∧ o' = r.2 := (ev_all C hE hO).1 g ins args r e
end
end Go.Av
end
section
set_option linter.unusedVariables false
namespace Go.Av
structure Tg {α : Type} (a : α) : Type
section
variable {C : Cfg} {g : FuncId} {st : St}
def br {α : Type} (b : Bool) (x y : Option α) (_ : Tg (x, y)) : Option α := match b with
  | true => x
  | false => y
@[push_cast] theorem br_true {α : Type} (x y : Option α) (t : Tg (x, y)) : br true x y t = x := rfl
@[push_cast] theorem br_false {α : Type} (x y : Option α) (t : Tg (x, y)) : br false x y t = y := rfl
@[push_cast] theorem br_not {α : Type} (b : Bool) (x y : Option α) (t : Tg (x, y)) : br (!b) x y t = br b y x ⟨⟩ := by cases b <;> rfl
theorem br_split {α : Type} {b : Bool} {x y r : Option α} {t : Tg (x, y)} (h1 : b = true → x = r) (h2 : b = false → y = r) : br b x y t = r := by
  cases b
  · exact h2 rfl
  · exact h1 rfl
def normC (x : Option St) : Option (Exit × St) := match x with
  | some s => some (.normal, s)
  | none => none
noncomputable def evB (C : Cfg) (g : FuncId) (c : Code) (_ : Tg c) (st : St) : Option (Exit × St) := evC C g c st
noncomputable def evM (C : Cfg) (g : FuncId) (h : LHint) (c : Code) (_ : Tg c) (st : St) : Option (Exit × St) := evL C g h c st
def condC (b : Option Bool) (x y : Option (Exit × St)) (_ : Tg (x, y)) : Option (Exit × St) := match b with
  | some true => x
  | some false => y
  | none => none
noncomputable def thenS (C : Cfg) (g : FuncId) (y : Code) (_ : Tg y) : Option (Exit × St) → Option (Exit × St)
  | some (.normal, s) => evB C g y ⟨⟩ s
  | some (.exit id, s) => some (.exit id, s)
  | some (.ret, s) => some (.ret, s)
  | some (.goto l, s) => some (.goto l, s)
  | some (.panic c, s) => some (.panic c, s)
  | some (.outgrown, s) => some (.outgrown, s)
  | none => none
def evPost (st : St) (dst : Option Nat) (p : Prep) : Option (TV × Objs) → Option St
  | some r => post st dst p r
  | none => none
noncomputable def evPrep (C : Cfg) (st : St) (dst : Option Nat) : Option Prep → Option St
  | some p => evPost st dst p (evF C p.g p.ins p.args)
  | none => none
noncomputable def loopS (C : Cfg) (g : FuncId) (h : LHint) (c : Code) (_ : Tg c) : Option St → Option (Exit × St)
  | some s => evM C g h c ⟨⟩ s
  | none => none
noncomputable def roundC (C : Cfg) (g : FuncId) (h : LHint) (c : Code) (_ : Tg c) : Option (Exit × St) → Option (Exit × St)
  | some (.normal, s) => loopS C g h c ⟨⟩ (headSt h s)
  | some (.exit id, s) => leave h (.exit id) s
  | some (.ret, s) => leave h .ret s
  | some (.goto _, _) => none
  | some (.panic _, _) => none
  | some (.outgrown, _) => none
  | none => none
def effVal : Option Eff → Option TV
  | some (.val x) => some x
  | some (.box _ _) => none
  | none => none
def pv2 (P : Program) (st : St) (op : Op) : Option TV := effVal (leff P st op)
noncomputable def evR (C : Cfg) (ops : Array Oper) (_ : Tg ops) : (l : List Oper) → Tg l → St → Option St
  | [], _, st => some st
  | o :: l, _, st => match ev1 C o (gval ops st o) st with
    | some s => evR C ops ⟨⟩ l ⟨⟩ s
    | none => none
noncomputable def evK (C : Cfg) (ops : Array Oper) (t : Tg ops) (l : List Oper) (_ : Tg l) : Option St → Option St
  | some s => evR C ops t l ⟨⟩ s
  | none => none
noncomputable def eopD (P : Program) (st : St) (dst : Option Nat) (op : Op) : Option St := eop P st { dst := dst, op := op, type := 0, pos := "", after := #[], guard := none } op
def evExt (st : St) (dst : Option Nat) : Option TV → Option St
  | some x => put st x dst
  | none => none
noncomputable def evExtP (C : Cfg) (st : St) (dst : Option Nat) (f : TV) (args : List TV) : Option (List TV → Option TV) → Option St
  | some h => evExt st dst (h args)
  | none => evPrep C st dst (prep C st f args)
noncomputable def evOpD (C : Cfg) (st : St) (dst : Option Nat) (op : Op) : Option (Operand × List Operand) → Option St
  | none => eopD C.P st dst op
  | some (f, args) => evExtP C st dst (evc st f) (args.map (evc st)) (extOf C (evc st f))
noncomputable def evY (C : Cfg) (st : St) (dst : Option Nat) (op : Op) : Option St := ev1 C { dst := dst, op := op, type := 0, pos := "", after := #[], guard := none } (some true) st
noncomputable def evX (C : Cfg) (st : St) (dst : Option Nat) (op : Op) (b : Option Bool) : Option St := ev1 C { dst := dst, op := op, type := 0, pos := "", after := #[], guard := none } b st
theorem lop_dst (P : Program) (o o' : Oper) (h : o.op = o'.op) (h2 : o.dst = o'.dst) : lop P st o = lop P st o' := by unfold lop; rw [h, h2]
theorem eop_dst (P : Program) (o o' : Oper) (op : Op) (h : o.op = o'.op) (h2 : o.dst = o'.dst) : eop P st o op = eop P st o' op := by
  have hl := lop_dst (st := st) P o o' h h2
  cases op with
  | call c =>
    simp only [eop, hl, h2]
  | slice t x lo hi mx =>
    cases mx with
    | none =>
      simp only [eop]
      cases evc st x with
      | own k =>
        have h3 : ∀ lo hi, eslice2 P st o t lo hi k = eslice2 P st o' t lo hi k := by intro lo hi; simp only [eslice2, h2]
        simp only [eslice, h3]
        split
        · rename_i y
          have h4 : eslice1 P st o t y k = eslice1 P st o' t y k := by funext z; cases z <;> simp only [eslice1, h2, h3]
          rw [h4]
        · rfl
      | d t => simp only [eslice, hl]
      | _ => rfl
    | some m => simp only [eop, h2]
  | _ => simp only [eop, hl, h2]
theorem ev1_dst (o o' : Oper) (b : Option Bool) (h : o.op = o'.op) (h2 : o.dst = o'.dst) : ev1 C o b st = ev1 C o' b st := by
  rw [ev1_def C o, ev1_def C o', stE.eq_def, stE.eq_def, h, h2]
  cases b with
  | none => rfl
  | some t =>
    cases t with
    | false => rfl
    | true =>
      simp only []
      cases callOf o'.op with
      | none => exact eop_dst C.P o o' _ h h2
      | some p => rfl
theorem evR_eq (ops : Array Oper) (t : Tg ops) : ∀ (n i : Nat) (st : St), n = ops.size - i → i ≤ ops.size → evOps C ops (List.range' i n) st = evR C ops t (ops.toList.drop i) ⟨⟩ st := by
  intro n
  induction n with
  | zero =>
    intro i st h hi
    have : ops.toList.drop i = [] := List.drop_eq_nil_of_le (by simp; omega)
    rw [this, List.range'_zero, evOps_def, stO, evR]
  | succ n ih =>
    intro i st h hi
    have hlt : i < ops.size := by omega
    rw [List.range'_succ, evOps_def, stO]
    have hd : ops.toList.drop i = ops[i] :: ops.toList.drop (i + 1) := by
      rw [List.drop_eq_getElem_cons (by simpa using hlt)]
      simp
    rw [hd, evR, Array.getElem?_eq_getElem hlt]
    simp only []
    cases ev1 C ops[i] (gval ops st ops[i]) st with
    | none => rfl
    | some s => exact ih (i + 1) s (by omega) (by omega)
@[congr] theorem normC_congr {x y : Option St} (h : x = y) : normC x = normC y := by rw [h]
@[congr] theorem inBE_congr {id : Nat} {x y : Option (Exit × St)} (h : x = y) : inBE id x = inBE id y := by rw [h]
@[congr] theorem evPost_congr {s : St} {d : Option Nat} {p : Prep} {o o' : Option (TV × Objs)} (h : o = o') : evPost s d p o = evPost s d p o' := by rw [h]
@[congr] theorem evPrep_congr {s : St} {d : Option Nat} {o o' : Option Prep} (h : o = o') : evPrep C s d o = evPrep C s d o' := by rw [h]
@[congr] theorem evX_congr {s : St} {d : Option Nat} {op : Op} {x y : Option Bool} (h : x = y) : evX C s d op x = evX C s d op y := by rw [h]
@[congr] theorem efin_congr {rv : List ResultVar} {ins : Objs} {x y : Option (Exit × St)} (h : x = y) : efin C g rv ins x = efin C g rv ins y := by rw [h]
theorem evF_codeU {ins : Objs} {args : List TV} {fn : Func} {c : Code} (ho : C.O g = none) (hu : C.U g = true) (hf : C.P.funcs[g]? = some fn) (hb : fn.body = some c) (hz : args.length ≤ fn.ntmps)
    (hn : (fn.name == "runtime.NumGoroutine") = false) (hi : (keysOf ins).all (fun k => decide (k < 40)) = true) (hzz : C.Z g = false := by rfl) :
    evF C g ins args = efin C g fn.results.toList ins (evB C g c ⟨⟩ (initU true (init ins args fn.ntmps 0))) := by
  rw [evF_def, stF]
  simp only [ho, hf, hb, hz, hn, hi, hu, hzz, gZ, Bool.false_eq_true, false_implies, and_self, if_true, evB]
  cases evC C g c (initU true (init ins args fn.ntmps 0)) with
  | none => rfl
  | some r => rfl
theorem evF_code {ins : Objs} {args : List TV} {fn : Func} {c : Code} (ho : C.O g = none) (hf : C.P.funcs[g]? = some fn) (hb : fn.body = some c) (hz : args.length ≤ fn.ntmps)
    (hn : (fn.name == "runtime.NumGoroutine") = false) (hi : (keysOf ins).all (fun k => decide (k < 40)) = true) (hu : C.U g = false := by rfl) (hzz : C.Z g = false := by rfl) :
    evF C g ins args = efin C g fn.results.toList ins (evB C g c ⟨⟩ (init ins args fn.ntmps 0)) := by
  rw [evF_def, stF]
  simp only [ho, hf, hb, hz, hn, hi, hu, hzz, gZ, initU, Bool.false_eq_true, false_implies, and_self, if_true, evB]
  cases evC C g c (init ins args fn.ntmps 0) with
  | none => rfl
  | some r => rfl
theorem evF_codeZ {args : List TV} {fn : Func} {c : Code} (ho : C.O g = none) (hf : C.P.funcs[g]? = some fn) (hb : fn.body = some c) (hz : args.length ≤ fn.ntmps)
    (hn : (fn.name == "runtime.NumGoroutine") = false) (hu : C.U g = false := by rfl) (hzz : C.Z g = true := by rfl) :
    evF C g [] args = efin C g fn.results.toList [] (evB C g c ⟨⟩ (gZ true (init [] args fn.ntmps 0))) := by
  rw [evF_def, stF]
  simp only [ho, hf, hb, hz, hn, hu, hzz, initU, keysOf, List.map_nil, List.all_nil, implies_true, and_self, if_true, evB]
  cases evC C g c (gZ true (init [] args fn.ntmps 0)) with
  | none => rfl
  | some r => rfl
@[push_cast] theorem evB_skip (t : Tg _) : evB C g .skip t st = some (.normal, st) := by rw [evB, evC_def, stC]
@[push_cast] theorem evB_exit (id : Nat) (t : Tg _) : evB C g (.exit id) t st = some (.exit id, st) := by rw [evB, evC_def, stC]
@[push_cast] theorem evB_ret (t : Tg _) : evB C g .ret t st = some (.ret, st) := by rw [evB, evC_def, stC]
@[push_cast] theorem evB_region (id : Nat) (l : List Oper) (t : Tg _) : evB C g (.region id l.toArray false) t st = normC (evR C l.toArray ⟨⟩ l ⟨⟩ st) := by
  rw [evB, evC_def, stC]
  have := evR_eq (C := C) l.toArray ⟨⟩ l.toArray.size 0 st (by simp) (Nat.zero_le _)
  rw [← List.range_eq_range'] at this
  have e : evOps C l.toArray (List.range l.toArray.size) st = evR C l.toArray ⟨⟩ l ⟨⟩ st := this
  rw [e]
  cases evR C l.toArray ⟨⟩ l ⟨⟩ st <;> rfl
@[push_cast] theorem evB_seq (x y : Code) (t : Tg _) : evB C g (.seq x y) t st = thenS C g y ⟨⟩ (evB C g x ⟨⟩ st) := by
  rw [evB, evC_def, stC, evB]
  cases evC C g x st with
  | none => rfl
  | some r => obtain ⟨e, s⟩ := r; cases e <;> rfl
@[push_cast] theorem evB_cond (x : Operand) (a b : Code) (t : Tg _) : evB C g (.cond x a b) t st = condC (boolOfTV (evc st x)) (evB C g a ⟨⟩ st) (evB C g b ⟨⟩ st) ⟨⟩ := by
  rw [evB, evC_def, stC]
  cases boolOfTV (evc st x) with
  | none => rfl
  | some t => cases t <;> rfl
@[push_cast] theorem condC_some (b : Bool) (x y : Option (Exit × St)) (t : Tg _) : condC (some b) x y t = br b x y ⟨⟩ := by cases b <;> rfl
@[push_cast] theorem evB_block (id : Nat) (c : Code) (t : Tg _) : evB C g (.block id c) t st = inBE id (evB C g c ⟨⟩ st) := by
  rw [evB, evC_def, stC, evB]
  cases evC C g c st <;> rfl
@[push_cast] theorem evB_loop (c : Code) (t : Tg _) : evB C g (.loop c) t st = loopS C g (C.H g (firstRegion c)) c ⟨⟩ (headSt (C.H g (firstRegion c)) st) := by
  rw [evB, evC_def, stC]
  cases headSt (C.H g (firstRegion c)) st <;> rfl
theorem evM_eq (h : LHint) (c : Code) (t : Tg _) : evM C g h c t st = roundC C g h c ⟨⟩ (evB C g c ⟨⟩ st) := by
  rw [evM, evL_def, stL, evB]
  cases evC C g c st with
  | none => rfl
  | some r =>
    obtain ⟨e, s⟩ := r
    cases e with
    | normal =>
      simp only [roundC]
      cases hh : headSt h s <;> simp [hh, loopS, evM]
    | _ => rfl
@[push_cast] theorem evR_nil (ops : Array Oper) (t : Tg ops) (t' : Tg _) : evR C ops t [] t' st = some st := by rw [evR]
@[push_cast] theorem evR_plain (ops : Array Oper) (t : Tg ops) (d : Option Nat) (op : Op) (ty : TypeId) (p : String) (af : Array Edge) (l : List Oper) (t' : Tg _) :
    evR C ops t (Oper.mk d op ty p af none :: l) t' st = evK C ops t l ⟨⟩ (evY C st d op) := by
  rw [evR]
  have : gval ops st (Oper.mk d op ty p af none) = some true := rfl
  rw [this, ev1_dst (C := C) (st := st) (Oper.mk d op ty p af none) { dst := d, op := op, type := 0, pos := "", after := #[], guard := none } (some true) rfl rfl]
  simp only [evY]
  cases ev1 C _ (some true) st <;> rfl
@[push_cast] theorem evR_guard (ops : Array Oper) (t : Tg ops) (d : Option Nat) (op : Op) (ty : TypeId) (p : String) (af : Array Edge) (j : Nat) (w : Bool) (l : List Oper) (t' : Tg _) :
    evR C ops t (Oper.mk d op ty p af (some (j, w)) :: l) t' st = evK C ops t l ⟨⟩ (evX C st d op (ob (ops[j]?) fun oj => ob oj.dst fun d => guardOf (evc st (.tmp d)) w)) := by
  rw [evR]
  have : gval ops st (Oper.mk d op ty p af (some (j, w))) = (ob (ops[j]?) fun oj => ob oj.dst fun d => guardOf (evc st (.tmp d)) w) := rfl
  rw [this, ev1_dst (C := C) (st := st) (Oper.mk d op ty p af (some (j, w))) { dst := d, op := op, type := 0, pos := "", after := #[], guard := none } _ rfl rfl]
  simp only [evX]
  cases ev1 C _ _ st <;> rfl
@[push_cast] theorem evX_some (d : Option Nat) (op : Op) (b : Bool) : evX C st d op (some b) = br b (evY C st d op) (put st (.tup []) d) ⟨⟩ := by
  cases b
  · rw [evX, ev1_def, stE]; rfl
  · rfl
@[push_cast] theorem evY_eq (d : Option Nat) (op : Op) : evY C st d op = evOpD C st d op (callOf op) := by
  rw [evY, ev1_def, stE]
  simp only []
  cases callOf op with
  | none => rfl
  | some p =>
    obtain ⟨f, args⟩ := p
    simp only [evOpD]
    cases extOf C (evc st f) with
    | some h =>
      simp only [evExtP]
      cases h (args.map (evc st)) <;> rfl
    | none =>
    simp only [evExtP]
    cases prep C st (evc st f) (args.map (evc st)) with
    | none => rfl
    | some p =>
      simp only [evPrep]
      cases evF C p.g p.ins p.args <;> rfl
noncomputable def evD4 (s : St) : Option St → Option St
  | none => none
  | some s' => sameO s s'
noncomputable def evD3 (C : Cfg) (ops : Array Oper) (st : St) : DT → Option St → Option St
  | _, none => none
  | .done, some s => some s
  | .alt a re pu next other, some s => evD4 s (evDr C ops (.alt a re pu next other) st)
noncomputable def evD2 (C : Cfg) (ops : Array Oper) (re pu : List Nat) (next other : DT) (st : St) : Option St → Option St
  | none => none
  | some s1 => ob (evPu C.P ops pu s1) fun s2 => br (reB C.P ops s2 re) (evD3 C ops st other (evDr C ops next s2)) none ⟨⟩
noncomputable def evD1 (C : Cfg) (ops : Array Oper) (re pu : List Nat) (next other : DT) (st : St) : Option Oper → Option St
  | none => none
  | some o => evD2 C ops re pu next other st (evX C st o.dst o.op (gval ops st o))
noncomputable def drawC (C : Cfg) (ops : Array Oper) (_ : Tg ops) (pl : Plan) (st : St) : Option (Exit × St) := if planOk ops pl = true ∧ C.P.follows .mixedOrders = true then normC (ob (evPu C.P ops pl.p0 st) (evDr C ops pl.ss)) else none
theorem drawC_ok {ops : Array Oper} {t : Tg ops} {pl : Plan} (h : planOk ops pl = true) (h2 : C.P.follows .mixedOrders = true) : drawC C ops t pl st = normC (ob (evPu C.P ops pl.p0 st) (evDr C ops pl.ss)) := by
  unfold drawC; rw [if_pos ⟨h, h2⟩]
@[push_cast] theorem evB_draw (id : Nat) (ops : Array Oper) (t : Tg _) : evB C g (.region id ops true) t st = drawC C ops ⟨⟩ (C.D g id) st := by
  rw [evB, evC_def, stC]
  simp only [drawC]
  split
  · cases evPu C.P ops (C.D g id).p0 st with
    | none => rfl
    | some s0 => simp only [ob]; cases evDr C ops (C.D g id).ss s0 <;> rfl
  · rfl
@[push_cast] theorem evDr_nil (ops : Array Oper) : evDr C ops .done st = some st := by rw [evDr_def, stD]
@[push_cast] theorem evDr_cons (ops : Array Oper) (i : Nat) (re pu : List Nat) (next other : DT) : evDr C ops (.alt i re pu next other) st = evD1 C ops re pu next other st (ops[i]?) := by
  rw [evDr_def, stD]
  cases ops[i]? with
  | none => rfl
  | some o =>
    simp only [evD1, evX]
    rw [ev1_dst (C := C) (st := st) o { dst := o.dst, op := o.op, type := 0, pos := "", after := #[], guard := none } (gval ops st o) rfl rfl]
    cases ev1 C _ (gval ops st o) st with
    | none => rfl
    | some s1 =>
      simp only [evD2, Option.bind_eq_bind, Option.bind_some]
      cases evPu C.P ops pu s1 with
      | none => rfl
      | some s2 =>
        simp only [ob]
        cases reB C.P ops s2 re with
        | false => rfl
        | true =>
          simp only [br, if_true]
          cases evDr C ops next s2 with
          | none => cases other <;> rfl
          | some s =>
            cases other with
            | done => rfl
            | alt a' re' pu' next' other' =>
              simp only [evD3, Option.bind_some]
              cases evDr C ops (.alt a' re' pu' next' other') st <;> rfl
open Classical in
@[push_cast] theorem sameO_br (s t : St) : sameO s t = br (decide (sameP s t)) (some s) none ⟨⟩ := by
  unfold sameO
  by_cases h : sameP s t <;> simp [h, br]
@[congr] theorem evD4_congr {s : St} {x y : Option St} (h : x = y) : evD4 s x = evD4 s y := by rw [h]
@[congr] theorem evD3_congr {C : Cfg} {ops : Array Oper} {st : St} {o : DT} {x y : Option St} (h : x = y) : evD3 C ops st o x = evD3 C ops st o y := by rw [h]
@[push_cast] theorem pv1_some (P : Program) (op : Op) (b : Bool) : pv1 P st op (some b) = br b (pv2 P st op) (some (.tup [])) ⟨⟩ := by cases b <;> rfl
@[push_cast] theorem thenS_br (y : Code) (t : Tg y) (c : Bool) (a b : Option (Exit × St)) (t' : Tg _) : thenS C g y t (br c a b t') = br c (thenS C g y ⟨⟩ a) (thenS C g y ⟨⟩ b) ⟨⟩ := by cases c <;> rfl
@[push_cast] theorem roundC_br (h : LHint) (y : Code) (t : Tg y) (c : Bool) (a b : Option (Exit × St)) (t' : Tg _) : roundC C g h y t (br c a b t') = br c (roundC C g h y ⟨⟩ a) (roundC C g h y ⟨⟩ b) ⟨⟩ := by cases c <;> rfl
@[push_cast] theorem loopS_br (h : LHint) (y : Code) (t : Tg y) (c : Bool) (a b : Option St) (t' : Tg _) : loopS C g h y t (br c a b t') = br c (loopS C g h y ⟨⟩ a) (loopS C g h y ⟨⟩ b) ⟨⟩ := by cases c <;> rfl
@[push_cast] theorem evD2_br (ops : Array Oper) (re pu : List Nat) (next other : DT) (s : St) (c : Bool) (a b : Option St) (t' : Tg _) : evD2 C ops re pu next other s (br c a b t') = br c (evD2 C ops re pu next other s a) (evD2 C ops re pu next other s b) ⟨⟩ := by cases c <;> rfl
@[push_cast] theorem evD3_br (ops : Array Oper) (other : DT) (s : St) (c : Bool) (a b : Option St) (t' : Tg _) : evD3 C ops s other (br c a b t') = br c (evD3 C ops s other a) (evD3 C ops s other b) ⟨⟩ := by cases c <;> rfl
@[push_cast] theorem evD4_br (s : St) (c : Bool) (a b : Option St) (t' : Tg _) : evD4 s (br c a b t') = br c (evD4 s a) (evD4 s b) ⟨⟩ := by cases c <;> rfl
@[push_cast] theorem normC_br (c : Bool) (a b : Option St) (t' : Tg _) : normC (br c a b t') = br c (normC a) (normC b) ⟨⟩ := by cases c <;> rfl
@[push_cast] theorem inBE_br (id : Nat) (c : Bool) (a b : Option (Exit × St)) (t' : Tg _) : inBE id (br c a b t') = br c (inBE id a) (inBE id b) ⟨⟩ := by cases c <;> rfl
@[push_cast] theorem evK_br (ops : Array Oper) (t : Tg ops) (l : List Oper) (t2 : Tg l) (c : Bool) (a b : Option St) (t' : Tg _) : evK C ops t l t2 (br c a b t') = br c (evK C ops t l t2 a) (evK C ops t l t2 b) ⟨⟩ := by cases c <;> rfl
@[push_cast] theorem efin_br (rv : List ResultVar) (ins : Objs) (c : Bool) (a b : Option (Exit × St)) (t' : Tg _) : efin C g rv ins (br c a b t') = br c (efin C g rv ins a) (efin C g rv ins b) ⟨⟩ := by cases c <;> rfl
@[push_cast] theorem ob_br {α β : Type} (c : Bool) (a b : Option α) (f : α → Option β) (t' : Tg _) : ob (br c a b t') f = br c (ob a f) (ob b f) ⟨⟩ := by cases c <;> rfl
end
section
variable {C : Cfg} {g : FuncId}
theorem evM_for {h : LHint} {c : Code} {α : Type} (n : Nat) (F : Nat → Int → α → St) (R : Nat → α → Option (Exit × St))
    (step : ∀ (i : Nat) (x : α), i < n → (∀ y, evM C g h c ⟨⟩ (F (i + 1) ((i : Int) + 1) y) = R (i + 1) y) → roundC C g h c ⟨⟩ (evB C g c ⟨⟩ (F i (i : Int) x)) = R i x)
    (last : ∀ x, roundC C g h c ⟨⟩ (evB C g c ⟨⟩ (F n (n : Int) x)) = R n x) (x : α) : evM C g h c ⟨⟩ (F 0 0 x) = R 0 x := by
  have key : ∀ k i : Nat, i + k = n → ∀ x, evM C g h c ⟨⟩ (F i (i : Int) x) = R i x := by
    intro k
    induction k with
    | zero =>
      intro i hi x
      have hin : i = n := by omega
      subst hin
      rw [evM_eq]
      exact last x
    | succ k ih =>
      intro i hi x
      rw [evM_eq]
      exact step i x (by omega) fun y => by
        have := ih (i + 1) (by omega) y
        rwa [show (((i + 1 : Nat)) : Int) = (i : Int) + 1 by omega] at this
  exact key n 0 (by omega) x
theorem evM_for0 {h : LHint} {c : Code} (n : Nat) (F : Nat → Int → St) (R : Nat → Option (Exit × St))
    (step : ∀ (i : Nat), i < n → evM C g h c ⟨⟩ (F (i + 1) ((i : Int) + 1)) = R (i + 1) → roundC C g h c ⟨⟩ (evB C g c ⟨⟩ (F i (i : Int))) = R i)
    (last : roundC C g h c ⟨⟩ (evB C g c ⟨⟩ (F n (n : Int))) = R n) : evM C g h c ⟨⟩ (F 0 0) = R 0 :=
  evM_for n (fun i j (_ : Unit) => F i j) (fun i _ => R i) (fun i _ hi ih => step i hi (ih ())) (fun _ => last) ()
end
@[push_cast] theorem dec_irr (a : Int) : decide (a < a) = false := by simp
theorem dec_lt {i n : Nat} (h : i < n) : decide ((i : Int) < (n : Int)) = true := by simpa using h
theorem dec_ltN {i n : Nat} (h : i < n) : decide (i < n) = true := by simpa using h
@[push_cast] theorem dec_nn (i : Nat) : decide (0 ≤ (i : Int)) = true := by simp
theorem ba_toList (x : ByteArray) : x.toList = x.data.toList := by
  have key : ∀ (n i : Nat) (r : List UInt8), n = x.size - i → ByteArray.toList.loop x i r = r.reverse ++ x.data.toList.drop i := by
    intro n
    induction n with
    | zero =>
      intro i r h
      rw [ByteArray.toList.loop, if_neg (by omega)]
      have hz : x.data.toList.length = x.size := by simp
      have : x.data.toList.drop i = [] := List.drop_eq_nil_of_le (by omega)
      rw [this, List.append_nil]
    | succ n ih =>
      intro i r h
      have hi : i < x.size := by omega
      rw [ByteArray.toList.loop, if_pos hi, ih (i + 1) _ (by omega)]
      have hl : i < x.data.toList.length := by simpa using hi
      rw [List.drop_eq_getElem_cons hl, List.reverse_cons, List.append_assoc, List.singleton_append]
      congr 2
      simp [ByteArray.get!, hi]
  have := key x.size 0 [] (by omega)
  simp only [List.reverse_nil, List.nil_append, List.drop_zero] at this
  exact this
@[push_cast] theorem toList_beq (x y : ByteArray) : (x.toList == y.toList) = decide (x = y) := by
  rw [ba_toList, ba_toList]
  by_cases h : x = y
  · subst h; simp
  · have : ¬ x.data.toList = y.data.toList := fun e => h (ByteArray.ext (Array.toList_inj.1 e))
    rw [decide_eq_false h]
    exact beq_eq_false_iff_ne.2 this
theorem i64_in {n : Int} (h1 : -9223372036854775808 ≤ n) (h2 : n ≤ 9223372036854775807) : IntKind.i64.wrap n = n := by
  have a : ((2 : Int) ^ IntKind.i64.bits) = 18446744073709551616 := by decide
  have b : ((2 : Int) ^ (IntKind.i64.bits - 1)) = 9223372036854775808 := by decide
  have c : IntKind.i64.signed = true := rfl
  simp only [IntKind.wrap, a, b, c, Bool.true_and, decide_eq_true_eq]
  split <;> omega
@[push_cast] theorem wrap_l0 : IntKind.i64.wrap 0 = 0 := by decide
@[push_cast] theorem wrap_l1 : IntKind.i64.wrap 1 = 1 := by decide
@[push_cast] theorem wrap_l2 : IntKind.i64.wrap 2 = 2 := by decide
@[push_cast] theorem wrap_l3 : IntKind.i64.wrap 3 = 3 := by decide
@[push_cast] theorem wrap_l4 : IntKind.i64.wrap 4 = 4 := by decide
@[push_cast] theorem wrap_l5 : IntKind.i64.wrap 5 = 5 := by decide
@[push_cast] theorem wrap_l6 : IntKind.i64.wrap 6 = 6 := by decide
@[push_cast] theorem wrap_l7 : IntKind.i64.wrap 7 = 7 := by decide
@[push_cast] theorem wrap_l8 : IntKind.i64.wrap 8 = 8 := by decide
@[push_cast] theorem wrap_l9 : IntKind.i64.wrap 9 = 9 := by decide
@[push_cast] theorem wrap_l10 : IntKind.i64.wrap 10 = 10 := by decide
@[push_cast] theorem wrap_l11 : IntKind.i64.wrap 11 = 11 := by decide
@[push_cast] theorem wrap_l12 : IntKind.i64.wrap 12 = 12 := by decide
end Go.Av
end
section
namespace Go.Av
attribute [push_cast] gw.eq_1 gw.eq_2 guardOf.eq_1 guardOf.eq_2 guardOf.eq_3 guardOf.eq_4 guardOf.eq_5 guardOf.eq_6 guardOf.eq_7 guardOf.eq_8 guardOf.eq_9 guardOf.eq_10 guardOf.eq_11 guardOf.eq_12 guardOf.eq_13 guardOf.eq_14 guardOf.eq_15 guardOf.eq_16 lop.eq_1 leff.eq_1 leff.eq_2 leff.eq_3 leff.eq_4 leff.eq_5 leff.eq_6 leff.eq_7 leff.eq_8 leff.eq_9 leff.eq_10 leff.eq_11 leff.eq_12 leff.eq_13 leff.eq_14 leff.eq_15 leff.eq_16 leff.eq_17 leff.eq_18 leff.eq_19 evc.eq_1 evc.eq_2 evc.eq_3 evc.eq_4 put.eq_1 put.eq_2 fieldAt.eq_1 fieldAt.eq_2 fieldAt.eq_3 fieldAt.eq_4 fieldAt.eq_5 fieldAt.eq_6 fieldAt.eq_7 fieldAt.eq_8 fieldAt.eq_9 fieldAt.eq_10 fieldAt.eq_11 loadAt.eq_1 loadAt.eq_2 loadAt.eq_3 loadAt.eq_4 loadAt.eq_5 loadAt.eq_6 loadAt.eq_7 loadAt.eq_8 loadAt.eq_9 loadAt.eq_10 loadAt.eq_11 takeTV.eq_1 takeTV.eq_2 takeT.eq_1 takeT.eq_2 lenOf.eq_1 lenOf.eq_2 lenOf.eq_3 lenOf.eq_4 lenOf.eq_5 binAt.eq_1 binAt2.eq_1 binAt2.eq_2 binAt2.eq_3 binAt2.eq_4 binAt2.eq_5 binAt2.eq_6 binAt2.eq_7 shiftAt.eq_1 shiftAt.eq_2 shiftI.eq_1 shiftI.eq_2 shiftI.eq_3 isShift.eq_1 isShift.eq_2 isShift.eq_3 intBin.eq_1 intBin.eq_2 intBin.eq_3 intBin.eq_4 intBin.eq_5 intBin.eq_6 intBin.eq_7 intBin.eq_8 intBin.eq_9 intBin.eq_10 intBin.eq_11 intBin.eq_12 intBin.eq_13 intBin.eq_14 intBin.eq_15 intBin.eq_16 boolBin.eq_1 boolBin.eq_2 boolBin.eq_3 strBin.eq_1 strBin.eq_2 strBin.eq_3 strBin.eq_4 strBin.eq_5 strBin.eq_6 strBin.eq_7 strBin.eq_8 hasKey.eq_1 hasKey.eq_2 kOf.eq_1 indexAt.eq_1 indexAt.eq_2 indexAt.eq_3 valTV.eq_1 valTV.eq_2 valTV.eq_3 valTV.eq_4 valTV.eq_5 valTV.eq_6 boxCells.eq_1 boxCells.eq_2 boxCells.eq_3 arrEs.eq_1 arrEs.eq_2 arrEs.eq_3 intOfTV.eq_1 intOfTV.eq_2 boolOfTV.eq_1 boolOfTV.eq_2 effOn.eq_1 effOn.eq_2 bleff.eq_1 bleff.eq_2 bleff.eq_3 unAt.eq_1 unAt.eq_2 unAt.eq_3 extractAt.eq_1 extractAt.eq_2 convAt.eq_1 convAt.eq_2 fillTV.eq_1 fillTV.eq_2 setSeg.eq_1 cellsOf.eq_1 cellsOf.eq_2 cellsOf.eq_3 cellsOf.eq_4 cellsOf.eq_5 cellsOf.eq_6 cellsOf.eq_7 cellsOf.eq_8 cellsOf.eq_9 cellsOf.eq_10 cellsOf.eq_11 strIndex.eq_1 strIndex.eq_2 boundOf.eq_1 boundOf.eq_2 sliceAt.eq_1 sliceAt.eq_2 sliceAt.eq_3 unA.eq_1 unA.eq_2 unA.eq_3 unA.eq_4 unA.eq_5 unA.eq_6 eqK.eq_1 eqK.eq_2 eqK.eq_3 eqK.eq_4 eqKs.eq_1 eqKs.eq_2 eqKs.eq_3 ownKeys.eq_1 ownKeys.eq_2 ownKeys.eq_3 ownKeys.eq_4 ownKeys.eq_5 ownKeys.eq_6 ownKeys.eq_7 ownKeys.eq_8 ownKeys.eq_9 ownKeys.eq_10 ownKeys.eq_11 ownKeysL.eq_1 ownKeysL.eq_2 frz.eq_1 frz.eq_2 frz1.eq_1 frz1.eq_2 frzObj.eq_1 frzObj.eq_2 frzObj.eq_3 setN.eq_1 storeAt.eq_1 storeAt.eq_2 storeAt.eq_3 astore.eq_1 storeObj.eq_1 storeObj.eq_2 storeObj.eq_3 storeObj.eq_4 storeObj.eq_5 storeBox.eq_1 storeArr.eq_1 toTs.eq_1 toTs.eq_2 toTs.eq_3 toTs.eq_4 toTs.eq_5 single.eq_1 single.eq_2 single.eq_3 single.eq_4 ares.eq_1 ares.eq_2 ares.eq_3 afin.eq_1 afin.eq_2 init.eq_1 argT.eq_1 argT.eq_2 TV.ren.eq_1 TV.ren.eq_2 TV.ren.eq_3 TV.ren.eq_4 TV.ren.eq_5 TV.ren.eq_6 TV.ren.eq_7 TV.ren.eq_8 TV.ren.eq_9 TV.ren.eq_10 TV.ren.eq_11 renL.eq_1 renL.eq_2 Obj.ren.eq_1 Obj.ren.eq_2 Obj.ren.eq_3 renO.eq_1 renO.eq_2 delL.eq_1 delL.eq_2 newKs.eq_1 newKs.eq_2 noneIn.eq_1 noneIn.eq_2 merge.eq_1 rk.eq_1 TV.scr.eq_1 TV.scr.eq_2 TV.scr.eq_3 TV.scr.eq_4 TV.scr.eq_5 TV.scr.eq_6 TV.scr.eq_7 TV.scr.eq_8 TV.scr.eq_9 TV.scr.eq_10 TV.scr.eq_11 scrL.eq_1 scrL.eq_2 Obj.scr.eq_1 Obj.scr.eq_2 Obj.scr.eq_3 scrT.eq_1 scrT.eq_2 scrO.eq_1 scrO.eq_2 baseEs.eq_1 baseEs.eq_2 baseEs.eq_3 readEs.eq_1 readEs.eq_2 readEs.eq_3 readEs.eq_4 readEs.eq_5 fillEs.eq_1 fillEs.eq_2 partKeys.eq_1 partKeys.eq_2 keysTV.eq_1 keysTV.eq_2 keysTV.eq_3 keysTV.eq_4 keysTV.eq_5 keysTV.eq_6 keysTV.eq_7 keysTV.eq_8 keysTV.eq_9 keysTV.eq_10 keysTV.eq_11 keysL.eq_1 keysL.eq_2 keysO.eq_1 keysO.eq_2 keysO.eq_3 keysO.eq_4 reach.eq_1 reach.eq_2 reach.eq_3 TV.okB.eq_1 TV.okB.eq_2 TV.okB.eq_3 TV.okB.eq_4 TV.okB.eq_5 TV.okB.eq_6 TV.okB.eq_7 TV.okB.eq_8 TV.okB.eq_9 TV.okB.eq_10 TV.okB.eq_11 wide.eq_1 wide.eq_2 okBL.eq_1 okBL.eq_2 Obj.okOB.eq_1 Obj.okOB.eq_2 Obj.okOB.eq_3 nodupB.eq_1 nodupB.eq_2 idx.eq_1 idx.eq_2 nth.eq_1 nth.eq_2 nth.eq_3 pick.eq_1 pick.eq_2 allOk.eq_1 allOk.eq_2 pickI.eq_1 pickI.eq_2 lowTV.eq_1 lowTV.eq_2 lowTV.eq_3 lowTV.eq_4 lowTV.eq_5 lowTV.eq_6 lowTV.eq_7 lowTV.eq_8 lowTV.eq_9 lowTV.eq_10 lowTV.eq_11 lowL.eq_1 lowL.eq_2 prep1.eq_1 prep2.eq_1 prep2.eq_2 prep.eq_1 prep.eq_2 prep.eq_3 prep.eq_4 prep.eq_5 prep.eq_6 prep.eq_7 prep.eq_8 prep.eq_9 prep.eq_10 prep.eq_11 post.eq_1 canon.eq_1 news.eq_1 news.eq_2 efin2.eq_1 efin1.eq_1 efin1.eq_2 efin.eq_1 efin.eq_2 efin.eq_3 efin.eq_4 efin.eq_5 efin.eq_6 efin.eq_7 keepT.eq_1 keepT.eq_2 valsT.eq_1 valsT.eq_2 renT.eq_1 renT.eq_2 asArr.eq_1 asArrs.eq_1 asArrs.eq_2 canon2.eq_1 low40.eq_1 low40.eq_2 prune2.eq_1 prune.eq_1 headSt.eq_1 apSt.eq_1 eappend.eq_1 mkArr.eq_1 emake.eq_1 ebuild.eq_1 ebytes.eq_1 ebytes.eq_2 estr.eq_1 strEs.eq_1 strEs.eq_2 strEs.eq_3 strEs.eq_4 eslice.eq_1 eslice.eq_2 eslice.eq_3 eslice.eq_4 eslice.eq_5 eslice.eq_6 eslice.eq_7 eslice.eq_8 eslice.eq_9 eslice.eq_10 eslice.eq_11 eslice.eq_12 eslice1.eq_1 eslice1.eq_2 eslice1.eq_3 eslice2.eq_1 resl.eq_1 isSl.eq_1 isSl.eq_2 isSl.eq_3 isSl.eq_4 ezero.eq_1 eop.eq_1 eop.eq_2 eop.eq_3 eop.eq_4 eop.eq_5 eop.eq_6 eop.eq_7 eop.eq_8 callOf.eq_1 callOf.eq_2 firstRegion.eq_1 firstRegion.eq_2 firstRegion.eq_3 firstRegion.eq_4 firstRegion.eq_5 thenS.eq_1 thenS.eq_2 thenS.eq_3 thenS.eq_4 thenS.eq_5 thenS.eq_6 thenS.eq_7 inBE.eq_1 inBE.eq_2 leave.eq_1 leave.eq_2 leave.eq_3 normC.eq_1 normC.eq_2 roundC.eq_1 roundC.eq_2 roundC.eq_3 roundC.eq_4 roundC.eq_5 roundC.eq_6 roundC.eq_7 evOpD.eq_1 evOpD.eq_2 eopD.eq_1 keysOf.eq_1 evExt.eq_1 evExt.eq_2 evExtP.eq_1 evExtP.eq_2 extOf.eq_1 extOf.eq_2 extOf.eq_3 extOf.eq_4 extOf.eq_5 extOf.eq_6 extOf.eq_7 extOf.eq_8 extOf.eq_9 extOf.eq_10 extOf.eq_11 extOf.eq_12 evD1.eq_1 evD1.eq_2 evD2.eq_1 evD2.eq_2 evD3.eq_1 evD3.eq_2 evD3.eq_3 evD4.eq_1 evD4.eq_2 eqAt.eq_1 eqAt.eq_2 keysA.eq_1 keysA.eq_2 allIn.eq_1 allIn.eq_2 sameP.eq_1 pv.eq_1 pv2.eq_1 effVal.eq_1 effVal.eq_2 effVal.eq_3 evPu.eq_1 evPu.eq_2 reB.eq_1 reB.eq_2 gval.eq_1 evK.eq_1 evK.eq_2 evPost.eq_1 evPost.eq_2 evPrep.eq_1 evPrep.eq_2 loopS.eq_1 loopS.eq_2 isPtr.eq_1 isPtr.eq_2 convPtr.eq_1 convPtr.eq_2 toUns.eq_1 fromUns.eq_1 nilAt.eq_1 nilAt.eq_2 nilAt.eq_3 nilAt.eq_4 sliceDataAt.eq_1 sliceDataAt.eq_2 eqPtr.eq_1 eqPtr.eq_2 eqPtr.eq_3 eqPtr.eq_4 eqPtr.eq_5 binPtr.eq_1 unstrK.eq_1 unstrK.eq_2 i64OfTV.eq_1 i64OfTV.eq_2 eunstr.eq_1 apAnn.eq_1 apAnn.eq_2 apAnn.eq_3 apAnn.eq_4 haveK.eq_1 haveK.eq_2 upK.eq_1 initU.eq_1 initU.eq_2 Ann.tag.eq_1 Ann.tag.eq_2 Ann.tag.eq_3 bump.eq_1 bump.eq_2 bumpO.eq_1 bumpO.eq_2 bumpO.eq_3 frzAnn.eq_1 frzAnn.eq_2 bumpZ.eq_1 gZ.eq_1 gZ.eq_2 erz.eq_1 erz.eq_2 erz.eq_3 eraseTV.eq_1 eraseTV.eq_2 eraseTV.eq_3 eraseTV.eq_4 eraseTV.eq_5 eraseTV.eq_6 eraseTV.eq_7 eraseTV.eq_8 eraseTV.eq_9 eraseTV.eq_10 eraseTV.eq_11 eraseL.eq_1 eraseL.eq_2 plainTV.eq_1 plainTV.eq_2 plainTV.eq_3 plainTV.eq_4 plainTV.eq_5 plainTV.eq_6 plainTV.eq_7 plainTV.eq_8 plainTV.eq_9 plainTV.eq_10 plainTV.eq_11 plainL.eq_1 plainL.eq_2 noK.eq_1 noK.eq_2 zOk.eq_1 zOk.eq_2 postZ.eq_1 postZ.eq_2 tkF.eq_1 tkF.eq_2 tkF.eq_3 TV.mapT.eq_1 TV.mapT.eq_2 TV.mapT.eq_3 TV.mapT.eq_4 TV.mapT.eq_5 TV.mapT.eq_6 TV.mapT.eq_7 TV.mapT.eq_8 TV.mapT.eq_9 TV.mapT.eq_10 TV.mapT.eq_11 mapTL.eq_1 mapTL.eq_2 mapO.eq_1 mapO.eq_2 Obj.mapT.eq_1 Obj.mapT.eq_2 Obj.mapT.eq_3 flatTV.eq_1 flatTV.eq_2 flatTV.eq_3 flatTV.eq_4 flatTV.eq_5 flatTV.eq_6 flatTV.eq_7 flatTV.eq_8 flatTV.eq_9 flatTV.eq_10 flatTV.eq_11 flatL.eq_1 flatL.eq_2 arrO.eq_1 arrO.eq_2 arrO.eq_3 arrO.eq_4 lowZ.eq_1 lowZ.eq_2 lowZ.eq_3 lowZ.eq_4 lowZ.eq_5 lowZ.eq_6 lowZ.eq_7 lowZ.eq_8 lowZ.eq_9 lowZ.eq_10 lowZ.eq_11 lowZL.eq_1 lowZL.eq_2 lowG.eq_1 lowG.eq_2 efinZ.eq_1 efinZ.eq_2 efinZ.eq_3 efin0.eq_1 efin0.eq_2 efin0.eq_3 noG.eq_1 noG.eq_2 TV.cn.eq_1 TV.cn.eq_2 TV.cn.eq_3 TV.cn.eq_4 TV.cn.eq_5 TV.cn.eq_6 TV.cn.eq_7 TV.cn.eq_8 TV.cn.eq_9 TV.cn.eq_10 TV.cn.eq_11 cnL.eq_1 cnL.eq_2 cnO.eq_1 cnO.eq_2 cnO.eq_3 cnO.eq_4 T.cn.eq_1 T.cn.eq_2 T.cn.eq_3 T.cn.eq_4 T.cn.eq_5 cnEs.eq_1 cnEs.eq_2 cnCs.eq_1 cnCs.eq_2 T.ann.eq_1 T.ann.eq_2 T.ann.eq_3 T.ann.eq_4 T.ann.eq_5 annEs.eq_1 annEs.eq_2 annCs.eq_1 annCs.eq_2 T.pre.eq_1 T.pre.eq_2 T.pre.eq_3 T.pre.eq_4 T.pre.eq_5 preEs.eq_1 preEs.eq_2 preCs.eq_1 preCs.eq_2 preA.eq_1 preA.eq_2 preA.eq_3 preA.eq_4 preA.eq_5 preA.eq_6
attribute [push_cast] and_self decide_true eq_self true_and strOf_bytesT List.set_cons_zero List.set_cons_succ List.replicate_zero List.replicate_succ Option.isNone_none Option.isNone_some if_true if_false Bool.false_eq_true List.getElem?_toArray List.length_map List.drop_length List.append_assoc List.length_append Int.toNat_zero bne_self_eq_false Bool.false_or Bool.true_or Bool.or_false Bool.or_true
attribute [push_cast] lk_nil lk_cons
  Option.map_some Option.map_none Option.bind_some Option.getD_some Option.getD_none cond_true cond_false List.getElem?_cons_zero List.getElem?_cons_succ List.length_cons List.length_nil List.drop_zero List.drop_succ_cons
  List.take_zero List.take_succ_cons List.take_nil List.drop_nil List.nil_append List.cons_append List.append_nil List.size_toArray List.map_cons List.map_nil List.all_cons List.all_nil
  Bool.not_false Bool.not_true Bool.and_true Bool.true_and Bool.and_self Bool.false_and Bool.and_false beq_self_eq_true List.toList_toArray
   Int.toNat_natCast true_and and_true and_self List.mem_cons eq_self
  Nat.zero_add Nat.add_zero Nat.sub_zero decide_true decide_false
end Go.Av
end
section
set_option linter.unusedVariables false
set_option linter.unusedSimpArgs false
set_option linter.unusedSectionVars false
namespace Go.Av
section
variable [Known] {P : Program} {X : Nat → Prop} {β0 : Places} {w0 w : World} {S0 S : Stable} {st : St} {a : Act} {β : Places}
end
end Go.Av
end
section
set_option linter.unusedVariables false
namespace Go.Av
def cmpE : List TV → Option TV
  | [.d (.s a), .d (.s b)] => some (.d (.i .i64 (Go.Lib.compareBytes a.data.toList b.data.toList)))
  | _ => none
def noescE : List TV → Option TV
  | [.ptr k o] => some (.ptr k o)
  | _ => none
theorem noesc_ext [Known] {P : Program} {g : FuncId} {fn : Func} (hf : P.funcs[g]? = some fn) (hname : (fn.name == "runtime.NumGoroutine") = false) (hb : fn.body.isNone = true) (hn : Extern.findNext fn = none)
    (he : Extern.find fn = some Extern.AbiNoEscape.same) : ExtOk P g noescE := by
  intro w S β tvs vs res h hl hr
  unfold noescE at h
  split at h
  · rename_i k o
    cases h
    have h0 := hr 0 (by simp) (by rw [← hl]; simp)
    have hv : ∃ v, vs = #[v] := by
      refine ⟨vs[0]'(by rw [← hl]; simp), ?_⟩
      apply Array.ext
      · simpa using hl.symm
      · intro i hi hj
        have : i = 0 := by simpa using hj
        subst this
        rfl
    obtain ⟨v, rfl⟩ := hv
    refine ⟨v, ?_, h0, fun p hk => hk.1⟩
    rw [run_callFunc_extern hf hname hb hn he]
    rfl
  · cases h
theorem cmp_ext [Known] {P : Program} {g : FuncId} {fn : Func} (hf : P.funcs[g]? = some fn) (hname : (fn.name == "runtime.NumGoroutine") = false) (hb : fn.body.isNone = true) (hn : Extern.findNext fn = none)
    (he : Extern.find fn = some Extern.BytealgCompare.compare) : ExtOk P g cmpE := by
  intro w S β tvs vs res h hl hr
  unfold cmpE at h
  split at h
  · rename_i a b
    cases h
    have h0 := hr 0 (by simp) (by rw [← hl]; simp)
    have h1 := hr 1 (by simp) (by rw [← hl]; simp)
    have e0 := rv_str h0
    have e1 := rv_str h1
    have hv : vs = #[.string a, .string b] := by
      apply Array.ext
      · simpa using hl.symm
      · intro i hi hj
        have : i < 2 := by simpa using hj
        match i, this with
        | 0, _ => simpa using e0
        | 1, _ => simpa using e1
    refine ⟨_, ?_, .d (.i .i64 _), fun _ _ => trivial⟩
    rw [hv, run_callFunc_extern hf hname hb hn he, Go.Lib.run_compareString]
    rfl
  · cases h
end Go.Av
end
section
set_option autoImplicit false
set_option linter.unusedVariables false
set_option linter.unusedSectionVars false
namespace Go.Av
open Go.Sort
def anx : Nat → List (List Nat) → List (List Nat)
  | _, [] => []
  | n, l :: r => ((List.range n).filter fun j => !l.contains j) :: anx (n + 1) r
section
variable [Known] {P : Program}
def sStr (l : List ByteArray) : List ByteArray := ((l.map fun s => s.data.toList).mergeSort fun x y => decide (x ≤ y)).map fun s => ⟨s.toArray⟩
theorem sStr_len (l : List ByteArray) : (sStr l).length = l.length := by simp [sStr, List.length_mergeSort]
end
end Go.Av
end
section
set_option linter.unusedVariables false
set_option autoImplicit false
namespace Go.Av
inductive Sh where
  | b
  | i (k : IntKind)
  | s
  | sl (m : List Sh)
def fieldsL (P : Program) (g : TypeId → Option (List Sh)) : Nat → List Field → Option (List Sh)
  | _, [] => some []
  | off, f :: fs => match g f.type with
    | some l => if f.offset = off ∧ l.length = P.cellsOf f.type then (fieldsL P g (off + l.length) fs).map (l ++ ·) else none
    | none => none
def leaves (P : Program) : Nat → TypeId → Option (List Sh)
  | 0, _ => none
  | n + 1, t => match P.underlying t with
    | some .bool => some [.b]
    | some (.int k) => some [.i k]
    | some .string => some [.s]
    | some (.slice e) => match leaves P n e with
      | some l => if l.length = P.cellsOf e ∧ 0 < P.cellsOf e ∧ 0 < P.bytesOf e then some [.sl l] else none
      | none => none
    | some (.struct fs) => match fieldsL P (leaves P n) 0 fs.toList with
      | some l => if l.length = P.cellsOf t then some l else none
      | none => none
    | _ => none
inductive Is : T → Sh → Prop where
  | b (x : Bool) : Is (.b x) .b
  | i (k : IntKind) (n : Int) (h : (Lit.int k n).wf = true) : Is (.i k n) (.i k)
  | s (x : ByteArray) (h : x.size ≤ 140737488351232) : Is (.s x) .s
  | sl (es : List (List T)) (m : List Sh) (h : es.length ≤ 140737488351232) (hl : ∀ e ∈ es, e.length = m.length) (hs : ∀ e ∈ es, ∀ (j : Nat) (t : T) (sh : Sh), e[j]? = some t → m[j]? = some sh → Is t sh) : Is (.sl .any es) (.sl m)
section
variable {H : Type} {enc : TypeId × Value → H} {P : Program} {w : World} {spare : Nat → Bool} {held : Bool}
def inHeap (w : World) : Stable := ⟨fun b _ => b < w.heap.size, fun _ _ => False⟩
def Reads (w : World) (ts : List T) (shs : List Sh) (cs : List Value) : Prop :=
  ts.length = shs.length ∧ cs.length = shs.length ∧ ∀ (j : Nat) (t : T) (sh : Sh) (v : Value), ts[j]? = some t → shs[j]? = some sh → cs[j]? = some v → Is t sh ∧ Rep w (inHeap w) t v
theorem Reads.one {t : T} {sh : Sh} {v : Value} (h1 : Is t sh) (h2 : Rep w (inHeap w) t v) : Reads w [t] [sh] [v] := by
  refine ⟨rfl, rfl, ?_⟩
  intro j t' sh' v' a b c
  cases j with
  | zero => simp at a b c; subst a; subst b; subst c; exact ⟨h1, h2⟩
  | succ j => simp at a
theorem Reads.append {ts ts' : List T} {l l' : List Sh} {cs cs' : List Value} (h : Reads w ts l cs) (h' : Reads w ts' l' cs') : Reads w (ts ++ ts') (l ++ l') (cs ++ cs') := by
  obtain ⟨a1, a2, a3⟩ := h
  obtain ⟨b1, b2, b3⟩ := h'
  refine ⟨by simp [a1, b1], by simp [a2, b2], ?_⟩
  intro j t sh v x y z
  by_cases hj : j < l.length
  · rw [List.getElem?_append_left (by omega)] at x y z
    exact a3 j t sh v x y z
  · rw [List.getElem?_append_right (by omega)] at x y z
    rw [a1] at x
    rw [a2] at z
    exact b3 _ t sh v x y z
theorem cells_of {a : Addr} {base n : Nat} {cs : List Value} (h : w.cells? base a n = some cs) : cs.length = n ∧ ∀ j v, cs[j]? = some v → w.cell? (a.add j) = some v := by
  obtain ⟨_, h1, h2⟩ := World.cells?_some h
  refine ⟨h1, fun j v hv => ?_⟩
  have hj : j < n := by rw [← h1]; exact (List.getElem?_eq_some_iff.1 hv).1
  rw [h2 j hj, hv]
theorem weightsEach_mem {P : Program} : ∀ {ts : List TypeId} {ds : List (DataW H)} {i : Nat} {t : TypeId} {d : DataW H} {x : Nat}, ts[i]? = some t → ds[i]? = some d → x ∈ d.weights P t → x ∈ DataW.weightsEach P ts ds
  | [], _, i, t, d, x, h, _, _ => by simp at h
  | _ :: _, [], i, t, d, x, _, h, _ => by simp at h
  | t0 :: ts, d0 :: ds, 0, t, d, x, h1, h2, h3 => by
    simp only [List.getElem?_cons_zero, Option.some.injEq] at h1 h2
    subst h1; subst h2
    simp only [DataW.weightsEach, List.mem_append]
    exact .inl h3
  | t0 :: ts, d0 :: ds, i + 1, t, d, x, h1, h2, h3 => by
    simp only [List.getElem?_cons_succ] at h1 h2
    simp only [DataW.weightsEach, List.mem_append]
    exact .inr (weightsEach_mem h1 h2 h3)
theorem weightsAll_mem {P : Program} {e : TypeId} : ∀ {ds : List (DataW H)} {d : DataW H} {x : Nat}, d ∈ ds → x ∈ d.weights P e → x ∈ DataW.weightsAll P e ds
  | [], d, x, h, _ => by cases h
  | d0 :: ds, d, x, h, hx => by
    simp only [DataW.weightsAll, List.mem_append]
    rcases List.mem_cons.1 h with rfl | h
    · exact .inl hx
    · exact .inr (weightsAll_mem h hx)
theorem fields_read {g : TypeId → Option (List Sh)} {n : Nat}
    (hg : ∀ (t : TypeId) (cs : List Value) (x : DataW H × List MemPlace) (l : List Sh), g t = some l → DataW.trod enc P w 0 spare held n t cs = some x → (∀ y ∈ x.1.weights P t, y ≤ 140737488351232) → ∃ ts, Reads w ts l cs)
    (cs : List Value) : ∀ (fs : List Field) (xs : List (DataW H × List MemPlace)) (off : Nat) (l : List Sh), fieldsL P g off fs = some l → xs.length = fs.length →
    (∀ (i : Nat) (f : Field), fs[i]? = some f → DataW.trod enc P w 0 spare held n f.type ((cs.drop f.offset).take (P.cellsOf f.type)) = xs[i]?) →
    (∀ (i : Nat) (f : Field) (x : DataW H × List MemPlace), fs[i]? = some f → xs[i]? = some x → ∀ y ∈ x.1.weights P f.type, y ≤ 140737488351232) →
    off + l.length = cs.length → ∃ ts, Reads w ts l (cs.drop off)
  | [], xs, off, l, h, _, _, _, hc => by
    simp only [fieldsL, Option.some.injEq] at h
    subst h
    refine ⟨[], rfl, ?_, ?_⟩
    · simp at hc
      simp; omega
    · intro j t sh v a; simp at a
  | f :: fs, xs, off, l, h, hx, ht, hw, hc => by
    unfold fieldsL at h
    cases hgf : g f.type with
    | none => rw [hgf] at h; cases h
    | some l0 =>
      rw [hgf] at h
      simp only at h
      split at h
      · rename_i hcond
        obtain ⟨h1, h2⟩ := hcond
        cases hr : fieldsL P g (off + l0.length) fs with
        | none => rw [hr] at h; cases h
        | some l1 =>
          rw [hr] at h
          simp only [Option.map_some, Option.some.injEq] at h
          subst h
          cases xs with
          | nil => simp at hx
          | cons x0 xs =>
            have t0 := ht 0 f rfl
            simp only [List.getElem?_cons_zero] at t0
            obtain ⟨ts0, r0⟩ := hg _ _ _ _ hgf t0 (hw 0 f x0 rfl rfl)
            obtain ⟨ts1, r1⟩ := fields_read hg cs fs xs (off + l0.length) l1 hr (by simpa using hx) (fun i f' hf => ht (i + 1) f' hf) (fun i f' x hf hxx => hw (i + 1) f' x hf hxx) (by simp at hc; omega)
            refine ⟨ts0 ++ ts1, ?_⟩
            have := r0.append r1
            rw [h1, ← h2, ← List.drop_drop, List.take_append_drop] at this
            exact this
      · cases h
theorem leaves_read : ∀ (m n : Nat) (t : TypeId) (cs : List Value) (x : DataW H × List MemPlace) (l : List Sh), leaves P m t = some l → DataW.trod enc P w 0 spare held n t cs = some x →
    (∀ y ∈ x.1.weights P t, y ≤ 140737488351232) → ∃ ts, Reads w ts l cs
  | 0, n, t, cs, x, l, h, _, _ => by cases h
  | m + 1, n, t, cs, x, l, h, ht, hw => by
    unfold leaves at h
    split at h
    · rename_i hu
      cases h
      obtain ⟨b, rfl, rfl⟩ := DataW.trod_bool hu ht
      exact ⟨[.b b], .one (.b b) (.b b)⟩
    · rename_i k hu
      cases h
      obtain ⟨b, rfl, rfl, hwf⟩ := DataW.trod_int hu ht
      exact ⟨[.i k b], .one (.i k b hwf) (.i k b)⟩
    · rename_i hu
      cases h
      obtain ⟨b, rfl, rfl, _⟩ := DataW.trod_string hu ht
      have := hw b.data.toList.length (by simp [DataW.weights])
      exact ⟨[.s b], .one (.s b (by simpa using this)) (.s b)⟩
    · rename_i e hu
      split at h
      · rename_i l0 hl0
        split at h
        · rename_i hcond
          obtain ⟨c1, c2, c3⟩ := hcond
          cases h
          rcases DataW.trod_slice hu ht with ⟨rfl, rfl⟩ | ⟨a, len, cap, elems, rest, k, _, rfl, rfl, _, hl, hm, hlen, hel, _, _⟩
          · exact ⟨[.sl .any []], .one (.sl [] l0 (by simp) (by simp) (by simp)) (.nil .any none 0)⟩
          ·
            have hwt : ∀ y ∈ (elems.length + rest.length) * P.bytesOf e :: (DataW.weightsAll P e (elems.map (·.1)) ++ DataW.weightsAll P e (rest.map (·.1))), y ≤ 140737488351232 := by
              intro y hy
              refine hw y ?_
              simp only [DataW.weights, hu, List.length_map]
              exact hy
            have hel2 : ∀ i, i < len → ∃ ts : List T, ∃ cs', w.cells? 0 (a.add (i * P.cellsOf e)) (P.cellsOf e) = some cs' ∧ Reads w ts l0 cs' := by
              intro i hi
              have h1 := hel i hi
              have hei : i < elems.length := by omega
              rw [List.getElem?_eq_getElem hei] at h1
              obtain ⟨cs', h2, h3⟩ := Option.bind_eq_some_iff.1 h1
              obtain ⟨ts, h4⟩ := leaves_read m k e cs' elems[i] l0 hl0 h3 (fun y hy => hwt y (by
                simp only [List.mem_cons, List.mem_append]
                exact .inr (.inl (weightsAll_mem (List.mem_map_of_mem (List.getElem_mem hei)) hy))))
              exact ⟨ts, cs', h2, h4⟩
            by_cases hz : len = 0
            · subst hz
              exact ⟨[.sl .any []], .one (.sl [] l0 (by simp) (by simp) (by simp)) (.nil .any (some a) cap)⟩
            · have hsp : a.spot = none := by
                obtain ⟨ts, cs', h2, h3⟩ := hel2 0 (by omega)
                obtain ⟨h4, h5⟩ := cells_of h2
                have hlt : 0 < cs'.length := by omega
                have h6 := h5 0 cs'[0] (by rw [List.getElem?_eq_getElem hlt])
                rw [Nat.zero_mul] at h6
                simp only [Addr.add, if_true] at h6
                cases hs : a.spot with
                | none => rfl
                | some q =>
                  unfold World.cell? at h6
                  rw [hs] at h6
                  split at h6 <;> simp at h6
              obtain ⟨B, off, sp⟩ := a
              simp only at hsp
              subst hsp
              have hadd : ∀ i j, ((⟨B, off, none⟩ : Addr).add i).add j = ⟨B, off + i + j, none⟩ := by
                intro i j
                simp only [Addr.add]
                split <;> split <;> simp_all
              have hB : B < w.heap.size := by
                obtain ⟨ts, cs', h2, h3⟩ := hel2 0 (by omega)
                have := World.cells?_block h2 c2
                simpa [Addr.add] using this
              obtain ⟨es, hes⟩ : ∃ es : List (List T), es.length = len ∧ ∀ i e', es[i]? = some e' → ∃ cs', w.cells? 0 ((⟨B, off, none⟩ : Addr).add (i * P.cellsOf e)) (P.cellsOf e) = some cs' ∧ Reads w e' l0 cs' := by
                refine ⟨(List.range len).map fun i => if h : i < len then (hel2 i h).choose else [], by simp, ?_⟩
                intro i e' he'
                obtain ⟨hi, he'⟩ := List.getElem?_eq_some_iff.1 he'
                simp only [List.length_map, List.length_range] at hi
                simp only [List.getElem_map, List.getElem_range, hi, dif_pos] at he'
                subst he'
                exact (hel2 i hi).choose_spec
              obtain ⟨hesl, hes⟩ := hes
              have hreach : len ≤ 140737488351232 := by
                have h1 := hwt _ (List.mem_cons_self ..)
                have h2 : (elems.length + rest.length) * 1 ≤ (elems.length + rest.length) * P.bytesOf e := Nat.mul_le_mul_left _ c3
                omega
              refine ⟨[.sl .any es], .one (.sl es l0 (by omega) ?_ ?_) ?_⟩
              · intro e' he'
                obtain ⟨i, hi⟩ := List.getElem?_of_mem he'
                obtain ⟨cs', _, h2⟩ := hes i e' hi
                exact h2.1
              · intro e' he' j t' sh h1 h2
                obtain ⟨i, hi⟩ := List.getElem?_of_mem he'
                obtain ⟨cs', _, h3, h4, h5⟩ := hes i e' hi
                have hj : j < cs'.length := by rw [h4]; exact (List.getElem?_eq_some_iff.1 h2).1
                exact (h5 j t' sh cs'[j] h1 h2 (by rw [List.getElem?_eq_getElem hj])).1
              · rw [← hesl]
                refine .sl .any es B off (P.cellsOf e) cap (fun i j => (w.cell? ⟨B, off + i * P.cellsOf e + j, none⟩).getD default) trivial (by simp) c2 ?_ (by omega) ?_ ?_ ?_
                · intro e' he'
                  obtain ⟨i, hi⟩ := List.getElem?_of_mem he'
                  obtain ⟨cs', _, h2⟩ := hes i e' hi
                  rw [h2.1, c1]
                · intro i j _ _; exact hB
                · intro i j hi hj
                  obtain ⟨cs', h2, h3, h4, h5⟩ := hes i es[i] (by rw [List.getElem?_eq_getElem hi])
                  obtain ⟨h6, h7⟩ := cells_of h2
                  have hj' : j < cs'.length := by omega
                  have h8 := h7 j cs'[j] (by rw [List.getElem?_eq_getElem hj'])
                  rw [hadd] at h8
                  rw [h8]
                  rfl
                · intro i j hi hj
                  obtain ⟨cs', h2, h3, h4, h5⟩ := hes i es[i] (by rw [List.getElem?_eq_getElem hi])
                  obtain ⟨h6, h7⟩ := cells_of h2
                  have hj' : j < cs'.length := by omega
                  have h8 := h7 j cs'[j] (by rw [List.getElem?_eq_getElem hj'])
                  rw [hadd] at h8
                  rw [h8]
                  exact (h5 j es[i][j] l0[j] cs'[j] (by rw [List.getElem?_eq_getElem hj]) (by rw [List.getElem?_eq_getElem (by omega)]) (by rw [List.getElem?_eq_getElem hj'])).2
        · cases h
      · cases h
    · rename_i fs hu
      split at h
      · rename_i l0 hl0
        split at h
        · rename_i hcl
          cases h
          obtain ⟨xs, k, _, rfl, hcs, hxl, hxs⟩ := DataW.trod_struct hu ht
          obtain ⟨ts, hr⟩ := fields_read (fun t' cs' x' l' a b c => leaves_read m k t' cs' x' l' a b c) cs fs.toList xs 0 _ hl0 (by simpa using hxl) (fun i f hf => hxs i f (by simpa using hf)) (fun i f x hf hx y hy => hw y (by
            simp only [DataW.weights, hu]
            refine weightsEach_mem (i := i) (t := f.type) (d := x.1) ?_ ?_ hy
            · rw [List.getElem?_map, hf]; rfl
            · rw [List.getElem?_map, hx]; rfl)) (by omega)
          exact ⟨ts, by simpa using hr⟩
        · cases h
      · cases h
    · cases h
end
end Go.Av
end
section
set_option autoImplicit false
set_option linter.unusedVariables false
namespace Go.Av
def noPl : Places := fun _ => default
theorem calls_true [Known] {C : Cfg} (hE : ∀ g h, C.E g = some h → ExtOk C.P g h) (hO : ∀ g h ins args r, C.O g = some h → h ins args = some r → m1 C g ins args r) {g : FuncId} {args : List TV}
    (h : evF C g [] args = some (.d (.b true), [])) {w : World} {vs : Array Value} (hkn : KOk w (inHeap w)) (hl : args.length = vs.size)
    (hrv : ∀ i (hi : i < args.length) (hj : i < vs.size), RV C.P w (inHeap w) noPl args[i] vs[i]) (hok : okL (· ∈ keysOf []) args) :
    Calls C.P g vs w fun e w' => e = .returned (.bool true) ∧ Go.RowKit.Below w.heap.size w w' := by
  have hs := (evF_sound hE hO h).2
  refine (hs w (inHeap w) noPl vs (fun _ q b h => h) (fun b x h => h) hkn hl hrv hok (There.mk (fun k ob hk => by cases hk) (fun k k' ob ob' hk => by cases hk) (fun k ob hk => by cases hk))).mono ?_
  rintro e w' ⟨r, v, S', β', outs, rfl, ⟨rfl, rfl⟩, hr, _, _, _, _, _, hx⟩
  refine ⟨?_, ⟨hx.below.os, hx.below.tape, hx.below.output, hx.below.size, fun k hk => hx.below.block k hk (by rintro ⟨k', ob, hk', _⟩; cases hk')⟩⟩
  cases hr with
  | d h => cases h; rfl
section
variable {H : Type} {enc : TypeId × Value → H} {P : Program} {w : World}
theorem arg_slice {n : Nat} {t e : TypeId} {sh : Sh} {r : Reach} {b0 : Nat} {v : Value} {d : DataW H} {ps : List MemPlace} (hu : P.underlying t = some (.slice e)) (hL : leaves P n t = some [sh])
    (hval : Value.okWide P w r b0 t v) (hd : DataW.Trod enc P w 0 (fun _ => true) true t v d ps) (hw : ∀ y ∈ d.weights P t, y ≤ 140737488351232) : ∃ tr, Is tr sh ∧ Rep w (inHeap w) tr v := by
  obtain ⟨a, len, cap, rfl⟩ := Go.WideShapes.okWide_slice hu hval
  obtain ⟨fuel, hf⟩ := hd
  obtain ⟨ts, h1, h2, h3⟩ := leaves_read n fuel t _ _ _ hL hf hw
  match ts, h1 with
  | [tr], _ => exact ⟨tr, h3 0 tr sh (.slice a len cap) rfl rfl rfl⟩
theorem trodAll_stays {W W' : World} (hl : laidOutB P = true) (hb : Go.RowKit.Below W.heap.size W W') : ∀ {ts : List TypeId} {vs : List Value} {ds : List (DataW H)} {ps : List MemPlace},
    (∀ t ∈ ts, P.readableRec t = true ∧ t < P.types.size) → DataW.TrodAll enc P W 0 (fun _ => true) true ts vs ds ps → DataW.TrodAll enc P W' 0 (fun b => decide (b < W.heap.size)) true ts vs ds ps
  | [], [], [], _, _, h => h
  | t :: ts, v :: vs, d :: ds, ps, hr, ⟨p, q, h1, h2, e⟩ => by
    have hlt : ∀ x ∈ p, x.block < W.heap.size := by
      obtain ⟨n, h1⟩ := h1
      exact DataW.trod_lt n _ _ _ h1
    obtain ⟨a, b⟩ := hr t (List.mem_cons_self ..)
    exact ⟨p, q, Go.RowKit.Below.trod hl a b h1 hb hlt, trodAll_stays hl hb (fun t' ht => hr t' (List.mem_cons_of_mem _ ht)) h2, e⟩
end
theorem Is.int {t : T} {k : IntKind} (h : Is t (.i k)) : ∃ n, t = .i k n := by cases h with | i _ n _ => exact ⟨n, rfl⟩
theorem Is.bool {t : T} (h : Is t .b) : ∃ n, t = .b n := by cases h with | b n => exact ⟨n, rfl⟩
end Go.Av
end
section
set_option linter.unusedSimpArgs false
namespace Go.Av
theorem get_map {α : Type} (f : α → List T) (l : List α) (i : Nat) (h : i < l.length) : (l.map f)[i]? = some (f l[i]) := by simp [h]
theorem wrap_succ {i : Nat} (h : i ≤ 1099511627776) : IntKind.i64.wrap ((i : Int) + 1) = (i : Int) + 1 := i64_in (by omega) (by omega)
theorem mk_ok {n : Nat} (k : Nat) (h : n ≤ 1048576) (hk : k ≤ 1024) : decide (0 ≤ (n : Int) ∧ k * n ≤ 281474976710656 ∧ n ≤ maxLen) = true := by
  have : k * n ≤ 1024 * 1048576 := Nat.mul_le_mul hk h
  simp [maxLen]; omega
def idxOf {α : Type} (p : α → Bool) (l : List α) : Int := if l.any p then (l.findIdx p : Nat) else -1
theorem idxOf_any {α : Type} (p : α → Bool) (l : List α) : decide (idxOf p l ≥ 0) = l.any p := by
  unfold idxOf
  cases l.any p <;> simp
def byC (b : UInt8) : List T := [.i .u8 b.toNat]
theorem not_any {α : Type} (p : α → Bool) (l : List α) : (!l.any fun x => !p x) = l.all p := by
  induction l with
  | nil => rfl
  | cons a l ih => simp only [List.any_cons, List.all_cons, Bool.not_or, Bool.not_not, ih]
theorem len_ok {n : Nat} (k : Nat) (h : n ≤ 1099511627776) (hk : k ≤ 127) : decide (n ≤ maxLen ∧ n * k ≤ 140737488355328) = true := by
  have : n * k ≤ 1099511627776 * 127 := Nat.mul_le_mul h hk
  have hm : maxLen = 9223372036854775807 := by decide
  refine decide_eq_true ⟨by omega, by omega⟩
theorem take_snoc {α : Type} (f : α → List T) {l : List α} {i : Nat} (h : i < l.length) : (l.take i).map f ++ [f l[i]] = (l.take (i + 1)).map f := by
  rw [List.take_succ_eq_append_getElem h, List.map_append, List.map_singleton]
theorem sums_mem {α : Type} {f : α → Nat} {l : List α} {n : Nat} (h : l.length + (l.map f).sum ≤ n) : l.length ≤ n ∧ ∀ x ∈ l, f x ≤ n := by
  refine ⟨by omega, ?_⟩
  have : ∀ l : List α, ∀ x ∈ l, f x ≤ (l.map f).sum := by
    intro l
    induction l with
    | nil => intro x h; cases h
    | cons a l ih =>
      intro x hx
      simp only [List.map_cons, List.sum_cons]
      rcases List.mem_cons.1 hx with rfl | hx
      · omega
      · have := ih x hx; omega
  intro x hx
  have := this l x hx
  omega
def sC (s : ByteArray) : List T := [.s s]
@[push_cast] theorem sC_all (l : List ByteArray) : ((l.map sC).all fun e => e.length == 1) = true := by simp [sC]
def szSs (l : List ByteArray) : Nat := l.length + (l.map ByteArray.size).sum
theorem szSs_mem {l : List ByteArray} {n : Nat} (h : szSs l ≤ n) : l.length ≤ n ∧ ∀ x ∈ l, x.size ≤ n := sums_mem h
structure V where
  k : Int
  n : Int
  s : ByteArray
  deriving DecidableEq
def vC (x : V) : List T := [.i .i64 x.k, .i .i64 x.n, .s x.s]
@[push_cast] theorem vC_all (l : List V) : ((l.map vC).all fun e => e.length == 3) = true := by simp [vC]
def szV (x : V) : Nat := x.s.size
def szVs (l : List V) : Nat := l.length + (l.map szV).sum
theorem szVs_mem {l : List V} {n : Nat} (h : szVs l ≤ n) : l.length ≤ n ∧ ∀ x ∈ l, szV x ≤ n := sums_mem h
structure C where
  row : List V
  n : Int
  deriving DecidableEq
def cC (x : C) : List T := [.sl .any (x.row.map vC), .i .i64 x.n]
@[push_cast] theorem cC_all (l : List C) : ((l.map cC).all fun e => e.length == 2) = true := by simp [cC]
def szC (x : C) : Nat := szVs x.row
def szCs (l : List C) : Nat := l.length + (l.map szC).sum
theorem szCs_mem {l : List C} {n : Nat} (h : szCs l ≤ n) : l.length ≤ n ∧ ∀ x ∈ l, szC x ≤ n := sums_mem h
structure B where
  w : Int
  rows : List C
  deriving DecidableEq
def bC (x : B) : List T := [.i .i64 x.w, .sl .any (x.rows.map cC)]
@[push_cast] theorem bC_all (l : List B) : ((l.map bC).all fun e => e.length == 2) = true := by simp [bC]
def szB (x : B) : Nat := szCs x.rows
structure R where
  name : ByteArray
  bag : B
  deriving DecidableEq
def rC (x : R) : List T := [.s x.name, .i .i64 x.bag.w, .sl .any (x.bag.rows.map cC)]
@[push_cast] theorem rC_all (l : List R) : ((l.map rC).all fun e => e.length == 3) = true := by simp [rC]
def szR (x : R) : Nat := x.name.size + szB x.bag
def szRs (l : List R) : Nat := l.length + (l.map szR).sum
theorem szRs_mem {l : List R} {n : Nat} (h : szRs l ≤ n) : l.length ≤ n ∧ ∀ x ∈ l, szR x ≤ n := sums_mem h
structure Sc where
  name : ByteArray
  cols : List ByteArray
  deriving DecidableEq
def scC (x : Sc) : List T := [.s x.name, .sl .any (x.cols.map sC)]
@[push_cast] theorem scC_all (l : List Sc) : ((l.map scC).all fun e => e.length == 2) = true := by simp [scC]
end Go.Av
end
section
set_option linter.unusedSimpArgs false
set_option linter.unusedVariables false
namespace Go.Av
def valueOk (v : V) : Bool :=
  if v.k = 0 then decide (v.n = 0) && decide (v.s = ⟨#[]⟩)
  else if v.k = 1 then decide (v.s = ⟨#[]⟩)
  else if v.k = 2 then (decide (0 ≤ v.n) && decide (v.n ≤ 1)) && decide (v.s = ⟨#[]⟩)
  else if v.k = 3 then decide (v.n = 0) && decide ((v.s.size : Int) ≤ 100)
  else false
def cmpI (a b : Int) : Int := if a < b then -1 else if a > b then 1 else 0
def cmpS (a b : ByteArray) : Int := Go.Lib.compareBytes a.data.toList b.data.toList
def cmpV (a b : V) : Int := if cmpI a.k b.k ≠ 0 then cmpI a.k b.k else if cmpI a.n b.n ≠ 0 then cmpI a.n b.n else cmpS a.s b.s
theorem cb_spec : ∀ (x y : List UInt8), Go.Lib.compareBytes x y = if Op.bytesLess x y then -1 else if x = y then 0 else 1
  | [], [] => by simp [Go.Lib.compareBytes, Op.bytesLess]
  | [], _ :: _ => by simp [Go.Lib.compareBytes, Op.bytesLess]
  | _ :: _, [] => by simp [Go.Lib.compareBytes, Op.bytesLess]
  | a :: x, b :: y => by
    have ih := cb_spec x y
    unfold Go.Lib.compareBytes Op.bytesLess
    by_cases h : a < b
    · simp [h]
    · by_cases h2 : b < a
      · have : a ≠ b := fun e => by subst e; exact h h2
        simp [h, h2, this]
      · have : a = b := UInt8.le_antisymm (UInt8.not_lt.1 h2) (UInt8.not_lt.1 h)
        subst this
        simp [h, ih]
theorem cmpS_spec (x y : ByteArray) : cmpS x y = if Op.bytesLess x.toList y.toList then -1 else if x = y then 0 else 1 := by
  rw [cmpS, cb_spec, ba_toList, ba_toList]
  have : (x.data.toList = y.data.toList) = (x = y) := propext ⟨fun e => ByteArray.ext (Array.toList_inj.1 e), fun e => by rw [e]⟩
  simp only [this]
def cmpRow : List V → List V → Int
  | [], [] => 0
  | [], _ :: _ => -1
  | _ :: _, [] => 1
  | a :: x, b :: y => if cmpV a b ≠ 0 then cmpV a b else cmpRow x y
def cmpL1 : List V → List V → Int
  | [], _ => 0
  | _ :: _, [] => 1
  | a :: x, b :: y => if cmpV a b ≠ 0 then cmpV a b else cmpL1 x y
def cmpL2 : List V → List V → Int
  | [], _ => 0
  | _ :: _, [] => 0
  | a :: x, b :: y => if cmpV a b ≠ 0 then cmpV a b else cmpL2 x y
theorem cmpRow_1 : ∀ a b : List V, cmpRow a b = if cmpL1 a b ≠ 0 then cmpL1 a b else if a.length < b.length then -1 else 0
  | [], [] => rfl
  | [], _ :: _ => by simp [cmpRow, cmpL1]
  | _ :: _, [] => by simp [cmpRow, cmpL1]
  | a :: x, b :: y => by
    have := cmpRow_1 x y
    simp only [cmpRow, cmpL1, List.length_cons]
    by_cases h : cmpV a b ≠ 0
    · simp [h]
    · simp only [h, if_false]
      rw [this]
      simp
theorem cmpRow_2 : ∀ a b : List V, cmpRow a b = if cmpL2 a b ≠ 0 then cmpL2 a b else if a.length < b.length then -1 else if b.length < a.length then 1 else 0
  | [], [] => rfl
  | [], _ :: _ => by simp [cmpRow, cmpL2]
  | _ :: _, [] => by simp [cmpRow, cmpL2]
  | a :: x, b :: y => by
    have := cmpRow_2 x y
    simp only [cmpRow, cmpL2, List.length_cons]
    by_cases h : cmpV a b ≠ 0
    · simp [h]
    · simp only [h, if_false]
      rw [this]
      simp
def okC (w : Int) (c : C) : Bool := ((((c.row.length : Int) == w) && c.row.all valueOk) && !(c.n == 0)) && (decide (-1000000000 ≤ c.n) && decide (c.n ≤ 1000000000))
def okPrev (c : C) : Option C → Bool
  | none => true
  | some d => !(decide (cmpRow d.row c.row ≥ 0))
def okRest (w : Int) (prev : Option C) : List C → Bool
  | [] => true
  | c :: l => (okC w c && okPrev c prev) && okRest w (some c) l
def okRows (w : Int) (l : List C) : Bool := okRest w none l
def bagOk (b : B) : Bool := (decide (0 ≤ b.w) && decide (b.w ≤ 12)) && (!(decide ((b.rows.length : Int) > 400)) && okRows b.w b.rows)
def prevAt (l : List C) : Nat → Option C
  | 0 => none
  | i + 1 => l[i]?
theorem okRest_at {w : Int} {l : List C} {i : Nat} (h : i < l.length) : okRest w (prevAt l i) (l.drop i) = ((okC w l[i] && okPrev l[i] (prevAt l i)) && okRest w (prevAt l (i + 1)) (l.drop (i + 1))) := by
  rw [List.drop_eq_getElem_cons h, okRest]
  simp [prevAt, h]
theorem bagOk_len {b : B} (h : bagOk b = true) : b.rows.length ≤ 400 ∧ ∀ c ∈ b.rows, c.row.length ≤ 12 ∧ -1000000000 ≤ c.n ∧ c.n ≤ 1000000000 := by
  simp only [bagOk, Bool.and_eq_true, decide_eq_true_eq, Bool.not_eq_true', decide_eq_false_iff_not, okRows] at h
  refine ⟨by omega, ?_⟩
  have key : ∀ (l : List C) (p : Option C), okRest b.w p l = true → ∀ c ∈ l, c.row.length ≤ 12 ∧ -1000000000 ≤ c.n ∧ c.n ≤ 1000000000 := by
    intro l
    induction l with
    | nil => intro p _ c hc; cases hc
    | cons a l ih =>
      intro p hp c hc
      simp only [okRest, okC, Bool.and_eq_true, decide_eq_true_eq, beq_iff_eq] at hp
      rcases List.mem_cons.1 hc with rfl | hc
      · exact ⟨by omega, hp.1.1.2.1, hp.1.1.2.2⟩
      · exact ih _ hp.2 c hc
  exact key _ _ h.2.2
end Go.Av
end
section
set_option linter.unusedVariables false
namespace Go.Av
theorem take_snocI {α : Type} (f : Nat → α → List T) {l : List α} {i : Nat} (h : i < l.length) : (l.take i).mapIdx f ++ [f i l[i]] = (l.take (i + 1)).mapIdx f := by
  have hl : (l.take i).length = i := by simp; omega
  rw [← List.take_append_getElem h, List.mapIdx_append, hl]
  simp
structure Nm (p : Tok) (L : List (Option Tok)) : Prop where
  some : ∀ x ∈ L, ∃ q, x = some q ∧ p <+: q
  nd : L.Nodup
theorem Nm.nil (p : Tok) : Nm p [] := ⟨fun x hx => (by cases hx), List.nodup_nil⟩
theorem Nm.weak {p r : Tok} {L : List (Option Tok)} (h : Nm (p ++ r) L) : Nm p L := ⟨fun x hx => let ⟨q, h1, h2⟩ := h.some x hx; ⟨q, h1, (List.prefix_append p r).trans h2⟩, h.nd⟩
structure NmI (p : Tok) (i : Nat) (L : List (Option Tok)) : Prop where
  some : ∀ x ∈ L, ∃ k q, i ≤ k ∧ x = some q ∧ p ++ [k] <+: q
  nd : L.Nodup
theorem NmI.nil (p : Tok) (i : Nat) : NmI p i [] := ⟨fun x hx => (by cases hx), List.nodup_nil⟩
theorem NmI.cons {p : Tok} {i : Nat} {L M : List (Option Tok)} (h : Nm (p ++ [i]) L) (k : NmI p (i + 1) M) : NmI p i (L ++ M) := by
  refine ⟨fun x hx => ?_, List.nodup_append.2 ⟨h.nd, k.nd, fun a ha b hb e => ?_⟩⟩
  · rcases List.mem_append.1 hx with hx | hx
    · obtain ⟨q, h1, h2⟩ := h.some x hx; exact ⟨i, q, Nat.le_refl _, h1, h2⟩
    · obtain ⟨j, q, h0, h1, h2⟩ := k.some x hx; exact ⟨j, q, by omega, h1, h2⟩
  · obtain ⟨q, h1, h2⟩ := h.some a ha
    obtain ⟨j, q', g0, g1, g2⟩ := k.some b hb
    subst e
    rw [h1] at g1
    cases g1
    exact not_both (r := []) (q := []) (show i ≠ j by omega) (by rw [List.append_nil]; exact h2) (by rw [List.append_nil]; exact g2)
theorem NmI.nm {p : Tok} {i : Nat} {L : List (Option Tok)} (h : NmI p i L) : Nm p L := ⟨fun x hx => let ⟨_, q, _, h1, h2⟩ := h.some x hx; ⟨q, h1, pre_trans h2⟩, h.nd⟩
theorem NmI.top {p : Tok} {L : List (Option Tok)} (h : NmI p 0 L) : Nm p (Option.some p :: L) := by
  refine ⟨fun x hx => ?_, List.nodup_cons.2 ⟨fun hm => ?_, h.nd⟩⟩
  · rcases List.mem_cons.1 hx with rfl | hx
    · exact ⟨p, rfl, List.prefix_refl _⟩
    · exact h.nm.some x hx
  · obtain ⟨k, q, _, h1, h2⟩ := h.some _ hm
    cases h1
    have := h2.length_le
    simp at this
    omega
theorem cn_nm : ∀ n : Nat, (∀ (t : T) p, SizeOf.sizeOf t < n → Nm p (tkT (t.cn p))) ∧ (∀ (l : List T) p j, SizeOf.sizeOf l < n → NmI p j (tkCs (cnCs p j l))) ∧ (∀ (l : List (List T)) p j, SizeOf.sizeOf l < n → NmI p j (tkEs (cnEs p j l))) := by
  intro n
  induction n with
  | zero => exact ⟨fun _ _ h => absurd h (Nat.not_lt_zero _), fun _ _ _ h => absurd h (Nat.not_lt_zero _), fun _ _ _ h => absurd h (Nat.not_lt_zero _)⟩
  | succ n ih =>
    refine ⟨fun t p h => ?_, fun l p j h => ?_, fun l p j h => ?_⟩
    · cases t with
      | sl A es => simp at h; exact (ih.2.2 es p 0 (by omega)).top
      | _ => exact .nil _
    · cases l with
      | nil => exact .nil _ _
      | cons t l => simp at h; exact .cons (ih.1 t _ (by omega)) (ih.2.1 l p (j + 1) (by omega))
    · cases l with
      | nil => exact .nil _ _
      | cons t l => simp at h; exact .cons (ih.2.1 t _ 0 (by omega)).nm (ih.2.2 l p (j + 1) (by omega))
theorem tk_cn (t : T) (p : Tok) : Nm p (tkT (t.cn p)) := (cn_nm (SizeOf.sizeOf t + 1)).1 t p (by omega)
theorem tkEs_mapIdx {α : Type} (f : Nat → α → List T) : ∀ (l : List α) (i : Nat), (∀ k x, Nm [k] (tkCs (f k x))) → NmI [] i (tkEs (l.mapIdx fun k x => f (i + k) x))
  | [], i, _ => .nil _ _
  | x :: l, i, h => by
    rw [List.mapIdx_cons, tkEs]
    refine .cons (h i x) ?_
    have := tkEs_mapIdx f l (i + 1) h
    simpa only [Nat.add_assoc, Nat.add_comm 1, Function.comp_def] using this
theorem tk_idx {α : Type} (f : Nat → α → List T) (l : List α) (h : ∀ k x, Nm [k] (tkCs (f k x))) : NmI [] 0 (tkEs (l.mapIdx f)) := by
  simpa using tkEs_mapIdx f l 0 h
theorem NmI.lt {α : Type} (f : Nat → α → List T) (l : List α) (h : ∀ k x, Nm [k] (tkCs (f k x))) : ∀ x ∈ tkEs (l.mapIdx f), ∃ k r, k < l.length ∧ x = Option.some (k :: r) := by
  have go : ∀ (l : List α) (i : Nat), ∀ x ∈ tkEs (l.mapIdx fun k x => f (i + k) x), ∃ k r, k < i + l.length ∧ x = Option.some (k :: r) := by
    intro l
    induction l with
    | nil => intro i x hx; cases hx
    | cons y l ih =>
      intro i x hx
      rw [List.mapIdx_cons, tkEs] at hx
      rcases List.mem_append.1 hx with hx | hx
      · obtain ⟨q, h1, u, rfl⟩ := (h i y).some x hx
        exact ⟨i, u, by simp, h1⟩
      · have e : (fun k x => f (i + (k + 1)) x) = fun k x => f (i + 1 + k) x := by funext k x; rw [show i + (k + 1) = i + 1 + k by omega]
        obtain ⟨k, r, h1, h2⟩ := ih (i + 1) x (by rw [← e]; exact hx)
        exact ⟨k, r, by simp; omega, h2⟩
  simpa using go l 0
@[push_cast] theorem canOk_b (x : Bool) : canOk (.d (.b x)) [] = True := by simp [canOk, tkTV, tkT, tkO, flatTV, arrO, keysOf]
@[push_cast] theorem canOk_i (k : IntKind) (x : Int) : canOk (.d (.i k x)) [] = True := by simp [canOk, tkTV, tkT, tkO, flatTV, arrO, keysOf]
@[push_cast] theorem canOk_s (x : ByteArray) : canOk (.d (.s x)) [] = True := by simp [canOk, tkTV, tkT, tkO, flatTV, arrO, keysOf]
theorem canOk_top {α : Type} (f : Nat → α → List T) (l : List α) (h : ∀ k x, Nm [k] (tkCs (f k x))) : canOk (.d (.sl (.tok [l.length]) (l.mapIdx f))) [] := by
  have h1 := tk_idx f l h
  have h2 := NmI.lt f l h
  refine ⟨⟨?_, ?_⟩, rfl, rfl, List.nodup_nil⟩
  · intro hn
    simp only [tkTV, tkT, annTok, tkO, List.append_nil, List.cons_append, List.nil_append, List.mem_cons] at hn
    rcases hn with hn | hn
    · cases hn
    · obtain ⟨_, _, _, h3⟩ := h2 _ hn; cases h3
  · simp only [tkTV, tkT, annTok, tkO, List.append_nil, List.cons_append, List.nil_append]
    refine List.nodup_cons.2 ⟨fun hm => ?_, h1.nd⟩
    obtain ⟨k, r, h3, h4⟩ := h2 _ hm
    cases h4
    omega
mutual
theorem T.cn_er (p : Tok) : ∀ t : T, t.erase.cn p = t.cn p
  | .b _ => rfl
  | .i _ _ => rfl
  | .s _ => rfl
  | .raw _ => rfl
  | .sl A es => by simp only [T.ann, T.cn, cnEs_er p es 0]
theorem cnEs_er (p : Tok) : ∀ (es : List (List T)) (i : Nat), cnEs p i (annEs .any es) = cnEs p i es
  | [], _ => rfl
  | e :: es, i => by simp only [annEs, cnEs, cnCs_er (p ++ [i]) e 0, cnEs_er p es (i + 1)]
theorem cnCs_er (p : Tok) : ∀ (es : List T) (i : Nat), cnCs p i (annCs .any es) = cnCs p i es
  | [], _ => rfl
  | e :: es, i => by simp only [annCs, cnCs, T.cn_er (p ++ [i]) e, cnCs_er p es (i + 1)]
end
theorem cnEs_same {p : Tok} {i : Nat} {es es' : List (List T)} (h : annEs .any es = annEs .any es') : cnEs p i es = cnEs p i es' := by rw [← cnEs_er, h, cnEs_er]
mutual
theorem T.er_cn (p : Tok) : ∀ t : T, (t.cn p).erase = t.erase
  | .b _ => rfl
  | .i _ _ => rfl
  | .s _ => rfl
  | .raw _ => rfl
  | .sl A es => by simp only [T.ann, T.cn, er_cnEs p es 0]
@[push_cast] theorem er_cnEs (p : Tok) : ∀ (es : List (List T)) (i : Nat), annEs .any (cnEs p i es) = annEs .any es
  | [], _ => rfl
  | e :: es, i => by simp only [annEs, cnEs, er_cnCs (p ++ [i]) e 0, er_cnEs p es (i + 1)]
theorem er_cnCs (p : Tok) : ∀ (es : List T) (i : Nat), annCs .any (cnCs p i es) = annCs .any es
  | [], _ => rfl
  | e :: es, i => by simp only [annCs, cnCs, T.er_cn (p ++ [i]) e, er_cnCs p es (i + 1)]
end
mutual
theorem T.pre_cn (n : Nat) (p : Tok) : ∀ t : T, (t.cn p).pre n = t.cn (n :: p)
  | .b _ => rfl
  | .i _ _ => rfl
  | .s _ => rfl
  | .raw _ => rfl
  | .sl A es => by simp only [T.pre, T.cn, pre_cnEs n p es 0, preA]
@[push_cast] theorem pre_cnEs (n : Nat) (p : Tok) : ∀ (es : List (List T)) (i : Nat), preEs n (cnEs p i es) = cnEs (n :: p) i es
  | [], _ => rfl
  | e :: es, i => by simp only [preEs, cnEs, pre_cnCs n (p ++ [i]) e 0, pre_cnEs n p es (i + 1), List.cons_append]
theorem pre_cnCs (n : Nat) (p : Tok) : ∀ (es : List T) (i : Nat), preCs n (cnCs p i es) = cnCs (n :: p) i es
  | [], _ => rfl
  | e :: es, i => by simp only [preCs, cnCs, T.pre_cn n (p ++ [i]) e, pre_cnCs n p es (i + 1), List.cons_append]
end
@[push_cast] theorem map_tkF_some (n : Nat) (a : Bool) (es : List (List T)) : es.map (fun e => e.map (tkF true (some (n, a)))) = preEs n es := by
  rw [preEs_eq]; rfl
@[push_cast] theorem map_tkF_none (es : List (List T)) : es.map (fun e => e.map (tkF true none)) = annEs .any es := by
  rw [annEs_eq]; rfl
@[push_cast] theorem cn_cnEs (p q : Tok) (es : List (List T)) (i j : Nat) : cnEs p i (cnEs q j es) = cnEs p i es := cnEs_same (er_cnEs q es j)
@[push_cast] theorem snoc1 (a b : Nat) : [a] ++ [b] = [a, b] := rfl
@[push_cast] theorem snoc2 (a b c : Nat) : [a, b] ++ [c] = [a, b, c] := rfl
@[push_cast] theorem snoc3 (a b c d : Nat) : [a, b, c] ++ [d] = [a, b, c, d] := rfl
@[push_cast] theorem snoc4 (a b c d e : Nat) : [a, b, c, d] ++ [e] = [a, b, c, d, e] := rfl
theorem annEs_map {α : Type} {f g : α → List T} (h : ∀ x, annCs .any (f x) = g x) (l : List α) : annEs .any (l.map f) = l.map g := by
  rw [annEs_eq, List.map_map]
  exact List.map_congr_left fun x _ => by rw [← h x, annCs_eq]; rfl
theorem annEs_mapIdx {α : Type} {f : Nat → α → List T} {g : α → List T} (h : ∀ i x, annCs .any (f i x) = g x) (l : List α) : annEs .any (l.mapIdx f) = l.map g := by
  rw [annEs_eq]
  apply List.ext_getElem
  · simp
  · intro i h1 h2
    simp only [List.getElem_mapIdx, List.getElem_map]
    rw [← h i, annCs_eq]
@[push_cast] theorem cnEs_length (p : Tok) (i : Nat) (es : List (List T)) : (cnEs p i es).length = es.length := cnEs_len p es i
@[push_cast] theorem er_vC (l : List V) : annEs .any (l.map vC) = l.map vC := annEs_map (fun _ => rfl) l
@[push_cast] theorem cn_vC (l : List V) (p : Tok) (i : Nat) : cnEs p i (l.map vC) = l.map vC := by
  rw [cnEs_eq]
  apply List.ext_getElem
  · simp
  · intro j h1 h2
    simp [vC, cnCs, T.cn]
@[push_cast] theorem pre_vC (n : Nat) (l : List V) : preEs n (l.map vC) = l.map vC := by
  rw [preEs_eq, List.map_map]
  rfl
@[push_cast] theorem er_cC (l : List C) : annEs .any (l.map cC) = l.map cC := annEs_map (fun x => by simp only [cC, annCs, T.ann, er_vC]) l
@[push_cast] theorem er_rC (l : List R) : annEs .any (l.map rC) = l.map rC := annEs_map (fun x => by simp only [rC, annCs, T.ann, er_cC]) l
@[push_cast] theorem tk_vC (l : List V) : tkEs (l.map vC) = [] := by
  induction l with
  | nil => rfl
  | cons x l ih => simp only [List.map_cons, tkEs, ih]; rfl
end Go.Av
end
section
namespace Go.Av
@[push_cast] theorem er_sC (l : List ByteArray) : annEs .any (l.map sC) = l.map sC := annEs_map (fun _ => rfl) l
@[push_cast] theorem cn_sC (l : List ByteArray) (p : Tok) (i : Nat) : cnEs p i (l.map sC) = l.map sC := by
  rw [cnEs_eq]
  apply List.ext_getElem
  · simp
  · intro j h1 h2
    simp [sC, cnCs, T.cn]
@[push_cast] theorem tk_sC (l : List ByteArray) : tkEs (l.map sC) = [] := by
  induction l with
  | nil => rfl
  | cons x l ih => simp only [List.map_cons, tkEs, ih]; rfl
end Go.Av
end
section
set_option linter.unusedSimpArgs false
set_option linter.unusedVariables false
namespace Go.Av
theorem bl_lt : ∀ x y : List UInt8, Op.bytesLess x y = decide (x < y)
  | [], [] => by simp [Op.bytesLess]
  | [], _ :: _ => by simp [Op.bytesLess]
  | _ :: _, [] => by simp [Op.bytesLess]
  | a :: x, b :: y => by
    have ih := bl_lt x y
    unfold Op.bytesLess
    simp only [List.cons_lt_cons_iff]
    by_cases h : a < b
    · simp [h]
    · by_cases h2 : b < a
      · have : a ≠ b := fun e => by subst e; exact h h2
        simp [h, h2, this]
      · have : a = b := UInt8.le_antisymm (UInt8.not_lt.1 h2) (UInt8.not_lt.1 h)
        subst this
        simp [h, ih]
def bl (a : ByteArray) : List UInt8 := a.data.toList
theorem bl_inj {a b : ByteArray} (h : bl a = bl b) : a = b := ByteArray.ext (Array.toList_inj.1 h)
theorem less_eq (a b : ByteArray) : Op.bytesLess a.toList b.toList = decide (bl a < bl b) := by rw [ba_toList, ba_toList, bl_lt]; rfl
structure Ord3 {α : Type} (c : α → α → Int) : Prop where
  eq : ∀ a b, c a b = 0 ↔ a = b
  anti : ∀ a b, c a b < 0 ↔ 0 < c b a
  trans : ∀ a b d, c a b < 0 → c b d < 0 → c a d < 0
theorem cmpI_ord : Ord3 cmpI := by
  refine ⟨fun a b => ?_, fun a b => ?_, fun a b d => ?_⟩ <;> unfold cmpI <;> (repeat' split) <;> omega
theorem cmpS_lt (a b : ByteArray) : cmpS a b < 0 ↔ bl a < bl b := by
  rw [cmpS_spec, less_eq]
  by_cases h : bl a < bl b
  · simp [h]
  · simp only [h, decide_false, Bool.false_eq_true, if_false, iff_false]
    split <;> omega
theorem cmpS_gt (a b : ByteArray) : 0 < cmpS a b ↔ bl b < bl a := by
  rw [cmpS_spec, less_eq]
  by_cases h : bl a < bl b
  · have : ¬ bl b < bl a := fun h' => List.lt_irrefl _ (List.lt_trans h h')
    simp [h, this]
  · simp only [h, decide_false, Bool.false_eq_true, if_false]
    split
    · rename_i e; subst e; simp [List.lt_irrefl]
    · rename_i e
      have : bl a ≠ bl b := fun e' => e (bl_inj e')
      simp only [show (0 : Int) < 1 from by decide, true_iff]
      exact Decidable.byContradiction fun h' => this (List.le_antisymm (List.not_lt.1 h') (List.not_lt.1 h))
theorem cmpS_ord : Ord3 cmpS := by
  refine ⟨fun a b => ?_, fun a b => by rw [cmpS_lt, cmpS_gt], fun a b d => by rw [cmpS_lt, cmpS_lt, cmpS_lt]; exact List.lt_trans⟩
  constructor
  · intro h
    have h1 := mt (cmpS_lt a b).2 (by omega)
    have h2 := mt (cmpS_gt a b).2 (by omega)
    exact bl_inj (List.le_antisymm (List.not_lt.1 h2) (List.not_lt.1 h1))
  · rintro rfl
    rw [cmpS_spec, less_eq]; simp [List.lt_irrefl]
theorem cmpV_ord : Ord3 cmpV := by
  have I := cmpI_ord
  have S := cmpS_ord
  refine ⟨fun a b => ?_, fun a b => ?_, fun a b d => ?_⟩
  · obtain ⟨k, n, s⟩ := a
    obtain ⟨k', n', s'⟩ := b
    unfold cmpV
    simp only [V.mk.injEq]
    by_cases h1 : cmpI k k' = 0
    · by_cases h2 : cmpI n n' = 0
      · have g1 := (I.eq _ _).1 h1
        have g2 := (I.eq _ _).1 h2
        subst g1 g2
        simp only [h1, h2, ne_eq, not_true_eq_false, if_false, S.eq, true_and]
      · have := mt (I.eq n n').2 h2
        simp [h1, h2, this]
    · have := mt (I.eq k k').2 h1
      simp [h1, this]
  · unfold cmpV
    have e1 := I.eq a.k b.k
    have e1' := I.eq b.k a.k
    have e2 := I.eq a.n b.n
    have e2' := I.eq b.n a.n
    have a1 := I.anti a.k b.k
    have a1' := I.anti b.k a.k
    have a2 := I.anti a.n b.n
    have a2' := I.anti b.n a.n
    have a3 := S.anti a.s b.s
    (repeat' split) <;> omega
  · unfold cmpV
    have e1 := I.eq a.k b.k
    have e2 := I.eq a.n b.n
    have f1 := I.eq b.k d.k
    have f2 := I.eq b.n d.n
    have g1 := I.eq a.k d.k
    have g2 := I.eq a.n d.n
    have t1 := I.trans a.k b.k d.k
    have t2 := I.trans a.n b.n d.n
    have t3 := S.trans a.s b.s d.s
    by_cases h1 : cmpI a.k b.k = 0
    · rw [e1] at h1
      rw [h1]
      rw [h1] at t1
      have z : cmpI b.k b.k = 0 := (I.eq _ _).2 rfl
      simp only [z, ne_eq, not_true_eq_false, if_false]
      by_cases h2 : cmpI a.n b.n = 0
      · rw [e2] at h2
        rw [h2]
        have z : cmpI b.n b.n = 0 := (I.eq _ _).2 rfl
        simp only [z, ne_eq, not_true_eq_false, if_false]
        (repeat' split) <;> first | exact t3 | omega | (intros; assumption)
      · by_cases h3 : cmpI b.n d.n = 0
        · rw [f2] at h3
          rw [← h3]
          simp only [h2, ne_eq, not_false_eq_true, if_true]
          (repeat' split) <;> first | omega | (intros; assumption)
        · simp only [h2, h3, ne_eq, not_false_eq_true, if_true]
          (repeat' split) <;> first | omega | (intros; assumption) | (intro p q; have := t2 p q; omega)
    · by_cases h3 : cmpI b.k d.k = 0
      · rw [f1] at h3
        rw [← h3]
        simp only [h1, ne_eq, not_false_eq_true, if_true]
        (repeat' split) <;> first | omega | (intros; assumption)
      · simp only [h1, h3, ne_eq, not_false_eq_true, if_true]
        (repeat' split) <;> first | omega | (intros; assumption) | (intro p q; have := t1 p q; omega)
theorem cmpRow_ord : Ord3 cmpRow := by
  have I := cmpV_ord
  refine ⟨fun a => ?_, fun a => ?_, fun a => ?_⟩
  · induction a with
    | nil => intro b; cases b <;> simp [cmpRow]
    | cons x a ih =>
      intro b
      cases b with
      | nil => simp [cmpRow]
      | cons y b =>
        simp only [cmpRow, List.cons.injEq]
        by_cases h : cmpV x y = 0
        · have g := (I.eq _ _).1 h
          subst g
          simp only [h, ne_eq, not_true_eq_false, if_false, ih, true_and]
        · have := mt (I.eq x y).2 h
          simp [h, this]
  · induction a with
    | nil => intro b; cases b <;> simp [cmpRow]
    | cons x a ih =>
      intro b
      cases b with
      | nil => simp [cmpRow]
      | cons y b =>
        simp only [cmpRow]
        have e1 := I.eq x y
        have e2 := I.eq y x
        have a1 := I.anti x y
        have a2 := I.anti y x
        have := ih b
        (repeat' split) <;> omega
  · induction a with
    | nil => intro b d; cases b <;> cases d <;> simp [cmpRow]
    | cons x a ih =>
      intro b d
      cases b with
      | nil => simp [cmpRow]
      | cons y b =>
        cases d with
        | nil =>
          simp only [cmpRow]
          intro _ h; omega
        | cons z d =>
          simp only [cmpRow]
          have t := I.trans x y z
          have ihh := ih b d
          by_cases h1 : cmpV x y = 0
          · have e := (I.eq _ _).1 h1
            subst e
            simp only [h1, ne_eq, not_true_eq_false, if_false]
            by_cases h2 : cmpV x z = 0
            · simp only [h2, ne_eq, not_true_eq_false, if_false]
              exact ihh
            · simp only [h2, ne_eq, not_false_eq_true, if_true]
              intro _ h; exact h
          · by_cases h2 : cmpV y z = 0
            · have e := (I.eq _ _).1 h2
              subst e
              simp only [h1, h2, ne_eq, not_false_eq_true, not_true_eq_false, if_true, if_false]
              intro h _; exact h
            · simp only [h1, h2, ne_eq, not_false_eq_true, if_true]
              intro p q
              have := t p q
              rw [if_pos (by omega)]
              exact this
theorem Ord3.refl {α : Type} {c : α → α → Int} (h : Ord3 c) (a : α) : c a a = 0 := (h.eq a a).2 rfl
theorem Ord3.ge {α : Type} {c : α → α → Int} (h : Ord3 c) {a b : α} : ¬ c a b < 0 ↔ (b = a ∨ c b a < 0) := by
  have := h.eq a b
  have := h.eq b a
  have := h.anti b a
  have := h.anti a b
  constructor
  · intro h1
    by_cases e : c a b = 0
    · exact .inl ((h.eq a b).1 e).symm
    · exact .inr (by omega)
  · rintro (rfl | h1) <;> omega
end Go.Av
end
section
set_option linter.unusedSimpArgs false
set_option linter.unusedVariables false
namespace Go.Av
abbrev w64 (n : Int) : Int := IntKind.i64.wrap n
theorem w64_eq (n : Int) : w64 n = (n + 9223372036854775808) % 18446744073709551616 - 9223372036854775808 := by
  have a : ((2 : Int) ^ IntKind.i64.bits) = 18446744073709551616 := by decide
  have b : ((2 : Int) ^ (IntKind.i64.bits - 1)) = 9223372036854775808 := by decide
  have c : IntKind.i64.signed = true := rfl
  simp only [w64, IntKind.wrap, a, b, c, Bool.true_and, decide_eq_true_eq]
  split <;> omega
theorem w64_add (a b : Int) : w64 (w64 a + b) = w64 (a + b) := by rw [w64_eq, w64_eq, w64_eq]; omega
theorem w64_w (a : Int) : w64 (w64 a) = w64 a := by rw [w64_eq, w64_eq]; omega
theorem w64_0 : w64 0 = 0 := by decide
theorem w64_mul (a b : Int) : w64 (w64 a * b) = w64 (a * b) := by
  have h : ∃ k, w64 a = a + k * 18446744073709551616 := ⟨-((a + 9223372036854775808) / 18446744073709551616), by rw [w64_eq]; omega⟩
  obtain ⟨k, hk⟩ := h
  rw [hk, w64_eq, w64_eq, Int.add_mul]
  have : k * 18446744073709551616 * b = (k * b) * 18446744073709551616 := by rw [Int.mul_assoc, Int.mul_comm 18446744073709551616 b, ← Int.mul_assoc]
  rw [this]
  omega
def cntR : List C → List V → Int
  | [], _ => 0
  | c :: l, r => (if c.row = r then c.n else 0) + cntR l r
theorem cntR_none {l : List C} {r : List V} (h : ∀ c ∈ l, c.row ≠ r) : cntR l r = 0 := by
  induction l with
  | nil => rfl
  | cons c l ih =>
    have h1 := h c (List.mem_cons_self ..)
    have h2 := ih fun d hd => h d (List.mem_cons_of_mem _ hd)
    simp [cntR, h1, h2]
def Asc (l : List C) : Prop := l.Pairwise fun a b => cmpRow a.row b.row < 0
def Full (l : List C) : Prop := ∀ c ∈ l, w64 c.n = c.n ∧ c.n ≠ 0
def Canon (l : List C) : Prop := Asc l ∧ Full l
theorem Canon.tail {c : C} {l : List C} (h : Canon (c :: l)) : Canon l := ⟨(List.pairwise_cons.1 h.1).2, fun d hd => h.2 d (List.mem_cons_of_mem _ hd)⟩
theorem Canon.head {c : C} {l : List C} (h : Canon (c :: l)) : ∀ d ∈ l, cmpRow c.row d.row < 0 := (List.pairwise_cons.1 h.1).1
theorem row_lt_ne {a b : List V} (h : cmpRow a b < 0) : b ≠ a := by rintro rfl; rw [cmpRow_ord.refl] at h; omega
theorem Canon.below {c : C} {l : List C} (h : Canon (c :: l)) {r : List V} (hr : cmpRow r c.row < 0) : cntR (c :: l) r = 0 := cntR_none fun d hd => by
  rcases List.mem_cons.1 hd with rfl | hd
  · exact row_lt_ne hr
  · exact row_lt_ne (cmpRow_ord.trans _ _ _ hr (h.head d hd))
def putC : List C → C → List C
  | [], x => if x.n = 0 then [] else [x]
  | c :: l, x => if cmpRow c.row x.row < 0 then c :: putC l x else if c.row = x.row then (if w64 (x.n + c.n) = 0 then l else ⟨x.row, w64 (x.n + c.n)⟩ :: l) else if x.n = 0 then c :: l else x :: c :: l
theorem putC_mem {l : List C} {x d : C} (h : d ∈ putC l x) : d ∈ l ∨ d.row = x.row := by
  induction l with
  | nil =>
    simp only [putC] at h
    split at h
    · cases h
    · exact .inr (by rw [List.mem_singleton.1 h])
  | cons c l ih =>
    simp only [putC] at h
    split at h
    · rcases List.mem_cons.1 h with rfl | h
      · exact .inl (List.mem_cons_self ..)
      · exact (ih h).imp (List.mem_cons_of_mem _) id
    · split at h
      · split at h
        · exact .inl (List.mem_cons_of_mem _ h)
        · rcases List.mem_cons.1 h with rfl | h
          · exact .inr rfl
          · exact .inl (List.mem_cons_of_mem _ h)
      · split at h
        · exact .inl h
        · rcases List.mem_cons.1 h with rfl | h
          · exact .inr rfl
          · exact .inl h
theorem putC_canon {l : List C} {x : C} (h : Canon l) (hx : w64 x.n = x.n) : Canon (putC l x) := by
  induction l with
  | nil =>
    simp only [putC]
    split
    · exact h
    · rename_i h0
      exact ⟨by simp [Asc], fun d hd => by rw [List.mem_singleton.1 hd]; exact ⟨hx, h0⟩⟩
  | cons c l ih =>
    have iht := ih h.tail
    simp only [putC]
    split
    · rename_i hlt
      refine ⟨List.pairwise_cons.2 ⟨fun d hd => ?_, iht.1⟩, fun d hd => ?_⟩
      · rcases putC_mem hd with h1 | h1
        · exact h.head d h1
        · rw [h1]; exact hlt
      · rcases List.mem_cons.1 hd with rfl | hd
        · exact h.2 _ (List.mem_cons_self ..)
        · exact iht.2 d hd
    · rename_i hge
      split
      · rename_i he
        split
        · exact h.tail
        · rename_i h0
          refine ⟨List.pairwise_cons.2 ⟨fun d hd => ?_, h.tail.1⟩, fun d hd => ?_⟩
          · show cmpRow x.row d.row < 0
            rw [← he]; exact h.head d hd
          · rcases List.mem_cons.1 hd with rfl | hd
            · exact ⟨w64_w _, h0⟩
            · exact h.tail.2 d hd
      · rename_i hne
        split
        · exact h
        · rename_i h0
          have hlt : cmpRow x.row c.row < 0 := by
            rcases cmpRow_ord.ge.1 hge with e | e
            · exact absurd e.symm hne
            · exact e
          refine ⟨List.pairwise_cons.2 ⟨fun d hd => ?_, h.1⟩, fun d hd => ?_⟩
          · rcases List.mem_cons.1 hd with rfl | hd
            · exact hlt
            · exact cmpRow_ord.trans _ _ _ hlt (h.head d hd)
          · rcases List.mem_cons.1 hd with rfl | hd
            · exact ⟨hx, h0⟩
            · exact h.2 d hd
theorem canon_nil : Canon [] := ⟨List.Pairwise.nil, fun c h => by cases h⟩
end Go.Av
end
section
set_option linter.unusedSimpArgs false
set_option linter.unusedVariables false
namespace Go.Av
section
variable {α : Type} {lt : α → α → Bool}
def Srt (lt : α → α → Bool) (l : List α) : Prop := l.Pairwise fun a b => lt b a = false
def insRev (lt : α → α → Bool) (x : α) : List α → List α
  | [] => [x]
  | y :: s => bif lt x y then insRev lt x s ++ [y] else (y :: s).reverse ++ [x]
def ins (lt : α → α → Bool) (s : List α) (x : α) : List α := insRev lt x s.reverse
def bs2 (p : Nat → Bool) (i j : Nat) : Nat := if h : i < j then (bif p ((i + j) / 2) then bs2 p ((i + j) / 2 + 1) j else bs2 p i ((i + j) / 2)) else i
termination_by j - i
decreasing_by all_goals omega
theorem bs2_le (p : Nat → Bool) (i j : Nat) (h : i ≤ j) : i ≤ bs2 p i j ∧ bs2 p i j ≤ j := by
  have key : ∀ n i j, j - i = n → i ≤ j → i ≤ bs2 p i j ∧ bs2 p i j ≤ j := by
    intro n
    induction n using Nat.strongRecOn with
    | ind n ih =>
      intro i j hn h
      rw [bs2]
      split
      · cases p ((i + j) / 2) with
        | true =>
          have := ih (j - ((i + j) / 2 + 1)) (by omega) ((i + j) / 2 + 1) j rfl (by omega)
          simp only [cond_true]; omega
        | false =>
          have := ih ((i + j) / 2 - i) (by omega) i ((i + j) / 2) rfl (by omega)
          simp only [cond_false]; omega
      · omega
  exact key _ i j rfl h
theorem bs2_lo (p : Nat → Bool) (i0 i j : Nat) (h : i ≤ j) (hi : i = i0 ∨ p (i - 1) = true) : bs2 p i j = i0 ∨ p (bs2 p i j - 1) = true := by
  have key : ∀ n i j, j - i = n → i ≤ j → (i = i0 ∨ p (i - 1) = true) → bs2 p i j = i0 ∨ p (bs2 p i j - 1) = true := by
    intro n
    induction n using Nat.strongRecOn with
    | ind n ih =>
      intro i j hn h hi
      rw [bs2]
      split
      · cases hp : p ((i + j) / 2) with
        | true =>
          simp only [cond_true]
          exact ih (j - ((i + j) / 2 + 1)) (by omega) ((i + j) / 2 + 1) j rfl (by omega) (.inr (by simpa using hp))
        | false =>
          simp only [cond_false]
          exact ih ((i + j) / 2 - i) (by omega) i ((i + j) / 2) rfl (by omega) hi
      · exact hi
  exact key _ i j rfl h hi
theorem bs2_hi (p : Nat → Bool) (j0 i j : Nat) (h : i ≤ j) (hj : j = j0 ∨ p j = false) : bs2 p i j = j0 ∨ p (bs2 p i j) = false := by
  have key : ∀ n i j, j - i = n → i ≤ j → (j = j0 ∨ p j = false) → bs2 p i j = j0 ∨ p (bs2 p i j) = false := by
    intro n
    induction n using Nat.strongRecOn with
    | ind n ih =>
      intro i j hn h hj
      rw [bs2]
      split
      · cases hp : p ((i + j) / 2) with
        | true =>
          simp only [cond_true]
          exact ih (j - ((i + j) / 2 + 1)) (by omega) ((i + j) / 2 + 1) j rfl (by omega) hj
        | false =>
          simp only [cond_false]
          exact ih ((i + j) / 2 - i) (by omega) i ((i + j) / 2) rfl (by omega) (.inr hp)
      · have : i = j := by omega
        subst this
        exact hj
  exact key _ i j rfl h hj
end
def ltC (a b : C) : Bool := decide (cmpRow a.row b.row < 0)
end Go.Av
end
section
set_option linter.unusedSimpArgs false
set_option linter.unusedVariables false
namespace Go.Av
def ltAt (l : List C) (r : List V) (i : Nat) : Bool := match l[i]? with
  | some c => decide (cmpRow c.row r < 0)
  | none => false
theorem ltAt_get {l : List C} {r : List V} {i : Nat} (h : i < l.length) : ltAt l r i = decide (cmpRow l[i].row r < 0) := by simp [ltAt, h]
def posOf (l : List C) (r : List V) : Nat := bs2 (ltAt l r) 0 l.length
theorem posOf_le (l : List C) (r : List V) : posOf l r ≤ l.length := (bs2_le _ _ _ (Nat.zero_le _)).2
theorem posOf_take {l : List C} {r : List V} (h : Asc l) : ∀ c ∈ l.take (posOf l r), cmpRow c.row r < 0 := by
  intro c hc
  obtain ⟨i, hi, rfl⟩ := List.mem_iff_getElem.1 hc
  have hi1 : i < posOf l r := by simp at hi; omega
  have hi2 : i < l.length := by have := posOf_le l r; omega
  rw [List.getElem_take]
  rcases bs2_lo (ltAt l r) 0 0 l.length (Nat.zero_le _) (.inl rfl) with h0 | h0
  · have : posOf l r = 0 := h0
    omega
  · have hp : posOf l r - 1 < l.length := by have := posOf_le l r; omega
    change ltAt l r (posOf l r - 1) = true at h0
    rw [ltAt_get hp, decide_eq_true_eq] at h0
    by_cases he : i = posOf l r - 1
    · subst he; exact h0
    · have := List.pairwise_iff_getElem.1 h i (posOf l r - 1) hi2 hp (by omega)
      exact cmpRow_ord.trans _ _ _ this h0
theorem posOf_drop {l : List C} {r : List V} : posOf l r = l.length ∨ ∃ h : posOf l r < l.length, ¬ cmpRow l[posOf l r].row r < 0 := by
  rcases bs2_hi (ltAt l r) l.length 0 l.length (Nat.zero_le _) (.inl rfl) with h0 | h0
  · exact .inl h0
  · by_cases h : posOf l r < l.length
    · change ltAt l r (posOf l r) = false at h0
      rw [ltAt_get h, decide_eq_false_iff_not] at h0
      exact .inr ⟨h, h0⟩
    · have := posOf_le l r
      exact .inl (by omega)
theorem putC_skip {x : C} : ∀ {a b : List C}, (∀ c ∈ a, cmpRow c.row x.row < 0) → putC (a ++ b) x = a ++ putC b x
  | [], b, _ => rfl
  | c :: a, b, h => by
    simp only [List.cons_append, putC, h c (List.mem_cons_self ..), if_true]
    rw [putC_skip fun d hd => h d (List.mem_cons_of_mem _ hd)]
theorem putC_pos {l : List C} {x : C} (h : Asc l) : putC l x = l.take (posOf l x.row) ++ putC (l.drop (posOf l x.row)) x := by
  conv => lhs; rw [← List.take_append_drop (posOf l x.row) l]
  exact putC_skip (posOf_take h)
theorem putC_at {l : List C} {x : C} (h : Asc l) (hp : posOf l x.row < l.length) (he : cmpRow l[posOf l x.row].row x.row = 0) :
    putC l x = if w64 (x.n + l[posOf l x.row].n) = 0 then l.take (posOf l x.row) ++ l.drop (posOf l x.row + 1) else l.set (posOf l x.row) ⟨l[posOf l x.row].row, w64 (x.n + l[posOf l x.row].n)⟩ := by
  have hr := (cmpRow_ord.eq _ _).1 he
  rw [putC_pos h, List.drop_eq_getElem_cons hp]
  simp only [putC, he, hr, Int.lt_irrefl, if_false, if_true]
  have hz := cmpRow_ord.refl x.row
  simp only [hz, Int.lt_irrefl, if_false]
  split
  · rfl
  · rw [List.set_eq_take_append_cons_drop, if_pos hp]
theorem putC_not {l : List C} {x : C} (h : Asc l) (hn : posOf l x.row = l.length ∨ ∃ h : posOf l x.row < l.length, cmpRow l[posOf l x.row].row x.row ≠ 0) :
    putC l x = if x.n = 0 then l else l.take (posOf l x.row) ++ x :: l.drop (posOf l x.row) := by
  rw [putC_pos h]
  rcases hn with hn | ⟨hp, hne⟩
  · rw [hn, List.drop_length, List.take_length]
    simp only [putC]
    split <;> simp
  · rcases posOf_drop (l := l) (r := x.row) with h0 | ⟨_, h0⟩
    · omega
    · have hne' : l[posOf l x.row].row ≠ x.row := fun e => hne ((cmpRow_ord.eq _ _).2 e)
      rw [List.drop_eq_getElem_cons hp]
      simp only [putC, h0, hne', if_false]
      split
      · rw [← List.drop_eq_getElem_cons hp, List.take_append_drop]
      · rfl
theorem putC_len (l : List C) (x : C) : (putC l x).length ≤ l.length + 1 := by
  induction l with
  | nil => simp only [putC]; split <;> simp
  | cons c l ih =>
    simp only [putC]
    split
    · simp only [List.length_cons]; omega
    · split
      · split <;> (simp only [List.length_cons]; omega)
      · split <;> (simp only [List.length_cons]; omega)
end Go.Av
end
section
set_option linter.unusedVariables false
namespace Go.Av
end Go.Av
end
section
set_option linter.unusedSimpArgs false
set_option linter.unusedVariables false
namespace Go.Av
section
variable {C : Cfg} {g : FuncId} {h : LHint} {c : Code}
theorem evM_bs (p : Nat → Bool) (n : Nat) (F : Int → Int → St) (R : Nat → Option (Exit × St))
    (step : ∀ (i j m : Nat), i < j → j ≤ n → m = (i + j) / 2 → (p m = true → evM C g h c ⟨⟩ (F ((m : Int) + 1) (j : Int)) = R (bs2 p (m + 1) j)) → (p m = false → evM C g h c ⟨⟩ (F (i : Int) (m : Int)) = R (bs2 p i m)) →
      roundC C g h c ⟨⟩ (evB C g c ⟨⟩ (F (i : Int) (j : Int))) = R (bif p m then bs2 p (m + 1) j else bs2 p i m))
    (last : ∀ i : Nat, i ≤ n → roundC C g h c ⟨⟩ (evB C g c ⟨⟩ (F (i : Int) (i : Int))) = R i) :
    ∀ i j : Nat, i ≤ j → j ≤ n → evM C g h c ⟨⟩ (F (i : Int) (j : Int)) = R (bs2 p i j) := by
  have key : ∀ k i j : Nat, j - i = k → i ≤ j → j ≤ n → evM C g h c ⟨⟩ (F (i : Int) (j : Int)) = R (bs2 p i j) := by
    intro k
    induction k using Nat.strongRecOn with
    | ind k ih =>
      intro i j hk hij hj
      rw [evM_eq, bs2]
      by_cases hlt : i < j
      · rw [dif_pos hlt]
        refine step i j _ hlt hj rfl (fun _ => ?_) (fun _ => ?_)
        · have := ih (j - ((i + j) / 2 + 1)) (by omega) ((i + j) / 2 + 1) j rfl (by omega) hj
          rwa [show ((((i + j) / 2 + 1 : Nat)) : Int) = (((i + j) / 2 : Nat) : Int) + 1 by omega] at this
        · exact ih ((i + j) / 2 - i) (by omega) i ((i + j) / 2) rfl (by omega) (by omega)
      · have : i = j := by omega
        subst this
        rw [dif_neg (by omega)]
        exact last i hj
  exact fun i j h1 h2 => key _ i j rfl h1 h2
theorem evM_bs0 (p : Nat → Bool) (n : Nat) (F : Int → Int → St) (R : Nat → Option (Exit × St))
    (step : ∀ (i j m : Nat), i < j → j ≤ n → m = (i + j) / 2 → (p m = true → evM C g h c ⟨⟩ (F ((m : Int) + 1) (j : Int)) = R (bs2 p (m + 1) j)) → (p m = false → evM C g h c ⟨⟩ (F (i : Int) (m : Int)) = R (bs2 p i m)) →
      roundC C g h c ⟨⟩ (evB C g c ⟨⟩ (F (i : Int) (j : Int))) = R (bif p m then bs2 p (m + 1) j else bs2 p i m))
    (last : ∀ i : Nat, i ≤ n → roundC C g h c ⟨⟩ (evB C g c ⟨⟩ (F (i : Int) (i : Int))) = R i) : evM C g h c ⟨⟩ (F 0 (n : Int)) = R (bs2 p 0 n) :=
  evM_bs p n F R step last 0 n (Nat.zero_le _) (Nat.le_refl _)
theorem evM_ex {α : Type} (F : α → St) (Q : α → Exit × St → Prop) (I : α → Prop) (m : α → Nat)
    (step : ∀ a, I a → (∀ b, I b → m b < m a → ∃ r, evM C g h c ⟨⟩ (F b) = some r ∧ Q b r) → ∃ r, roundC C g h c ⟨⟩ (evB C g c ⟨⟩ (F a)) = some r ∧ Q a r) : ∀ a, I a → ∃ r, evM C g h c ⟨⟩ (F a) = some r ∧ Q a r := by
  have key : ∀ n a, m a < n → I a → ∃ r, evM C g h c ⟨⟩ (F a) = some r ∧ Q a r := by
    intro n
    induction n with
    | zero => exact fun a h => absurd h (Nat.not_lt_zero _)
    | succ n ih =>
      intro a hn hI
      rw [evM_eq]
      exact step a hI fun b hb hm => ih b (by omega) hb
  exact fun a hI => key _ a (Nat.lt_succ_self _) hI
theorem mid_div (i j : Nat) : (((i : Int) + (j : Int)).tdiv 2) = (((i + j) / 2 : Nat) : Int) := by
  rw [Int.tdiv_eq_ediv_of_nonneg (by omega)]; omega
end
end Go.Av
end
section
set_option linter.unusedSimpArgs false
set_option linter.unusedVariables false
namespace Go.Av
structure Hd (p : Prop) : Prop where
  out : p
section
variable {α : Type}
end
end Go.Av
end
section
set_option linter.unusedSimpArgs false
set_option linter.unusedVariables false
namespace Go.Av
inductive FB (k : Nat) : List C → Prop where
  | nil : FB k []
  | cons {c r : List C} (h : c.length = k) (hs : Srt ltC c) (hr : FB k r) : FB k (c ++ r)
theorem FB.append {k : Nat} {x y : List C} (h : FB k x) (g : FB k y) : FB k (x ++ y) := by
  induction h with
  | nil => exact g
  | cons h hs _ ih => rw [List.append_assoc]; exact .cons h hs ih
theorem FB.one {k : Nat} {c : List C} (h : c.length = k) (hs : Srt ltC c) : FB k c := by
  have := FB.cons h hs .nil
  simpa using this
theorem FB.first {k : Nat} {x : List C} (h : FB k x) (hk : 0 < x.length) : ∃ c r, x = c ++ r ∧ c.length = k ∧ Srt ltC c ∧ FB k r := by
  cases h with
  | nil => cases hk
  | cons h hs hr => exact ⟨_, _, rfl, h, hs, hr⟩
theorem exQ {α : Type} {V : Option α} {Post : α → Prop} (k : ∀ Q : Option α → Prop, (∀ r, Post r → Q (some r)) → Q V) : ∃ r, V = some r ∧ Post r :=
  k (fun o => ∃ r, o = some r ∧ Post r) fun r h => ⟨r, rfl, h⟩
end Go.Av
end
section
namespace Go.Proofs
open Go.Shelf
def Tryz.sortedA_ren : Go.Shelf.Ren := ⟨fun | 6 => 90 | 8 => 114 | 9 => 115 | 11 => 128 | 13 => 130 | 12 => 129 | 23 => 147 | 24 => 148 | 14 => 138 | 15 => 139 | 16 => 140 | 17 => 141 | 18 => 142 | 19 => 143 | 20 => 144 | 21 => 145 | 22 => 146 | 25 => 154 | 26 => 155 | 27 => 156 | 28 => 157 | 29 => 158 | 30 => 159 | 31 => 162 | n => n, fun | 26 => 9 | 28 => 119 | 24 => 22 | 0 => 0 | 3 => 3 | 37 => 126 | 48 => 44 | 50 => 124 | 4 => 4 | 40 => 160 | 39 => 159 | 45 => 165 | 5 => 5 | 9 => 9 | 51 => 172 | 55 => 176 | 57 => 179 | 58 => 48 | 33 => 30 | n => n, fun | n => n⟩
theorem Tryz.sortedA : Go.Proofs.SlLaysZ.n6 Tryz.prog Tryz.sortedA_ren := {
  mixed := by kernel_rfl
  f6 := ⟨Tryz.f90.name, by decide, Tryz.func90.trans (congrArg some (by kernel_rfl))⟩
  f8 := ⟨Tryz.f114.name, by decide, Tryz.func114.trans (congrArg some (by kernel_rfl))⟩
  f11 := ⟨Tryz.f128.name, by decide, Tryz.func128.trans (congrArg some (by kernel_rfl))⟩
  t0 := Tryz.underlying0
  a0 := Tryz.isAgg0
  z0 := Tryz.sizeOf0
  v0 := Tryz.zeroValue0
  t24 := Tryz.underlying22
  a24 := Tryz.isAgg22
  z24 := Tryz.sizeOf22
  v24 := Tryz.zeroValue22
  t26 := Tryz.underlying9
  a26 := Tryz.isAgg9
  z26 := Tryz.sizeOf9
  v26 := Tryz.zeroValue9
  t28 := Tryz.underlying119
  a28 := Tryz.isAgg119
  z28 := Tryz.sizeOf119
  v28 := Tryz.zeroValue119
  i26 := by kernel_rfl }
def Tryz.sortA_ren : Go.Shelf.Ren := ⟨fun | 6 => 115 | 8 => 130 | 9 => 129 | 19 => 147 | 20 => 148 | 21 => 138 | 22 => 139 | 23 => 140 | 24 => 141 | 25 => 142 | 26 => 143 | 27 => 144 | 28 => 145 | 29 => 146 | 36 => 154 | 31 => 155 | 32 => 156 | 37 => 157 | 38 => 158 | 39 => 159 | 41 => 162 | n => n, fun | 27 => 22 | 29 => 9 | 3 => 3 | 32 => 126 | 26 => 22 | 0 => 0 | 44 => 44 | 46 => 124 | 4 => 4 | 36 => 160 | 35 => 159 | 41 => 165 | 5 => 5 | 9 => 9 | 53 => 172 | 57 => 176 | 63 => 179 | 64 => 48 | n => n, fun | n => n⟩
theorem Tryz.sortA : Go.Proofs.SlLaysM.n6 Tryz.prog Tryz.sortA_ren := {
  mixed := by kernel_rfl
  f6 := ⟨Tryz.f115.name, by decide, Tryz.func115.trans (congrArg some (by kernel_rfl))⟩
  f8 := Tryz.func130.trans (congrArg some (by kernel_rfl))
  f9 := ⟨Tryz.f129.name, by decide, Tryz.func129.trans (congrArg some (by kernel_rfl))⟩
  f19 := Tryz.func147.trans (congrArg some (by kernel_rfl))
  f20 := Tryz.func148.trans (congrArg some (by kernel_rfl))
  f21 := ⟨Tryz.f138.name, by decide, Tryz.func138.trans (congrArg some (by kernel_rfl))⟩
  f22 := ⟨Tryz.f139.name, by decide, Tryz.func139.trans (congrArg some (by kernel_rfl))⟩
  f23 := ⟨Tryz.f140.name, by decide, Tryz.func140.trans (congrArg some (by kernel_rfl))⟩
  f24 := ⟨Tryz.f141.name, by decide, Tryz.func141.trans (congrArg some (by kernel_rfl))⟩
  f25 := ⟨Tryz.f142.name, by decide, Tryz.func142.trans (congrArg some (by kernel_rfl))⟩
  f26 := ⟨Tryz.f143.name, by decide, Tryz.func143.trans (congrArg some (by kernel_rfl))⟩
  f27 := ⟨Tryz.f144.name, by decide, Tryz.func144.trans (congrArg some (by kernel_rfl))⟩
  f28 := ⟨Tryz.f145.name, by decide, Tryz.func145.trans (congrArg some (by kernel_rfl))⟩
  f29 := ⟨Tryz.f146.name, by decide, Tryz.func146.trans (congrArg some (by kernel_rfl))⟩
  f31 := Tryz.func155.trans (congrArg some (by kernel_rfl))
  f32 := Tryz.func156.trans (congrArg some (by kernel_rfl))
  f36 := ⟨Tryz.f154.name, by decide, Tryz.func154.trans (congrArg some (by kernel_rfl))⟩
  f37 := ⟨Tryz.f157.name, by decide, Tryz.func157.trans (congrArg some (by kernel_rfl))⟩
  f38 := ⟨Tryz.f158.name, by decide, Tryz.func158.trans (congrArg some (by kernel_rfl))⟩
  f39 := ⟨Tryz.f159.name, by decide, Tryz.func159.trans (congrArg some (by kernel_rfl))⟩
  f41 := ⟨Tryz.f162.name, by decide, Tryz.func162.trans (congrArg some (by kernel_rfl))⟩
  t0 := Tryz.underlying0
  a0 := Tryz.isAgg0
  z0 := Tryz.sizeOf0
  v0 := Tryz.zeroValue0
  t3 := Tryz.underlying3
  a3 := Tryz.isAgg3
  z3 := Tryz.sizeOf3
  v3 := Tryz.zeroValue3
  t4 := Tryz.underlying4
  a4 := Tryz.isAgg4
  z4 := Tryz.sizeOf4
  v4 := Tryz.zeroValue4
  t5 := Tryz.underlying5
  a5 := Tryz.isAgg5
  z5 := Tryz.sizeOf5
  v5 := Tryz.zeroValue5
  t9 := Tryz.underlying9
  a9 := Tryz.isAgg9
  z9 := Tryz.sizeOf9
  v9 := Tryz.zeroValue9
  t26 := Tryz.underlying22
  a26 := Tryz.isAgg22
  z26 := Tryz.sizeOf22
  v26 := Tryz.zeroValue22
  t27 := Tryz.underlying22
  a27 := Tryz.isAgg22
  z27 := Tryz.sizeOf22
  v27 := Tryz.zeroValue22
  t29 := Tryz.underlying9
  a29 := Tryz.isAgg9
  z29 := Tryz.sizeOf9
  v29 := Tryz.zeroValue9
  t32 := Tryz.underlying126
  a32 := Tryz.isAgg126
  z32 := Tryz.sizeOf126
  v32 := Tryz.zeroValue126
  t35 := Tryz.underlying159
  a35 := Tryz.isAgg159
  z35 := Tryz.sizeOf159
  v35 := Tryz.zeroValue159
  t36 := Tryz.underlying160
  a36 := Tryz.isAgg160
  z36 := Tryz.sizeOf160
  v36 := Tryz.zeroValue160
  t41 := Tryz.underlying165
  a41 := Tryz.isAgg165
  z41 := Tryz.sizeOf165
  v41 := Tryz.zeroValue165
  t44 := Tryz.underlying44
  a44 := Tryz.isAgg44
  z44 := Tryz.sizeOf44
  v44 := Tryz.zeroValue44
  t46 := Tryz.underlying124
  a46 := Tryz.isAgg124
  z46 := Tryz.sizeOf124
  v46 := Tryz.zeroValue124
  t53 := Tryz.underlying172
  a53 := Tryz.isAgg172
  z53 := Tryz.sizeOf172
  v53 := Tryz.zeroValue172
  t57 := Tryz.underlying176
  a57 := Tryz.isAgg176
  z57 := Tryz.sizeOf176
  v57 := Tryz.zeroValue176
  t63 := Tryz.underlying179
  a63 := Tryz.isAgg179
  z63 := Tryz.sizeOf179
  v63 := Tryz.zeroValue179
  t64 := Tryz.underlying48
  a64 := Tryz.isAgg48
  z64 := Tryz.sizeOf48
  v64 := Tryz.zeroValue48 }
end Go.Proofs
end
section
namespace Go.Proofs
open Go.RowKit Go.Maps Go.Sort Go.Shelf
variable {P : Program} {ρ : Ren}
def SeqGivesB {α : Type} (F : Fence) (n : Nat) (P : Program) (g : Nat) (lb : Array Value) (enc : α → Value) (S : List α → Prop) (N : Nat) (w : World) : Prop :=
  ∀ (l : Nat) (J : List α → World → Prop) (W : World), Below w.heap.size w W → AbidesFrom W.heap.size J → (∀ pre W1, J pre W1 → Below w.heap.size w W1) →
    (∀ pre x W1, J pre W1 → pre.length < N → YieldAt F (n - 1) P l #[enc x] W1 fun e W' => e = .returned (.bool true) ∧ J (pre ++ [x]) W' ∧ KeepsWalks W1 W') →
    J [] W →
    CallsIn F n P g (#[.func (.yield l) #[] #[]] ++ lb) W fun e W' => (∃ v, e = .returned v) ∧ ∃ xs, S xs ∧ J xs W'
set_option maxRecDepth 100000 in
set_option maxHeartbeats 2000000 in
theorem appendSeqB (L : SlLaysZ.n11 P ρ) (F : Fence) (n : Nat) (h11 : F.fn (ρ.f 11)) (hro : F.round = none) (hn : 2 ≤ n) (g : Nat) (lb : Array Value) (hFg : F.fn g) (eg : ∀ args w, (callFunc g args).run P w = .ok (.enter g args) w)
    (S : List (List UInt8) → Prop) (N : Nat) (hN : N ≤ maxLen) (hNb : N * 16 ≤ 140737488355328) (w : World) (hseq : SeqGivesB F (n - 1) P g lb encStr S N w) :
    CallsIn F n P (ρ.f 11) #[.slice none 0 0, .func (.func g) #[] lb] w fun e w' => ∃ (v : Value) (ss : List (List UInt8)), e = .returned v ∧ S ss ∧ w'.ownsRow w.heap.size (ρ.t 26) 1 v ss.length (ss.map encStr) ∧ (v = .slice none 0 0 ↔ ss = []) ∧ Below w.heap.size w w' := by
  have h1 : 1 ≤ n := by omega
  have mixed := L.mixed; have t0 := L.t0; have a0 := L.a0; have z0 := L.z0; have v0 := L.v0; have t24 := L.t24; have a24 := L.a24; have z24 := L.z24; have v24 := L.v24; have t26 := L.t26; have a26 := L.a26; have z26 := L.z26; have v26 := L.v26; have t28 := L.t28; have a28 := L.a28; have z28 := L.z28; have v28 := L.v28
  have hne : ρ.t 24 ≠ ρ.t 26 := fun e => by have h := L.t24; rw [e, L.t26] at h; cases h
  have u0 := run_underlying L.t0; have u24 := run_underlying L.t24; have u26 := run_underlying L.t26; have u28 := run_underlying L.t28
  obtain ⟨_, _, FG⟩ := L.f11
  refine callsIn_of_wp_marks FG rfl h11 ?_ hro
  simp only [SlBodyZ.n11_ntmps ρ, List.size_toArray, List.length_cons, List.length_nil, Nat.reduceAdd, Nat.reduceSub, Array.replicate_succ, Array.replicate_zero, List.push_toArray, List.append_toArray, List.nil_append, List.cons_append]
  gi_wp2
  refine wpIn_rangeFunc ?_
  intro fn hfn
  rw [hro]
  obtain ⟨W0, hW0⟩ : ∃ W0, w.alloc (.cells #[.slice none 0 0] (ρ.t 24)) = W0 := ⟨_, rfl⟩
  have hs0 : W0.heap.size = w.heap.size + 1 := by rw [← hW0]; simp
  have hv0 : W0.heap[w.heap.size]? = some (.cells #[.slice none 0 0] (ρ.t 24) (0, 0)) := by rw [← hW0]; exact World.alloc_heap_new w _
  have hb0 : Below w.heap.size w W0 := by rw [← hW0]; exact (Below.refl _ w).alloc (Nat.le_refl _) _
  rw [hW0]
  obtain ⟨W1, hW1⟩ : ∃ W1, (W0.alloc (.deferred (some []))).alloc (.loop (AnyZ.apRec ρ fn (.func (.func g) #[] lb) w.heap.size W0.heap.size .ready none)) = W1 := ⟨_, rfl⟩
  have hold : ∀ k, k < W0.heap.size → W1.heap[k]? = W0.heap[k]? := fun k hk => by
    rw [← hW1]; exact (Below.heap_alloc _ _ k (by simp; omega)).trans (Below.heap_alloc _ _ k hk)
  have hb1 : Below w.heap.size w W1 := by rw [← hW1]; exact (hb0.alloc hb0.size _).alloc (by have := hb0.size; simp; omega) _
  have hs1 : W1.heap.size = W0.heap.size + 2 := by rw [← hW1]; simp
  have hM : AnyZ.ApAt ρ w fn (.func (.func g) #[] lb) w.heap.size (W0.heap.size + 1) W0.heap.size [] W1 :=
    ⟨⟨_, (hold w.heap.size (by omega)).trans hv0, ⟨rfl, .inl ⟨rfl, rfl⟩⟩, by simp⟩,
     by rw [← hW1]; have := World.alloc_heap_new (W0.alloc (.deferred (some []))) (.loop (AnyZ.apRec ρ fn (.func (.func g) #[] lb) w.heap.size W0.heap.size .ready none)); rwa [World.size_alloc] at this,
     by rw [← hW1]; exact (Below.heap_alloc _ _ _ (by simp)).trans (World.alloc_heap_new W0 _), hb1⟩
  refine ⟨W0.heap.size + 1, [{ target := .collected W0.heap.size, args := #[] }], W1, { target := .fn (.func g) lb, args := #[.func (.yield (W0.heap.size + 1)) #[] #[]] }, W1, g,
    #[.func (.yield (W0.heap.size + 1)) #[] #[]] ++ lb, W1, ?_, ?_, ?_, ?_, fun _ => h1, ?_⟩
  · rw [← hW1]; exact run_enterLoop_outer _ _ _ _ _
  · simp [resolve, go_sem]
  · intro f' hf'; simp [Target.leads] at hf'; subst hf'; exact hFg
  · simp [invoke, go_sem, eg]
  · refine (hseq (W0.heap.size + 1) (AnyZ.ApAt ρ w fn (.func (.func g) #[] lb) w.heap.size (W0.heap.size + 1) W0.heap.size) W1 hb1 (AnyZ.ap_abides ρ _ _ _ _ _ _ _ hb1.size) (fun _ _ h => h.below)
      (fun pre x W hJ hl => AnyZ.apYield { L with } F (n - 1 - 1) w fn hfn _ w.heap.size (W0.heap.size + 1) W0.heap.size (by omega) (by omega) (by omega) (Nat.le_refl _) (by omega) N hN hNb pre x W hJ hl) hM).mono ?_
    rintro e W2 ⟨⟨v0, rfl⟩, ss, hS, h2⟩
    obtain ⟨v, hv, hrow, hnil⟩ := h2.box
    have hend := run_endLoop (P := P) h2.L (by simp [AnyZ.apRec])
    obtain ⟨W3, hW3⟩ : ∃ W3, W2.putObj (W0.heap.size + 1) (.loop { AnyZ.apRec ρ fn (.func (.func g) #[] lb) w.heap.size W0.heap.size .ready none with state := .exhausted }) = W3 := ⟨_, rfl⟩
    rw [hW3] at hend
    have hg3 : W2.grownBy W3 (some (W0.heap.size + 1)) := by rw [← hW3]; exact grownBy_putObj_a _ _ _
    have hv3 : W3.heap[w.heap.size]? = some (.cells #[v] (ρ.t 24) (0, 0)) := by rw [← hW3]; exact (World.putObj_heap_other (by omega)).trans hv
    have hK3 : W3.heap[W0.heap.size]? = some (.deferred (some [])) := by rw [← hW3]; exact (World.putObj_heap_other (by omega)).trans h2.K
    have hrow3 := hrow.kept hg3 (ownsRow_ne_a hrow h2.L (fun cur e => by first | cases e | exact hne (Obj.cells.inj e).2.1))
    have hb3 : Below w.heap.size w W3 := h2.below.grown hg3 h2.below.size (fun k e => by cases e; omega)
    obtain ⟨hc3, hf3⟩ := cell_of_box_a hv3
    clear hW3
    refine ⟨none, W3, hend, ?_⟩
    gi_wp2
    rw [← hs0]
    refine ⟨by simp, .inl ⟨_, _, rfl, run_takeDeferred hK3, ?_⟩⟩
    exact ⟨_, results_tmp rfl _ _ _, v, ss, rfl, hS, hrow3.kept (grownBy_putObj_a _ _ _) (ownsRow_ne_a hrow3 hK3 (fun cur e => by first | cases e | exact hne (Obj.cells.inj e).2.1)), hnil, hb3.grown (grownBy_putObj_a _ _ _) hb3.size (fun k e => by cases e; omega)⟩
set_option maxRecDepth 100000 in
set_option maxHeartbeats 2000000 in
theorem collectB (L : SlLaysZ.n8 P ρ) (F : Fence) (n : Nat) (h8 : F.fn (ρ.f 8)) (h11 : F.fn (ρ.f 11)) (hro : F.round = none) (hn : 3 ≤ n) (g : Nat) (lb : Array Value) (hFg : F.fn g) (eg : ∀ args w, (callFunc g args).run P w = .ok (.enter g args) w)
    (S : List (List UInt8) → Prop) (N : Nat) (hN : N ≤ maxLen) (hNb : N * 16 ≤ 140737488355328) (w : World) (hseq : SeqGivesB F (n - 1 - 1) P g lb encStr S N w) :
    CallsIn F n P (ρ.f 8) #[.func (.func g) #[] lb] w fun e w' => ∃ (v : Value) (ss : List (List UInt8)), e = .returned v ∧ S ss ∧ w'.ownsRow w.heap.size (ρ.t 26) 1 v ss.length (ss.map encStr) ∧ (v = .slice none 0 0 ↔ ss = []) ∧ Below w.heap.size w w' := by
  have h1 : 1 ≤ n := by omega
  have e11 : ∀ args w, (callFunc (ρ.f 11) args).run P w = .ok (.enter (ρ.f 11) args) w := L.f11.enters rfl
  have mixed := L.mixed; have t0 := L.t0; have a0 := L.a0; have z0 := L.z0; have v0 := L.v0; have t24 := L.t24; have a24 := L.a24; have z24 := L.z24; have v24 := L.v24; have t26 := L.t26; have a26 := L.a26; have z26 := L.z26; have v26 := L.v26; have t28 := L.t28; have a28 := L.a28; have z28 := L.z28; have v28 := L.v28
  have u0 := run_underlying L.t0; have u24 := run_underlying L.t24; have u26 := run_underlying L.t26; have u28 := run_underlying L.t28
  obtain ⟨_, _, FG⟩ := L.f8
  refine callsIn_of_wp FG rfl h8 ?_ hro
  simp only [SlBodyZ.n8_ntmps ρ, List.size_toArray, List.length_cons, List.length_nil, Nat.reduceAdd, Nat.reduceSub, Array.replicate_succ, Array.replicate_zero, List.push_toArray, List.append_toArray, List.nil_append, List.cons_append]
  gi_wp2_with (gi_at_fn (ρ.f 11); refine (appendSeqB { L with } F (n - 1) h11 hro (by omega) g lb hFg eg S N hN hNb _ hseq).mono ?_; rintro e w' ⟨v, ss, rfl, hS, hrow, hnil, hb⟩)
  go_ret
  exact ⟨v, ss, rfl, hS, hrow, hnil, hb⟩
set_option maxRecDepth 100000 in
set_option maxHeartbeats 2000000 in
theorem sortedB (L : SlLaysZ.n6 P ρ) (F : Fence) (n : Nat) (h6 : F.fn (ρ.f 6)) (h8 : F.fn (ρ.f 8)) (h9 : F.fn (ρ.f 9)) (h11 : F.fn (ρ.f 11)) (hro : F.round = none) (hn : 4 ≤ n) (hsort : AnyZ.SortsIn P ρ F (n - 1)) (e9 : ∀ args w, (callFunc (ρ.f 9) args).run P w = .ok (.enter (ρ.f 9) args) w) (g : Nat) (lb : Array Value) (hFg : F.fn g) (eg : ∀ args w, (callFunc g args).run P w = .ok (.enter g args) w)
    (S : List (List UInt8) → Prop) (N : Nat) (hN : N ≤ maxLen) (hNb : N * 16 ≤ 140737488355328) (w : World) (hseq : SeqGivesB F (n - 1 - 1 - 1) P g lb encStr (fun xs => S xs ∧ xs.length ≤ N) N w) :
    CallsIn F n P (ρ.f 6) #[.func (.func g) #[] lb] w fun e w' => ∃ (v : Value) (ss : List (List UInt8)), e = .returned v ∧ S ss ∧
      w'.ownsRow w.heap.size (ρ.t 26) 1 v ss.length ((ss.mergeSort (fun x y => decide (x ≤ y))).map encStr) ∧ (v = .slice none 0 0 ↔ ss = []) ∧ Below w.heap.size w w' := by
  have h1 : 1 ≤ n := by omega
  have e8 : ∀ args w, (callFunc (ρ.f 8) args).run P w = .ok (.enter (ρ.f 8) args) w := L.f8.enters rfl
  have mixed := L.mixed; have t0 := L.t0; have a0 := L.a0; have z0 := L.z0; have v0 := L.v0; have t24 := L.t24; have a24 := L.a24; have z24 := L.z24; have v24 := L.v24; have t26 := L.t26; have a26 := L.a26; have z26 := L.z26; have v26 := L.v26; have t28 := L.t28; have a28 := L.a28; have z28 := L.z28; have v28 := L.v28
  have u0 := run_underlying L.t0; have u24 := run_underlying L.t24; have u26 := run_underlying L.t26; have u28 := run_underlying L.t28
  obtain ⟨_, _, FG⟩ := L.f6
  refine callsIn_of_wp FG rfl h6 ?_ hro
  simp only [SlBodyZ.n6_ntmps ρ, List.size_toArray, List.length_cons, List.length_nil, Nat.reduceAdd, Nat.reduceSub, Array.replicate_succ, Array.replicate_zero, List.push_toArray, List.append_toArray, List.nil_append, List.cons_append]
  gi_wp2_with (gi_at_fn (ρ.f 8); refine (collectB { L with } F (n - 1) h8 h11 hro (by omega) g lb hFg eg _ N hN hNb _ hseq).mono ?_; rintro e W ⟨v, ss, rfl, ⟨hS, hlen⟩, hrow, hnil, hb⟩)
  rcases hrow.2 with ⟨rfl, hz⟩ | ⟨gb, cap, cur, rfl, hbase, hgb, r1, r2, r3, r4⟩
  ·
    have hss : ss = [] := List.eq_nil_of_length_eq_zero hz
    subst hss
    gi_wp2_with (gi_at_fn (ρ.f 9); refine (hsort.2 none 0 W).mono ?_; rintro e w' ⟨rfl, rfl⟩)
    go_ret
    exact ⟨.slice none 0 0, [], rfl, hS, by simpa using hrow, by simp, hb⟩
  · have hH : Holds encStr W gb 0 ss.toArray := holds_of_block hgb (by simpa using r4)
    have hgl : gb < W.heap.size := (Array.getElem?_eq_some_iff.1 hgb).1
    have hsz : ss.length < 4611686018427387904 := by omega
    have cS := hsort.1 gb 0 cap ss W hH hgl hsz
    gi_wp2_with (gi_at_fn (ρ.f 9); refine cS.mono ?_; rintro e w' ⟨rfl, nn, os, rfl⟩)
    go_ret
    exact ⟨_, ss, rfl, hS, ownsRow_sorted (by simp) hbase hgb r1 r2 r3, hnil, hb.grown (grownBy_sorted _) hb.size (fun j hj => by cases hj; exact hbase)⟩
end Go.Proofs
end
section
namespace Go.Proofs
open Go.RowKit Go.Shelf
attribute [local go_sem] Oper.semAt_some
set_option maxRecDepth 100000 in
set_option maxHeartbeats 2000000 in
theorem values1B (n l Bs n₀ b off cap : Nat) (zs : List (List UInt8)) (hn : 1 ≤ n) (hreach : zs.length * 16 ≤ 140737488355328) (hb : b < n₀) (J : List (List UInt8) → World → Prop)
    (hJ : ∀ pre W, J pre W → pre.length ≤ zs.length → ∀ j (hj : j < zs.length), W.cell? ⟨b, off + j, none⟩ = some (encStr zs[j]) ∧ W.cell? ⟨Bs, 0, none⟩ = some (.slice (some ⟨b, off, none⟩) zs.length cap))
    (hY : ∀ pre x W, J pre W → pre.length < zs.length → YieldAt Fence.wide (n - 1) Tryz.prog l #[encStr x] W fun e W' => e = .returned (.bool true) ∧ J (pre ++ [x]) W' ∧ KeepsWalks W W')
    (W : World) (hBs : W.cell? ⟨Bs, 0, none⟩ = some (.slice (some ⟨b, off, none⟩) zs.length cap)) (h0 : J [] W) :
    CallsIn Fence.wide n Tryz.prog 116 #[.func (.yield l) #[] #[], .pointer (some ⟨Bs, 0, none⟩)] W fun e W' => (∃ v, e = .returned v) ∧ J zs W' := by
  refine callsIn_of_wp Tryz.func116 rfl trivial ?_ rfl
  simp only [Tryz.ntmps116, List.size_toArray, List.length_cons, List.length_nil, Nat.reduceAdd, Nat.reduceSub, Array.replicate_succ, Array.replicate_zero, List.push_toArray, List.append_toArray, List.nil_append, List.cons_append]
  gi_wp2
  gi_loopw [7] (fun i wr => ∃ k : Nat, k ≤ zs.length ∧ i = .int .i64 k ∧ J (zs.take k) wr)
    (fun i _ => zs.length - (intOf i).toNat)
  case atStart => exact ⟨0, Nat.zero_le _, rfl, h0⟩
  case round =>
    obtain ⟨k, hk, rfl, hJs⟩ := hrel
    by_cases hlt : k < zs.length
    · obtain ⟨fn, tmps, assign, body, hy, hR⟩ := hY _ zs[k] wr hJs (by rw [List.length_take]; omega)
      have hcx : wr.cell? ⟨b, off + k, none⟩ = some (encStr zs[k]) := (hJ _ _ hJs (by rw [List.length_take]; omega) k hlt).1
      unfold encStr at hcx hy
      gi_wp2
      refine hR.mono ?_
      rintro e W3 ⟨rfl, hJ3, _⟩
      gi_wp2
      go_roundw
      case rel => exact ⟨k + 1, by omega, by simp, by rw [List.take_succ_eq_append_getElem hlt]; exact hJ3⟩
      case measure => simp [intOf]; omega
    · obtain rfl : k = zs.length := by omega
      gi_wp2
      go_end0
      exact ⟨⟨_, rfl⟩, by rw [List.take_length] at hJs; exact hJs⟩
set_option maxRecDepth 100000 in
set_option maxHeartbeats 1000000 in
theorem values1B_nil (n l Bs cap : Nat) (a : Option Addr) (J : List (List UInt8) → World → Prop) (W : World) (hBs : W.cell? ⟨Bs, 0, none⟩ = some (.slice a 0 cap)) (h0 : J [] W) :
    CallsIn Fence.wide n Tryz.prog 116 #[.func (.yield l) #[] #[], .pointer (some ⟨Bs, 0, none⟩)] W fun e W' => (∃ v, e = .returned v) ∧ J [] W' := by
  refine callsIn_of_wp Tryz.func116 rfl trivial ?_ rfl
  simp only [Tryz.ntmps116, List.size_toArray, List.length_cons, List.length_nil, Nat.reduceAdd, Nat.reduceSub, Array.replicate_succ, Array.replicate_zero, List.push_toArray, List.append_toArray, List.nil_append, List.cons_append]
  gi_wp2
  gi_loopw [7] (fun i wr => i = .int .i64 0 ∧ J [] wr) (fun _ _ => 0)
  case atStart => exact ⟨rfl, h0⟩
  case round =>
    obtain ⟨rfl, hJs⟩ := hrel
    gi_wp2
    go_end0
    exact ⟨⟨_, rfl⟩, hJs⟩
end Go.Proofs
end
