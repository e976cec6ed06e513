/- Texts that the last one goes by: Snd7, Snd7b, Snd7t, Snd7c, Snd8, Snd9, Snd10, Snd11, Snd12, Snd13. -/
import Derived.Test.YtnbdlncbfjkpcaaGreatAvA0
import Derived.Laws.MakeOwn
import Derived.Orders
set_option linter.all false
set_option linter.unusedVariables false
set_option linter.unusedSimpArgs false
section
set_option linter.unusedSectionVars false
namespace Go.Av
section
variable [Known] {P : Program} {X : Nat → Prop} {β0 : Places} {w0 w w' : World} {S0 S S' : Stable} {st st' : St} {a : Act} {β β' : Places}
def SimE [Known] (P : Program) (X : Nat → Prop) (β0 : Places) (w0 : World) (S0 : Stable) (st : St) (a : Act) (w : World) : Prop := ∃ S β, Sim P X β0 w0 S0 st a w S β
theorem Sim.setN (h : Sim P X β0 w0 S0 st a w S β) {n : Nat} (hn : n ≤ w.heap.size) : Sim P X β0 w0 S0 (setN st n) a w S β :=
  ⟨h.kn, h.dfr, h.size, h.tmps, h.objs, h.own, h.inj, h.sep, h.bnd, h.sub, h.new, h.below, hn, h.fix, h.gh, h.tk⟩
theorem Sim.frz1 (h : Sim P X β0 w0 S0 st a w S β) (k : Nat) : ∃ S', Keeps w S w S' ∧ Sim P X β0 w0 S0 (Av.frz1 st k (lk k st.o)) a w S' β := by
  cases hk : lk k st.o with
  | none => exact ⟨S, Keeps.refl _ _, h⟩
  | some o =>
    have same : frzObj st.g o = o → bumpO st.g o = st.g → Sim P X β0 w0 S0 (Av.frz1 st k (some o)) a w S β := by
      intro e eg
      have hl : ∀ j, lk j ((k, frzObj st.g o) :: st.o) = lk j st.o := by
        intro j
        by_cases hj : j = k
        · subst hj; rw [lk_cons_eq, e, hk]
        · rw [lk_cons_ne _ _ hj]
      exact ⟨h.kn, h.dfr, h.size, h.tmps, fun j ob hh => h.objs j ob (by rw [← hl]; exact hh), fun j ob hh => h.own j ob (by rw [← hl]; exact hh),
        fun j j' ob ob' h1 h2 => h.inj j j' ob ob' (by rw [← hl]; exact h1) (by rw [← hl]; exact h2), fun j ob hh => h.sep j ob (by rw [← hl]; exact hh), h.bnd, h.sub, h.new, h.below, h.n, h.fix,
        fun b z hz => let ⟨a1, a2, a3, a4⟩ := h.gh b z hz; ⟨a1, a2, fun j ob hh => a3 j ob (by rw [← hl]; exact hh), a4⟩, by rw [show (Av.frz1 st k (some o)).g = st.g from eg]; exact h.tk⟩
    cases o with
    | box cs ty => exact ⟨S, Keeps.refl _ _, same rfl rfl⟩
    | fz b m es => exact ⟨S, Keeps.refl _ _, same rfl rfl⟩
    | arr A m es =>
      have hov := (h.objs k _ hk).1
      have hloc : ∀ x, foot (β k) x → X x ∨ w0.heap.size ≤ x := fun x hx => h.loc hk rfl hx
      let S' : Stable := ⟨fun b x => S b x ∨ foot (β k) b, fun q b => S.t q b ∨ ∃ n a, st.g = some (n, a) ∧ q = [n] ∧ foot (β k) b⟩
      have hkeep : Keeps w S w S' := ⟨fun _ _ h => .inl h, fun _ _ _ => rfl, fun _ _ h => .inl h⟩
      refine ⟨S', hkeep, ?_⟩
      have hold : ∀ j ob', lk j ((k, Obj.fz (frzAnn A st.g) m es) :: st.o) = some ob' → j ≠ k → lk j st.o = some ob' := by
        intro j ob' hl hj
        rwa [lk_cons_ne _ _ hj] at hl
      have fx : ∀ i ob', lk i ((k, Obj.fz (frzAnn A st.g) m es) :: st.o) = some ob' → ∃ ob'', lk i st.o = some ob'' := by
        intro i ob' hi
        by_cases hik : i = k
        · subst hik; exact ⟨_, hk⟩
        · exact ⟨_, hold i ob' hi hik⟩
      refine ⟨h.kn.keeps hkeep, h.dfr, h.size, ?_, ?_, ?_, ?_, ?_, ?_, fun b x hs => .inl (h.sub b x hs), ?_, h.below, h.n, h.fix, ?_, ?_⟩
      · intro i tv hl
        obtain ⟨v, hv, hr, ho⟩ := h.tmps i tv hl
        exact ⟨v, hv, hr.keeps hkeep (TV.ok_mono (fun _ _ => rfl) ho), ho⟩
      · intro j ob' hl
        by_cases hj : j = k
        · subst hj
          rw [show (Av.frz1 st j (some (Obj.arr A m es))).o = (j, Obj.fz (frzAnn A st.g) m es) :: st.o from rfl, lk_cons_eq] at hl
          cases hl
          refine ⟨?_, trivial, (h.objs j _ hk).2.2⟩
          cases hov with
          | arr hv hb hA hm h0 hlen hcap hmax hsz ha ht =>
            refine .fz hv hb ?_ hm h0 hlen hcap (ha.keeps hkeep) (fun _ _ _ _ => .inr ⟨hv, rfl⟩) ?_
            · cases hg : st.g with
              | none => exact hA.1
              | some n => trivial
            · intro q hq
              cases hg : st.g with
              | none => rw [hg] at hq; exact absurd hq (hA.2 q)
              | some n => rw [hg] at hq; exact .inr ⟨n.1, n.2, hg, by cases hq; rfl, hv, rfl⟩
          | arrN hv hm h0 hlen hcap => exact .fzN hv hlen
        · obtain ⟨h1, h2, h3⟩ := h.objs j ob' (hold j ob' hl hj)
          exact ⟨h1.keeps hkeep (fun _ => rfl) rfl (okO_mono (fun _ _ => rfl) h2), h2, h3⟩
      · intro j ob' hl x hx
        by_cases hj : j = k
        · subst hj
          rw [show (Av.frz1 st j (some (Obj.arr A m es))).o = (j, Obj.fz (frzAnn A st.g) m es) :: st.o from rfl, lk_cons_eq] at hl
          cases hl
          exact (h.own j _ hk x hx).imp (fun h => ⟨h.1, fun h => (by cases h)⟩) id
        · exact h.own j ob' (hold j ob' hl hj) x hx
      · intro j j' ob1 ob2 hl hl' hjj
        obtain ⟨o1, h1⟩ := fx j ob1 hl
        obtain ⟨o2, h2⟩ := fx j' ob2 hl'
        exact h.inj j j' o1 o2 h1 h2 hjj
      · intro j ob' hl hw x hx z hs
        by_cases hj : j = k
        · subst hj
          rw [show (Av.frz1 st j (some (Obj.arr A m es))).o = (j, Obj.fz (frzAnn A st.g) m es) :: st.o from rfl, lk_cons_eq] at hl
          cases hl
          cases hw
        · have h1 := hold j ob' hl hj
          rcases hs with hs | hs
          · exact h.sep j ob' h1 hw x hx z hs
          · exact h.inj j k ob' _ h1 hk hj x hx hs
      · intro b' x hs
        rcases hs with hs | hs
        · exact h.bnd b' x hs
        · rw [hs.2]; exact hov.lt hs.1
      · intro b' x hs
        rcases hs with hs | hs
        · exact h.new b' x hs
        · exact .inr (hloc b' hs)
      · intro b z hz
        obtain ⟨a1, a2, a3, a4⟩ := h.gh b z hz
        refine ⟨a1, ?_, ?_, a4⟩
        · rintro x (hs | hs)
          · exact a2 x hs
          · exact a3 k _ hk hs
        · intro j ob' hl
          obtain ⟨ob'', h1⟩ := fx j ob' hl
          exact a3 j ob'' h1
      · rw [show (Av.frz1 st k (some (Obj.arr A m es))).g = Av.bump st.g from rfl]
        have htk := h.tk
        cases hg : st.g with
        | none =>
          rw [hg] at htk
          intro q b
          constructor
          · rintro (h1 | ⟨n, a, h1, _⟩)
            · exact (htk q b).1 h1
            · rw [hg] at h1; cases h1
          · exact fun h1 => .inl ((htk q b).2 h1)
        | some n =>
          rw [hg] at htk
          have hblk : ∀ b, foot (β k) b → w0.heap.size ≤ b ∧ (∃ vs e fr, w.heap[b]? = some (.cells vs e fr) ∧ (fr.1 = fr.2 ∨ vs.size ≤ fr.1)) := by
            intro b hb
            refine ⟨(hloc b hb).resolve_left (htk.1.1 b), ?_⟩
            cases hov with
            | arr hv hb' _ _ _ _ _ _ _ _ _ hfr => exact ⟨_, _, _, by rw [hb.2]; exact hb', hfr.1⟩
            | arrN hv _ _ _ _ => exact absurd hb.1 (by rw [hv]; simp)
          have hno : ∀ q b, foot (β k) b → ¬ S.t q b := fun q b hb hq => by
            by_cases hq0 : q = []
            · subst hq0
              obtain ⟨_, ⟨o, ho⟩, _⟩ := htk.2.1 b hq
              exact h.sep k _ hk rfl b hb o ho
            · exact h.sep k _ hk rfl b hb 0 ((htk.2.2.new q b ⟨hq0, hq⟩).2.2.2 0)
          refine ⟨htk.1, fun b hb => ?_, ?_, ?_, ?_⟩
          · rcases hb with h1 | ⟨_, _, _, h2, _⟩
            · obtain ⟨a1, ⟨o, a2⟩, a3⟩ := htk.2.1 b h1
              refine ⟨a1, ⟨o, .inl a2⟩, ?_⟩
              rintro q (g1 | ⟨_, _, _, _, g3⟩)
              · exact a3 q g1
              · exact absurd h1 (hno _ b g3)
            · cases h2
          · rintro q b ⟨hq0, h1 | ⟨n', a', h1, h2, h3⟩⟩
            · obtain ⟨⟨c, r, a1, a2⟩, a3, a4, a5⟩ := htk.2.2.new q b ⟨hq0, h1⟩
              exact ⟨⟨c, r, a1, Nat.lt_succ_of_lt a2⟩, a3, a4, fun o => .inl (a5 o)⟩
            · rw [hg] at h1; cases h1
              exact ⟨⟨n', [], h2, Nat.lt_succ_self n'⟩, (hblk b h3).1, (hblk b h3).2, fun o => .inr h3⟩
          · rintro q b b' ⟨hq0, h1 | ⟨n1, a1', h1, h2, h3⟩⟩ ⟨_, g1 | ⟨n2, a2', g1, g2, g3⟩⟩
            · exact htk.2.2.i1 q b b' ⟨hq0, h1⟩ ⟨hq0, g1⟩
            · rw [hg] at g1; cases g1
              obtain ⟨⟨c, r, a1, a2⟩, _⟩ := htk.2.2.new q b ⟨hq0, h1⟩
              rw [g2] at a1; cases a1; exact absurd a2 (Nat.lt_irrefl _)
            · rw [hg] at h1; cases h1
              obtain ⟨⟨c, r, a1, a2⟩, _⟩ := htk.2.2.new q b' ⟨hq0, g1⟩
              rw [h2] at a1; cases a1; exact absurd a2 (Nat.lt_irrefl _)
            · exact h3.2.trans g3.2.symm
          · rintro q q' b ⟨hq0, h1 | ⟨n1, a1', h1, h2, h3⟩⟩ ⟨hq1, g1 | ⟨n2, a2', g1, g2, g3⟩⟩
            · exact htk.2.2.i2 q q' b ⟨hq0, h1⟩ ⟨hq1, g1⟩
            · exact absurd h1 (hno q b g3)
            · exact absurd g1 (hno q' b h3)
            · rw [hg] at h1 g1; cases h1; cases g1; rw [h2, g2]
theorem Sim.frz : ∀ (l : List Nat) {st : St} {S : Stable}, Sim P X β0 w0 S0 st a w S β → ∃ S', Keeps w S w S' ∧ Sim P X β0 w0 S0 (Av.frz st l) a w S' β
  | [], st, S, h => ⟨S, Keeps.refl _ _, h⟩
  | k :: l, st, S, h => by
    obtain ⟨S1, hk1, h1⟩ := h.frz1 k
    obtain ⟨S2, hk2, h2⟩ := Sim.frz l h1
    exact ⟨S2, hk1.trans hk2, h2⟩
theorem frz1_t (st : St) (k : Nat) (o : Option Obj) : (Av.frz1 st k o).t = st.t := by cases o <;> rfl
theorem frz_t : ∀ (l : List Nat) (st : St), (Av.frz st l).t = st.t
  | [], st => rfl
  | k :: l, st => by rw [Av.frz, frz_t l, frz1_t]
theorem evc_frz (l : List Nat) (st : St) (x : Operand) : evc (Av.frz st l) x = evc st x := by
  cases x <;> simp [evc, frz_t]
theorem fz_rep {k m : Nat} {A : Ann} {es : List (List T)} {v : Value} (h : OV P w S β k (.fz A m es)) (hv : RV P w S β (.own k) v) : Rep w S (.sl A es) v := by
  cases h with
  | fzN hlv hlen =>
    cases hv with
    | own => rw [hlen]; exact .nil _ _ _
  | fz hlv hb hA hm h0 hlen hcap ha hs hT =>
    cases hv with
    | own _ ad had =>
      obtain rfl := had hlv
      rw [hlen]
      cases es with
      | nil => exact .nil _ _ _
      | cons e es =>
        have hc : ∀ i j (hi : i < (e :: es).length) (hj : j < (e :: es)[i].length), ∃ v, w.cell? ⟨(β k).blk, 0 + i * m + j, none⟩ = some v ∧ Rep w S (e :: es)[i][j] v := by
          intro i j hi hj
          obtain ⟨v, hv, hr⟩ := ha.cell i j hi hj
          exact ⟨v, by rw [cell_of_block hb, Nat.zero_add]; exact hv, hr⟩
        refine .sl _ _ (β k).blk 0 m _ (fun i j => (w.cell? ⟨(β k).blk, 0 + i * m + j, none⟩).getD undef) hA (fun q e => ⟨hT q e, fun _ => rfl⟩) h0 ha.hm hcap (fun i j hi hj => by rw [Nat.zero_add]; exact hs i j hi hj) ?_ ?_
        · intro i j hi hj
          obtain ⟨v, hv, hr⟩ := hc i j hi hj
          simp only [hv, Option.getD_some]
        · intro i j hi hj
          obtain ⟨v, hv, hr⟩ := hc i j hi hj
          simp only [hv, Option.getD_some]
          exact hr
theorem AP.calls {f : FuncId} {args : List TV} {post : Nat → Nat → TV → Prop} (h : AP P f args post) (w : World) (S : Stable) (β : Places) (vs : Array Value) (hb : ∀ b x, S b x → b < w.heap.size) (hkn : KOk w S) (hl : args.length = vs.size)
    (hr : ∀ i (hi : i < args.length) (hj : i < vs.size), RV P w S β args[i] vs[i]) (ho : okL (fun _ => False) args) :
    Calls P f vs w fun e w' => ∃ r v S', e = .returned v ∧ post w.heap.size w'.heap.size r ∧ RV P w' S' β r v ∧ r.ok (fun _ => False) ∧ Ext w S w' S' := by
  refine (h w S β vs (fun h => by cases h) hb hkn hl hr (okL_mono (fun _ hf => hf.elim) ho) ⟨fun k ob hk => (by cases hk), fun k k' ob ob' hk => (by cases hk), fun k ob hk => (by cases hk)⟩).mono ?_
  rintro e w' ⟨r, v, S', β', outs, rfl, ⟨rfl, hp⟩, hr, hok, _, _, _, _, hx⟩
  have hX : ∀ x, ¬ InX [] β x := by rintro x ⟨k, ob, hk, _⟩; cases hk
  have hok' : r.ok (fun _ => False) := TV.ok_mono (fun k hk => by simp [keysOf] at hk) hok
  refine ⟨r, v, S', rfl, hp, hr.keeps (Keeps.refl _ _) (TV.ok_mono (fun _ hf => hf.elim) hok'), hok', hx.sub, ?_, hx.bnd, ?_, ?_⟩
  · intro b x hs
    rcases hx.new b x hs with h1 | h1 | h1
    · exact .inl h1
    · exact absurd h1 (hX b)
    · exact .inr h1
  · exact ⟨hx.below.os, hx.below.tape, hx.below.output, hx.below.size, fun k hk => hx.below.block k hk (hX k)⟩
  · exact hx.tk
theorem rv_tv {x : DV} {v : Value} (h : RDV w S x v) : RV P w S β x.tv v := by
  cases h with
  | c h => exact .d h
  | g hl h => exact .agg (by simpa using hl) fun i hi hj => by simp only [List.getElem_map]; exact .d (h i (by simpa using hi) hj)
theorem tv_rv {x : DV} {v : Value} (h : RV P w S β x.tv v) : RDV w S x v := by
  cases x with
  | c t => exact .c (rv_d h)
  | g cs =>
    generalize hx : DV.tv (.g cs) = y at h
    cases h with
    | agg hl h =>
      cases hx
      exact .g (by simpa using hl) fun i hi hj => by
        have := h i (by simpa using hi) hj
        simp only [List.getElem_map] at this
        exact rv_d this
    | _ => cases hx
theorem tv_ok {x : DV} {p : Nat → Prop} : (DV.tv x).ok p := by
  cases x with
  | c t => trivial
  | g cs => exact okL_map_d cs
theorem FnOf.ok {f : FuncId} {g : List DV → Option DV} (h : FnOf P f g) : FnOk P w S g (.func (.func f) #[] #[]) := by
  refine ⟨f, #[], rfl, h.1, ?_⟩
  intro w' S' _ hkn hb args res vs hg hl hr
  have := (h.2 args res hg).calls w' S' (fun _ => default) vs hb hkn (by simpa using hl) (fun i hi hj => by simp only [List.getElem_map]; exact rv_tv (hr i (by simpa using hi) hj))
    (by rw [okL_iff]; intro x hx; obtain ⟨y, _, rfl⟩ := List.mem_map.1 hx; exact tv_ok)
  rw [Array.append_empty]
  refine this.mono ?_
  rintro e w'' ⟨r, v, S'', rfl, rfl, hr, _, hx⟩
  exact ⟨v, S'', rfl, tv_rv hr, hx⟩
theorem eraseL_get (l : List TV) : (eraseL l).length = l.length ∧ ∀ i (hi : i < l.length) (hj : i < (eraseL l).length), (eraseL l)[i] = eraseTV l[i] := by
  induction l with
  | nil => exact ⟨rfl, fun i hi => absurd hi (by simp)⟩
  | cons x l ih =>
    refine ⟨by simp [eraseL, ih.1], fun i hi hj => ?_⟩
    cases i with
    | zero => rfl
    | succ i => simpa [eraseL] using ih.2 i (by simpa using hi) (by simpa [eraseL] using hj)
theorem RV.er {x : TV} {v : Value} (h : RV P w S β x v) : RV P w S β (eraseTV x) v := by
  induction h with
  | unk v => exact .unk v
  | d h => exact .d h.erase
  | nl a => exact .nl a
  | @agg cs vs hl h ih =>
    obtain ⟨g1, g2⟩ := eraseL_get cs
    exact .agg (by rw [g1]; exact hl) fun i hi hj => by rw [g2 i (by omega) hi]; exact ih i (by omega) hj
  | tup hl h => exact .tup hl h
  | own k ad had => exact .own k ad had
  | ptr k off => exact .ptr k off
  | ap k i g => exact .ap k i g
  | rp hs hc hr => exact .rp hs hc hr
  | clo hl h ih => exact .clo hl h
  | fn h => exact .fn h
theorem Le.sound (h : Sim P X β0 w0 S0 st a w S β) {x y : TV} (hle : Le P st x y) : ∀ {v : Value}, RV P w S β x v → RV P w S β y v := by
  induction hle with
  | same => exact fun hr => hr
  | d hl => exact fun hr => .d ((rv_d hr).weaken hl)
  | erase => exact fun hr => .d (rv_d hr).erase
  | nl => intro v hr; cases hr; exact .d (.nil _ _ _)
  | own hk ht => exact fun hr => .d ((fz_rep (h.objs _ _ hk).1 hr).weaken ht)
  | er _ ih => exact fun hr => (ih hr).er
  | agg hl hh ih =>
    intro v hr
    cases hr with
    | agg hl2 hr => exact .agg (by omega) fun i hi hj => ih i (by omega) hi (hr i (by omega) hj)
  | clo hf =>
    intro v hr
    cases hr with
    | clo hl _ =>
      rename_i vs _
      have : vs = #[] := by
        have : vs.size = 0 := by simpa using hl.symm
        simpa using this
      subst this
      exact .fn hf.ok
theorem BelowX.of_below {B : Nat} (h : Go.RowKit.Below w.heap.size w w') (hB : B ≤ w.heap.size) : BelowX B X w w' :=
  ⟨h.os, h.tape, h.output, h.size, fun k hk _ => h.block k (by omega)⟩
theorem Sim.ext (h : Sim P X β0 w0 S0 st a w S β) (hx : Ext w S w' S') : Sim P X β0 w0 S0 st a w' S' β := by
  have hk := hx.keeps h.bnd
  refine ⟨h.kn.keeps hk, h.dfr, h.size, ?_, ?_, h.own, h.inj, ?_, hx.bnd, fun b x hs => hx.sub b x (h.sub b x hs), ?_, ?_, ?_, h.fix, ?_, ((h.tk.keep (w' := w') fun b hb => hx.below.block b (h.bnd b 0 hb)).more hx.sub hx.tok)⟩
  · intro i tv hl
    obtain ⟨v, hv, hr, ho⟩ := h.tmps i tv hl
    exact ⟨v, hv, hr.keeps hk (TV.ok_mono (fun _ _ => rfl) ho), ho⟩
  · intro j ob hl
    obtain ⟨h1, h2, h3⟩ := h.objs j ob hl
    exact ⟨h1.keeps hk (fun hv => hx.below.block _ (h1.lt hv)) rfl (okO_mono (fun _ _ => rfl) h2), h2, h3⟩
  · intro j ob hl hw x hf z hs
    rcases hx.new _ _ hs with h1 | h1
    · exact h.sep j ob hl hw x hf z h1
    · have := (h.objs j ob hl).1.lt hf.1
      rw [hf.2] at h1
      omega
  · intro b x hs
    rcases hx.new b x hs with h1 | h1
    · exact h.new b x h1
    · have := h.below.size
      exact .inr (.inr (by omega))
  · exact h.below.trans (BelowX.of_below hx.below h.below.size)
  · exact Nat.le_trans h.n hx.below.size
  · intro b z hz
    obtain ⟨a1, a2, a3, a4⟩ := h.gh b z hz
    have hb : b < w.heap.size := (Array.getElem?_eq_some_iff.1 a1).1
    refine ⟨by rw [hx.below.block b hb]; exact a1, ?_, a3, a4⟩
    intro x hs
    rcases hx.new _ _ hs with h1 | h1
    · exact a2 x h1
    · omega
theorem run_callFunc {g : FuncId} {vs : Array Value} (h : Plainly P g) : (callFunc g vs).run P w = .ok (.enter g vs) w := by
  obtain ⟨fn, h1, h2, h3⟩ := h
  unfold callFunc
  simp only [Sem.run_bind, run_program, Result.andThen_ok, h1, h3, h2, Bool.false_eq_true, if_false, Sem.run_pure]
theorem onSt_iff {R : St → Prop} {x : Option St} (h : onSt R x) : ∃ st, x = some st ∧ R st := by
  cases x with
  | none => exact h.elim
  | some st => exact ⟨st, rfl, h⟩
end
end Go.Av
end
section
set_option linter.unusedSectionVars false
namespace Go.Av
section
variable [Known] {P : Program} {X : Nat → Prop} {β0 : Places} {w0 w w' : World} {S0 S S' : Stable} {st st' : St} {a : Act} {β β' : Places}
theorem renL_eq (f : Nat → Nat) (l : List TV) : renL f l = l.map (TV.ren f) := by
  induction l with
  | nil => rfl
  | cons a l ih => simp [renL, ih]
theorem RV.rename {f : Nat → Nat} {p : Nat → Prop} (hf : ∀ k, p k → β' (f k) = β k) {tv : TV} {v : Value} (h : RV P w S β tv v) : tv.ok p → RV P w S β' (tv.ren f) v := by
  induction h with
  | unk v => exact fun _ => .unk v
  | d h => exact fun _ => .d h
  | nl a => exact fun _ => .nl a
  | @agg cs vs hl h ih =>
    intro ho
    rw [TV.ren, renL_eq]
    refine .agg (by simpa using hl) fun i hi hj => ?_
    rw [List.getElem_map]
    exact ih i (by simpa using hi) hj (okL_get ho i (by simpa using hi))
  | @tup cs vs hl h ih =>
    intro ho
    rw [TV.ren, renL_eq]
    refine .tup (by simpa using hl) fun i hi hj => ?_
    rw [List.getElem_map]
    exact ih i (by simpa using hi) hj (okL_get ho i (by simpa using hi))
  | ptr k off => intro ho; have e := hf k ho; rw [← e]; exact .ptr (f k) off
  | own k ad had => intro ho; have e := hf k ho; rw [← e] at had ⊢; exact .own (f k) ad had
  | ap k i g => intro ho; have e := hf k ho; rw [← e]; exact .ap (f k) i g
  | rp hs hc hr => exact fun _ => .rp hs hc hr
  | @clo g cap vs hl h ih =>
    intro ho
    rw [TV.ren, renL_eq]
    refine .clo (by simpa using hl) fun i hi hj => ?_
    rw [List.getElem_map]
    exact ih i (by simpa using hi) hj (okL_get ho i (by simpa using hi))
  | fn h => exact fun _ => .fn h
theorem RV.unname {f : Nat → Nat} (hf : ∀ k, β' k = β (f k)) : ∀ {tv : TV} {v : Value}, RV P w S β (tv.ren f) v → RV P w S β' tv v := by
  have key : ∀ n : Nat, ∀ tv : TV, SizeOf.sizeOf tv < n → ∀ v, RV P w S β (tv.ren f) v → RV P w S β' tv v := by
    intro n
    induction n with
    | zero => exact fun tv h => absurd h (Nat.not_lt_zero _)
    | succ n ih =>
      intro tv hn v h
      cases tv with
      | unk => exact .unk v
      | d t => exact .d (rv_d h)
      | nl => cases h; exact .nl _
      | agg cs =>
        rw [TV.ren, renL_eq] at h
        cases h with
        | agg hl h =>
          refine .agg (by simpa using hl) fun i hi hj => ih _ ?_ _ ?_
          · have := List.sizeOf_lt_of_mem (List.getElem_mem hi); simp at hn; omega
          · have := h i (by simpa using hi) hj; rwa [List.getElem_map] at this
      | tup cs =>
        rw [TV.ren, renL_eq] at h
        cases h with
        | tup hl h =>
          refine .tup (by simpa using hl) fun i hi hj => ih _ ?_ _ ?_
          · have := List.sizeOf_lt_of_mem (List.getElem_mem hi); simp at hn; omega
          · have := h i (by simpa using hi) hj; rwa [List.getElem_map] at this
      | ptr k off => rw [TV.ren] at h; cases h; rw [← hf]; exact .ptr k off
      | own k => rw [TV.ren] at h; cases h with | own _ ad had => rw [← hf] at had ⊢; exact .own k ad had
      | ap k i g => rw [TV.ren] at h; cases h; rw [← hf]; exact .ap k i g
      | rp cs => rw [TV.ren] at h; cases h with | rp hs hc hr => exact .rp hs hc hr
      | clo g cap =>
        rw [TV.ren, renL_eq] at h
        cases h with
        | clo hl h =>
          refine .clo (by simpa using hl) fun i hi hj => ih _ ?_ _ ?_
          · have := List.sizeOf_lt_of_mem (List.getElem_mem hi); simp at hn; omega
          · have := h i (by simpa using hi) hj; rwa [List.getElem_map] at this
      | fn g => rw [TV.ren] at h; cases h with | fn h => exact .fn h
  exact fun {tv v} h => key _ tv (Nat.lt_succ_self _) v h
theorem ren_ok {f : Nat → Nat} {p q : Nat → Prop} (hf : ∀ k, p k → q (f k)) : ∀ {tv : TV}, tv.ok p → (tv.ren f).ok q := by
  have key : ∀ n : Nat, ∀ tv : TV, SizeOf.sizeOf tv < n → tv.ok p → (tv.ren f).ok q := by
    intro n
    induction n with
    | zero => exact fun tv h => absurd h (Nat.not_lt_zero _)
    | succ n ih =>
      intro tv hn ho
      have many : ∀ cs : List TV, (∀ x ∈ cs, SizeOf.sizeOf x < n) → okL p cs → okL q (renL f cs) := by
        intro cs hc h
        rw [renL_eq, okL_iff]
        intro x hx
        obtain ⟨y, hy, rfl⟩ := List.mem_map.1 hx
        exact ih y (hc y hy) (okL_iff.1 h y hy)
      cases tv with
      | agg cs => exact many cs (fun x hx => by have := List.sizeOf_lt_of_mem hx; simp at hn; omega) ho
      | tup cs => exact many cs (fun x hx => by have := List.sizeOf_lt_of_mem hx; simp at hn; omega) ho
      | clo g cs => exact many cs (fun x hx => by have := List.sizeOf_lt_of_mem hx; simp at hn; omega) ho
      | ptr k off => exact hf k ho
      | own k => exact hf k ho
      | ap k i g => exact hf k ho
      | _ => trivial
  exact fun {tv} h => key _ tv (Nat.lt_succ_self _) h
theorem okO_ren {f : Nat → Nat} {p q : Nat → Prop} (hf : ∀ k, p k → q (f k)) {o : Obj} (h : o.okO p) : (o.ren f).okO q := by
  cases o with
  | box cs ty =>
    show okL q (renL f cs)
    rw [renL_eq, okL_iff]
    intro x hx
    obtain ⟨y, hy, rfl⟩ := List.mem_map.1 hx
    exact ren_ok hf ((okL_iff.1 (show okL p cs from h)) y hy)
  | arr => trivial
  | fz => trivial
theorem wr_ren {f : Nat → Nat} {o : Obj} : (o.ren f).writable = o.writable := by cases o <;> rfl
theorem OV.rename {f : Nat → Nat} {p : Nat → Prop} (hf : ∀ k, p k → β' (f k) = β k) {k : Nat} {o : Obj} (h : OV P w S β k o) (hk : p k) (ho : o.okO p) : OV P w S β' (f k) (o.ren f) := by
  have e := hf k hk
  cases h with
  | box hv hb hl hr ht =>
    refine .box (by rw [e]; exact hv) (by rw [e]; exact hb) (by rw [renL_eq]; simpa using hl) (fun i hi hj => ?_) ht
    simp only [renL_eq, List.getElem_map]
    exact (hr i (by simpa [renL_eq] using hi) hj).rename hf (okL_get ho i (by simpa [renL_eq] using hi))
  | arr hv hb hA hm h0 hlen hcap hmax hsz h ht =>
    exact .arr (by rw [e]; exact hv) (by rw [e]; exact hb) (by rw [e]; exact hA) (by rw [e]; exact hm) h0 (by rw [e]; exact hlen) (by rw [e]; exact hcap) (by rw [e]; exact hmax) (by rw [e]; exact hsz) h ht
  | arrN hv hm h0 hlen hcap => exact .arrN (by rw [e]; exact hv) (by rw [e]; exact hm) h0 (by rw [e]; exact hlen) (by rw [e]; exact hcap)
  | fz hv hb hA hm h0 hlen hcap h hs hT =>
    exact .fz (by rw [e]; exact hv) (by rw [e]; exact hb) (by rw [e]; exact hA) (by rw [e]; exact hm) h0 (by rw [e]; exact hlen) (by rw [e]; exact hcap) h (fun i j hi hj => by rw [e]; exact hs i j hi hj) (fun q e' => by rw [e]; exact hT q e')
  | fzN hv hlen => exact .fzN (by rw [e]; exact hv) (by rw [e]; exact hlen)
theorem OV.unname {f : Nat → Nat} (hf : ∀ k, β' k = β (f k)) {k : Nat} {o : Obj} (h : OV P w S β (f k) (o.ren f)) : OV P w S β' k o := by
  have e := hf k
  cases o with
  | box cs ty =>
    cases h with
    | box hv hb hl hr ht =>
      refine .box (by rw [e]; exact hv) (by rw [e]; exact hb) (by rw [renL_eq] at hl; simpa using hl) (fun i hi hj => ?_) ht
      have := hr i (by simpa [renL_eq] using hi) hj
      simp only [renL_eq, List.getElem_map] at this
      exact this.unname hf
  | arr A m es =>
    cases h with
    | arr hv hb hA hm h0 hlen hcap hmax hsz h ht =>
      exact .arr (by rw [e]; exact hv) (by rw [e]; exact hb) (by rw [e]; exact hA) (by rw [e]; exact hm) h0 (by rw [e]; exact hlen) (by rw [e]; exact hcap) (by rw [e]; exact hmax) (by rw [e]; exact hsz) h ht
    | arrN hv hm h0 hlen hcap => exact .arrN (by rw [e]; exact hv) (by rw [e]; exact hm) h0 (by rw [e]; exact hlen) (by rw [e]; exact hcap)
  | fz A m es =>
    cases h with
    | fz hv hb hA hm h0 hlen hcap h hs hT =>
      exact .fz (by rw [e]; exact hv) (by rw [e]; exact hb) (by rw [e]; exact hA) (by rw [e]; exact hm) h0 (by rw [e]; exact hlen) (by rw [e]; exact hcap) h (fun i j hi hj => by rw [e]; exact hs i j hi hj) (fun q e' => by rw [e]; exact hT q e')
    | fzN hv hlen => exact .fzN (by rw [e]; exact hv) (by rw [e]; exact hlen)
theorem lk_append {α : Type} (k : Nat) : ∀ (l r : List (Nat × α)), lk k (l ++ r) = (match lk k l with | some x => some x | none => lk k r)
  | [], r => rfl
  | (j, x) :: l, r => by
    by_cases h : k = j
    · subst h; rw [List.cons_append, lk_cons_eq, lk_cons_eq]
    · rw [List.cons_append, lk_cons_ne _ _ h, lk_cons_ne _ _ h]; exact lk_append k l r
theorem lk_mem {α : Type} {k : Nat} {x : α} : ∀ {l : List (Nat × α)}, lk k l = some x → (k, x) ∈ l
  | [], h => by cases h
  | (j, y) :: l, h => by
    by_cases hk : k = j
    · subst hk; rw [lk_cons_eq] at h; cases h; exact List.mem_cons_self ..
    · rw [lk_cons_ne _ _ hk] at h; exact List.mem_cons_of_mem _ (lk_mem h)
theorem lk_keys {k : Nat} {o : Obj} {l : Objs} (h : lk k l = some o) : k ∈ keysOf l := List.mem_map.2 ⟨_, lk_mem h, rfl⟩
theorem keys_lk {k : Nat} : ∀ {l : Objs}, k ∈ keysOf l → ∃ o, lk k l = some o
  | [], h => by cases h
  | (j, y) :: l, h => by
    by_cases hk : k = j
    · subst hk; exact ⟨_, lk_cons_eq _ _ _⟩
    · rw [lk_cons_ne _ _ hk]
      rcases List.mem_cons.1 h with h | h
      · exact absurd h hk
      · exact keys_lk h
theorem delL_lk {k : Nat} {l : List Nat} : ∀ {o : Objs} {x : Obj}, lk k (delL l o) = some x → k ∉ l ∧ lk k o = some x
  | [], x, h => by cases h
  | (j, y) :: o, x, h => by
    simp only [delL] at h
    by_cases hj : hasKey j l = true
    · rw [hj, cond_true] at h
      obtain ⟨h1, h2⟩ := delL_lk h
      refine ⟨h1, ?_⟩
      rw [lk_cons_ne]
      · exact h2
      · rintro rfl; exact h1 (hasKey_iff.1 hj)
    · simp only [Bool.not_eq_true] at hj
      rw [hj, cond_false] at h
      by_cases hk : k = j
      · subst hk
        rw [lk_cons_eq] at h ⊢
        exact ⟨fun hm => (by rw [hasKey_iff.2 hm] at hj; cases hj), h⟩
      · rw [lk_cons_ne _ _ hk] at h ⊢
        exact delL_lk h
theorem renO_lk {f : Nat → Nat} {j : Nat} {x : Obj} : ∀ {o : Objs}, (∀ k k', k ∈ keysOf o → k' ∈ keysOf o → f k = f k' → k = k') → lk j (renO f o) = some x → ∃ k ob, f k = j ∧ lk k o = some ob ∧ x = ob.ren f
  | [], _, h => by cases h
  | (k, y) :: o, hi, h => by
    simp only [renO] at h
    by_cases hk : j = f k
    · subst hk
      rw [lk_cons_eq] at h
      cases h
      exact ⟨k, y, rfl, lk_cons_eq _ _ _, rfl⟩
    · rw [lk_cons_ne _ _ hk] at h
      obtain ⟨k', ob, h1, h2, h3⟩ := renO_lk (fun a b ha hb => hi a b (List.mem_cons_of_mem _ ha) (List.mem_cons_of_mem _ hb)) h
      refine ⟨k', ob, h1, ?_, h3⟩
      rw [lk_cons_ne]
      · exact h2
      · rintro rfl; exact hk h1.symm
theorem newKs_mem {ρ : Nat → Nat} {dst : Option Nat} {k : Nat} : ∀ {o : Objs}, k ∈ keysOf o → 40 ≤ k → rk ρ dst k ∈ newKs ρ dst o
  | [], h, _ => by cases h
  | (j, y) :: o, h, h40 => by
    simp only [newKs]
    rcases List.mem_cons.1 h with rfl | h
    · rw [show decide (k < 40) = false by simpa using h40, cond_false]
      exact List.mem_cons_self ..
    · have := newKs_mem (ρ := ρ) (dst := dst) h h40
      by_cases hj : j < 40
      · rw [show decide (j < 40) = true by simpa using hj, cond_true]; exact this
      · rw [show decide (j < 40) = false by simpa using hj, cond_false]; exact List.mem_cons_of_mem _ this
theorem noneIn_iff {l r : List Nat} (h : noneIn l r = true) : ∀ k ∈ r, k ∉ l := by
  induction r with
  | nil => intro k hk; cases hk
  | cons j r ih =>
    simp only [noneIn, Bool.and_eq_true, Bool.not_eq_true'] at h
    intro k hk
    rcases List.mem_cons.1 hk with rfl | hk
    · intro hm; rw [hasKey_iff.2 hm] at h; cases h.1
    · exact ih h.2 k hk
theorem Sim.call {ins outs : Objs} {ρ : Nat → Nat} {dst : Option Nat} {st1 : St} {βc : Places} (h : Sim P X β0 w0 S0 st1 a w S β) (hc : βc = fun k => β (ρ k))
    (hlk : ∀ k ob, lk k ins = some ob → lk (ρ k) st1.o = some (ob.ren ρ)) (hinj : ∀ k k', k ∈ keysOf ins → k' ∈ keysOf ins → ρ k = ρ k' → k = k')
    (hth : There P w' S' β' outs) (hfix : ∀ k, k < 40 → β' k = βc k) (hown : ∀ k ob, lk k outs = some ob → ∀ x, foot (β' k) x → (k < 40 ∧ (ob.writable = true → InX ins βc x)) ∨ InX ins βc x ∨ w.heap.size ≤ x)
    (hin : ∀ k ob, lk k outs = some ob → k < 40 → k ∈ keysOf ins) (hx : ExtC (InX ins βc) w S w' S') (hts : ∀ q b, S.t q b → S'.t q b)
    (htk : TOk X w0 S0 w' S' st1.g) (hnew : noneIn st1.ks (newKs ρ dst outs) = true) :
    ∃ β2, (∀ k, k ∈ keysOf outs → β2 (rk ρ dst k) = β' k) ∧ (∀ k, k ∈ keysOf outs → rk ρ dst k ∈ newKs ρ dst outs ++ st1.ks) ∧
      Sim P X β0 w0 S0 (merge st1 ins ρ dst outs w'.heap.size) a w' S' β2 := by
  subst hc
  have hnone := noneIn_iff hnew
  have hks : ∀ k, k ∈ keysOf ins → ρ k ∈ st1.ks := fun k hk => let ⟨ob, ho⟩ := keys_lk hk; (h.objs _ _ (hlk k ob ho)).2.2
  have hbig : ∀ (o : Objs) j, j ∈ newKs ρ dst o → ∃ k, k ∈ keysOf o ∧ 40 ≤ k ∧ j = 100000 * (dst.getD 0 + 1) + k := by
    intro o
    induction o with
    | nil => intro j hj; cases hj
    | cons p o ih =>
      obtain ⟨k, y⟩ := p
      intro j hj
      simp only [newKs] at hj
      by_cases hk : k < 40
      · rw [show decide (k < 40) = true by simpa using hk, cond_true] at hj
        obtain ⟨k', h1, h2⟩ := ih j hj
        exact ⟨k', List.mem_cons_of_mem _ h1, h2⟩
      · rw [show decide (k < 40) = false by simpa using hk, cond_false] at hj
        rcases List.mem_cons.1 hj with rfl | hj
        · exact ⟨k, List.mem_cons_self .., by omega, by simp [rk, show ¬ k < 40 from hk]⟩
        · obtain ⟨k', h1, h2⟩ := ih j hj
          exact ⟨k', List.mem_cons_of_mem _ h1, h2⟩
  have hrk1 : ∀ k, k < 40 → rk ρ dst k = ρ k := fun k hk => by simp [rk, hk]
  have hrk2 : ∀ k, 40 ≤ k → rk ρ dst k = 100000 * (dst.getD 0 + 1) + k := fun k hk => by simp [rk, show ¬ k < 40 by omega]
  have hkeys : ∀ k, k ∈ keysOf outs → k < 40 → k ∈ keysOf ins := fun k hk h40 => let ⟨ob, ho⟩ := keys_lk hk; hin k ob ho h40
  let β2 : Places := fun j => if j ∈ newKs ρ dst outs then β' (j - 100000 * (dst.getD 0 + 1)) else β j
  have hold : ∀ j, j ∈ st1.ks → β2 j = β j := fun j hj => if_neg (fun hm => hnone j hm hj)
  have hF : ∀ k, k ∈ keysOf outs → β2 (rk ρ dst k) = β' k := by
    intro k hk
    by_cases h40 : k < 40
    · rw [hrk1 k h40, hold _ (hks k (hkeys k hk h40)), hfix k h40]
    · have := newKs_mem (ρ := ρ) (dst := dst) hk (by omega)
      simp only [β2]
      rw [if_pos this, hrk2 k (by omega), Nat.add_sub_cancel_left]
  have hmem : ∀ k, k ∈ keysOf outs → rk ρ dst k ∈ newKs ρ dst outs ++ st1.ks := by
    intro k hk
    by_cases h40 : k < 40
    · rw [hrk1 k h40]; exact List.mem_append_right _ (hks k (hkeys k hk h40))
    · exact List.mem_append_left _ (newKs_mem hk (by omega))
  have hri : ∀ k k', k ∈ keysOf outs → k' ∈ keysOf outs → rk ρ dst k = rk ρ dst k' → k = k' := by
    intro k k' hk hk' e
    by_cases h40 : k < 40
    · by_cases h40' : k' < 40
      · rw [hrk1 k h40, hrk1 k' h40'] at e
        exact hinj k k' (hkeys k hk h40) (hkeys k' hk' h40') e
      · rw [hrk1 k h40] at e
        exact absurd (hks k (hkeys k hk h40)) (by rw [e]; exact hnone _ (newKs_mem hk' (by omega)))
    · by_cases h40' : k' < 40
      · rw [hrk1 k' h40'] at e
        exact absurd (hks k' (hkeys k' hk' h40')) (by rw [← e]; exact hnone _ (newKs_mem hk (by omega)))
      · rw [hrk2 k (by omega), hrk2 k' (by omega)] at e; omega
  have hX : ∀ x, InX ins (fun k => β (ρ k)) x → ∃ j ob, lk j st1.o = some ob ∧ ob.writable = true ∧ foot (β j) x ∧ j ∈ (keysOf ins).map ρ := by
    rintro x ⟨k, ob, h1, h2, h3⟩
    exact ⟨ρ k, ob.ren ρ, hlk k ob h1, by rw [wr_ren]; exact h2, h3, List.mem_map.2 ⟨k, lk_keys h1, rfl⟩⟩
  have hXX : ∀ x, InX ins (fun k => β (ρ k)) x → X x ∨ w0.heap.size ≤ x := by
    intro x hx
    obtain ⟨j, ob, h1, h2, h3, _⟩ := hX x hx
    exact h.loc h1 h2 h3
  have hkeep : Keeps w S w' S' := by
    refine ⟨hx.sub, fun b o hs => ?_, hts⟩
    have hb : w'.heap[b]? = w.heap[b]? := hx.below.block b (h.bnd b o hs) (fun hh => by
      obtain ⟨j, ob, h1, h2, h3, _⟩ := hX b hh
      exact h.sep j ob h1 h2 b h3 o hs)
    simp only [World.cell?, hb]
  have hblk : ∀ j ob, lk j st1.o = some ob → j ∉ (keysOf ins).map ρ → (β j).live = true → w'.heap[(β j).blk]? = w.heap[(β j).blk]? := by
    intro j ob hj hnm hlv
    refine hx.below.block _ ((h.objs j ob hj).1.lt hlv) (fun hh => ?_)
    obtain ⟨j', ob', h1, h2, h3, h4⟩ := hX _ hh
    have hne : j ≠ j' := fun e => hnm (e ▸ h4)
    exact h.inj j j' ob ob' hj h1 hne _ ⟨hlv, rfl⟩ h3
  have split : ∀ j ob, lk j (merge st1 ins ρ dst outs w'.heap.size).o = some ob →
      (∃ k ob', rk ρ dst k = j ∧ lk k outs = some ob' ∧ ob = ob'.ren (rk ρ dst)) ∨ (lk j st1.o = some ob ∧ j ∉ (keysOf ins).map ρ ∧ lk j (renO (rk ρ dst) outs) = none) := by
    intro j ob hj
    simp only [merge, lk_append] at hj
    cases hr : lk j (renO (rk ρ dst) outs) with
    | some x =>
      rw [hr] at hj
      cases hj
      exact .inl (renO_lk hri hr)
    | none =>
      rw [hr] at hj
      obtain ⟨h1, h2⟩ := delL_lk hj
      exact .inr ⟨h2, h1, rfl⟩
  have hlt : ∀ j ob, lk j st1.o = some ob → ∀ x, foot (β j) x → x < w.heap.size := fun j ob hj x hx => by rw [hx.2]; exact (h.objs j ob hj).1.lt hx.1
  have apart : ∀ k ob j ob', lk k outs = some ob → lk j st1.o = some ob' → j ∉ (keysOf ins).map ρ → ∀ x, foot (β' k) x → ¬ foot (β j) x := by
    intro k ob j ob' hk hj hnm x hx1 hx2
    rcases hown k ob hk x hx1 with ⟨h40, _⟩ | hix | hge
    · rw [hfix k h40] at hx1
      obtain ⟨ob2, h2⟩ := keys_lk (hin k ob hk h40)
      have hne : ρ k ≠ j := fun e => hnm (List.mem_map.2 ⟨k, hin k ob hk h40, e⟩)
      exact h.inj (ρ k) j _ ob' (hlk k ob2 h2) hj hne x hx1 hx2
    · obtain ⟨j', ob3, g1, g2, g3, g4⟩ := hX x hix
      exact h.inj j' j ob3 ob' g1 hj (fun e => hnm (e ▸ g4)) x g3 hx2
    · have := hlt j ob' hj x hx2
      omega
  refine ⟨β2, hF, hmem, h.kn.keeps hkeep, h.dfr, h.size, ?_, ?_, ?_, ?_, ?_, hx.bnd, fun b x hs => hx.sub b x (h.sub b x hs), ?_, ?_, Nat.le_refl _, ?_, ?_, htk⟩
  · intro i tv hl
    obtain ⟨v, hv, hr, ho⟩ := h.tmps i tv hl
    exact ⟨v, hv, hr.keeps hkeep (TV.ok_mono hold ho), TV.ok_mono (fun j hj => List.mem_append_right _ hj) ho⟩
  · intro j ob hl
    rcases split j ob hl with ⟨k, ob', rfl, hk, rfl⟩ | ⟨h1, h2, _⟩
    · obtain ⟨g1, g2⟩ := hth.objs k ob' hk
      exact ⟨g1.rename (p := (· ∈ keysOf outs)) hF (lk_keys hk) g2, okO_ren hmem g2, hmem k (lk_keys hk)⟩
    · obtain ⟨g1, g2, g3⟩ := h.objs j ob h1
      exact ⟨g1.keeps hkeep (hblk j ob h1 h2) (hold j g3) (okO_mono hold g2), okO_mono (fun j hj => List.mem_append_right _ hj) g2, List.mem_append_right _ g3⟩
  · intro j ob hl x hxf
    rcases split j ob hl with ⟨k, ob', rfl, hk, rfl⟩ | ⟨h1, h2, _⟩
    · rw [hF k (lk_keys hk)] at hxf
      rcases hown k ob' hk x hxf with ⟨h40, hw⟩ | hix | hge
      · have hki := hin k ob' hk h40
        rw [hfix k h40] at hxf
        obtain ⟨ob2, h2⟩ := keys_lk hki
        rw [hrk1 k h40]
        rcases h.own (ρ k) _ (hlk k ob2 h2) x hxf with ⟨g1, g2⟩ | g1 | g1
        · refine .inl ⟨g1, fun hwr => g2 ?_⟩
          rw [wr_ren] at hwr ⊢
          obtain ⟨k', ob3, h3, h4, h5⟩ := hw hwr
          by_cases he : k' = k
          · subst he; rw [h2] at h3; cases h3; exact h4
          · have hne : ρ k' ≠ ρ k := fun e => he (hinj k' k (lk_keys h3) hki e)
            exact absurd hxf (h.inj _ _ _ _ (hlk k' ob3 h3) (hlk k ob2 h2) hne x h5)
        · exact .inr (.inl g1)
        · exact .inr (.inr g1)
      · exact .inr (hXX x hix)
      · have := h.below.size
        exact .inr (.inr (by omega))
    · rw [hold j (h.objs j ob h1).2.2] at hxf
      exact h.own j ob h1 x hxf
  · intro j j' ob1 ob2 hl hl' hjj x hx1 hx2
    rcases split j ob1 hl with ⟨k, o1, rfl, hk, rfl⟩ | ⟨h1, h2, _⟩
    · rw [hF k (lk_keys hk)] at hx1
      rcases split j' ob2 hl' with ⟨k', o2, rfl, hk', rfl⟩ | ⟨h1', h2', _⟩
      · rw [hF k' (lk_keys hk')] at hx2
        exact hth.inj k k' o1 o2 hk hk' (fun e => hjj (by rw [e])) x hx1 hx2
      · rw [hold j' (h.objs j' ob2 h1').2.2] at hx2
        exact apart k o1 j' ob2 hk h1' h2' x hx1 hx2
    · rw [hold j (h.objs j ob1 h1).2.2] at hx1
      rcases split j' ob2 hl' with ⟨k', o2, rfl, hk', rfl⟩ | ⟨h1', h2', _⟩
      · rw [hF k' (lk_keys hk')] at hx2
        exact apart k' o2 j ob1 hk' h1 h2 x hx2 hx1
      · rw [hold j' (h.objs j' ob2 h1').2.2] at hx2
        exact h.inj j j' ob1 ob2 h1 h1' hjj x hx1 hx2
  · intro j ob hl hw x hxf z hs
    rcases split j ob hl with ⟨k, o1, rfl, hk, rfl⟩ | ⟨h1, h2, _⟩
    · rw [hF k (lk_keys hk)] at hxf
      exact hth.sep k o1 hk (by rwa [wr_ren] at hw) x hxf z hs
    · rw [hold j (h.objs j ob h1).2.2] at hxf
      rcases hx.new x z hs with g | g | g
      · exact h.sep j ob h1 hw x hxf z g
      · obtain ⟨j', ob', a1, a2, a3, a4⟩ := hX x g
        exact h.inj j j' ob ob' h1 a1 (fun e => h2 (e ▸ a4)) x hxf a3
      · have := hlt j ob h1 x hxf
        omega
  · intro b x hs
    rcases hx.new b x hs with g | g | g
    · exact h.new b x g
    · exact .inr (hXX b g)
    · have := h.below.size
      exact .inr (.inr (by omega))
  · refine h.below.trans ⟨hx.below.os, hx.below.tape, hx.below.output, hx.below.size, fun k hk hnx => hx.below.block k ?_ ?_⟩
    · have := h.below.size; omega
    · intro hh
      rcases hXX k hh with g | g
      · exact hnx g
      · omega
  · intro k hk
    have : k ∉ newKs ρ dst outs := fun hm => by obtain ⟨k', _, h2, h3⟩ := hbig _ _ hm; omega
    rw [show β2 k = β k from if_neg this]
    exact h.fix k hk
  · intro b z hz
    obtain ⟨a1, a2, a3, a4⟩ := h.gh b z hz
    have hb : b < w.heap.size := (Array.getElem?_eq_some_iff.1 a1).1
    have hnX : ¬ InX ins (fun k => β (ρ k)) b := fun hh => by obtain ⟨j, ob, h1, _, h3, _⟩ := hX b hh; exact a3 j ob h1 h3
    refine ⟨by rw [hx.below.block b hb hnX]; exact a1, ?_, ?_, a4⟩
    · intro x hs
      rcases hx.new b x hs with g | g | g
      · exact a2 x g
      · exact hnX g
      · omega
    · intro j ob hl hxf
      rcases split j ob hl with ⟨k, o1, rfl, hk, rfl⟩ | ⟨h1, h2, _⟩
      · rw [hF k (lk_keys hk)] at hxf
        rcases hown k o1 hk b hxf with ⟨h40, _⟩ | hix | hge
        · rw [hfix k h40] at hxf
          obtain ⟨ob2, h2⟩ := keys_lk (hin k o1 hk h40)
          exact a3 (ρ k) _ (hlk k ob2 h2) hxf
        · exact hnX hix
        · omega
      · rw [hold j (h.objs j ob h1).2.2] at hxf
        exact a3 j ob h1 hxf
end
end Go.Av
end
section
set_option linter.unusedSectionVars false
namespace Go.Av
theorem bareCs_iff {l : List T} : bareCs l ↔ ∀ t ∈ l, bareT t := by
  induction l with
  | nil => simp [bareCs]
  | cons a l ih => simp [bareCs, ih]
theorem bareEs_iff {l : List (List T)} : bareEs l ↔ ∀ e ∈ l, ∀ t ∈ e, bareT t := by
  induction l with
  | nil => simp [bareEs]
  | cons a l ih => simp [bareEs, ih, bareCs_iff]
theorem bareL_iff {l : List TV} : bareL l ↔ ∀ t ∈ l, bareTV t := by
  induction l with
  | nil => simp [bareL]
  | cons a l ih => simp [bareL, ih]
theorem preCs_eq (n : Nat) (l : List T) : preCs n l = l.map (T.pre n) := by
  induction l with
  | nil => rfl
  | cons a l ih => simp [preCs, ih]
theorem preEs_eq (n : Nat) (l : List (List T)) : preEs n l = l.map (·.map (T.pre n)) := by
  induction l with
  | nil => rfl
  | cons a l ih => simp [preEs, ih, preCs_eq]
theorem mapTL_eq (F : T → T) (l : List TV) : mapTL F l = l.map (TV.mapT F) := by
  induction l with
  | nil => rfl
  | cons a l ih => simp [mapTL, ih]
theorem bareT_ann {A : Ann} (hA : ∀ q, A ≠ .tok q) : ∀ (t : T), bareT (t.ann A) := by
  have key : ∀ n : Nat, ∀ t : T, SizeOf.sizeOf t < n → bareT (t.ann A) := by
    intro n
    induction n with
    | zero => exact fun t h => absurd h (Nat.not_lt_zero _)
    | succ n ih =>
      intro t h
      cases t with
      | sl B es =>
        simp only [T.ann, annEs_eq, bareT, bareEs_iff]
        refine ⟨hA, fun e he x hx => ?_⟩
        obtain ⟨e', he', rfl⟩ := List.mem_map.1 he
        obtain ⟨x', hx', rfl⟩ := List.mem_map.1 hx
        have h1 := List.sizeOf_lt_of_mem he'
        have h2 := List.sizeOf_lt_of_mem hx'
        simp at h
        exact ih x' (by omega)
      | _ => trivial
  exact fun t => key _ t (Nat.lt_succ_self _)
theorem bareT_erase (t : T) : bareT t.erase := bareT_ann (by simp) t
section
variable [Known] {P : Program} {X : Nat → Prop} {β0 : Places} {w0 w w' : World} {S0 S S' : Stable} {st st' : St} {a : Act} {β β' : Places}
theorem Rep.retok {t : T} {v : Value} (h : Rep w S t v) (hc : ∀ b o, S b o → S' b o) : bareT t → Rep w S' t v := by
  induction h with
  | b x => exact fun _ => .b x
  | i k n => exact fun _ => .i k n
  | s x => exact fun _ => .s x
  | raw v h => exact fun _ => .raw v h
  | nil A a cap => exact fun _ => .nil A a cap
  | sl A es B off m cap vs hb ht h0 hm hcap hs hcl hr ih =>
    intro hb2
    have hbb : ∀ i j (hi : i < es.length) (hj : j < es[i].length), bareT es[i][j] := fun i j hi hj => bareEs_iff.1 hb2.2 _ (List.getElem_mem hi) _ (List.getElem_mem hj)
    exact .sl A es B off m cap vs hb (fun q e => absurd e (hb2.1 q)) h0 hm hcap (fun i j hi hj => hc _ _ (hs i j hi hj)) hcl (fun i j hi hj => ih i j hi hj (hbb i j hi hj))
theorem RV.retok (hc : ∀ b o, S b o → S' b o) {tv : TV} {v : Value} (h : RV P w S β tv v) : bareTV tv → RV P w S' β tv v := by
  induction h with
  | unk v => exact fun _ => .unk v
  | d h => exact fun hb => .d (h.retok hc hb)
  | nl a => exact fun _ => .nl a
  | agg hl h ih => exact fun hb => .agg hl fun i hi hj => ih i hi hj (bareL_iff.1 hb _ (List.getElem_mem hi))
  | tup hl h ih => exact fun hb => .tup hl fun i hi hj => ih i hi hj (bareL_iff.1 hb _ (List.getElem_mem hi))
  | clo hl h ih => exact fun hb => .clo hl fun i hi hj => ih i hi hj (bareL_iff.1 hb _ (List.getElem_mem hi))
  | ptr k off => exact fun hb => hb.elim
  | own k ad had => exact fun hb => hb.elim
  | ap k i g => exact fun hb => hb.elim
  | rp hs hc hr => exact fun hb => hb.elim
  | fn h => exact fun hb => hb.elim
theorem preA_has {n x : Nat} {A : Ann} (h : A.has x) : (preA n A).has x := by cases A <;> exact h
theorem Rep.tkF {z : Bool} {g : Option (Nat × Bool)} {t : T} {v : Value} (h : Rep w S t v) (hc : ∀ b o, S b o → S' b o) (h0 : z = false → ∀ q b, S.t q b → S'.t q b)
    (ht : z = true → ∀ q b n a, g = some (n, a) → S.t q b → S'.t (n :: q) b) (hno : z = true → ∀ b, ¬ S.t [] b) : Rep w S' (Av.tkF z g t) v := by
  cases z with
  | false => exact h.mono hc (h0 rfl) (fun _ _ _ => rfl)
  | true =>
    cases g with
    | none => exact h.erase.retok hc (bareT_erase t)
    | some na =>
      obtain ⟨n, na2⟩ := na
      show Rep w S' (t.pre n) v
      induction h with
      | b x => exact .b x
      | i k n => exact .i k n
      | s x => exact .s x
      | raw v h => exact .raw v h
      | nil A a cap => exact .nil _ a cap
      | sl A es B off m cap vs hb htk h0m hm hcap hs hcl hr ih =>
        have e1 : T.pre n (.sl A es) = .sl (preA n A) (es.map (·.map (T.pre n))) := by simp [T.pre, preEs_eq]
        rw [e1]
        have e2 : es.length = (es.map (·.map (T.pre n))).length := by simp
        rw [e2]
        refine .sl _ _ B off m cap vs (preA_has hb) ?_ h0m ?_ (by simpa using hcap) ?_ ?_ ?_
        · intro q hq
          cases A <;> simp only [preA] at hq <;> cases hq
          exact ⟨ht rfl _ _ _ _ rfl (htk _ rfl).1, fun _ => (htk _ rfl).2 (fun e => by subst e; exact hno rfl _ (htk _ rfl).1)⟩
        · intro e he
          obtain ⟨e', he', rfl⟩ := List.mem_map.1 he
          simpa using hm e' he'
        · intro i j hi hj
          exact hc _ _ (hs i j (by simpa using hi) (by simpa using hj))
        · intro i j hi hj
          exact hcl i j (by simpa using hi) (by simpa using hj)
        · intro i j hi hj
          have := ih i j (by simpa using hi) (by simpa using hj)
          simpa using this
theorem RV.mapT {F : T → T} (hF : ∀ t v, Rep w S t v → Rep w S' (F t) v) {tv : TV} {v : Value} (h : RV P w S β tv v) : flatTV tv = true → RV P w S' β (tv.mapT F) v := by
  induction h with
  | unk v => exact fun _ => .unk v
  | d h => exact fun _ => .d (hF _ _ h)
  | nl a => exact fun _ => .nl a
  | @agg cs vs hl h ih =>
    intro hf
    have hf : ∀ x ∈ cs, flatTV x = true := by
      have : flatL cs = true := hf
      clear hl h ih hf
      induction cs with
      | nil => simp
      | cons a l ih => simp only [flatL, Bool.and_eq_true] at this; intro x hx; rcases List.mem_cons.1 hx with rfl | hx; exact this.1; exact ih this.2 x hx
    rw [TV.mapT, mapTL_eq]
    refine .agg (by simpa using hl) fun i hi hj => ?_
    rw [List.getElem_map]
    exact ih i (by simpa using hi) hj (hf _ (List.getElem_mem _))
  | @tup cs vs hl h ih =>
    intro hf
    have hf : ∀ x ∈ cs, flatTV x = true := by
      have : flatL cs = true := hf
      clear hl h ih hf
      induction cs with
      | nil => simp
      | cons a l ih => simp only [flatL, Bool.and_eq_true] at this; intro x hx; rcases List.mem_cons.1 hx with rfl | hx; exact this.1; exact ih this.2 x hx
    rw [TV.mapT, mapTL_eq]
    refine .tup (by simpa using hl) fun i hi hj => ?_
    rw [List.getElem_map]
    exact ih i (by simpa using hi) hj (hf _ (List.getElem_mem _))
  | own k ad had => exact fun _ => .own k ad had
  | ptr k off => intro hf; cases hf
  | ap k i g => intro hf; cases hf
  | rp hs hc hr => intro hf; cases hf
  | clo hl h ih => intro hf; cases hf
  | fn h => intro hf; cases hf
theorem RV.mapTid {g : Option (Nat × Bool)} {tv : TV} {v : Value} (h : RV P w S β tv v) : RV P w S β (tv.mapT (Av.tkF false g)) v := by
  induction h with
  | unk v => exact .unk v
  | d h => exact .d h
  | nl a => exact .nl a
  | @agg cs vs hl h ih =>
    rw [TV.mapT, mapTL_eq]
    refine .agg (by simpa using hl) fun i hi hj => ?_
    rw [List.getElem_map]
    exact ih i (by simpa using hi) hj
  | @tup cs vs hl h ih =>
    rw [TV.mapT, mapTL_eq]
    refine .tup (by simpa using hl) fun i hi hj => ?_
    rw [List.getElem_map]
    exact ih i (by simpa using hi) hj
  | own k ad had => exact .own k ad had
  | ptr k off => exact .ptr k off
  | ap k i g => exact .ap k i g
  | rp hs hc hr => exact .rp hs hc hr
  | clo hl h ih => exact .clo hl h
  | fn h => exact .fn h
theorem mapT_ok {F : T → T} {p : Nat → Prop} : ∀ {tv : TV}, tv.ok p → (tv.mapT F).ok p := by
  have key : ∀ n : Nat, ∀ tv : TV, SizeOf.sizeOf tv < n → tv.ok p → (tv.mapT F).ok p := by
    intro n
    induction n with
    | zero => exact fun t h => absurd h (Nat.not_lt_zero _)
    | succ n ih =>
      intro tv h ho
      cases tv with
      | agg cs =>
        simp only [TV.mapT, mapTL_eq, TV.ok, okL_iff] at ho ⊢
        intro x hx
        obtain ⟨y, hy, rfl⟩ := List.mem_map.1 hx
        have := List.sizeOf_lt_of_mem hy
        simp at h
        exact ih y (by omega) (ho y hy)
      | tup cs =>
        simp only [TV.mapT, mapTL_eq, TV.ok, okL_iff] at ho ⊢
        intro x hx
        obtain ⟨y, hy, rfl⟩ := List.mem_map.1 hx
        have := List.sizeOf_lt_of_mem hy
        simp at h
        exact ih y (by omega) (ho y hy)
      | _ => exact ho
  exact fun {tv} => key _ tv (Nat.lt_succ_self _)
theorem keysOf_mapO (F : T → T) (o : Objs) : keysOf (mapO F o) = keysOf o := by
  induction o with
  | nil => rfl
  | cons p o ih => obtain ⟨k, x⟩ := p; simp only [mapO, keysOf, List.map_cons] at *; rw [ih]
theorem newKs_mapO (F : T → T) (ρ : Nat → Nat) (dst : Option Nat) (o : Objs) : newKs ρ dst (mapO F o) = newKs ρ dst o := by
  induction o with
  | nil => rfl
  | cons p o ih => obtain ⟨k, x⟩ := p; simp only [mapO, newKs, ih]
theorem lk_mapO {F : T → T} {k : Nat} {x : Obj} : ∀ {o : Objs}, lk k (mapO F o) = some x → ∃ y, lk k o = some y ∧ x = y.mapT F
  | [], h => by cases h
  | (j, y) :: o, h => by
    simp only [mapO] at h
    by_cases hk : k = j
    · subst hk; rw [lk_cons_eq] at h; cases h; exact ⟨y, lk_cons_eq _ _ _, rfl⟩
    · rw [lk_cons_ne _ _ hk] at h ⊢; exact lk_mapO h
theorem arrO_lk {k : Nat} {x : Obj} : ∀ {o : Objs}, arrO o = true → lk k o = some x → ∃ A m es, x = .arr A m es
  | [], _, h => by cases h
  | (j, y) :: o, ha, h => by
    cases y <;> simp only [arrO] at ha <;> try (cases ha; done)
    by_cases hk : k = j
    · subst hk; rw [lk_cons_eq] at h; cases h; exact ⟨_, _, _, rfl⟩
    · rw [lk_cons_ne _ _ hk] at h; exact arrO_lk ha h
theorem OV.mapT {F : T → T} (hF : ∀ t v, Rep w S t v → Rep w S' (F t) v) {k : Nat} {A : Ann} {m : Nat} {es : List (List T)} (h : OV P w S β k (.arr A m es)) : OV P w S' β k ((Obj.arr A m es).mapT F) := by
  cases h with
  | arr hv hb hA hm h0 hlen hcap hmax hsz h ht =>
    refine .arr hv hb hA hm h0 (by simpa using hlen) (by simpa using hcap) hmax hsz ⟨?_, ?_⟩ ht
    · intro e he
      obtain ⟨e', he', rfl⟩ := List.mem_map.1 he
      simpa using h.hm e' he'
    · intro i j hi hj
      obtain ⟨v, hv, hr⟩ := h.cell i j (by simpa using hi) (by simpa using hj)
      exact ⟨v, hv, by simpa using hF _ _ hr⟩
  | arrN hv hm h0 hlen hcap => exact .arrN hv hm h0 hlen hcap
theorem There.mapT {F : T → T} (hF : ∀ t v, Rep w S t v → Rep w S' (F t) v) (hc : ∀ b o, S' b o → S b o) {o : Objs} (ho : arrO o = true) (h : There P w S β o) : There P w S' β (mapO F o) := by
  refine ⟨fun k ob hk => ?_, fun k k' ob ob' hk hk' hne => ?_, fun k ob hk hw x hx z hs => ?_⟩
  · obtain ⟨y, hy, rfl⟩ := lk_mapO hk
    obtain ⟨A, m, es, rfl⟩ := arrO_lk ho hy
    exact ⟨(h.objs k _ hy).1.mapT hF, trivial⟩
  · obtain ⟨y, hy, rfl⟩ := lk_mapO hk
    obtain ⟨y', hy', rfl⟩ := lk_mapO hk'
    exact h.inj k k' y y' hy hy' hne
  · obtain ⟨y, hy, rfl⟩ := lk_mapO hk
    obtain ⟨A, m, es, rfl⟩ := arrO_lk ho hy
    exact h.sep k _ hy rfl x hx z (hc _ _ hs)
end
end Go.Av
end
section
set_option linter.unusedSectionVars false
namespace Go.Av
section
variable [Known] {P : Program} {X : Nat → Prop} {β0 : Places} {w0 w w' : World} {S0 S S' : Stable} {st st' : St} {a : Act} {β β' : Places}
theorem frz_n : ∀ (l : List Nat) (st : St), (Av.frz st l).n = st.n ∧ (Av.frz st l).ks = st.ks ∧ (Av.frz st l).sz = st.sz ∧ (Av.frz st l).u = st.u
  | [], st => ⟨rfl, rfl, rfl, rfl⟩
  | k :: l, st => by
    have := frz_n l (Av.frz1 st k (lk k st.o))
    cases h : lk k st.o with
    | none => rw [h] at this; simpa [Av.frz, h, Av.frz1] using this
    | some o => rw [h] at this; simpa [Av.frz, h, Av.frz1] using this
theorem Sim.bumpZ (h : Sim P X β0 w0 S0 st a w S β) (z : Bool) : Sim P X β0 w0 S0 (Av.bumpZ z st) a w S β := by
  refine ⟨h.kn, h.dfr, h.size, h.tmps, h.objs, h.own, h.inj, h.sep, h.bnd, h.sub, h.new, h.below, h.n, h.fix, h.gh, ?_⟩
  cases z with
  | false => exact h.tk
  | true => exact h.tk.bump
def afterCall (z : Bool) (g : Option (Nat × Bool)) (S1 S2 : Stable) : Stable := match z with
  | false => S2
  | true => ⟨S2.c, fun q b => S1.t q b ∨ ∃ n a r, g = some (n, a) ∧ q = n :: r ∧ S2.t r b⟩
def aheadS (z : Bool) (S : Stable) : Stable := match z with
  | false => S
  | true => ⟨S.c, fun _ _ => False⟩
theorem TOk.call {z : Bool} {S2 : Stable} {g : Option (Nat × Bool)} (h : TOk X w0 S0 w S g) (hbn : ∀ b o, S b o → b < w.heap.size) (hw0 : w0.heap.size ≤ w.heap.size) (hbk : ∀ b, S b 0 → w'.heap[b]? = w.heap[b]?) (hs : ∀ b o, S b o → S2 b o)
    (hx : TkX z w (aheadS z S) w' S2) : TOk X w0 S0 w' (afterCall z g S S2) (bif z then Av.bump g else g) := by
  cases z with
  | false => exact (h.keep hbk).more hs hx
  | true =>
    have hx : TNew w.heap.size (fun q => q ≠ []) w' S2 := hx
    cases g with
    | none =>
      intro q b
      constructor
      · rintro (h1 | ⟨n, a, r, h1, _⟩)
        · exact (h q b).1 h1
        · cases h1
      · exact fun h1 => .inl ((h q b).2 h1)
    | some n =>
      have hlt : ∀ q b, S.ne.t q b → b < w.heap.size := fun q b hq => hbn b 0 ((h.2.2.new q b hq).2.2.2 0)
      refine ⟨h.1, fun b hb => ?_, ?_, ?_, ?_⟩
      · rcases hb with h1 | ⟨_, _, _, _, h2, _⟩
        · obtain ⟨a1, ⟨o, a2⟩, a3⟩ := h.2.1 b h1
          refine ⟨a1, ⟨o, hs _ _ a2⟩, ?_⟩
          rintro q (g1 | ⟨_, _, r, _, _, g3⟩)
          · exact a3 q g1
          · have := hbn b o a2; have := (hx.new _ _ g3).2.1; omega
        · cases h2
      · rintro q b ⟨hq0, h1 | ⟨n', a', r, h1, rfl, h3⟩⟩
        · obtain ⟨⟨c, r, a1, a2⟩, a3, a4, a5⟩ := h.2.2.new q b ⟨hq0, h1⟩
          exact ⟨⟨c, r, a1, Nat.lt_succ_of_lt a2⟩, a3, by rw [hbk b (a5 0)]; exact a4, fun o => hs _ _ (a5 o)⟩
        · cases h1
          obtain ⟨_, b2, b3, b4⟩ := hx.new r b h3
          exact ⟨⟨n', r, rfl, Nat.lt_succ_self n'⟩, by omega, b3, b4⟩
      · rintro q b b' ⟨hq0, h1 | ⟨n1, a1', r1, h1, h2, h3⟩⟩ ⟨_, g1 | ⟨n2, a2', r2, g1, g2, g3⟩⟩
        · exact h.2.2.i1 q b b' ⟨hq0, h1⟩ ⟨hq0, g1⟩
        · cases g1
          obtain ⟨⟨c, r, a1, a2⟩, _⟩ := h.2.2.new q b ⟨hq0, h1⟩
          rw [g2] at a1; cases a1; exact absurd a2 (Nat.lt_irrefl _)
        · cases h1
          obtain ⟨⟨c, r, a1, a2⟩, _⟩ := h.2.2.new q b' ⟨hq0, g1⟩
          rw [h2] at a1; cases a1; exact absurd a2 (Nat.lt_irrefl _)
        · cases h1; cases g1; subst h2; cases g2
          exact hx.i1 _ _ _ h3 g3
      · rintro q q' b ⟨hq0, h1 | ⟨n1, a1', r1, h1, h2, h3⟩⟩ ⟨hq1, g1 | ⟨n2, a2', r2, g1, g2, g3⟩⟩
        · exact h.2.2.i2 q q' b ⟨hq0, h1⟩ ⟨hq1, g1⟩
        · have := hlt q b ⟨hq0, h1⟩; have := (hx.new _ _ g3).2.1; omega
        · have := hlt q' b ⟨hq1, g1⟩; have := (hx.new _ _ h3).2.1; omega
        · cases h1; cases g1
          rw [h2, g2, hx.i2 _ _ _ h3 g3]
theorem acall_sound (h : Sim P X β0 w0 S0 st a w S β) {R : St → Prop} {o : Oper} {c : Call} {f : Operand} (ho : o.op = .call c) (hf : c.callee = .value f)
    (hc : acall P R st o.dst (evc st f) (c.args.toList.map (evc st))) (Q : Exit → Act → World → Prop) :
    o.wp P a w (fun a' w' => ∃ st', R st' ∧ SimE P X β0 w0 S0 st' a' w') Q := by
  have E := evc_sound h
  have hfr := (E f).1
  have hfo := (E f).2
  generalize hfe : evc st f = fv at hc hfr hfo
  have hargs : ∀ i (hi : i < (c.args.toList.map (evc st)).length) (hj : i < (c.args.map a.eval).size), RV P w S β (c.args.toList.map (evc st))[i] (c.args.map a.eval)[i] := by
    intro i hi hj
    simp only [List.getElem_map, Array.getElem_map, Array.getElem_toList]
    exact (E _).1
  cases fv with
  | clo g cap =>
    obtain ⟨hp, z, fk, ins, ρ, args', post, hap, hz, hl, hle, hok, h40, hlk2, hinj, hk⟩ := hc
    have hlk := fun k ob hk => (hlk2 k ob hk).1
    generalize hv : a.eval f = v at hfr
    cases hfr with
    | clo hcl hcr =>
      rename_i vs
      have hexec : (execOp a.eval o).run P w = .ok (.enter g ((c.args.map a.eval) ++ vs)) w := by
        unfold execOp
        rw [ho]
        simp only [resolve, hf, hv, Deferred.ofValue, Sem.run_bind, Sem.run_pure, Result.andThen_ok, invoke]
        rw [Array.empty_append]
        exact run_callFunc hp
      unfold Oper.wp
      rw [hexec, Oper.upon_enter]
      obtain ⟨S1, hk1, h1⟩ := h.frz fk
      have hfn := frz_n fk st
      have hrv : ∀ i (hi : i < (c.args.toList.map (evc st) ++ cap).length) (hj : i < (c.args.map a.eval ++ vs).size), RV P w S β (c.args.toList.map (evc st) ++ cap)[i] (c.args.map a.eval ++ vs)[i] := by
        intro i hi hj
        have hsz : (c.args.toList.map (evc st)).length = (c.args.map a.eval).size := by simp
        by_cases hi1 : i < (c.args.toList.map (evc st)).length
        · rw [List.getElem_append_left hi1, Array.getElem_append_left (by omega)]
          exact hargs i hi1 (by omega)
        · rw [List.getElem_append_right (by omega), Array.getElem_append_right (by omega)]
          have hn : (c.args.toList.map (evc st)).length = c.args.size := by simp
          have hj2 : i < c.args.size + vs.size := by simpa using hj
          have := hcr (i - (c.args.toList.map (evc st)).length) (by omega) (by omega)
          simpa only [hsz] using this
      have hall : ∀ x ∈ (c.args.toList.map (evc st) ++ cap), x.ok (· ∈ st.ks) := by
        intro x hx
        rcases List.mem_append.1 hx with hx | hx
        · obtain ⟨y, _, rfl⟩ := List.mem_map.1 hx; exact (E y).2
        · have : okL (· ∈ st.ks) cap := hfo
          rw [okL_iff] at this
          exact this x hx
      have hle' : ∀ i (hi : i < args'.length) (hj : i < (c.args.map a.eval ++ vs).size), RV P w S1 (fun k => β (ρ k)) args'[i] (c.args.map a.eval ++ vs)[i] := by
        intro i hi hj
        exact RV.unname (f := ρ) (β' := fun k => β (ρ k)) (fun _ => rfl) ((hle i (by omega) hi).sound h1 ((hrv i (by omega) hj).keeps hk1 (TV.ok_mono (fun _ _ => rfl) (hall _ (List.getElem_mem _)))))
      have hX : ∀ x, InX ins (fun k => β (ρ k)) x → ∃ (k : Nat) (ob : Obj), lk (ρ k) (Av.frz st fk).o = some (ob.ren ρ) ∧ ob.writable = true ∧ foot (β (ρ k)) x := by
        rintro x ⟨k, ob, g1, g2, g3⟩
        exact ⟨k, ob, hlk k ob g1, g2, g3⟩
      have hth : There P w S1 (fun k => β (ρ k)) ins := by
        refine ⟨fun k ob hk => ?_, fun k k' ob ob' hk hk' hne => ?_, fun k ob hk hw => ?_⟩
        · have hg := h1.objs _ _ (hlk k ob hk)
          refine ⟨OV.unname (f := ρ) (β' := fun k => β (ρ k)) (fun _ => rfl) hg.1, ?_⟩
          exact (hlk2 k ob hk).2
        · exact h1.inj _ _ _ _ (hlk k ob hk) (hlk k' ob' hk') (fun e => hne (hinj k k' (lk_keys hk) (lk_keys hk') e))
        · exact h1.sep _ _ (hlk k ob hk) (by rw [wr_ren]; exact hw)
      have hle2 : ∀ i (hi : i < args'.length) (hj : i < (c.args.map a.eval ++ vs).size), RV P w (aheadS z S1) (fun k => β (ρ k)) args'[i] (c.args.map a.eval ++ vs)[i] := by
        intro i hi hj
        cases z with
        | false => exact hle' i hi hj
        | true => exact (hle' i hi hj).retok (S' := aheadS true S1) (fun b o (h : S1 b o) => show (aheadS true S1) b o from h) (bareL_iff.1 (hz rfl).2 _ (List.getElem_mem hi))
      have hth2 : There P w (aheadS z S1) (fun k => β (ρ k)) ins := by
        cases z with
        | false => exact hth
        | true =>
          obtain rfl := (hz rfl).1
          exact ⟨fun k ob hk => (by cases hk), fun k k' ob ob' hk => (by cases hk), fun k ob hk => (by cases hk)⟩
      have hc1 : ∀ b o, (aheadS z S1) b o ↔ S1 b o := fun b o => by cases z <;> exact Iff.rfl
      have hcalls := hap w (aheadS z S1) (fun k => β (ρ k)) (c.args.map a.eval ++ vs) (by rintro rfl q b h; exact h) (fun b x hs => h1.bnd b x ((hc1 _ _).1 hs))
        (fun b o v hv => let ⟨k1, k2⟩ := h1.kn b o v hv; ⟨(hc1 _ _).2 k1, k2⟩) (by rw [← hl]; simp [hcl]) hle2 hok hth2
      refine hcalls.mono ?_
      rintro e w'' ⟨r, v, S2, β', outs, rfl, hpost, hr, hro, hth', hfix, hown, hin, hx⟩
      obtain ⟨hfl, hnew, hput⟩ := hk _ _ r outs h.n hx.below.size hpost hro
      have hs12 : ∀ b o, S1 b o → S2 b o := fun b o hs => hx.sub b o ((hc1 _ _).2 hs)
      have hbk : ∀ b, S1 b 0 → w''.heap[b]? = w.heap[b]? := fun b hs => hx.below.block b (h1.bnd b 0 hs) (fun hh => by
        obtain ⟨k, ob, a1, a2, a3⟩ := hX b hh
        exact h1.sep _ _ a1 (by rw [wr_ren]; exact a2) b a3 0 hs)
      have hc3 : ∀ b o, (afterCall z (Av.frz st fk).g S1 S2) b o ↔ S2 b o := fun b o => by cases z <;> exact Iff.rfl
      have hF : ∀ t v, Rep w'' S2 t v → Rep w'' (afterCall z (Av.frz st fk).g S1 S2) (tkF z (Av.frz st fk).g t) v := fun t v hr => by
        refine hr.tkF (fun b o hs => (hc3 b o).2 hs) ?_ ?_ ?_
        · rintro rfl q b hq; exact hq
        · rintro rfl q b n a hg hq; exact .inr ⟨n, a, q, hg, rfl, hq⟩
        · rintro rfl b hq; exact (TNew.new (show TNew w.heap.size (fun q => q ≠ []) w'' S2 from hx.tk) _ _ hq).1 rfl
      have htk := (h1.tk.call (z := z) h1.bnd h1.below.size hbk hs12 (by
        have := hx.tk
        cases z <;> exact this))
      have hth3 : There P w'' (afterCall z (Av.frz st fk).g S1 S2) β' (mapO (tkF z (Av.frz st fk).g) outs) := by
        cases z with
        | false =>
          have e : ∀ o : Objs, mapO (tkF false (Av.frz st fk).g) o = o := by
            intro o
            induction o with
            | nil => rfl
            | cons p o ih =>
              obtain ⟨k, x⟩ := p
              have hid : ∀ l : List (List T), l.map (·.map (tkF false (Av.frz st fk).g)) = l := fun l => by
                have : tkF false (Av.frz st fk).g = id := funext fun _ => rfl
                rw [this]; simp
              simp only [mapO, ih]
              cases x <;> simp only [Obj.mapT, hid]
          rw [e]; exact hth'
        | true => exact hth'.mapT hF (fun b o hs => (hc3 b o).1 hs) (hfl rfl).2
      have hrm : RV P w'' (afterCall z (Av.frz st fk).g S1 S2) β' (r.mapT (tkF z (Av.frz st fk).g)) v := by
        cases z with
        | false => exact hr.mapTid
        | true => exact hr.mapT hF (hfl rfl).1
      have hlm : ∀ k ob, lk k (mapO (tkF z (Av.frz st fk).g) outs) = some ob → ∃ ob', lk k outs = some ob' ∧ ob = ob'.mapT (tkF z (Av.frz st fk).g) := fun k ob hk => lk_mapO hk
      have hwm : ∀ (o : Obj) (F : T → T), (o.mapT F).writable = o.writable := fun o F => by cases o <;> rfl
      obtain ⟨st', he, hR⟩ := onSt_iff hput
      obtain ⟨β2, hF2, hmem, h2⟩ := (h1.bumpZ z).call (S' := afterCall z (Av.frz st fk).g S1 S2) (outs := mapO (tkF z (Av.frz st fk).g) outs) (dst := o.dst) rfl hlk hinj hth3 hfix
        (fun k ob hk x hxf => by
          obtain ⟨ob', a1, rfl⟩ := hlm k ob hk
          rw [hwm]
          exact hown k ob' a1 x hxf)
        (fun k ob hk => by
          obtain ⟨ob', a1, rfl⟩ := hlm k ob hk
          exact hin k ob' a1)
        ⟨fun b o hs => (hc3 b o).2 (hs12 b o hs), fun b o hs => (hx.new b o ((hc3 b o).1 hs)).imp (fun h => (hc1 _ _).1 h) id, fun b o hs => hx.bnd b o ((hc3 b o).1 hs), hx.below⟩
        (fun q b hq => by
          cases z with
          | false => exact (hx.tk q b).2 hq
          | true => exact .inl hq)
        htk (by rw [newKs_mapO]; show noneIn (Av.frz st fk).ks _ = true; rw [hfn.2.1]; exact hnew)
      rw [keysOf_mapO] at hF2 hmem
      refine ⟨st', hR, _, _, h2.put (hrm.rename hF2 (mapT_ok hro)) (ren_ok hmem (mapT_ok hro)) he⟩
  | fn g =>
    obtain ⟨dvs, res, hg, hl, hle, hk⟩ := hc
    generalize hv : a.eval f = v at hfr
    cases hfr with
    | fn hok =>
      obtain ⟨g', vs, rfl, hp, hok⟩ := hok
      have hexec : (execOp a.eval o).run P w = .ok (.enter g' ((c.args.map a.eval) ++ vs)) w := by
        unfold execOp
        rw [ho]
        simp only [resolve, hf, hv, Deferred.ofValue, Sem.run_bind, Sem.run_pure, Result.andThen_ok, invoke]
        rw [Array.empty_append]
        exact run_callFunc hp
      unfold Oper.wp
      rw [hexec, Oper.upon_enter]
      have hcalls := hok w S (Keeps.refl _ _) h.kn h.bnd dvs res (c.args.map a.eval) hg (by rw [← hl]; simp)
        (fun i hi hj => tv_rv (P := P) (β := β) ((hle i (by omega) hi).sound h (hargs i (by omega) hj)))
      refine hcalls.mono ?_
      rintro e w'' ⟨v, S2, rfl, hr, hx⟩
      obtain ⟨st', he, hR⟩ := onSt_iff (hk w''.heap.size (Nat.le_trans h.n hx.below.size))
      have h2 := (h.ext hx).setN (Nat.le_refl w''.heap.size)
      exact ⟨st', hR, _, _, h2.put (rv_tv hr) tv_ok he⟩
  | _ => exact hc.elim
end
end Go.Av
end
section
set_option linter.unusedSectionVars false
namespace Go.Av
section
variable [Known] {P : Program} {X : Nat → Prop} {β0 : Places} {w0 w w' : World} {S0 S S' : Stable} {st st' : St} {a : Act} {β β' : Places}
structure Turned (w w' : World) (b : Nat) (cs : List Value) (e : TypeId) (fr : Nat × Nat) : Prop where
  os : w'.os = w.os
  tape : w'.tape = w.tape
  output : w'.output = w.output
  size : w'.heap.size = w.heap.size
  here : w'.heap[b]? = some (.cells cs.toArray e fr)
  other : ∀ k, k ≠ b → w'.heap[k]? = w.heap[k]?
theorem setSeg_len {α : Type} {off : Nat} {new cs : List α} (h : off + new.length ≤ cs.length) : (setSeg off new cs).length = cs.length := by
  simp [setSeg]; omega
theorem run_storeCells {b off : Nat} {e : TypeId} {fr : Nat × Nat} : ∀ (vs : List Value) (i : Nat) (w : World) (cs : List Value), w.heap[b]? = some (.cells cs.toArray e fr) → (fr.1 = fr.2 ∨ cs.length ≤ fr.1) →
    off + i + vs.length ≤ cs.length → (∀ v ∈ vs, v.oneCell' = true) →
    ∃ w', (storeCells ⟨b, off, none⟩ vs i).run P w = .ok () w' ∧ Turned w w' b (setSeg (off + i) vs cs) e fr := by
  intro vs
  induction vs with
  | nil =>
    intro i w cs hb hfr hl hv
    refine ⟨w, rfl, rfl, rfl, rfl, rfl, ?_, fun _ _ => rfl⟩
    simp [setSeg, hb]
  | cons v vs ih =>
    intro i w cs hb hfr hl hv
    simp only [List.length_cons] at hl
    have hcell : w.cell? ⟨b, off + i, none⟩ = some (cs[off + i]'(by omega)) := by
      rw [cell_of_block hb]
      simp
    have hfz : w.frozen? ⟨b, off + i, none⟩ = false := by
      simp only [World.frozen?, hb]
      obtain ⟨lo, hi⟩ := fr
      simp only at hfr ⊢
      by_cases h1 : lo ≤ off + i
      · have h2 : ¬ off + i < hi := by omega
        simp [h2]
      · simp [h1]
    have hst : (store ((⟨b, off, none⟩ : Addr).add i) v).run P w = .ok () (w.setCell ⟨b, off + i, none⟩ v) := by
      rw [Addr_add, run_store P w _ v .plain (hv v (by simp)), hcell]
      simp [hfz]
    have hb1 : (w.setCell ⟨b, off + i, none⟩ v).heap[b]? = some (.cells (cs.set (off + i) v).toArray e fr) := by
      simp only [World.setCell, Array.getElem?_modify, if_true, hb, Option.map_some]
      simp
    obtain ⟨w', hrun, ht⟩ := ih (i + 1) (w.setCell ⟨b, off + i, none⟩ v) (cs.set (off + i) v) hb1 (by simpa using hfr) (by simp; omega) (fun x hx => hv x (by simp [hx]))
    refine ⟨w', ?_, ?_⟩
    · simp only [storeCells, Sem.run_bind, hst, Result.andThen_ok]
      exact hrun
    · refine ⟨ht.os, ht.tape, ht.output, by rw [ht.size]; simp, ?_, fun k hk => ?_⟩
      · rw [ht.here]
        congr 3
        simp only [setSeg]
        rw [show off + (i + 1) = off + i + 1 by omega]
        have e1 : (cs.set (off + i) v).take (off + i + 1) = cs.take (off + i) ++ [v] := by
          rw [List.take_succ_eq_append_getElem (by simp; omega), List.take_set_of_le (Nat.le_refl _)]
          simp
        have e2 : (cs.set (off + i) v).drop (off + i + 1 + vs.length) = cs.drop (off + i + (v :: vs).length) := by
          rw [List.drop_set_of_lt (by omega)]
          congr 1
          simp; omega
        rw [e1, e2]
        simp
      · rw [ht.other k hk]
        exact Go.RowKit.Below.heap_setCell _ _ _ _ hk
theorem Turned.cell {b : Nat} {cs : List Value} {e : TypeId} {fr : Nat × Nat} (h : Turned w w' b cs e fr) {k x : Nat} (hk : k ≠ b) : w'.cell? ⟨k, x, none⟩ = w.cell? ⟨k, x, none⟩ := by
  simp only [World.cell?, h.other k hk]
theorem Turned.belowX {b B : Nat} {cs : List Value} {e : TypeId} {fr : Nat × Nat} (h : Turned w w' b cs e fr) (hb : X b ∨ B ≤ b) : BelowX B X w w' := by
  refine ⟨h.os, h.tape, h.output, by rw [h.size]; exact Nat.le_refl _, fun k hk hx => h.other k ?_⟩
  intro e
  subst e
  rcases hb with h1 | h1
  · exact hx h1
  · omega
theorem Sim.turn (h : Sim P X β0 w0 S0 st a w S β) {k : Nat} {o o' : Obj} {cs : List Value} {e : TypeId} {fr : Nat × Nat} (hk : lk k st.o = some o) (hlv : (β k).live = true) (hw : o.writable = true) (hw' : o'.writable = true)
    (ht : Turned w w' (β k).blk cs e fr) (hok : o'.okO (· ∈ st.ks)) (hov : Keeps w S w' S → OV P w' S β k o') :
    Sim P X β0 w0 S0 { t := st.t, o := (k, o') :: st.o, ks := st.ks, n := st.n, sz := st.sz, u := st.u, g := st.g } a w' S β := by
  have hfk : foot (β k) (β k).blk := ⟨hlv, rfl⟩
  have hkeep : Keeps w S w' S := ⟨fun _ _ h => h, fun b x hs => ht.cell (fun e => h.sep k o hk hw _ hfk x (e ▸ hs)), fun _ _ h => h⟩
  have hold : ∀ j ob', lk j ((k, o') :: st.o) = some ob' → j ≠ k → lk j st.o = some ob' := by
    intro j ob' hl hj
    rwa [lk_cons_ne _ _ hj] at hl
  have hback : ∀ j ob', lk j ((k, o') :: st.o) = some ob' → ∃ ob'', lk j st.o = some ob'' ∧ (j = k → ob'' = o ∧ ob' = o') ∧ (j ≠ k → ob'' = ob') := by
    intro j ob' hl
    by_cases hj : j = k
    · subst hj; rw [lk_cons_eq] at hl; cases hl; exact ⟨o, hk, fun _ => ⟨rfl, rfl⟩, fun h => absurd rfl h⟩
    · exact ⟨ob', hold j ob' hl hj, fun h => absurd h hj, fun _ => rfl⟩
  refine ⟨h.kn.keeps hkeep, h.dfr, h.size, ?_, ?_, ?_, ?_, ?_, ?_, h.sub, h.new, ?_, ?_, h.fix, ?_, h.tk.keep fun b hb => ht.other b fun e => h.sep k o hk hw _ hfk 0 (e ▸ hb)⟩
  · intro i tv hl
    obtain ⟨v, hv, hr, ho⟩ := h.tmps i tv hl
    exact ⟨v, hv, hr.keeps hkeep (TV.ok_mono (fun _ _ => rfl) ho), ho⟩
  · intro j ob' hl
    by_cases hj : j = k
    · subst hj
      rw [show ({ t := st.t, o := (j, o') :: st.o, ks := st.ks, n := st.n, sz := st.sz, u := st.u, g := st.g } : St).o = (j, o') :: st.o from rfl, lk_cons_eq] at hl
      cases hl
      exact ⟨hov hkeep, hok, (h.objs j o hk).2.2⟩
    · obtain ⟨h1, h2, h3⟩ := h.objs j ob' (hold j ob' hl hj)
      exact ⟨h1.keeps hkeep (fun hv => ht.other _ (fun e => h.inj j k ob' o (hold j ob' hl hj) hk hj _ ⟨hv, rfl⟩ (e ▸ hfk))) rfl (okO_mono (fun _ _ => rfl) h2), h2, h3⟩
  · intro j ob' hl x hx
    obtain ⟨ob'', h1, h2, h3⟩ := hback j ob' hl
    by_cases hj : j = k
    · obtain ⟨rfl, rfl⟩ := h2 hj
      exact (h.own j _ h1 x hx).imp (fun g => ⟨g.1, fun _ => g.2 hw⟩) id
    · rw [← h3 hj]; exact h.own j _ h1 x hx
  · intro j j' ob1 ob2 hl hl' hjj
    obtain ⟨_, h1, _⟩ := hback j ob1 hl
    obtain ⟨_, h2, _⟩ := hback j' ob2 hl'
    exact h.inj j j' _ _ h1 h2 hjj
  · intro j ob' hl hw2 x
    obtain ⟨ob'', h1, h2, h3⟩ := hback j ob' hl
    by_cases hj : j = k
    · obtain ⟨rfl, rfl⟩ := h2 hj
      exact h.sep j _ h1 hw x
    · exact h.sep j _ h1 (by rw [h3 hj]; exact hw2) x
  · intro b x hs; rw [ht.size]; exact h.bnd b x hs
  · refine h.below.trans (ht.belowX ?_)
    exact h.loc hk hw hfk
  · show st.n ≤ w'.heap.size
    rw [ht.size]; exact h.n
  · intro b z hz
    obtain ⟨a1, a2, a3, a4⟩ := h.gh b z hz
    refine ⟨by rw [ht.other b (fun e => a3 k o hk (e ▸ hfk))]; exact a1, a2, ?_, a4⟩
    intro j ob' hl
    obtain ⟨ob'', h1, _, _⟩ := hback j ob' hl
    exact a3 j ob'' h1
theorem single_cells {tv : TV} {v : Value} (h : RV P w S β tv v) (hs : single tv = true) : v.oneCell' = true := by
  cases tv <;> simp [single] at hs <;> exact (h.oneCell (by simp) (by simp) (by simp)).2
theorem run_storeAt {t : TypeId} {b off : Nat} {cs : List Value} {e : TypeId} {fr : Nat × Nat} {v : Value} (hb : w.heap[b]? = some (.cells cs.toArray e fr)) (hfr : fr.1 = fr.2 ∨ cs.length ≤ fr.1) (hi : 0 < tySize P t) (hs : v.cells.size = tySize P t)
    (hl : off + v.cells.size ≤ cs.length) (h1 : ∀ x ∈ v.cells.toList, x.oneCell' = true) :
    ∃ w', (Instr.storeAt t (.pointer (some ⟨b, off, none⟩)) v).run P w = .ok () w' ∧ Turned w w' b (setSeg off v.cells.toList cs) e fr := by
  obtain ⟨i, hi, hsz⟩ := info_of_size hi
  obtain ⟨w', hrun, ht⟩ := run_storeCells (P := P) (off := off) v.cells.toList 0 w cs hb hfr (by simp; omega) h1
  rw [Nat.add_zero] at ht
  refine ⟨w', ?_, ht⟩
  have : ¬ v.cells.size ≠ i.size := by rw [hs, hsz]; simp
  simp only [Instr.storeAt, Instr.sureAddr, Sem.run_bind, Sem.run_pure, Result.andThen_ok, storeVar, sizeOf, typeInfo, run_program, hi, if_neg this]
  exact hrun
theorem toTs_sound (h : Sim P X β0 w0 S0 st a w S β) : ∀ (l : List TV) (ts : List T) (vs : List Value), toTs st l = some ts → l.length = vs.length →
    (∀ i (hi : i < l.length) (hj : i < vs.length), RV P w S β l[i] vs[i]) → ts.length = l.length ∧ ∀ i (hi : i < ts.length) (hj : i < vs.length), Rep w S ts[i] vs[i] := by
  intro l
  induction l with
  | nil => intro ts vs e hl hr; cases e; exact ⟨rfl, fun i hi => absurd hi (by simp)⟩
  | cons x l ih =>
    intro ts vs e hl hr
    cases vs with
    | nil => simp at hl
    | cons v vs =>
      have key : ∀ (t : T) (r : List T), Rep w S t v → toTs st l = some r → ts = t :: r → ts.length = (x :: l).length ∧ ∀ i (hi : i < ts.length) (hj : i < (v :: vs).length), Rep w S ts[i] (v :: vs)[i] := by
        rintro t r ht hr2 rfl
        obtain ⟨h1, h2⟩ := ih r vs hr2 (by simpa using hl) (fun i hi hj => by have := hr (i + 1) (by simpa using hi) (by simpa using hj); simpa using this)
        refine ⟨by simp [h1], fun i hi hj => ?_⟩
        cases i with
        | zero => simpa using ht
        | succ i => simpa using h2 i (by simpa using hi) (by simpa using hj)
      have h0 := hr 0 (by simp) (by simp)
      simp only [List.getElem_cons_zero] at h0
      cases x <;> simp only [toTs] at e <;> try (cases e; done)
      · obtain ⟨r, hr2, e⟩ := ob_eq_some e
        exact key _ r (rv_d h0) hr2 (by cases e; rfl)
      · obtain ⟨r, hr2, e⟩ := ob_eq_some e
        refine key (.sl .any []) r ?_ hr2 (by cases e; rfl)
        cases h0; exact .nil _ _ _
      · rename_i k
        split at e
        · rename_i b m es hk
          obtain ⟨r, hr2, e⟩ := ob_eq_some e
          exact key _ r (fz_rep (h.objs k _ hk).1 h0) hr2 (by cases e; rfl)
        · cases e
end
end Go.Av
end
section
set_option linter.unusedSectionVars false
namespace Go.Av
section
variable [Known] {P : Program} {X : Nat → Prop} {β0 : Places} {w0 w w' : World} {S0 S S' : Stable} {st st' : St} {a : Act} {β β' : Places}
theorem setSeg_get {α : Type} {off : Nat} {new cs : List α} (h : off + new.length ≤ cs.length) (x : Nat) :
    (setSeg off new cs)[x]? = if off ≤ x ∧ x < off + new.length then new[x - off]? else cs[x]? := by
  simp only [setSeg, List.getElem?_append, List.length_take, List.getElem?_take, List.getElem?_drop]
  have e : min off cs.length = off := by omega
  rw [e]
  by_cases h1 : x < off
  · rw [if_pos h1, if_pos h1, if_neg (by omega)]
  · rw [if_neg h1]
    by_cases h2 : x - off < new.length
    · rw [if_pos h2, if_pos (by omega)]
    · rw [if_neg h2, if_neg (by omega)]
      congr 1
      omega
theorem seg_rel {α γ : Type} {R : α → γ → Prop} {off : Nat} {new cs : List α} {nv vs : List γ} (hl : cs.length = vs.length) (hn : new.length = nv.length) (hb : off + new.length ≤ cs.length)
    (h1 : ∀ i (hi : i < cs.length) (hj : i < vs.length), R cs[i] vs[i]) (h2 : ∀ i (hi : i < new.length) (hj : i < nv.length), R new[i] nv[i]) :
    ∀ i (hi : i < (setSeg off new cs).length) (hj : i < (setSeg off nv vs).length), R (setSeg off new cs)[i] (setSeg off nv vs)[i] := by
  intro i hi hj
  have e1 := setSeg_get hb i
  have e2 := setSeg_get (new := nv) (cs := vs) (off := off) (by omega) i
  rw [List.getElem?_eq_getElem hi] at e1
  rw [List.getElem?_eq_getElem hj] at e2
  by_cases h : off ≤ i ∧ i < off + new.length
  · rw [if_pos h] at e1
    rw [if_pos (by omega)] at e2
    have a1 : i - off < new.length := by omega
    have a2 : i - off < nv.length := by omega
    rw [List.getElem?_eq_getElem a1] at e1
    rw [List.getElem?_eq_getElem a2] at e2
    rw [Option.some.inj e1, Option.some.inj e2]
    exact h2 _ a1 a2
  · rw [if_neg h] at e1
    rw [if_neg (by omega)] at e2
    have hi' : i < cs.length := by rw [setSeg_len hb] at hi; exact hi
    have hj' : i < vs.length := by omega
    rw [List.getElem?_eq_getElem hi'] at e1
    rw [List.getElem?_eq_getElem hj'] at e2
    rw [Option.some.inj e1, Option.some.inj e2]
    exact h1 _ hi' hj'
theorem mem_setSeg {α : Type} {off : Nat} {new cs : List α} {x : α} (h : x ∈ setSeg off new cs) : x ∈ cs ∨ x ∈ new := by
  simp only [setSeg, List.mem_append] at h
  rcases h with h | h | h
  · exact .inl (List.mem_of_mem_take h)
  · exact .inr h
  · exact .inl (List.mem_of_mem_drop h)
theorem all_single {new : List TV} {nv : List Value} (hl : new.length = nv.length) (h : ∀ i (hi : i < new.length) (hj : i < nv.length), RV P w S β new[i] nv[i]) (hs : ∀ x ∈ new, single x = true) :
    ∀ v ∈ nv, v.oneCell' = true := by
  intro v hv
  obtain ⟨i, hi, rfl⟩ := List.mem_iff_getElem.1 hv
  exact single_cells (h i (by omega) hi) (hs _ (List.getElem_mem _))
theorem toTs_single : ∀ (l : List TV) (ts : List T), toTs st l = some ts → ∀ x ∈ l, single x = true := by
  intro l
  induction l with
  | nil => intro ts _ x hx; cases hx
  | cons y l ih =>
    intro ts e x hx
    cases y <;> simp only [toTs] at e <;> try (cases e; done)
    · obtain ⟨r, hr, _⟩ := ob_eq_some e
      rcases List.mem_cons.1 hx with rfl | hx
      · rfl
      · exact ih r hr x hx
    · obtain ⟨r, hr, _⟩ := ob_eq_some e
      rcases List.mem_cons.1 hx with rfl | hx
      · rfl
      · exact ih r hr x hx
    · split at e
      · obtain ⟨r, hr, _⟩ := ob_eq_some e
        rcases List.mem_cons.1 hx with rfl | hx
        · rfl
        · exact ih r hr x hx
      · cases e
theorem storeAt_sound (h : Sim P X β0 w0 S0 st a w S β) {t : TypeId} {tv : TV} {new : List TV} {u v : Value} (hz : 0 < tySize P t) (hx : RV P w S β tv u) (hl : new.length = v.cells.size)
    (hn : ∀ i (hi : i < new.length) (hj : i < v.cells.size), RV P w S β new[i] v.cells[i]) (hok : okL (· ∈ st.ks) new) (e : storeAt st (tySize P t) new tv = some st') :
    ∃ w', (Instr.storeAt t u v).run P w = .ok () w' ∧ SimE P X β0 w0 S0 st' a w' := by
  have hn' : ∀ i (hi : i < new.length) (hj : i < v.cells.toList.length), RV P w S β new[i] v.cells.toList[i] := by
    intro i hi hj; simp only [Array.getElem_toList]; exact hn i hi (by omega)
  have hl' : new.length = v.cells.toList.length := by simpa using hl
  cases hx with
  | ptr k off =>
    simp only [storeAt] at e
    obtain ⟨o, ho, e⟩ := ob_eq_some e
    obtain ⟨hov, hoo, hok2⟩ := h.objs k o ho
    cases hov with
    | box hlv hb hbl hbv hty =>
      rename_i cs vs el tg
      simp only [storeObj, storeBox] at e
      obtain ⟨_, h1, e⟩ := ob_eq_some e
      cases e
      obtain ⟨h2, h3⟩ := chk2 h1
      simp only [Bool.and_eq_true, decide_eq_true_eq, List.all_eq_true] at h3
      obtain ⟨h3, h4⟩ := h3
      have h2 : new.length = tySize P t := by simpa using h2
      have hb' : w.heap[(β k).blk]? = some (.cells vs.toList.toArray el (0, 0)) := by simpa using hb
      obtain ⟨w', hrun, ht⟩ := run_storeAt (v := v) (off := off) hb' (.inl rfl) hz (by omega) (by simp; omega) (all_single hl' hn' h4)
      refine ⟨w', hrun, S, β, h.turn ho hlv rfl rfl ht ?_ ?_⟩
      · show okL _ _
        rw [okL_iff] at *
        intro x hx
        rcases mem_setSeg hx with hx | hx
        · exact (okL_iff.1 hoo) x hx
        · exact hok x hx
      · intro hkeep
        refine .box (vs := (setSeg off v.cells.toList vs.toList).toArray) hlv ht.here ?_ ?_ hty
        · rw [setSeg_len h3, List.size_toArray, setSeg_len (by simp; omega)]
          simpa using hbl
        · intro i hi hj
          have := seg_rel (R := RV P w S β) (off := off) (new := new) (cs := cs) (nv := v.cells.toList) (vs := vs.toList) (by simpa using hbl) hl' h3
            (fun i hi hj => by simp only [Array.getElem_toList]; exact hbv i hi (by simpa using hj)) hn' i hi (by simpa using hj)
          simp only [List.getElem_toArray]
          refine this.keeps hkeep (TV.ok_mono (p := fun _ => True) (fun _ _ => rfl) ?_)
          refine TV.ok_mono (fun _ _ => trivial) (p := (· ∈ st.ks)) ?_
          rcases mem_setSeg (List.getElem_mem hi) with hx | hx
          · exact (okL_iff.1 hoo) _ hx
          · exact (okL_iff.1 hok) _ hx
    | _ => simp [storeObj] at e
  | ap k i f =>
    simp only [storeAt] at e
    obtain ⟨S1, hk1, h1⟩ := h.frz (ownKeysL new)
    obtain ⟨o, ho, e⟩ := ob_eq_some e
    obtain ⟨hov, hoo, hok2⟩ := h1.objs k o ho
    cases hov with
    | box => simp [storeObj] at e
    | fz => simp [storeObj] at e
    | fzN => simp [storeObj] at e
    | arrN => simp [storeObj, storeArr, ob] at e
    | arr hlv hb hA hm h0m hlen hcap hmax hsz ha hty hfr =>
      rename_i m es vs el fr
      simp only [storeObj, storeArr] at e
      obtain ⟨x, hx, e⟩ := ob_eq_some e
      obtain ⟨ts, hts, e⟩ := ob_eq_some e
      obtain ⟨_, h2, e⟩ := ob_eq_some e
      cases e
      obtain ⟨h2, h3⟩ := chk2 h2
      have h3 := of_decide_eq_true h3
      have h2 : ts.length = tySize P t := by simpa using h2
      obtain ⟨hi, rfl⟩ := List.getElem?_eq_some_iff.1 hx
      have hn1 : ∀ i (hi : i < new.length) (hj : i < v.cells.toList.length), RV P w S1 β new[i] v.cells.toList[i] := fun i hi hj =>
        (hn' i hi hj).keeps hk1 (TV.ok_mono (fun _ _ => rfl) (okL_get hok i hi))
      obtain ⟨ht1, ht2⟩ := toTs_sound h1 new ts v.cells.toList hts hl' hn1
      have hxm : (es[i]).length = m := ha.hm _ (List.getElem_mem hi)
      have hvl : v.cells.toList.length = ts.length := by omega
      have him : i * m + m ≤ vs.size := by
        have h5 : (i + 1) * m ≤ (β k).cap * m := Nat.mul_le_mul_right m (by omega)
        have : (i + 1) * m = i * m + m := Nat.succ_mul i m
        omega
      have hb' : w.heap[(β k).blk]? = some (.cells vs.toList.toArray el fr) := by simpa using hb
      obtain ⟨w', hrun, htn⟩ := run_storeAt (v := v) (off := i * m + f) hb' (by simpa using hfr.1) hz (by simp at hvl; omega) (by simp at hvl ⊢; omega) (all_single hl' hn' (toTs_single new ts hts))
      rw [hm]
      refine ⟨w', hrun, S1, β, h1.turn ho hlv rfl rfl htn trivial ?_⟩
      intro hkeep
      have hsl : (setSeg (i * m + f) v.cells.toList vs.toList).length = vs.size := by rw [setSeg_len (by simp at hvl ⊢; omega)]; simp
      refine .arr (vs := (setSeg (i * m + f) v.cells.toList vs.toList).toArray) hlv htn.here hA hm h0m (by simpa using hlen) (by simpa using hcap) hmax (by rw [List.size_toArray, hsl]; exact hsz) ⟨?_, ?_⟩ hty (by rw [List.size_toArray, hsl]; exact hfr)
      · intro y hy
        rcases List.mem_or_eq_of_mem_set hy with hy | rfl
        · exact ha.hm y hy
        · rw [setSeg_len h3]; exact hxm
      · intro i' j' hi' hj'
        have hi2 : i' < es.length := by simpa using hi'
        simp only [List.getElem?_toArray]
        rw [setSeg_get (by simp at hvl ⊢; omega)]
        by_cases hii : i' = i
        · subst hii
          simp only [List.getElem_set_self] at hj' ⊢
          have hj3 : j' < (es[i']).length := by rw [setSeg_len h3] at hj'; exact hj'
          have e1 := setSeg_get h3 j'
          rw [List.getElem?_eq_getElem hj'] at e1
          by_cases hseg : f ≤ j' ∧ j' < f + ts.length
          · rw [if_pos hseg] at e1
            have a1 : j' - f < ts.length := by omega
            rw [List.getElem?_eq_getElem a1] at e1
            rw [if_pos (by omega), Option.some.inj e1]
            have a2 : j' - f < v.cells.toList.length := by omega
            refine ⟨v.cells.toList[j' - f], ?_, (ht2 _ a1 a2).keeps hkeep⟩
            rw [show i' * m + j' - (i' * m + f) = j' - f by omega]
            exact List.getElem?_eq_getElem a2
          · rw [if_neg hseg] at e1
            rw [List.getElem?_eq_getElem hj3] at e1
            rw [if_neg (by omega), Option.some.inj e1]
            obtain ⟨z, hz1, hz2⟩ := ha.cell i' j' hi2 hj3
            exact ⟨z, by simpa using hz1, hz2.keeps hkeep⟩
        · simp only [List.getElem_set_ne (Ne.symm hii)] at hj' ⊢
          have hjm : j' < m := by rw [← ha.hm _ (List.getElem_mem hi2)]; exact hj'
          rw [if_neg]
          · obtain ⟨z, hz1, hz2⟩ := ha.cell i' j' hi2 hj'
            exact ⟨z, by simpa using hz1, hz2.keeps hkeep⟩
          · rcases Nat.lt_or_gt_of_ne hii with h6 | h6
            · have : (i' + 1) * m ≤ i * m := Nat.mul_le_mul_right m h6
              have e7 : (i' + 1) * m = i' * m + m := Nat.succ_mul i' m
              omega
            · have : (i + 1) * m ≤ i' * m := Nat.mul_le_mul_right m h6
              have e7 : (i + 1) * m = i * m + m := Nat.succ_mul i m
              omega
  | _ => simp [storeAt] at e
end
end Go.Av
end
section
set_option linter.unusedSectionVars false
namespace Go.Av
section
variable [Known] {P : Program} {X : Nat → Prop} {β0 : Places} {w0 w w' : World} {S0 S S' : Stable} {st st' : St} {a : Act} {β β' : Places}
theorem valT_sound {v : Value} {t : T} (h : valT v = some t) : Rep w S t v := by
  unfold valT at h
  split at h <;> first | (cases h; done) | skip
  · cases h; exact .i _ _
  · cases h; exact .b _
  · cases h; exact .s _
  · cases h; exact .nil _ _ _
theorem valTs_sound : ∀ {vs : List Value} {ts : List T}, valTs vs = some ts → ts.length = vs.length ∧ ∀ i (hi : i < ts.length) (hj : i < vs.length), Rep w S ts[i] vs[i]
  | [], ts, h => by cases h; exact ⟨rfl, fun i hi => absurd hi (by simp)⟩
  | v :: vs, ts, h => by
    simp only [valTs] at h
    obtain ⟨t, h1, h⟩ := ob_eq_some h
    obtain ⟨ts', h2, h⟩ := ob_eq_some h
    cases h
    obtain ⟨g1, g2⟩ := valTs_sound h2
    refine ⟨by simp [g1], fun i hi hj => ?_⟩
    cases i with
    | zero => exact valT_sound h1
    | succ i => simpa using g2 i (by simpa using hi) (by simpa using hj)
theorem scrL_eq (k : Nat) (l : List TV) : scrL k l = l.map (TV.scr k) := by
  induction l with
  | nil => rfl
  | cons a l ih => simp [scrL, ih]
theorem RV.scr {k : Nat} {tv : TV} {v : Value} (h : RV P w S β tv v) : RV P w S β (tv.scr k) v := by
  induction h with
  | unk v => exact .unk v
  | d h => exact .d h
  | nl a => exact .nl a
  | @agg cs vs hl h ih =>
    rw [TV.scr, scrL_eq]
    refine .agg (by simpa using hl) fun i hi hj => ?_
    rw [List.getElem_map]; exact ih i (by simpa using hi) hj
  | @tup cs vs hl h ih =>
    rw [TV.scr, scrL_eq]
    refine .tup (by simpa using hl) fun i hi hj => ?_
    rw [List.getElem_map]; exact ih i (by simpa using hi) hj
  | ptr j off => rw [TV.scr]; cases k == j <;> first | exact .unk _ | exact .ptr j off
  | own j ad had => rw [TV.scr]; cases k == j <;> first | exact .unk _ | exact .own j ad had
  | ap j i g => rw [TV.scr]; cases k == j <;> first | exact .unk _ | exact .ap j i g
  | rp hs hc hr => exact .rp hs hc hr
  | @clo g cap vs hl h ih =>
    rw [TV.scr, scrL_eq]
    refine .clo (by simpa using hl) fun i hi hj => ?_
    rw [List.getElem_map]; exact ih i (by simpa using hi) hj
  | fn h => exact .fn h
theorem scr_ok {k : Nat} {p : Nat → Prop} : ∀ {tv : TV}, tv.ok p → (tv.scr k).ok (fun j => p j ∧ j ≠ k) := by
  have key : ∀ n : Nat, ∀ tv : TV, SizeOf.sizeOf tv < n → tv.ok p → (tv.scr k).ok (fun j => p j ∧ j ≠ k) := by
    intro n
    induction n with
    | zero => exact fun tv h => absurd h (Nat.not_lt_zero _)
    | succ n ih =>
      intro tv hn ho
      have many : ∀ cs : List TV, (∀ x ∈ cs, SizeOf.sizeOf x < n) → okL p cs → okL (fun j => p j ∧ j ≠ k) (scrL k cs) := by
        intro cs hc h
        rw [scrL_eq, okL_iff]
        intro x hx
        obtain ⟨y, hy, rfl⟩ := List.mem_map.1 hx
        exact ih y (hc y hy) (okL_iff.1 h y hy)
      have one : ∀ (j : Nat) (x : TV), (x.ok (fun j => p j ∧ j ≠ k) ↔ (p j ∧ j ≠ k)) → p j → TV.ok (fun j => p j ∧ j ≠ k) (bif k == j then .unk else x) := by
        intro j x hx hj
        by_cases h : k = j
        · rw [show (k == j) = true by simpa using h]; trivial
        · rw [show (k == j) = false by simpa using h]; exact hx.2 ⟨hj, fun e => h e.symm⟩
      cases tv with
      | agg cs => exact many cs (fun x hx => by have := List.sizeOf_lt_of_mem hx; simp at hn; omega) ho
      | tup cs => exact many cs (fun x hx => by have := List.sizeOf_lt_of_mem hx; simp at hn; omega) ho
      | clo g cs => exact many cs (fun x hx => by have := List.sizeOf_lt_of_mem hx; simp at hn; omega) ho
      | ptr j off => exact one j _ Iff.rfl ho
      | own j => exact one j _ Iff.rfl ho
      | ap j i g => exact one j _ Iff.rfl ho
      | _ => trivial
  exact fun {tv} h => key _ tv (Nat.lt_succ_self _) h
theorem scrT_lk {k i : Nat} {x : TV} : ∀ {l : List (Nat × TV)}, lk i (scrT k l) = some x → ∃ y, lk i l = some y ∧ x = y.scr k
  | [], h => by cases h
  | (j, y) :: l, h => by
    simp only [scrT] at h
    by_cases hj : i = j
    · subst hj; rw [lk_cons_eq] at h ⊢; cases h; exact ⟨y, rfl, rfl⟩
    · rw [lk_cons_ne _ _ hj] at h ⊢; exact scrT_lk h
theorem scrO_lk {k i : Nat} {x : Obj} : ∀ {l : Objs}, lk i (scrO k l) = some x → i ≠ k ∧ ∃ y, lk i l = some y ∧ x = y.scr k
  | [], h => by cases h
  | (j, y) :: l, h => by
    simp only [scrO] at h
    by_cases hkj : k = j
    · rw [show (k == j) = true by simpa using hkj, cond_true] at h
      obtain ⟨g1, y', g2, g3⟩ := scrO_lk h
      exact ⟨g1, y', by rw [lk_cons_ne _ _ (fun e => g1 (e.trans hkj.symm))]; exact g2, g3⟩
    · rw [show (k == j) = false by simpa using hkj, cond_false] at h
      by_cases hj : i = j
      · subst hj; rw [lk_cons_eq] at h ⊢; cases h; exact ⟨fun e => hkj e.symm, y, rfl, rfl⟩
      · rw [lk_cons_ne _ _ hj] at h ⊢; exact scrO_lk h
theorem OV.scr {k j : Nat} {o : Obj} (h : OV P w S β j o) : OV P w S β j (o.scr k) := by
  cases h with
  | box hv hb hl hr ht =>
    refine .box hv hb (by rw [scrL_eq]; simpa using hl) (fun i hi hj => ?_) ht
    simp only [scrL_eq, List.getElem_map]
    exact (hr i (by simpa [scrL_eq] using hi) hj).scr
  | arr hv hb hA hm h0 hlen hcap hmax hsz h ht => exact .arr hv hb hA hm h0 hlen hcap hmax hsz h ht
  | arrN hv hm h0 hlen hcap => exact .arrN hv hm h0 hlen hcap
  | fz hv hb hA hm h0 hlen hcap h hs hT => exact .fz hv hb hA hm h0 hlen hcap h hs hT
  | fzN hv hlen => exact .fzN hv hlen
theorem okO_scr {k : Nat} {p : Nat → Prop} {o : Obj} (h : o.okO p) : (o.scr k).okO (fun j => p j ∧ j ≠ k) := by
  cases o with
  | box cs ty =>
    show okL _ (scrL k cs)
    rw [scrL_eq, okL_iff]
    intro x hx
    obtain ⟨y, hy, rfl⟩ := List.mem_map.1 hx
    exact scr_ok (okL_iff.1 (show okL p cs from h) y hy)
  | arr => trivial
  | fz => trivial
theorem wr_scr {k : Nat} {o : Obj} : (o.scr k).writable = o.writable := by cases o <;> rfl
theorem Sim.rekey (h : Sim P X β0 w0 S0 st a w S β) {k n : Nat} {pl : Pl} {o' : Obj} (Y : Nat → Prop) (h40 : 40 ≤ k)
    (hY : ∀ x, Y x → foot (β k) x ∧ ∃ o, lk k st.o = some o ∧ o.writable = true) (hpl : ∀ x, foot pl x → Y x ∨ w.heap.size ≤ x)
    (hos : w'.os = w.os) (htape : w'.tape = w.tape) (hout : w'.output = w.output) (hsz : w.heap.size ≤ w'.heap.size) (hblk : ∀ b, b < w.heap.size → ¬ Y b → w'.heap[b]? = w.heap[b]?)
    (hov : Keeps w S w' S → OV P w' S (updP β k pl) k o') (hok : o'.okO (fun _ => False)) (hn : n ≤ w'.heap.size) :
    Sim P X β0 w0 S0 { t := scrT k st.t, o := (k, o') :: scrO k st.o, ks := k :: st.ks, n := n, sz := st.sz, u := st.u, g := st.g } a w' S (updP β k pl) := by
  have hYS : ∀ x z, S x z → ¬ Y x := fun x z hs hy => let ⟨h1, o, h2, h3⟩ := hY x hy; h.sep k o h2 h3 x h1 z hs
  have hkeep : Keeps w S w' S := ⟨fun _ _ h => h, fun b x hs => by
    have := hblk b (h.bnd b x hs) (hYS b x hs)
    simp only [World.cell?, this], fun _ _ h => h⟩
  have hne : ∀ j, j ≠ k → (updP β k pl) j = β j := fun j hj => updP_ne β pl hj
  have hself : (updP β k pl) k = pl := updP_same β k pl
  have hYw0 : ∀ x, Y x → X x ∨ w0.heap.size ≤ x := by
    intro x hy
    obtain ⟨h1, o, h2, h3⟩ := hY x hy
    exact h.loc h2 h3 h1
  have hYo : ∀ j ob, lk j st.o = some ob → j ≠ k → ∀ x, foot (β j) x → ¬ Y x := fun j ob hj hjk x hx hy =>
    let ⟨h1, o, h2, _⟩ := hY x hy; h.inj j k ob o hj h2 hjk x hx h1
  have hlt : ∀ j ob, lk j st.o = some ob → ∀ x, foot (β j) x → x < w.heap.size := fun j ob hj x hx => by rw [hx.2]; exact (h.objs j ob hj).1.lt hx.1
  have split : ∀ j ob, lk j ((k, o') :: scrO k st.o) = some ob → (j = k ∧ ob = o') ∨ (j ≠ k ∧ ∃ ob', lk j st.o = some ob' ∧ ob = ob'.scr k) := by
    intro j ob hj
    by_cases hjk : j = k
    · subst hjk; rw [lk_cons_eq] at hj; cases hj; exact .inl ⟨rfl, rfl⟩
    · rw [lk_cons_ne _ _ hjk] at hj; exact .inr (scrO_lk hj)
  refine ⟨h.kn.keeps hkeep, h.dfr, h.size, ?_, ?_, ?_, ?_, ?_, ?_, h.sub, h.new, ?_, hn, ?_, ?_, h.tk.keep fun b hs => hblk b (h.bnd b 0 hs) (hYS b 0 hs)⟩
  · intro i tv hl
    obtain ⟨y, hy, rfl⟩ := scrT_lk hl
    obtain ⟨v, hv, hr, ho⟩ := h.tmps i y hy
    have hs := scr_ok (k := k) ho
    exact ⟨v, hv, hr.scr.keeps hkeep (TV.ok_mono (fun j hj => hne j hj.2) hs), TV.ok_mono (fun j hj => List.mem_cons_of_mem _ hj.1) hs⟩
  · intro j ob hl
    rcases split j ob hl with ⟨rfl, rfl⟩ | ⟨hjk, ob', h1, rfl⟩
    · exact ⟨hov hkeep, okO_mono (fun _ hf => hf.elim) hok, List.mem_cons_self ..⟩
    · obtain ⟨g1, g2, g3⟩ := h.objs j ob' h1
      have hs := okO_scr (k := k) g2
      refine ⟨g1.scr.keeps hkeep (fun hv => hblk _ (g1.lt hv) (hYo j ob' h1 hjk _ ⟨hv, rfl⟩)) (hne j hjk) (okO_mono (fun j hj => hne j hj.2) hs), okO_mono (fun j hj => List.mem_cons_of_mem _ hj.1) hs, List.mem_cons_of_mem _ g3⟩
  · intro j ob hl x hx
    rcases split j ob hl with ⟨rfl, rfl⟩ | ⟨hjk, ob', h1, rfl⟩
    · rw [hself] at hx
      rcases hpl x hx with g | g
      · exact .inr (hYw0 x g)
      · have := h.below.size; exact .inr (.inr (by omega))
    · rw [hne j hjk] at hx
      rw [wr_scr]
      exact h.own j ob' h1 x hx
  · intro j j' ob1 ob2 hl hl' hjj x hx1 hx2
    rcases split j ob1 hl with ⟨rfl, rfl⟩ | ⟨hjk, o1, h1, rfl⟩
    · rcases split j' ob2 hl' with ⟨rfl, rfl⟩ | ⟨hjk', o2, h2, rfl⟩
      · exact hjj rfl
      · rw [hself] at hx1
        rw [hne j' hjk'] at hx2
        rcases hpl x hx1 with g | g
        · exact hYo j' o2 h2 hjk' x hx2 g
        · have := hlt j' o2 h2 x hx2; omega
    · rw [hne j hjk] at hx1
      rcases split j' ob2 hl' with ⟨rfl, rfl⟩ | ⟨hjk', o2, h2, rfl⟩
      · rw [hself] at hx2
        rcases hpl x hx2 with g | g
        · exact hYo j o1 h1 hjk x hx1 g
        · have := hlt j o1 h1 x hx1; omega
      · rw [hne j' hjk'] at hx2
        exact h.inj j j' o1 o2 h1 h2 hjj x hx1 hx2
  · intro j ob hl hw x hx z hs
    rcases split j ob hl with ⟨rfl, rfl⟩ | ⟨hjk, ob', h1, rfl⟩
    · rw [hself] at hx
      rcases hpl x hx with g | g
      · exact hYS x z hs g
      · have := h.bnd x z hs; omega
    · rw [hne j hjk] at hx
      exact h.sep j ob' h1 (by rwa [wr_scr] at hw) x hx z hs
  · intro b x hs
    have := h.bnd b x hs
    omega
  · refine h.below.trans ⟨hos, htape, hout, hsz, fun b hb hnx => hblk b (by have := h.below.size; omega) (fun hy => by rcases hYw0 b hy with g | g; exact hnx g; omega)⟩
  · intro j hj
    rw [hne j (by omega)]
    exact h.fix j hj
  · intro b z hz
    obtain ⟨a1, a2, a3, a4⟩ := h.gh b z hz
    have hb : b < w.heap.size := (Array.getElem?_eq_some_iff.1 a1).1
    have hnY : ¬ Y b := fun hy => let ⟨h1, o, h2, _⟩ := hY b hy; a3 k o h2 h1
    refine ⟨by rw [hblk b hb hnY]; exact a1, a2, ?_, a4⟩
    intro j ob hl hx
    rcases split j ob hl with ⟨rfl, rfl⟩ | ⟨hjk, ob', h1, rfl⟩
    · rw [hself] at hx
      rcases hpl b hx with g | g
      · exact hnY g
      · omega
    · rw [hne j hjk] at hx
      exact a3 j ob' h1 hx
end
end Go.Av
end
section
set_option linter.unusedSectionVars false
namespace Go.Av
section
variable [Known] {P : Program} {X : Nat → Prop} {β0 : Places} {w0 w w' : World} {S0 S S' : Stable} {st st' : St} {a : Act} {β β' : Places}
theorem Sim.drew (h : Sim P X β0 w0 S0 st a w S β) : Sim P X β0 w0 S0 st a w.drew S β := by
  have hkeep : Keeps w S w.drew S := ⟨fun _ _ h => h, fun _ _ _ => rfl, fun _ _ h => h⟩
  refine ⟨h.kn.keeps hkeep, h.dfr, h.size, ?_, ?_, h.own, h.inj, h.sep, h.bnd, h.sub, h.new, ?_, h.n, h.fix, h.gh, h.tk.keep fun _ _ => rfl⟩
  · intro i tv hl
    obtain ⟨v, hv, hr, ho⟩ := h.tmps i tv hl
    exact ⟨v, hv, hr.keeps hkeep (TV.ok_mono (fun _ _ => rfl) ho), ho⟩
  · intro j ob hl
    obtain ⟨h1, h2, h3⟩ := h.objs j ob hl
    exact ⟨h1.keeps hkeep (fun _ => rfl) rfl (okO_mono (fun _ _ => rfl) h2), h2, h3⟩
  · exact h.below.trans ⟨rfl, rfl, rfl, Nat.le_refl _, fun _ _ _ => rfl⟩
theorem newArr_sound (h : Sim P X β0 w0 S0 st a w S β) {d m : Nat} {es : List (List T)} {vs : Array Value} {e : TypeId} {cap : Nat} (h0 : 0 < m) (hcap : es.length ≤ cap) (hmax : cap ≤ maxLen) (hsz : vs.size = cap * m)
    (ha : ArrOk w S vs m es) (hd : newArr st d w.heap.size m es (w.heap.size + 1) e = some st') :
    ∃ β', Sim P X β0 w0 S0 st' (a.put (some d) (.slice (some ⟨w.heap.size, 0, none⟩) es.length cap)) (w.alloc (.cells vs e)) S β' := by
  unfold newArr at hd
  obtain ⟨_, h1, hd⟩ := ob_eq_some hd
  obtain ⟨h2, h3⟩ := chk2 h1
  have h2 := of_decide_eq_true h2
  have h3 : kOf d ∉ st.ks := by
    intro hm
    rw [hasKey_iff.2 hm] at h3
    cases h3
  cases hd
  let pl : Pl := ⟨true, w.heap.size, es.length, cap, m⟩
  have hself : updP β (kOf d) pl (kOf d) = pl := updP_same β _ pl
  have hov : OV P (w.alloc (.cells vs e)) S (updP β (kOf d) pl) (kOf d) (.arr (.blk w.heap.size (some e)) m es) := by
    refine .arr (vs := vs) (e := e) (by rw [hself]) ?_ ⟨by rw [hself]; rfl, by simp⟩ (by rw [hself]) h0 (by rw [hself]) (by rw [hself]; exact hcap) (by rw [hself]; exact hmax) (by rw [hself]; exact hsz) (ha.keeps (keeps_alloc _ h.bnd)) (fun t ht => by cases ht; rfl)
    rw [hself]
    show (w.heap.push _)[w.heap.size]? = _
    simp
  have hs := h.newObj (k := kOf d) (pl := pl) (ob := .arr (.blk w.heap.size (some e)) m es) (o := .cells vs e) h3 (kOf_ge d) rfl hov trivial
  have hs := hs.setN (n := w.heap.size + 1) (by simp)
  refine ⟨updP β (kOf d) pl, ?_⟩
  have e2 : Av.put (setN { st with o := (kOf d, Obj.arr (.blk w.heap.size (some e)) m es) :: st.o, ks := kOf d :: st.ks } (w.heap.size + 1)) (.own (kOf d)) (some d) =
      some { t := (d, .own (kOf d)) :: st.t, o := (kOf d, .arr (.blk w.heap.size (some e)) m es) :: st.o, ks := kOf d :: st.ks, n := w.heap.size + 1, sz := st.sz, u := st.u, g := st.g } := by
    simp [Av.put, setN, h2, chk, ob]
  refine hs.put (x := .own (kOf d)) ?_ (List.mem_cons_self ..) e2
  have := RV.own (P := P) (w := w.alloc (.cells vs e)) (S := S) (β := updP β (kOf d) pl) (kOf d) (some ⟨w.heap.size, 0, none⟩) (by rw [hself]; exact fun _ => rfl)
  rw [hself] at this
  exact this
theorem tyZeroT_eq {t : TypeId} {z : List T} (h : tyZeroT P t = some z) : ∃ i zv, P.info? t = some i ∧ i.zero = some zv ∧ valTs zv.cells.toList = some z := by
  unfold tyZeroT at h
  obtain ⟨zv, h1, h2⟩ := Option.bind_eq_some_iff.1 h
  obtain ⟨i, h3, h4⟩ := Option.bind_eq_some_iff.1 h1
  exact ⟨i, zv, h3, h4, h2⟩
theorem madeCells_ok {zv : Value} {z : List T} {n m : Nat} (hz : valTs zv.cells.toList = some z) (hm : z.length = m) (h0 : 0 < m) : ArrOk w S (madeCells zv.cells (n * m)) m (List.replicate n z) := by
  obtain ⟨h1, h2⟩ := valTs_sound (w := w) (S := S) hz
  have hzs : zv.cells.size = m := by rw [← hm, h1]; simp
  refine ⟨fun e he => by rw [(List.mem_replicate.1 he).2, hm], ?_⟩
  intro i j hi hj
  have hi' : i < n := by simpa using hi
  have hj' : j < m := by simp only [List.getElem_replicate] at hj; omega
  have hlt : i * m + j < n * m := by
    have : (i + 1) * m ≤ n * m := Nat.mul_le_mul_right m hi'
    rw [Nat.succ_mul] at this; omega
  have hmod : (i * m + j) % m = j := by rw [Nat.mul_comm, Nat.mul_add_mod, Nat.mod_eq_of_lt hj']
  refine ⟨zv.cells[j], ?_, ?_⟩
  · simp only [madeCells, Array.getElem?_map, Array.getElem?_range, hlt, if_true, Option.map_some, hzs, hmod]
    rw [getElem!_pos zv.cells j (by omega)]
  · simp only [List.getElem_replicate]
    have := h2 j (by omega) (by simp; omega)
    simpa using this
theorem amake_sound (h : Sim P X β0 w0 S0 st a w S β) {R : St → Prop} {o : Oper} {t : TypeId} {l c : Operand} (ho : o.op = .makeSlice t l c) (e : amake P R st o.dst t (evc st l) (evc st c)) (Q : Exit → Act → World → Prop) :
    o.wp P a w (fun a' w' => ∃ st', R st' ∧ SimE P X β0 w0 S0 st' a' w') Q := by
  obtain ⟨d, el, z, n, hd, hel, hz, hzl, h0, hl, hc, hb, hmx, hR⟩ := e
  obtain ⟨kl, hl1, hl2⟩ := intOfTV_sound (evc_sound h l).1 hl
  obtain ⟨kc, hc1, hc2⟩ := intOfTV_sound (evc_sound h c).1 hc
  obtain ⟨i, zv, hi, hzv, hzs⟩ := tyZeroT_eq hz
  obtain ⟨i', hi', hsz⟩ := info_of_size h0
  rw [hi] at hi'; cases hi'
  have hby : tyBytes P el = i.bytes := by simp [tyBytes, hi]
  have hmx' : (n : Int) ≤ 9223372036854775807 := by simp only [maxLen] at hmx; omega
  have hrun := run_make (P := P) w t el i zv (tyElem_eq hel) hi hzv kl kc (n : Int) (n : Int) (by omega) (Int.le_refl _) (by have h9 : ((i.bytes * n : Nat) : Int) ≤ 281474976710656 := (by rw [hby] at hb; omega); rw [Int.natCast_mul] at h9; exact h9) hmx'
  have hexec : (execOp a.eval o).run P w = .ok (.value (.slice (some ⟨w.heap.size, 0, none⟩) n n)) (w.alloc (.cells (madeCells zv.cells (n * i.size)) el)) := by
    unfold execOp
    rw [ho]
    simp only [Sem.run_bind, hl2, hc2, hrun, Result.andThen_ok, Sem.run_pure, Int.toNat_natCast]
  unfold Oper.wp
  rw [hexec, Oper.upon_value]
  obtain ⟨st', he, hr⟩ := onSt_iff (hR w.heap.size h.n)
  rw [hsz] at he hzl h0
  obtain ⟨β', hs⟩ := newArr_sound h (e := el) h0 (cap := n) (by simp) hmx (size_madeCells _ _) (madeCells_ok hzs hzl h0) he
  rw [hd]
  rw [List.length_replicate] at hs
  exact ⟨st', hr, S, β', hs⟩
theorem arrOk_set {vs : List Value} {m i : Nat} {es : List (List T)} {ts : List T} {new : List Value} (ha : ArrOk w S vs.toArray m es) (hi : i < es.length) (htl : ts.length = m) (hnl : new.length = m) (hb : i * m + m ≤ vs.length)
    (hr : ∀ j (hj : j < ts.length) (hj' : j < new.length), Rep w S ts[j] new[j]) : ArrOk w S (setSeg (i * m) new vs).toArray m (es.set i ts) := by
  refine ⟨?_, ?_⟩
  · intro y hy
    rcases List.mem_or_eq_of_mem_set hy with hy | rfl
    · exact ha.hm y hy
    · exact htl
  · intro i' j' hi' hj'
    have hi2 : i' < es.length := by simpa using hi'
    simp only [List.getElem?_toArray]
    rw [setSeg_get (by omega)]
    by_cases hii : i' = i
    · subst hii
      simp only [List.getElem_set_self] at hj' ⊢
      rw [if_pos (by omega)]
      exact ⟨new[j'], by rw [show i' * m + j' - i' * m = j' by omega]; exact List.getElem?_eq_getElem (by omega), hr j' hj' (by omega)⟩
    · simp only [List.getElem_set_ne (Ne.symm hii)] at hj' ⊢
      have hjm : j' < m := by rw [← ha.hm _ (List.getElem_mem hi2)]; exact hj'
      rw [if_neg]
      · have := ha.cell i' j' hi2 hj'
        simpa using this
      · rcases Nat.lt_or_gt_of_ne hii with h6 | h6
        · have : (i' + 1) * m ≤ i * m := Nat.mul_le_mul_right m h6
          have e7 : (i' + 1) * m = i' * m + m := Nat.succ_mul i' m
          omega
        · have : (i + 1) * m ≤ i' * m := Nat.mul_le_mul_right m h6
          have e7 : (i + 1) * m = i * m + m := Nat.succ_mul i m
          omega
theorem fillEs_sound (h : Sim P X β0 w0 S0 st a w S β) {m : Nat} (h0 : 0 < m) : ∀ (ps : List (Nat × Operand)) (es es' : List (List T)) (cs : Array Value), fillEs st m ps es = some es' → cs.size = es.length * m → ArrOk w S cs m es →
    ∃ cs', Instr.fill (fun i => some (i * m, m)) cs (ps.map fun p => (p.1, a.eval p.2)) = some cs' ∧ cs'.size = es'.length * m ∧ ArrOk w S cs' m es' ∧ es'.length = es.length := by
  intro ps
  induction ps with
  | nil => intro es es' cs e hc ha; cases e; exact ⟨cs, rfl, hc, ha, rfl⟩
  | cons p ps ih =>
    obtain ⟨i, x⟩ := p
    intro es es' cs e hc ha
    simp only [fillEs] at e
    obtain ⟨new, hn, e⟩ := ob_eq_some e
    obtain ⟨ts, hts, e⟩ := ob_eq_some e
    obtain ⟨_, h1, e⟩ := ob_eq_some e
    obtain ⟨h1, h2⟩ := chk2 h1
    have h1 : ts.length = m := by simpa using h1
    have h2 := of_decide_eq_true h2
    obtain ⟨g1, g2, g3⟩ := cellsOf_sound (evc_sound h x).1 (evc_sound h x).2 hn
    obtain ⟨t1, t2⟩ := toTs_sound h new ts (a.eval x).cells.toList hts (by simpa using g1) (fun i hi hj => by simp only [Array.getElem_toList]; exact g2 i hi (by simpa using hj))
    have hvs : (a.eval x).cells.size = m := by omega
    have him : i * m + m ≤ cs.size := by
      rw [hc]
      have h5 : (i + 1) * m ≤ es.length * m := Nat.mul_le_mul_right m (by omega)
      rw [Nat.succ_mul] at h5; exact h5
    have hset : ArrOk w S (setSeg (i * m) (a.eval x).cells.toList cs.toList).toArray m (es.set i ts) :=
      arrOk_set (by simpa using ha) h2 h1 (by simpa using hvs) (by simpa using him) (fun j hj hj' => t2 j hj hj')
    have hfold := foldl_set (off := i * m) (a.eval x).cells.toList 0 cs (by simp; omega)
    obtain ⟨cs', f1, f2, f3, f4⟩ := ih (es.set i ts) es' (setSeg (i * m) (a.eval x).cells.toList cs.toList).toArray e
      (by rw [List.size_toArray, setSeg_len (by simp; omega)]; simpa using hc) hset
    refine ⟨cs', ?_, f2, f3, by rw [f4]; simp⟩
    simp only [List.map_cons, Instr.fill]
    rw [if_neg (by simp only [Bool.or_eq_true, decide_eq_true_eq]; omega)]
    rw [← f1]
    congr 1
    apply Array.ext'
    have e1 : (a.eval x).cells.zipIdx.foldl (fun (cs : Array Value) (c, j) => cs.setIfInBounds (i * m + j) c) cs = ((a.eval x).cells.toList.zipIdx).foldl (fun (cs : Array Value) (c, j) => cs.setIfInBounds (i * m + j) c) cs := by
      rw [← Array.foldl_toList]; simp
    rw [e1, hfold]
    simp [setSeg]
theorem abuild_sound (h : Sim P X β0 w0 S0 st a w S β) {R : St → Prop} {o : Oper} {t : TypeId} {len : Nat} {parts : Array (Nat × Operand)} (ho : o.op = .buildSlice t len parts) (e : abuild P R st o.dst t len parts.toList) (Q : Exit → Act → World → Prop) :
    o.wp P a w (fun a' w' => ∃ st', R st' ∧ SimE P X β0 w0 S0 st' a' w') Q := by
  obtain ⟨d, el, z, es, hd, hel, hz, hzl, h0, hlen, hf, hR⟩ := e
  obtain ⟨i, zv, hi, hzv, hzs⟩ := tyZeroT_eq hz
  obtain ⟨i', hi', hsz⟩ := info_of_size h0
  rw [hi] at hi'; cases hi'
  obtain ⟨S1, hk1, h1⟩ := h.frz (partKeys st parts.toList)
  rw [hsz] at hf hzl h0 hlen hR
  obtain ⟨cs', f1, f2, f3, f4⟩ := fillEs_sound h1 h0 parts.toList (List.replicate len z) es (madeCells zv.cells (len * i.size)) hf (by simp [size_madeCells]) (madeCells_ok hzs hzl h0)
  have hzsz : zv.cells.size = i.size := by
    have := (valTs_sound (w := w) (S := S1) hzs).1
    simp at this; omega
  have hrun : (Instr.buildSlice t len (parts.map fun (i, x) => (i, a.eval x))).run P w = .ok (.slice (some ⟨w.heap.size, 0, none⟩) len len) (w.alloc (.cells cs' el)) := by
    have f1' : Instr.fill (fun j => some (j * i.size, i.size)) ((Array.range (len * i.size)).map (zv.cells[· % zv.cells.size]!)) (List.map (fun x => (x.fst, a.eval x.snd)) parts.toList) = some cs' := f1
    have hr0 : Array.range 0 = #[] := rfl
    unfold Instr.buildSlice
    by_cases hn : len * i.size = 0
    · have hl0 : len = 0 := by
        rcases Nat.mul_eq_zero.1 hn with h | h
        · exact h
        · omega
      subst hl0
      rw [hn, hr0, Array.map_empty] at f1'
      simp [underlying, tyElem_eq hel, sizeOf, typeInfo, hi, newRow, hr0, f1']
    · have hgt : ¬ (16777216 < len * i.size) := by omega
      simp [underlying, tyElem_eq hel, sizeOf, typeInfo, hi, hn, hgt, zeroValue, hzv, f1', newRow]
  have hexec : (execOp a.eval o).run P w = .ok (.value (.slice (some ⟨w.heap.size, 0, none⟩) len len)) (w.alloc (.cells cs' el)) := by
    unfold execOp
    rw [ho]
    simp only [Sem.run_bind, hrun, Result.andThen_ok, Sem.run_pure]
  unfold Oper.wp
  rw [hexec, Oper.upon_value]
  obtain ⟨st', he, hr⟩ := onSt_iff (hR w.heap.size h.n)
  have hel' : es.length = len := by rw [f4]; simp
  obtain ⟨β', hs⟩ := newArr_sound h1 (e := el) h0 (cap := len) (by omega) (by have : len ≤ len * i.size := Nat.le_mul_of_pos_right _ h0; simp only [maxLen]; omega) (by rw [f2, hel']) f3 he
  rw [hd]
  rw [hel'] at hs
  exact ⟨st', hr, S1, β', hs⟩
end
end Go.Av
end
section
set_option linter.unusedSectionVars false
namespace Go.Av
section
variable [Known] {P : Program} {X : Nat → Prop} {β0 : Places} {w0 w w' : World} {S0 S S' : Stable} {st st' : St} {a : Act} {β β' : Places}
theorem rep_oneCell {t : T} {v : Value} (h : Rep w S t v) : v.oneCell' = true := by
  cases h <;> first | rfl | (rename_i h; exact h.2)
theorem arrOk_one {vs : Array Value} {m : Nat} {es : List (List T)} (h : ArrOk w S vs m es) (h0 : 0 < m) (hs : vs.size = es.length * m) : ∀ v ∈ vs.toList, v.oneCell' = true := by
  intro v hv
  obtain ⟨k, hk, rfl⟩ := List.mem_iff_getElem.1 hv
  have hk' : k < es.length * m := by simpa [hs] using hk
  have hi : k / m < es.length := Nat.div_lt_of_lt_mul (by rw [Nat.mul_comm]; exact hk')
  have hj : k % m < (es[k / m]).length := by rw [h.hm _ (List.getElem_mem hi)]; exact Nat.mod_lt _ h0
  obtain ⟨v, h1, h2⟩ := h.cell (k / m) (k % m) hi hj
  rw [Nat.mul_comm, Nat.div_add_mod] at h1
  obtain ⟨_, rfl⟩ := Array.getElem?_eq_some_iff.1 h1
  exact rep_oneCell h2
theorem run_loadCells {B off n : Nat} {vs : Array Value} (hs : vs.size = n) (h : ∀ j (hj : j < vs.size), w.cell? ⟨B, off + j, none⟩ = some vs[j]) : (loadCells ⟨B, off, none⟩ n).run P w = .ok vs w := by
  unfold loadCells
  rw [run_loadCellsFrom (vs := fun j => (vs[j]?).getD undef) n 0 #[] (fun j _ hj => by rw [h j (by omega)]; simp [show j < vs.size by omega])]
  congr 1
  rw [Array.empty_append]
  apply Array.ext
  · simp [hs]
  · intro i h1 h2
    simp [h2]
theorem readEs_sound (h : Sim P X β0 w0 S0 st a w S β) {m : Nat} {tv : TV} {v : Value} {es : List (List T)} (hr : RV P w S β tv v) (e : readEs st m tv = some es) (hm : ∀ x ∈ es, x.length = m) (h0 : 0 < m) :
    ∃ news : Array Value, (Builtin.lenOf v).run P w = .ok es.length w ∧ (∀ w', w'.heap = w.heap → (Builtin.firstCells m es.length v).run P w' = .ok news w') ∧ news.size = es.length * m ∧ ArrOk w S news m es := by
  have cells : ∀ (B off len cap : Nat), len = es.length → (∀ i j (hi : i < es.length) (hj : j < es[i].length), ∃ v, w.cell? ⟨B, off + (i * m + j), none⟩ = some v ∧ Rep w S es[i][j] v) →
      ∃ news : Array Value, (Builtin.lenOf (.slice (some ⟨B, off, none⟩) len cap)).run P w = .ok es.length w ∧ (∀ w', w'.heap = w.heap → (Builtin.firstCells m es.length (.slice (some ⟨B, off, none⟩) len cap)).run P w' = .ok news w') ∧
        news.size = es.length * m ∧ ArrOk w S news m es := by
    intro B off len cap hlen hc
    let news : Array Value := ((List.range (es.length * m)).map fun k => (w.cell? ⟨B, off + k, none⟩).getD undef).toArray
    have hidx : ∀ k, k < es.length * m → ∃ v, w.cell? ⟨B, off + k, none⟩ = some v ∧ ∃ (hi : k / m < es.length) (hj : k % m < (es[k / m]).length), Rep w S es[k / m][k % m] v := by
      intro k hk
      have hi : k / m < es.length := Nat.div_lt_of_lt_mul (by rw [Nat.mul_comm]; exact hk)
      have hj : k % m < (es[k / m]).length := by rw [hm _ (List.getElem_mem hi)]; exact Nat.mod_lt _ h0
      obtain ⟨v, h1, h2⟩ := hc (k / m) (k % m) hi hj
      rw [Nat.mul_comm, Nat.div_add_mod] at h1
      exact ⟨v, h1, hi, hj, h2⟩
    have hnz : news.size = es.length * m := by simp [news]
    refine ⟨news, by simp [Builtin.lenOf, hlen], ?_, hnz, hm, ?_⟩
    · intro w' hw'
      unfold Builtin.firstCells
      refine run_loadCells hnz fun j hj => ?_
      have : w'.cell? ⟨B, off + j, none⟩ = w.cell? ⟨B, off + j, none⟩ := by simp only [World.cell?, hw']
      rw [this]
      obtain ⟨v, h1, _⟩ := hidx j (by omega)
      simp [news, h1]
    · intro i j hi hj
      obtain ⟨v, h1, h2⟩ := hc i j hi hj
      have hjm : j < m := by rw [← hm _ (List.getElem_mem hi)]; exact hj
      have hlt : i * m + j < es.length * m := by
        have : (i + 1) * m ≤ es.length * m := Nat.mul_le_mul_right m hi
        rw [Nat.succ_mul] at this; omega
      exact ⟨v, by simp [news, hlt, h1], h2⟩
  have none' : ∀ (A : Option Addr) (cap : Nat), es = [] →
      ∃ news : Array Value, (Builtin.lenOf (.slice A 0 cap)).run P w = .ok es.length w ∧ (∀ w', w'.heap = w.heap → (Builtin.firstCells m es.length (.slice A 0 cap)).run P w' = .ok news w') ∧ news.size = es.length * m ∧ ArrOk w S news m es := by
    rintro A cap rfl
    refine ⟨#[], by simp [Builtin.lenOf], ?_, by simp, by simp, fun i j hi => absurd hi (by simp)⟩
    intro w' _
    cases A with
    | none => rfl
    | some A => simp [Builtin.firstCells, loadCells, loadCellsFrom]
  cases tv with
  | d t =>
    cases t with
    | sl A es' =>
      simp only [readEs, Option.some.injEq] at e
      subst e
      have hrd := rv_d hr
      cases hrd with
      | nil _ a cap => exact none' a cap rfl
      | sl _ _ B off m' cap vs hb htk h0m hm' hcap hs hc hrr =>
        refine cells B off _ cap rfl fun i j hi hj => ⟨vs i j, ?_, hrr i j hi hj⟩
        have : m' = m := by rw [← hm' _ (List.getElem_mem hi), hm _ (List.getElem_mem hi)]
        subst this
        rw [← Nat.add_assoc]
        exact hc i j hi hj
    | s x =>
      simp only [readEs, Option.some.injEq] at e
      subst e
      obtain rfl := rv_str hr
      by_cases hx : bytesT x = []
      · have hx0 : x.size = 0 := by
          have : (bytesT x).length = 0 := by rw [hx]; rfl
          simpa [bytesT] using this
        refine ⟨#[], by simp [Builtin.lenOf, hx, hx0], ?_, by simp [hx], ?_⟩
        · intro w' _
          rw [hx]
          simp [Builtin.firstCells]
        · rw [hx]; exact ⟨by simp, fun i j hi => absurd hi (by simp)⟩
      · have hm1 : m = 1 := by
          obtain ⟨y, ys, hy⟩ := List.exists_cons_of_ne_nil hx
          have := hm y (by rw [hy]; simp)
          have h2 : y ∈ bytesT x := by rw [hy]; simp
          simp only [bytesT, List.mem_map] at h2
          obtain ⟨b, _, rfl⟩ := h2
          simpa using this.symm
        subst hm1
        have hl : (bytesT x).length = x.size := by simp [bytesT]
        refine ⟨x.data.map fun b => .int .u8 b.toNat, by simp [Builtin.lenOf, hl], ?_, by simp [hl], ?_, ?_⟩
        · intro w' _
          rw [hl]
          simp [Builtin.firstCells]
        · intro e he
          simp only [bytesT, List.mem_map] at he
          obtain ⟨b, _, rfl⟩ := he
          rfl
        · intro i j hi hj
          have hi' : i < x.data.size := by simpa [bytesT] using hi
          have hj' : j = 0 := by simpa [bytesT] using hj
          subst hj'
          refine ⟨.int .u8 (x.data[i]).toNat, by simp [Array.getElem?_eq_getElem hi'], ?_⟩
          simp only [bytesT, List.getElem_map, List.getElem_cons_zero, Array.getElem_toList]
          exact .i _ _
    | _ => simp [readEs] at e
  | nl =>
    simp only [readEs, Option.some.injEq] at e
    subst e
    cases hr with
    | nl A => exact none' A 0 rfl
  | own k =>
    simp only [readEs] at e
    obtain ⟨o, ho, e⟩ := ob_eq_some e
    obtain ⟨⟨m', es'⟩, hes, e⟩ := ob_eq_some e
    obtain ⟨_, hc, e⟩ := ob_eq_some e
    have e : es' = es := Option.some.inj e
    rw [e] at hes
    obtain ⟨g1, g2, g3, g4, g5⟩ := arr_cells (h.objs k o ho).1 hes
    cases hr with
    | own _ ad had =>
      by_cases hn : 0 < es.length
      · obtain ⟨_, hlv⟩ := g1 hn
        obtain rfl := had hlv
        refine cells _ 0 _ _ g2 fun i j hi hj => ?_
        obtain ⟨v, h1, h2⟩ := g5 i j hi hj
        have : m' = m := by rw [← g4 _ (List.getElem_mem hi), hm _ (List.getElem_mem hi)]
        subst this
        exact ⟨v, by rw [Nat.zero_add]; exact h1, h2⟩
      · have : es = [] := List.eq_nil_of_length_eq_zero (by omega)
        rw [show (β k).len = 0 by rw [g2, this]; rfl]
        exact none' _ _ this
  | _ => simp [readEs] at e
theorem run_append_more {t u ty e : TypeId} {i : TypeInfo} {z : Value} (ht : P.underlying t = some (.slice e)) (hu : P.underlying u = some (.slice e) ∨ P.underlying u = some .string) (hi : P.info? e = some i) (hz : i.zero = some z)
    {b : Option Addr} {sLen sCap n : Nat} {x : Value} {olds news : Array Value} (hlen : (Builtin.lenOf x).run P w = .ok n w)
    (hfo : ∀ w', w'.heap = w.heap → (Builtin.firstCells i.size sLen (.slice b sLen sCap)).run P w' = .ok olds w') (hfn : ∀ w', w'.heap = w.heap → (Builtin.firstCells i.size n x).run P w' = .ok news w')
    (hg : sCap < sLen + n) (h63 : ((sLen + n : Nat) : Int) ≤ 9223372036854775807) (hfit : Builtin.nextslicecap (sLen + n) sCap * i.bytes ≤ 281474976710656) :
    (Builtin.append_ #[t, u] ty #[.slice b sLen sCap, x]).run P w =
      .ok (.slice (some ⟨w.heap.size, 0, none⟩) (sLen + n) (grownCap w (sLen + n) sCap e))
        (w.drew.alloc (.cells (olds ++ news ++ Builtin.zeroCells z.cells (grownCap w (sLen + n) sCap e - (sLen + n))) e)) := by
  have hn : ¬ (sLen + n ≤ sCap) := by omega
  have h63' : ¬ (9223372036854775807 < ((sLen : Int) + (n : Int))) := by omega
  have h48' : ¬ (281474976710656 < Builtin.nextslicecap (sLen + n) sCap * i.bytes) := by omega
  have hf := hfn w.drew rfl
  have hfo := hfo w.drew rfl
  have fin : (do
      let newCap ← choose (.appendCap (sLen + n) sCap e)
      askRoom (newCap * i.bytes)
      let old ← Builtin.firstCells i.size sLen (.slice b sLen sCap)
      let new ← Builtin.firstCells i.size n x
      let rest := Builtin.zeroCells (← zeroValue e).cells (newCap - (sLen + n))
      pure (Value.slice (some (← newRow e (old ++ new ++ rest))) (sLen + n) newCap)).run P w = .ok (.slice (some ⟨w.heap.size, 0, none⟩) (sLen + n) (grownCap w (sLen + n) sCap e))
        (w.drew.alloc (.cells (olds ++ news ++ Builtin.zeroCells z.cells (grownCap w (sLen + n) sCap e - (sLen + n))) e)) := by
    simp [Question.forced, hf, hfo, newRow, grownCap, zeroValue, typeInfo, hi, hz]
  rcases hu with hu | hu
  · unfold Builtin.append_
    simp [run_underlying ht, run_underlying hu, sizeOf, typeInfo, hi, hlen, hn, h63', h48'] at fin ⊢
    exact fin
  · unfold Builtin.append_
    simp [run_underlying ht, run_underlying hu, sizeOf, typeInfo, hi, hlen, hn, h63', h48'] at fin ⊢
    exact fin
theorem run_append_room' {t u ty e : TypeId} {i : TypeInfo} (ht : P.underlying t = some (.slice e)) (hu : P.underlying u = some (.slice e) ∨ P.underlying u = some .string) (hi : P.info? e = some i)
    {b : Option Addr} {sLen sCap n : Nat} {x : Value} {news : Array Value} (hlen : (Builtin.lenOf x).run P w = .ok n w) (hfn : ∀ w', w'.heap = w.heap → (Builtin.firstCells i.size n x).run P w' = .ok news w') (hg : sLen + n ≤ sCap)
    {w1 : World} (hst : (match b with | some a => storeCells (a.add (sLen * i.size)) news.toList | none => pure ()).run P w = .ok () w1) :
    (Builtin.append_ #[t, u] ty #[.slice b sLen sCap, x]).run P w = .ok (.slice b (sLen + n) sCap) w1 := by
  have hf := hfn w rfl
  cases b with
  | none =>
    simp at hst
    subst hst
    rcases hu with hu | hu <;>
    · unfold Builtin.append_
      simp [run_underlying ht, run_underlying hu, sizeOf, typeInfo, hi, hlen, hg, hf]
  | some b =>
    simp at hst
    rcases hu with hu | hu <;>
    · unfold Builtin.append_
      simp [run_underlying ht, run_underlying hu, sizeOf, typeInfo, hi, hlen, hg, hf, hst]
theorem arrOk_append {vs news rest : Array Value} {m : Nat} {es es2 : List (List T)} (h1 : ArrOk w S vs m es) (h2 : ArrOk w S news m es2) (hs : news.size = es2.length * m) (hv : es.length * m ≤ vs.size) :
    ArrOk w S (vs.extract 0 (es.length * m) ++ news ++ rest) m (es ++ es2) := by
  have hve : (vs.extract 0 (es.length * m)).size = es.length * m := by simp; omega
  refine ⟨?_, ?_⟩
  · intro e he
    rcases List.mem_append.1 he with he | he
    · exact h1.hm e he
    · exact h2.hm e he
  · intro i j hi hj
    by_cases hlt : i < es.length
    · rw [List.getElem_append_left hlt] at hj
      simp only [List.getElem_append_left hlt]
      obtain ⟨v, g1, g2⟩ := h1.cell i j hlt hj
      have hjm : j < m := by rw [← h1.hm _ (List.getElem_mem hlt)]; exact hj
      have hb : i * m + j < es.length * m := by
        have : (i + 1) * m ≤ es.length * m := Nat.mul_le_mul_right m hlt
        rw [Nat.succ_mul] at this; omega
      refine ⟨v, ?_, g2⟩
      rw [Array.getElem?_append_left (by simp; omega), Array.getElem?_append_left (by omega), Array.getElem?_extract, if_pos (by omega), Nat.zero_add]
      exact g1
    · have hi2 : i - es.length < es2.length := by simp at hi; omega
      rw [List.getElem_append_right (by omega)] at hj
      simp only [List.getElem_append_right (Nat.le_of_not_lt hlt)]
      obtain ⟨v, g1, g2⟩ := h2.cell (i - es.length) j hi2 hj
      have hjm : j < m := by rw [← h2.hm _ (List.getElem_mem hi2)]; exact hj
      have hb : (i - es.length) * m + j < es2.length * m := by
        have : (i - es.length + 1) * m ≤ es2.length * m := Nat.mul_le_mul_right m hi2
        rw [Nat.succ_mul] at this; omega
      have hsub : i * m = es.length * m + (i - es.length) * m := by rw [← Nat.add_mul]; congr 1; omega
      refine ⟨v, ?_, g2⟩
      rw [Array.getElem?_append_left (by simp; omega), Array.getElem?_append_right (by omega), hve, hsub]
      rw [show es.length * m + (i - es.length) * m + j - es.length * m = (i - es.length) * m + j by omega]
      exact g1
end
end Go.Av
end
section
set_option linter.unusedSectionVars false
namespace Go.Av
section
variable [Known] {P : Program} {X : Nat → Prop} {β0 : Places} {w0 w w' : World} {S0 S S' : Stable} {st st' : St} {a : Act} {β β' : Places}
theorem apTag_eq {el t : TypeId} {A : Ann} (h : apTag el A = some t) : el = t := by
  unfold apTag at h
  split at h
  · exact Option.some.inj h
  · split at h
    · exact Option.some.inj h
    · cases h
theorem apTag_old {el t : TypeId} {A : Ann} {b : Nat} (hA : A.has b) (h : apTag el A = some t) : A.tag = some t := by
  unfold apTag at h
  split at h
  · exact hA.elim
  · split at h
    · rename_i hh; rw [hh]; exact h
    · cases h
theorem apState_put {d k blk m n : Nat} {es : List (List T)} {ty : Option TypeId} (h : Sim P X β0 w0 S0 { t := scrT k st.t, o := (k, .arr (.blk blk ty) m es) :: scrO k st.o, ks := k :: st.ks, n := n, sz := st.sz, u := st.u, g := st.g } a w S β) {v : Value} (hr : RV P w S β (.own k) v)
    (e : apState st d k blk m es n ty = some st') : Sim P X β0 w0 S0 st' (a.put (some d) v) w S β := by
  unfold apState at e
  obtain ⟨_, h1, e⟩ := ob_eq_some e
  cases e
  have h1 := of_decide_eq_true (chk_eq_some h1)
  refine h.put (x := .own k) hr (List.mem_cons_self ..) ?_
  simp [Av.put, h1, chk, ob]
theorem aappend_sound (h : Sim P X β0 w0 S0 st a w S β) {R : St → Prop} {o : Oper} {c : Call} {t u : TypeId} {s x : Operand} (ho : o.op = .call c) (hc : c.callee = .builtin .append) (hty : c.argTypes.toList = [t, u]) (hax : c.args.toList = [s, x])
    (e : aappend P R st o.dst t u (evc st s) (evc st x)) (Q : Exit → Act → World → Prop) :
    o.wp P a w (fun a' w' => ∃ st', R st' ∧ SimE P X β0 w0 S0 st' a' w') Q := by
  obtain ⟨d, el, k, A, es, new, hd, hel, hu, h0, hzm, hb, hx, hm, hmx, hby, hR⟩ := e
  obtain ⟨z, hz, hzl⟩ : ∃ z, tyZeroT P el = some z ∧ z.length = tySize P el := by
    cases hz : tyZeroT P el with
    | none => rw [hz] at hzm; cases hzm
    | some z => rw [hz] at hzm; exact ⟨z, rfl, by simpa using hzm⟩
  obtain ⟨i, zv, hi, hzv, hzs⟩ := tyZeroT_eq hz
  obtain ⟨i', hi', hsz⟩ := info_of_size h0
  rw [hi] at hi'; cases hi'
  have hby' : tyBytes P el = i.bytes := by simp [tyBytes, hi]
  have hzvs : zv.cells.size = i.size := by
    have := (valTs_sound (w := w) (S := S) hzs).1
    simp at this; omega
  rw [hsz] at h0 hx hm hb hR
  rw [hby'] at hby
  have ht := tyElem_eq hel
  have hu' : P.underlying u = some (.slice el) ∨ P.underlying u = some .string := by
    rcases hu with rfl | ⟨h1, _⟩
    · exact .inl ht
    · exact .inr (tyStr_eq h1)
  obtain ⟨news, hlen, hfn, hns, hna⟩ := readEs_sound h (evc_sound h x).1 hx hm h0
  have hat : c.argTypes = #[t, u] := by cases hh : c.argTypes; rw [hh] at hty; simp at hty; rw [hty]
  have haa : c.args.map a.eval = #[a.eval s, a.eval x] := by cases hh : c.args; rw [hh] at hax; simp at hax; rw [hax]; simp
  have hmax63 : (maxLen : Int) ≤ 9223372036854775807 := by decide
  have finish : ∀ (v : Value) (w' : World), (Builtin.append_ #[t, u] o.type #[a.eval s, a.eval x]).run P w = .ok v w' →
      (∃ st', R st' ∧ SimE P X β0 w0 S0 st' (a.put o.dst v) w') → o.wp P a w (fun a' w' => ∃ st', R st' ∧ SimE P X β0 w0 S0 st' a' w') Q := by
    intro v w' hrun hK
    have hexec : (execOp a.eval o).run P w = .ok (.value v) w' := by
      unfold execOp
      rw [ho]
      simp only [resolve, hc, invoke, hat, haa, Sem.run_bind, Sem.run_pure, Result.andThen_ok]
      simp [builtin, hrun]
    unfold Oper.wp
    rw [hexec, Oper.upon_value]
    exact hK
  have grow : ∀ (b : Option Addr) (sCap : Nat) (olds : Array Value), 40 ≤ k → a.eval s = .slice b es.length sCap → (∀ w', w'.heap = w.heap → (Builtin.firstCells i.size es.length (.slice b es.length sCap)).run P w' = .ok olds w') →
      olds.size = es.length * i.size → ArrOk w S olds i.size es → sCap < es.length + new.length → o.wp P a w (fun a' w' => ∃ st', R st' ∧ SimE P X β0 w0 S0 st' a' w') Q := by
    intro b sCap olds h40 hs hfo hos hoa hg
    have hrun := run_append_more (w := w) (ty := o.type) ht hu' hi hzv hlen hfo hfn hg (by omega) (growslice_fits hg hby)
    rw [← hs] at hrun
    refine finish _ _ hrun ?_
    have hcap := grownCap_ge w (es.length + new.length) sCap el
    have hcm := grownCap_le_maxLen w (es.length + new.length) sCap el hmx
    obtain ⟨st', he, hRR⟩ := onSt_iff (hR w.heap.size (w.heap.size + 1) (.inr h.n) (.inl (Nat.lt_succ_self _)) (Nat.le_succ_of_le h.n))
    let w' : World := w.drew.alloc (.cells (olds ++ news ++ Builtin.zeroCells zv.cells (grownCap w (es.length + new.length) sCap el - (es.length + new.length))) el)
    let pl : Pl := ⟨true, w.heap.size, es.length + new.length, grownCap w (es.length + new.length) sCap el, i.size⟩
    have hself : updP β k pl k = pl := updP_same β k pl
    have hext : olds = olds.extract 0 (es.length * i.size) := by rw [← hos]; simp
    have hs2 := h.rekey (k := k) (pl := pl) (w' := w') (n := w.heap.size + 1) (o' := .arr (.blk w.heap.size (apTag el A)) i.size (es ++ new)) (fun _ => False) h40 (fun _ hf => hf.elim) (fun x hx => .inr (by rw [hx.2]; exact Nat.le_refl _))
      rfl rfl rfl (by show w.heap.size ≤ (w.heap.push _).size; simp) (fun b hb _ => by show (w.heap.push _)[b]? = _; rw [Array.getElem?_push, if_neg (by omega)])
      (fun hkeep => by
        refine .arr (vs := olds ++ news ++ Builtin.zeroCells zv.cells (grownCap w (es.length + new.length) sCap el - (es.length + new.length))) (e := el) (by rw [hself]) ?_ ⟨by rw [hself]; rfl, by simp⟩ (by rw [hself]) h0 (by rw [hself]; simp [pl]) (by rw [hself]; simpa using hcap) (by rw [hself]; exact hcm) ?_ ?_ (fun t ht => apTag_eq ht)
        · rw [hself]; show (w.heap.push _)[w.heap.size]? = _; simp
        · rw [hself]
          simp only [Array.size_append, size_zeroCells, hos, hns, hzvs, ← Nat.add_mul]
          congr 1
          show es.length + new.length + (grownCap w (es.length + new.length) sCap el - (es.length + new.length)) = grownCap w (es.length + new.length) sCap el
          omega
        · have := arrOk_append (rest := Builtin.zeroCells zv.cells (grownCap w (es.length + new.length) sCap el - (es.length + new.length))) (hoa.keeps hkeep) (hna.keeps hkeep) hns (by omega)
          rw [← hext] at this
          exact this)
      trivial (by show w.heap.size + 1 ≤ (w.heap.push _).size; simp)
    refine ⟨st', hRR, S, updP β k pl, ?_⟩
    rw [hd]
    refine apState_put hs2 ?_ he
    have := RV.own (P := P) (w := w') (S := S) (β := updP β k pl) k (some ⟨w.heap.size, 0, none⟩) (by rw [hself]; exact fun _ => rfl)
    rw [hself] at this
    exact this
  have nothing : ∀ (b : Option Addr), 40 ≤ k → a.eval s = .slice b 0 0 → es = [] → o.wp P a w (fun a' w' => ∃ st', R st' ∧ SimE P X β0 w0 S0 st' a' w') Q := by
    intro b h40 hs hes
    subst hes
    by_cases hn : new = []
    · subst hn
      have hn0 : news = #[] := by have : news.size = 0 := by rw [hns]; simp
                                  simpa using this
      have hrun := run_append_room' (w := w) (w1 := w) (ty := o.type) (b := b) (sLen := 0) (sCap := 0) ht hu' hi hlen hfn (by simp) (by cases b <;> simp [hn0, storeCells])
      rw [← hs] at hrun
      refine finish _ _ hrun ?_
      obtain ⟨st', he, hRR⟩ := onSt_iff (hR st.n st.n (.inr (Nat.le_refl _)) (.inr rfl) (Nat.le_refl _))
      let pl : Pl := ⟨false, 0, 0, 0, i.size⟩
      have hself : updP β k pl k = pl := updP_same β k pl
      have hs2 := h.rekey (k := k) (pl := pl) (w' := w) (n := st.n) (o' := .arr (.blk st.n (apTag el A)) i.size ([] ++ [])) (fun _ => False) h40 (fun _ hf => hf.elim) (fun x hx => by cases hx.1)
        rfl rfl rfl (Nat.le_refl _) (fun _ _ _ => rfl) (fun _ => .arrN (by rw [hself]) (by rw [hself]) h0 (by rw [hself]) (by rw [hself])) trivial h.n
      refine ⟨st', hRR, S, updP β k pl, ?_⟩
      rw [hd]
      refine apState_put hs2 ?_ he
      have := RV.own (P := P) (w := w) (S := S) (β := updP β k pl) k b (by rw [hself]; intro hh; cases hh)
      rw [hself] at this
      exact this
    · refine grow b 0 #[] h40 hs ?_ (by simp) ⟨by simp, fun i j hi => absurd hi (by simp)⟩ (by rcases new with _ | ⟨y, ys⟩; exact absurd rfl hn; simp)
      intro w' _
      cases b <;> simp [Builtin.firstCells, loadCells, loadCellsFrom]
  have hsr := evc_sound h s
  cases hts : evc st s with
  | nl =>
    rw [hts] at hb hsr
    simp only [baseEs] at hb
    obtain ⟨_, hk, hb⟩ := ob_eq_some hb
    cases hb
    cases hv : a.eval s <;> rw [hv] at hsr <;> first | (cases hsr.1; done) | skip
    cases hsr.1
    exact nothing _ (kOf_ge d) hv rfl
  | own k' =>
    rw [hts] at hb hsr
    simp only [baseEs] at hb
    obtain ⟨ob1, hk, hb⟩ := ob_eq_some hb
    cases ob1 with
    | arr A' m' es' =>
      simp only at hb
      obtain ⟨_, hh, hb⟩ := ob_eq_some hb
      cases hb
      obtain ⟨hm', h40⟩ := chk2 hh
      have h40 := of_decide_eq_true h40
      have hm' : m' = i.size := by simpa using hm'
      subst hm'
      obtain ⟨hov, _, hkk⟩ := h.objs k _ hk
      generalize hv : a.eval s = v at hsr
      cases hsr.1 with
      | own _ ad had =>
        cases hov with
        | arrN hlv hmm h0m hle hca => exact nothing ad h40 (by rw [hv, hle, hca]) rfl
        | arr hlv hbk hA hmm h0m hle hca hma hsv ha hty hfr =>
          rename_i vs e1 fr
          obtain rfl := had hlv
          have hves : es.length * i.size ≤ vs.size := by rw [hsv]; exact Nat.mul_le_mul_right _ hca
          by_cases hroom : es.length + new.length ≤ (β k).cap
          · have hfit : es.length * i.size + new.length * i.size ≤ vs.size := by rw [hsv, ← Nat.add_mul]; exact Nat.mul_le_mul_right _ hroom
            obtain ⟨w1, hst, htn⟩ := run_storeCells (P := P) (off := es.length * i.size) news.toList 0 w vs.toList (by simpa using hbk) (by simpa using hfr.1) (by simp; omega) (arrOk_one hna h0 hns)
            rw [Nat.add_zero] at htn
            have hrun := run_append_room' (w := w) (w1 := w1) (ty := o.type) (b := some ⟨(β k).blk, 0, none⟩) (sLen := es.length) (sCap := (β k).cap) ht hu' hi hlen hfn hroom (by
              simp only [Addr_add, Nat.zero_add]; exact hst)
            rw [← hle, ← hv] at hrun
            refine finish _ _ hrun ?_
            have hbl := (h.objs k _ hk).1.lt hlv
            obtain ⟨st', he, hRR⟩ := onSt_iff (hR (β k).blk w.heap.size (.inl hA.1) (.inl hbl) h.n)
            let pl : Pl := ⟨true, (β k).blk, es.length + new.length, (β k).cap, i.size⟩
            have hself : updP β k pl k = pl := updP_same β k pl
            have hs2 := h.rekey (k := k) (pl := pl) (w' := w1) (n := w.heap.size) (o' := .arr (.blk (β k).blk (apTag el A)) i.size (es ++ new)) (fun x => x = (β k).blk) h40 (fun x hx => ⟨⟨hlv, hx⟩, _, hk, rfl⟩) (fun x hx => .inl hx.2)
              htn.os htn.tape htn.output (by rw [htn.size]; exact Nat.le_refl _) (fun b _ hb => htn.other b hb)
              (fun hkeep => by
                refine .arr (vs := (setSeg (es.length * i.size) news.toList vs.toList).toArray) (e := e1) (by rw [hself]) (by rw [hself]; exact htn.here) ⟨by rw [hself]; rfl, by simp⟩ (by rw [hself]) h0 (by rw [hself]; simp [pl]) (by rw [hself]; simpa using hroom) (by rw [hself]; exact hma) ?_ ?_ (fun t ht => hty t (apTag_old hA.1 ht)) ⟨by rw [List.size_toArray, setSeg_len (by simp; omega)]; simpa using hfr.1, fun t ht => hfr.2 t (apTag_old hA.1 ht)⟩
                · rw [hself, List.size_toArray, setSeg_len (by simp; omega)]; simpa using hsv
                · have := arrOk_append (rest := vs.extract (es.length * i.size + news.size) vs.size) (ha.keeps hkeep) (hna.keeps hkeep) hns hves
                  have e2 : (setSeg (es.length * i.size) news.toList vs.toList).toArray = vs.extract 0 (es.length * i.size) ++ news ++ vs.extract (es.length * i.size + news.size) vs.size := by
                    apply Array.ext'
                    simp [setSeg, List.take_of_length_le]
                  rw [e2]
                  exact this)
              trivial (by rw [htn.size]; exact Nat.le_refl _)
            refine ⟨st', hRR, S, updP β k pl, ?_⟩
            rw [hd]
            refine apState_put hs2 ?_ he
            have := RV.own (P := P) (w := w1) (S := S) (β := updP β k pl) k (some ⟨(β k).blk, 0, none⟩) (by rw [hself]; exact fun _ => rfl)
            rw [hself] at this
            rw [hle]
            exact this
          · refine grow (some ⟨(β k).blk, 0, none⟩) (β k).cap (vs.extract 0 (es.length * i.size)) h40 (by rw [hv, hle]) ?_ (by simp; omega) ?_ (by omega)
            · intro w' hw'
              unfold Builtin.firstCells
              refine run_loadCells (by simp; omega) fun j hj => ?_
              have e2 : w'.cell? ⟨(β k).blk, 0 + j, none⟩ = w.cell? ⟨(β k).blk, 0 + j, none⟩ := by simp only [World.cell?, hw']
              rw [e2, cell_of_block hbk]
              simp at hj ⊢
            · refine ⟨ha.hm, fun i' j hi' hj => ?_⟩
              obtain ⟨v, g1, g2⟩ := ha.cell i' j hi' hj
              have hjm : j < i.size := by rw [← ha.hm _ (List.getElem_mem hi')]; exact hj
              have hb2 : i' * i.size + j < es.length * i.size := by
                have : (i' + 1) * i.size ≤ es.length * i.size := Nat.mul_le_mul_right _ hi'
                rw [Nat.succ_mul] at this; omega
              refine ⟨v, ?_, g2⟩
              rw [Array.getElem?_extract, if_pos (by omega), Nat.zero_add]
              exact g1
    | _ => simp at hb
  | _ => rw [hts] at hb; simp [baseEs] at hb
end
end Go.Av
end
